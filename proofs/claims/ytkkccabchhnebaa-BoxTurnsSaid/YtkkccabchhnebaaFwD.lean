/- Framework, part D: the loaded program's operations are the IR's (those that write no memory). Conditions: none. -/
import Derived.Test.YtkkccabchhnebaaFwC
set_option linter.unusedVariables false
set_option linter.unusedSimpArgs false
namespace Go.SB

def cval1 : Value → Option AV
  | .bool b => some (.bool b)
  | .int k n => some (.int k n)
  | .string s => some (.str s.data.toList)
  | .pointer none => some .nilp
  | .slice none 0 0 => some .nils
  | .map none => some .nilm
  | .nilFunc => some .nilf
  | .nilIface => some .nili
  | _ => none

def cvalL : List Value → Option (List AV)
  | [] => some []
  | v :: vs => match cval1 v with
    | some a => match cvalL vs with
      | some as => some (a :: as)
      | none => none
    | none => none

def cval : Value → Option AV
  | .agg cs => match cvalL cs.toList with
    | some as => some (.agg as)
    | none => none
  | v => cval1 v

theorem cval1_ok {v : Value} {a : AV} (h : cval1 v = some a) (M : Mod) : Conc M a v := by
  unfold cval1 at h
  split at h <;> cases h
  · exact .bool _
  · exact .int _ _
  · rename_i s
    have := Conc.str (M := M) s.data.toList
    simpa using this
  · exact .nilp
  · exact .nils
  · exact .nilm
  · exact .nilf
  · exact .nili

theorem cvalL_ok : ∀ {vs : List Value} {as : List AV} (h : cvalL vs = some as) (M : Mod), ConcL M as vs
  | [], as, h, M => by cases h; exact .nil
  | v :: vs, as, h, M => by
    unfold cvalL at h
    split at h
    · rename_i a ha
      split at h
      · rename_i as' has
        cases h
        exact .cons (cval1_ok ha M) (cvalL_ok has M)
      · cases h
    · cases h

theorem cval_ok {v : Value} {a : AV} (h : cval v = some a) (M : Mod) : Conc M a v := by
  unfold cval at h
  split at h
  · split at h
    · rename_i as has
      cases h
      exact .agg (cvalL_ok has M)
    · cases h
  · exact cval1_ok h M

def copd : Operand → Option Opd
  | .tmp t => some (.t t)
  | .const v => match cval v with
    | some a => some (.c a)
    | none => none
  | .func f => some (.c (.fn f [] []))
  | .global _ => none

theorem copd_ok {x : Operand} {y : Opd} (h : copd x = some y) {M : Mod} {ρ : List AV} {a : Act} (hρ : ConcL M ρ a.tmps.toList) : Conc M (y.get ρ) (a.eval x) := by
  unfold copd at h
  split at h
  · rename_i t
    cases h
    simp only [Opd.get, Act.eval]
    cases ht : ρ[t]? with
    | none => simp only [List.getD, ht, Option.getD_none]; exact .any _
    | some v =>
      obtain ⟨u, hu, hc⟩ := hρ.get ht
      simp only [List.getD, ht, Option.getD_some]
      have : a.tmps.getD t undef = u := by
        rw [Array.getD_eq_getD_getElem?]
        rw [Array.getElem?_toList] at hu
        simp [hu]
      rw [this]; exact hc
  · split at h
    · rename_i v a' ha
      cases h
      exact cval_ok ha M
    · cases h
  · cases h
    exact .fn (by simpa using ConcL.nil) (by simpa using ConcL.nil)
  · cases h

def copds : List Operand → Option (List Opd)
  | [] => some []
  | x :: xs => match copd x with
    | some y => match copds xs with
      | some ys => some (y :: ys)
      | none => none
    | none => none

theorem copds_ok {M : Mod} {ρ : List AV} {a : Act} (hρ : ConcL M ρ a.tmps.toList) : ∀ {xs : List Operand} {ys : List Opd}, copds xs = some ys →
    ConcL M (ys.map (·.get ρ)) (xs.map a.eval)
  | [], ys, h => by cases h; exact .nil
  | x :: xs, ys, h => by
    unfold copds at h
    split at h
    · rename_i y hy
      split at h
      · rename_i ys' hys
        cases h
        exact .cons (copd_ok hy hρ) (copds_ok hρ hys)
      · cases h
    · cases h

def copdo : Option Operand → Option (Option Opd)
  | none => some none
  | some x => match copd x with
    | some y => some (some y)
    | none => none

theorem copdo_ok {M : Mod} {ρ : List AV} {a : Act} (hρ : ConcL M ρ a.tmps.toList) {x : Option Operand} {y : Option Opd} (h : copdo x = some y) :
    (x = none ∧ y = none) ∨ ∃ x' y', x = some x' ∧ y = some y' ∧ Conc M (y'.get ρ) (a.eval x') := by
  cases x with
  | none => cases h; exact .inl ⟨rfl, rfl⟩
  | some x =>
    simp only [copdo] at h
    split at h
    · rename_i y' hy
      cases h
      exact .inr ⟨_, _, rfl, rfl, copd_ok hy hρ⟩
    · cases h

/-- The cells of a type's zero value. -/
def zeroCellsOf (P : Program) (t : TypeId) : Option (List AV) :=
  match P.info? t with
  | some i => match i.zero with
    | some z => cvalL z.cells.toList
    | none => none
  | none => none

def zeroOf (P : Program) (t : TypeId) : Option AV :=
  match P.info? t with
  | some i => match i.zero with
    | some z => cval z
    | none => none
  | none => none

/-- How many cells a value of the type is loaded as: none: one, by itself. -/
def aggOf (P : Program) (t : TypeId) : Option (Option Nat) :=
  match P.info? t with
  | none => none
  | some i => match P.underlying t with
    | some (.struct _) | some (.array _ _) => some (some i.size)
    | some _ => some none
    | none => none

/-- The type's values are held against each other cell by cell: whole numbers, bools, strings, and structs of these: their kinds, in order. -/
def leaves (P : Program) : Nat → TypeId → Option (List LK)
  | 0, _ => none
  | d + 1, t =>
    match P.info? t with
    | none => none
    | some i => match P.underlying t with
      | some (.int _) => if i.size = 1 then some [.int] else none
      | some .bool => if i.size = 1 then some [.bool] else none
      | some .string => if i.size = 1 then some [.str] else none
      | some (.struct fs) => if P.stoodInHeld t then none else leavesF (leaves P d) P fs.toList 0
      | _ => none
where
  leavesF (rec : TypeId → Option (List LK)) (P : Program) : List Field → Nat → Option (List LK)
    | [], _ => some []
    | f :: fs, off => if f.name = "_" ∨ f.offset ≠ off then none else
      match rec f.type with
      | none => none
      | some ks => if ks.length = P.cellsOf f.type then (match leavesF rec P fs (off + P.cellsOf f.type) with
          | none => none
          | some r => some (ks ++ r)) else none

def cfields (P : Program) (fs : Array Field) : List (Nat × Operand) → Option (List (Nat × Nat × Opd))
  | [] => some []
  | (i, x) :: ps => match fs[i]? with
    | some f => match P.info? f.type with
      | some inf => if 0 < inf.size then (match copd x with
        | some y => match cfields P fs ps with
          | some r => some ((f.offset, inf.size, y) :: r)
          | none => none
        | none => none) else none
      | none => none
    | none => none

def celems (size : Nat) : List (Nat × Operand) → Option (List (Nat × Nat × Opd))
  | [] => some []
  | (i, x) :: ps => match copd x with
    | some y => match celems size ps with
      | some r => some ((i * size, size, y) :: r)
      | none => none
    | none => none

/-- The parts are the elements from k on, in order. -/
def cseq : Nat → List (Nat × Operand) → Option (List Opd)
  | _, [] => some []
  | k, (i, x) :: ps => if i = k then (match copd x with
    | some y => match cseq (k + 1) ps with
      | some r => some (y :: r)
      | none => none
    | none => none) else none

def fsOk (P : Program) (fs : Array Field) : Bool := fs.all fun f => (P.info? f.type).isSome

def isEq : BinOp → Option Bool
  | .eql => some false
  | .neq => some true
  | _ => none

def eqOk (P : Program) (t : TypeId) : Option EK :=
  match P.underlying t with
  | some .bool => some .bool
  | some (.pointer _) => some .ptr
  | some (.slice _) => some .slice
  | some (.map _ _) => some .map
  | some (.func _ _ _) => some .func
  | some (.struct _) => if P.eqGuardType P.depth t then none else (match leaves P 100 t with
    | some ks => if ks.length = P.cellsOf t then some (.struct ks) else none
    | none => none)
  | _ => none

def elemSize (P : Program) (t : TypeId) : Option Nat :=
  match P.info? t with
  | some i => some i.size
  | none => none

def keyOk (P : Program) (t : TypeId) : Option LK :=
  match P.underlying t with
  | some (.int _) => some .int
  | some .string => some .str
  | _ => none

def cop (P : Program) (o : Oper) : Option IOp :=
  match o.op with
  | .move x | .assign x => (copd x).map .mv
  | .pick c a b => match copd c, copd a, copd b with
    | some c, some a, some b => some (.pick c a b)
    | _, _, _ => none
  | .alloc t => (zeroCellsOf P t).map .alloc
  | .box _ x => (copd x).map .box
  | .build t ps => match zeroCellsOf P t with
    | none => none
    | some z => match P.underlying t with
      | some (.struct fs) => if fsOk P fs then (cfields P fs ps.toList).map (.build z) else none
      | some (.array _ e) => match elemSize P e with
        | some size => if 0 < size then (celems size ps.toList).map (.build z) else none
        | none => none
      | _ => none
  | .buildSlice t n ps => match P.underlying t with
    | some (.slice e) => match elemSize P e, zeroCellsOf P e with
      | some size, some z => if z.length = size ∧ 0 < size ∧ n * size ≤ 16777216 then (match cseq 0 ps.toList with
          | some xs => if xs.length = n then some (.bslice size xs) else none
          | none => none) else none
      | _, _ => none
    | _ => none
  | .load t x => match aggOf P t, copd x with
    | some n, some x => some (.load n x)
    | _, _ => none
  | .store t a x => match elemSize P t, copd a, copd x with
    | some n, some a, some x => if 0 < n then some (.store n a x) else none
    | _, _, _ => none
  | .nilCheck x => (copd x).map .nilck
  | .binOp op t x y _ => match copd x, copd y with
    | some x, some y => match P.underlying t with
      | some (.int _) | some .string => some (.bin op x y)
      | _ => match isEq op with
        | some neg => (eqOk P t).map fun e => .eqv neg e x y
        | none => none
    | _, _ => none
  | .unOp op _ x => (copd x).map (.un op)
  | .convert s d x => match P.underlying s, P.underlying d, copd x with
    | some (.int _), some (.int k), some x => some (.cvi k x)
    | some .string, some .string, some x => some (.cvs x)
    | _, _, _ => none
  | .makeFunc (.func f) a b => match copds a.toList, copds b.toList with
    | some a, some b => some (.mkfn f a b)
    | _, _ => none
  | .makeMap t r => match P.underlying t with
    | some (.map k e) => match r with
      | none => some .mkmap
      | some _ => none
    | _ => none
  | .makeSlice t n c => match P.underlying t with
    | some (.slice e) => match P.info? e, zeroCellsOf P e, copd n, copd c with
      | some i, some z, some n, some c => if z.length = i.size ∧ 0 < i.size ∧ 0 < i.bytes then some (.mksl i.size i.bytes z n c) else none
      | _, _, _, _ => none
    | _ => none
  | .slice t x lo hi mx => match P.underlying t with
    | some .string => match copd x, copdo lo, copdo hi, mx with
      | some x, some lo, some hi, none => some (.slcs x lo hi)
      | _, _, _, _ => none
    | some (.slice e) => match copd x, copdo lo, copdo hi, copdo mx, elemSize P e with
      | some x, some lo, some hi, some mx, some sz => some (.slc sz x lo hi mx)
      | _, _, _, _, _ => none
    | _ => none
  | .fieldAddr t x i => match P.underlying t with
    | some (.struct fs) => match fs[i]? with
      | some f => match elemSize P f.type, copd x with
        | some n, some x => if 0 < n then some (.faddr f.offset x) else none
        | _, _ => none
      | none => none
    | _ => none
  | .field t x i => match P.underlying t with
    | some (.struct fs) => match fs[i]? with
      | some f => match aggOf P f.type, copd x with
        | some n, some x => some (.fld f.offset n x)
        | _, _ => none
      | none => none
    | _ => none
  | .indexAddr t x i => match P.underlying t with
    | some (.slice e) => match elemSize P e, copd x, copd i with
      | some n, some x, some i => some (.iaddr n x i)
      | _, _, _ => none
    | some (.array len e) => match elemSize P e, copd x, copd i with
      | some n, some x, some i => some (.iaddra len n x i)
      | _, _, _ => none
    | _ => none
  | .index t x i => match P.underlying t with
    | some .string => match copd x, copd i with
      | some x, some i => some (.idxs x i)
      | _, _ => none
    | some (.array len e) => match elemSize P e, aggOf P e, copd x, copd i with
      | some n, some g, some x, some i => some (.idxa len n g x i)
      | _, _, _, _ => none
    | _ => none
  | .lookup t m k ok => match P.underlying t with
    | some (.map kt e) => match keyOk P kt, zeroOf P e, copd m, copd k with
      | some lk, some z, some m, some k => some (.lookup lk z ok m k)
      | _, _, _, _ => none
    | _ => none
  | .mapUpdate t m k v => match P.underlying t with
    | some (.map kt _) => match keyOk P kt, copd m, copd k, copd v with
      | some lk, some m, some k, some v => some (.mset lk m k v)
      | _, _, _, _ => none
    | _ => none
  | .makeInterface t x => match P.underlying t, copd x with
    | some (.interface _), _ => none
    | some _, some x => some (.mkif t x)
    | _, _ => none
  | .extract x i => (copd x).map (.ext i)
  | .call c => match c.callee with
    | .value f => match copd f, copds c.args.toList with
      | some f, some xs => some (.call f xs)
      | _, _ => none
    | .builtin b => match b with
      | .len => match c.argTypes[0]? with
        | some t => match P.underlying t, c.args.toList with
          | some .string, [x] => (copd x).map .lenst
          | some (.slice _), [x] => (copd x).map .lens
          | some (.array n _), [x] => some (.lenc n)
          | some (.map _ _), [x] => (copd x).map .lenm
          | _, _ => none
        | none => none
      | .append => match c.argTypes.toList, c.args.toList with
        | [t, t'], [s, x] => if t' = t then (match P.underlying t with
          | some (.slice e) => match P.info? e, zeroCellsOf P e, copd s, copd x with
            | some i, some z, some s, some x => if z.length = i.size ∧ 0 < i.size ∧ 0 < i.bytes then some (.app i.size i.bytes s x) else none
            | _, _, _, _ => none
          | _ => none) else none
        | _, _ => none
      | .copy => match c.argTypes.toList, c.args.toList with
        | [t, t'], [s, x] => if t' = t then (match P.underlying t with
          | some (.slice e) => match elemSize P e, copd s, copd x with
            | some n, some s, some x => if 0 < n then some (.cpy n s x) else none
            | _, _, _ => none
          | _ => none) else none
        | _, _ => none
      | .min => (copds c.args.toList).map .mn
      | .max => (copds c.args.toList).map .mx
      | .delete => match c.argTypes[0]?, c.args.toList with
        | some t, [m, k] => match P.underlying t with
          | some (.map kt _) => match keyOk P kt, copd m, copd k with
            | some lk, some m, some k => some (.del lk m k)
            | _, _, _ => none
          | _ => none
        | _, _ => none
      | .clear => match c.argTypes[0]?, c.args.toList with
        | some t, [m] => match P.underlying t, copd m with
          | some (.map _ _), some m => some (.clr m)
          | some (.slice e), some m => (match elemSize P e, zeroCellsOf P e with
            | some sz, some z => if 0 < sz ∧ rowsOk sz [z] = true then some (.clrs sz z m) else none
            | _, _ => none)
          | _, _ => none
        | _, _ => none
      | _ => none
    | _ => none
  | _ => none

end Go.SB
