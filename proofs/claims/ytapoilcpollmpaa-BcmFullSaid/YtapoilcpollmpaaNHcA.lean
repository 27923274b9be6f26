/- HcA, put together. Conditions: none. -/
import Derived.Test.YtapoilcpollmpaaMC
import Derived.Test.YtapoilcpollmpaaMD
/- Framework, part HcA: expressions over the variables that live on, and the operations that are read out of them. -/
section
set_option linter.unusedVariables false
set_option linter.unusedSimpArgs false
namespace Go.SB

/-- Other operands. -/
def IOp.mapO (f : Opd → Opd) : IOp → IOp
  | .mv x => .mv (f x)
  | .pick c a b => .pick (f c) (f a) (f b)
  | .alloc z => .alloc z
  | .box x => .box (f x)
  | .build z ps => .build z (ps.map fun (a, b, x) => (a, b, f x))
  | .bslice n es => .bslice n (es.map f)
  | .load n x => .load n (f x)
  | .store n a x => .store n (f a) (f x)
  | .nilck x => .nilck (f x)
  | .bin o x y => .bin o (f x) (f y)
  | .eqv n e x y => .eqv n e (f x) (f y)
  | .un o x => .un o (f x)
  | .cvi k x => .cvi k (f x)
  | .cvs x => .cvs (f x)
  | .mkfn g a b => .mkfn g (a.map f) (b.map f)
  | .mkmap => .mkmap
  | .mksl a b z n c => .mksl a b z (f n) (f c)
  | .slcs x l h => .slcs (f x) (l.map f) (h.map f)
  | .slc s x l h m => .slc s (f x) (l.map f) (h.map f) (m.map f)
  | .faddr o x => .faddr o (f x)
  | .fld o n x => .fld o n (f x)
  | .iaddr s x i => .iaddr s (f x) (f i)
  | .iaddra l s x i => .iaddra l s (f x) (f i)
  | .idxs x i => .idxs (f x) (f i)
  | .idxa l s n x i => .idxa l s n (f x) (f i)
  | .lookup k z ok m x => .lookup k z ok (f m) (f x)
  | .mset k m x v => .mset k (f m) (f x) (f v)
  | .ext i x => .ext i (f x)
  | .lenst x => .lenst (f x)
  | .lens x => .lens (f x)
  | .lenc n => .lenc n
  | .lenm x => .lenm (f x)
  | .app a b x y => .app a b (f x) (f y)
  | .cpy a x y => .cpy a (f x) (f y)
  | .mn xs => .mn (xs.map f)
  | .mx xs => .mx (xs.map f)
  | .del k m x => .del k (f m) (f x)
  | .clr m => .clr (f m)
  | .clrs n z m => .clrs n z (f m)
  | .mkif t x => .mkif t (f x)
  | .call g xs => .call (f g) (xs.map f)

theorem opt_mapO {f : Opd → Opd} {ρ ρ' : List AV} {o : Option Opd} (h : ∀ x ∈ o.toList, x.get ρ = (f x).get ρ') : o.map (fun x => x.get ρ) = (o.map f).map (fun x => x.get ρ') := by
  cases o with
  | none => rfl
  | some x => simp [h x (by simp)]
theorem list_mapO {f : Opd → Opd} {ρ ρ' : List AV} {l : List Opd} (h : ∀ x ∈ l, x.get ρ = (f x).get ρ') : l.map (fun x => x.get ρ) = (l.map f).map (fun x => x.get ρ') := by
  rw [List.map_map]; exact List.map_congr_left h

theorem nstep_mapO {f : Opd → Opd} {ρ ρ' : List AV} {io : IOp} (h : ∀ x ∈ io.opds, x.get ρ = (f x).get ρ') : nstep ρ io = nstep ρ' (io.mapO f) := by
  cases io <;> simp only [IOp.opds] at h <;> simp only [nstep, IOp.mapO]
  case build z ps =>
    have e : (ps.map fun (x : Nat × Nat × Opd) => (x.1, x.2.1, x.2.2.get ρ)) = (ps.map fun (x : Nat × Nat × Opd) => (x.1, x.2.1, f x.2.2)).map fun (x : Nat × Nat × Opd) => (x.1, x.2.1, x.2.2.get ρ') := by
      rw [List.map_map]
      exact List.map_congr_left fun p hp => by
        simp only [Function.comp_apply]
        rw [h p.2.2 (List.mem_map.2 ⟨p, hp, rfl⟩)]
    simp only [e]
  case mkfn g a b =>
    rw [list_mapO (l := a) fun x hx => h x (by simp [hx]), list_mapO (l := b) fun x hx => h x (by simp [hx])]
  case slcs x lo hi =>
    rw [h x (by simp), opt_mapO (o := lo) fun y hy => h y (by simp [Option.mem_toList.1 hy]), opt_mapO (o := hi) fun y hy => h y (by simp [Option.mem_toList.1 hy])]
  case slc sz x lo hi mx =>
    rw [h x (by simp), opt_mapO (o := lo) fun y hy => h y (by simp [Option.mem_toList.1 hy]), opt_mapO (o := hi) fun y hy => h y (by simp [Option.mem_toList.1 hy]),
      opt_mapO (o := mx) fun y hy => h y (by simp [Option.mem_toList.1 hy])]
  case mn xs => rw [list_mapO h]
  case mx xs => rw [list_mapO h]
  all_goals (first | rfl | (simp only [List.mem_cons, List.not_mem_nil, or_false, forall_eq_or_imp, forall_eq] at h; simp only [h]))

theorem rstep_mapO {f : Opd → Opd} {ρ ρ' : List AV} {A : AHeap} {io : IOp} (h : ∀ x ∈ io.opds, x.get ρ = (f x).get ρ') : rstep ρ A io = rstep ρ' A (io.mapO f) := by
  cases io <;> simp only [IOp.opds] at h <;> simp only [rstep, IOp.mapO]
  all_goals (simp only [List.mem_cons, List.not_mem_nil, or_false, forall_eq_or_imp, forall_eq] at h; simp only [h])

theorem wstep_mapO {f : Opd → Opd} {ρ ρ' : List AV} {A : AHeap} {p : Nat} {io : IOp} (h : ∀ x ∈ io.opds, x.get ρ = (f x).get ρ') : wstep ρ A p io = wstep ρ' A p (io.mapO f) := by
  cases io <;> simp only [IOp.opds] at h <;> simp only [wstep, IOp.mapO]
  case bslice sz es =>
    have : (es.map fun x => (x.get ρ).cells) = (es.map f).map fun x => (x.get ρ').cells := by
      rw [List.map_map]; exact List.map_congr_left fun x hx => by simp only [Function.comp_apply]; rw [h x hx]
    rw [this]
  all_goals (first | rfl | (simp only [List.mem_cons, List.not_mem_nil, or_false, forall_eq_or_imp, forall_eq] at h; simp only [h]))

theorem astep_mapO {f : Opd → Opd} {ρ ρ' : List AV} {A : AHeap} {p : Nat} {io : IOp} (h : ∀ x ∈ io.opds, x.get ρ = (f x).get ρ') : astep ρ A p io = astep ρ' A p (io.mapO f) := by
  unfold astep; rw [nstep_mapO h, rstep_mapO h, wstep_mapO h]

/-- What an operation that changes nothing yields. -/
def vstep (vs : List AV) (A : AHeap) (op : IOp) : Option AV := match nstep vs op with | some v => some v | none => rstep vs A op

theorem vstep_mapO {f : Opd → Opd} {ρ ρ' : List AV} {A : AHeap} {io : IOp} (h : ∀ x ∈ io.opds, x.get ρ = (f x).get ρ') : vstep ρ A io = vstep ρ' A (io.mapO f) := by
  unfold vstep; rw [nstep_mapO h, rstep_mapO h]

/-- Any operation, on operands' values. -/
def hOp (P : Program) (p : Nat) (op : IOp) (vs : List AV) (A : AHeap) (K : AV → AHeap → Prop) : Prop :=
  match op with
  | .call f args => ACallV P (f.get vs) (args.map (·.get vs)) A K
  | op => match astep vs A p op with
    | some (v, A') => K v A'
    | none => False

theorem hOp_mapO {P : Program} {f : Opd → Opd} {ρ ρ' : List AV} {A : AHeap} {p : Nat} {io : IOp} {K : AV → AHeap → Prop} (h : ∀ x ∈ io.opds, x.get ρ = (f x).get ρ') (hk : hOp P p (io.mapO f) ρ' A K) : hOp P p io ρ A K := by
  cases io
  case call g xs =>
    simp only [IOp.opds, List.mem_cons, forall_eq_or_imp] at h
    unfold hOp at hk ⊢
    simp only [IOp.mapO] at hk
    simp only [] at hk ⊢
    rw [h.1, list_mapO h.2]
    exact hk
  all_goals
    have hh := astep_mapO (A := A) (p := p) h
    simp only [hOp] at hk ⊢
    rw [hh]
    exact hk

theorem awpOp_hOp {P : Program} {p0 : Nat} {o : IOper} {ρ : List AV} {A : AHeap} {K : List AV → AHeap → Prop} (h : hOp P (p0 + o.slot) o.op ρ A fun r A' => K (aput ρ o.dst r) A') : awpOp P p0 o ρ A K := by
  obtain ⟨d, op, g, s, pre⟩ := o
  cases op <;> exact h

/-- Expressions. -/
inductive HE where
  | v (i : Nat)
  | c (a : AV)
  | o (op : IOp) (xs : List HE)
  | g (c : HE) (w : Bool) (x : HE)
  | i (c x y : HE)
  deriving Inhabited

mutual
def hev (ρ : List AV) (A : AHeap) : HE → Option AV
  | .v i => some (ρ.getD i .any)
  | .c a => some a
  | .o op xs => match hevL ρ A xs with
    | some vs => vstep vs A op
    | none => none
  | .g c w x => match hev ρ A c with
    | some (.bool b) => if b = w then hev ρ A x else some (.tup [])
    | some (.tup _) => some (.tup [])
    | _ => none
  | .i c x y => match hev ρ A c with
    | some (.bool true) => hev ρ A x
    | some (.bool false) => hev ρ A y
    | _ => none
def hevL (ρ : List AV) (A : AHeap) : List HE → Option (List AV)
  | [] => some []
  | x :: xs => match hev ρ A x with
    | some v => (match hevL ρ A xs with
      | some vs => some (v :: vs)
      | none => none)
    | none => none
end

theorem hevL_get {ρ : List AV} {A : AHeap} : ∀ {xs : List HE} {vs : List AV}, hevL ρ A xs = some vs → vs.length = xs.length ∧ ∀ (j : Nat) (x : HE), xs[j]? = some x → hev ρ A x = some (vs.getD j .any)
  | [], vs, h => by simp only [hevL] at h; cases h; exact ⟨rfl, by simp⟩
  | x :: xs, vs, h => by
    simp only [hevL] at h
    split at h
    · rename_i v hv
      split at h
      · rename_i vs' hvs
        cases h
        obtain ⟨h1, h2⟩ := hevL_get hvs
        refine ⟨by simp [h1], fun j y hy => ?_⟩
        cases j with
        | zero => simp at hy; subst hy; simpa using hv
        | succ j => simpa using h2 j y (by simpa using hy)
      · cases h
    · cases h

/-- The effect at a block's end: what it sets, its guard, its place, its operands. -/
structure HF where
  d : Option Nat
  gd : Option (HE × Bool)
  slot : Nat
  op : IOp
  xs : List HE
  ck : List (HE × Nat)
  deriving Inhabited

/-- A block: what is set, what must have a value, and the effect. -/
structure HS where
  as : List (Nat × HE)
  rq : List HE
  ef : Option HF
  deriving Inhabited

inductive HC where
  | skip
  | reg (m : Nat) (ss : List HS) (kill : List Nat)
  | seq (x y : HC)
  | cond (c : HE) (kill : List Nat) (x y : HC)
  | block (id : Nat) (c : HC)
  | loop (kill : List Nat) (c : HC)
  | exit (id : Nat)
  | ret
  | label (l : Nat)
  | goto (l : Nat)
  | scope (l : Nat) (kill : List Nat) (c rest : HC)
  deriving Inhabited

def hRq (ρ : List AV) (A : AHeap) : List HE → Prop → Prop
  | [], X => X
  | e :: es, X => orF (hev ρ A e) fun _ => hRq ρ A es X
def hAs (ρ : List AV) (A : AHeap) : List (Nat × HE) → List AV → (List AV → Prop) → Prop
  | [], ρ1, K => K ρ1
  | (j, e) :: as, ρ1, K => orF (hev ρ A e) fun v => hAs ρ A as (ρ1.set j v) K
def hCk (ρ : List AV) (A : AHeap) : List (HE × Nat) → Prop → Prop
  | [], X => X
  | (e, j) :: es, X => hev ρ A e = some (ρ.getD j .any) ∧ hCk ρ A es X
def hEf (P : Program) (p0 : Nat) (f : HF) (ρ ρ1 : List AV) (A : AHeap) (K : List AV → AHeap → Prop) : Prop :=
  match f.gd with
  | none => orF (hevL ρ A f.xs) fun vs => hOp P (p0 + f.slot) f.op vs A fun r A' => hCk (aput ρ1 f.d r) A' f.ck (K (aput ρ1 f.d r) A')
  | some (c, w) => orF (hev ρ A c) fun g => awpGd w g (orF (hevL ρ A f.xs) fun vs => hOp P (p0 + f.slot) f.op vs A fun r A' => hCk (aput ρ1 f.d r) A' f.ck (K (aput ρ1 f.d r) A'))
      (hCk (aput ρ1 f.d (.tup [])) A f.ck (K (aput ρ1 f.d (.tup [])) A))
def hEfO (P : Program) (p0 : Nat) (f : Option HF) (ρ ρ1 : List AV) (A : AHeap) (K : List AV → AHeap → Prop) : Prop :=
  match f with
  | none => K ρ1 A
  | some f => hEf P p0 f ρ ρ1 A K
def hS (P : Program) (p0 : Nat) (s : HS) (ρ : List AV) (A : AHeap) (K : List AV → AHeap → Prop) : Prop :=
  hRq ρ A s.rq (hAs ρ A s.as ρ fun ρ1 => hEfO P p0 s.ef ρ ρ1 A K)
def hSs (P : Program) (p0 : Nat) : List HS → List AV → AHeap → (List AV → AHeap → Prop) → Prop
  | [], ρ, A, K => K ρ A
  | s :: ss, ρ, A, K => hS P p0 s ρ A fun ρ' A' => hSs P p0 ss ρ' A' K

def hwp (P : Program) (n0 : Nat) : HC → List AV → AHeap → (IExit → List AV → AHeap → Prop) → Prop
  | .skip, ρ, A, Q => Q .normal ρ A
  | .reg m ss kill, ρ, A, Q => hSs P A.length ss ρ (A.more m) fun ρ' A' => Q .normal (mask kill ρ') A'
  | .seq x y, ρ, A, Q => hwp P n0 x ρ A (seqQ (fun ρ' A' => hwp P n0 y ρ' A' Q) Q)
  | .cond c kill x y, ρ, A, Q => orF (hev ρ A c) fun v => awpIf v (hwp P n0 x (mask kill ρ) A Q) (hwp P n0 y (mask kill ρ) A Q)
  | .block id x, ρ, A, Q => hwp P n0 x ρ A (blockQ id Q)
  | .loop kill x, ρ, A, Q => ∃ I : Nat → List AV → AHeap → Prop, (∃ i nl ks, nlOk nl (mask kill ρ) = true ∧ okKeepO n0 ks = true ∧ I i (foldRo n0 ks (nlR nl A.length (mask kill ρ))) (foldAo n0 ks (A ++ nlA nl))) ∧ ∀ i ρ' A', I i ρ' A' → hwp P n0 x ρ' A' (loopQ n0 kill I i Q)
  | .exit id, ρ, A, Q => Q (.exit id) ρ A
  | .ret, ρ, A, Q => Q .ret ρ A
  | .label _, ρ, A, Q => Q .normal ρ A
  | .goto l, ρ, A, Q => Q (.goto l) ρ A
  | .scope l kill x r, ρ, A, Q => ∃ J : Nat → List AV → AHeap → Prop,
      hwp P n0 x ρ A (jumpQ l (fun ρ' A' => ∃ i ks, okKeepO n0 ks = true ∧ J i (foldRo n0 ks (mask kill ρ')) (foldAo n0 ks A')) Q) ∧
      ∀ i ρ' A', J i ρ' A' → hwp P n0 r ρ' A' (jumpQ l (fun ρ2 A2 => ∃ j, j < i ∧ ∃ ks, okKeepO n0 ks = true ∧ J j (foldRo n0 ks (mask kill ρ2)) (foldAo n0 ks A2)) Q)

/-! ### Read out of a region -/

/-- A temporary's expression; 'x': under its guard. -/
structure Ent where
  t : Nat
  e : HE
  x : HE
  gd : Option (Nat × Bool)

def entOf (σ : List Ent) (i : Nat) : Option Ent := σ.find? fun n => n.t == i

def lookE (V : List Nat) (σ : List Ent) : Opd → Option HE
  | .c a => some (.c a)
  | .t i => match entOf σ i with
    | some n => some n.e
    | none => (V.idxOf? i).map .v

/-- Where the guard holds. -/
def lookG (V : List Nat) (σ : List Ent) (gd : Option (Nat × Bool)) : Opd → Option HE
  | .c a => some (.c a)
  | .t i => match entOf σ i with
    | some n => some (bif gd.isSome && n.gd == gd then n.x else n.e)
    | none => (V.idxOf? i).map .v

/-- A part of a pick. -/
def lookP (V : List Nat) (σ : List Ent) (gd : Option (Nat × Bool)) (cw : Nat × Bool) (o : Opd) : Option HE :=
  match o with
  | .c a => some (.c a)
  | .t i => match entOf σ i with
    | some n => if n.gd = some cw then some n.x else lookG V σ gd o
    | none => (V.idxOf? i).map .v

def lookL (V : List Nat) (σ : List Ent) (gd : Option (Nat × Bool)) : List Nat → Option (List HE)
  | [] => some []
  | t :: ts => match lookG V σ gd (.t t), lookL V σ gd ts with
    | some x, some xs => some (x :: xs)
    | _, _ => none

def tempsOf (op : IOp) : List Nat := (op.opds.filterMap fun | .t i => some i | .c _ => none).eraseDups
def reIdx (ts : List Nat) : Opd → Opd
  | .t i => .t (ts.idxOf i)
  | .c a => .c a

def genE (V : List Nat) (σ : List Ent) (gd : Option (Nat × Bool)) (op : IOp) : Option HE := (lookL V σ gd (tempsOf op)).map fun xs => .o (op.mapO (reIdx (tempsOf op))) xs

def mkE (V : List Nat) (σ : List Ent) (gd : Option (Nat × Bool)) (op : IOp) : Option HE :=
  match op with
  | .mv x => lookG V σ gd x
  | .pick (.t c) a b => match lookG V σ gd (.t c), lookP V σ gd (c, true) a, lookP V σ gd (c, false) b with
    | some c, some a, some b => some (.i c a b)
    | _, _, _ => none
  | op => genE V σ gd op

/-- An operation that changes nothing. -/
def mkEnt (V : List Nat) (σ : List Ent) (o : IOper) : Option Ent :=
  match o.dst with
  | none => none
  | some d => match o.guard with
    | none => (mkE V σ none o.op).map fun x => ⟨d, x, x, none⟩
    | some (t, w) => match lookE V σ (.t t), mkE V σ (some (t, w)) o.op with
      | some c, some x => some ⟨d, .g c w x, x, some (t, w)⟩
      | _, _ => none

/-- d has not been set or asked as a guard. -/
def newT (σ : List Ent) (d : Nat) (g : Option (Nat × Bool)) : Bool := σ.all (fun n => n.t != d && n.gd.map (·.1) != some d) && g.map (·.1) != some d
end Go.SB
end
