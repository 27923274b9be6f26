/- Framework, part Sc: what the operations answer, one law for each shape of value. Conditions: none. -/
import Derived.Test.YtkkccabchhnebaaFwSb
set_option linter.unusedVariables false
set_option linter.unusedSimpArgs false
namespace Go.SB
section
variable {P : Program} {p0 n0 : Nat} {ρ : List AV} {A : AHeap} {K : List AV → AHeap → Prop} {Q : IExit → List AV → AHeap → Prop} {d : Option Nat} {s : Nat} {pre : List Nat} {g : Option (Nat × Bool)}

theorem awpIf_dec {p : Prop} [Decidable p] {x y : Prop} (h1 : p → x) (h2 : ¬ p → y) : awpIf (.bool (decide p)) x y := ⟨fun h => h1 (of_decide_eq_true h), fun h => h2 (of_decide_eq_false h)⟩
theorem awpIf_asT {b : Bool} {x y : Prop} (h : b = true) (hx : x) : awpIf (.bool b) x y := by subst h; exact ⟨fun _ => hx, fun h => by cases h⟩
theorem awpIf_asF {b : Bool} {x y : Prop} (h : b = false) (hy : y) : awpIf (.bool b) x y := by subst h; exact ⟨fun h => by (cases h), fun _ => hy⟩
theorem awpGd_tT {b : Bool} {x y : Prop} (h : b = true) (hx : x) : awpGd true (.bool b) x y := by subst h; exact ⟨fun _ => hx, fun h => by cases h⟩
theorem awpGd_tF {b : Bool} {x y : Prop} (h : b = false) (hy : y) : awpGd true (.bool b) x y := by subst h; exact ⟨fun h => by (cases h), fun _ => hy⟩
theorem awpGd_fF {b : Bool} {x y : Prop} (h : b = false) (hx : x) : awpGd false (.bool b) x y := by subst h; exact ⟨fun _ => hx, fun h => by cases h⟩
theorem awpGd_fT {b : Bool} {x y : Prop} (h : b = true) (hy : y) : awpGd false (.bool b) x y := by subst h; exact ⟨fun h => by (cases h), fun _ => hy⟩
theorem awpIf_decT {p : Prop} [Decidable p] {x y : Prop} (h : p) (hx : x) : awpIf (.bool (decide p)) x y := awpIf_dec (fun _ => hx) (fun k => absurd h k)
theorem awpIf_decF {p : Prop} [Decidable p] {x y : Prop} (h : ¬ p) (hy : y) : awpIf (.bool (decide p)) x y := awpIf_dec (fun k => absurd k h) (fun _ => hy)
theorem awpIf_ndec {p : Prop} [Decidable p] {x y : Prop} (h1 : ¬ p → x) (h2 : p → y) : awpIf (.bool (!decide p)) x y := ⟨fun h => h1 (by simpa using h), fun h => h2 (by simpa using h)⟩
theorem awpGd_tdec {p : Prop} [Decidable p] {x y : Prop} (h1 : p → x) (h2 : ¬ p → y) : awpGd true (.bool (decide p)) x y := ⟨fun h => h1 (of_decide_eq_true h), fun h => h2 (of_decide_eq_false h)⟩
theorem awpGd_fdec {p : Prop} [Decidable p] {x y : Prop} (h1 : ¬ p → x) (h2 : p → y) : awpGd false (.bool (decide p)) x y := ⟨fun h => h1 (of_decide_eq_false h), fun h => h2 (of_decide_eq_true h)⟩
theorem awpGd_tndec {p : Prop} [Decidable p] {x y : Prop} (h1 : ¬ p → x) (h2 : p → y) : awpGd true (.bool (!decide p)) x y := ⟨fun h => h1 (by simpa using h), fun h => h2 (by simpa using h)⟩
theorem awpGd_fndec {p : Prop} [Decidable p] {x y : Prop} (h1 : p → x) (h2 : ¬ p → y) : awpGd false (.bool (!decide p)) x y := ⟨fun h => h1 (by simpa using h), fun h => h2 (by simpa using h)⟩
theorem get_t {i : Nat} : Opd.get ρ (.t i) = ρ.getD i .any := rfl
theorem get_c {v : AV} : Opd.get ρ (.c v) = v := rfl
theorem aput_some {i : Nat} {v : AV} : aput ρ (some i) v = ρ.set i v := rfl
theorem aput_none {v : AV} : aput ρ none v = ρ := rfl
theorem mask_nil : mask [] ρ = ρ := rfl
theorem mask_cons {k : Nat} {ks : List Nat} : mask (k :: ks) ρ = mask ks (ρ.set k .any) := rfl

def pickO (c a b : AV) : Option AV := match c with | .bool c => some (bif c then a else b) | _ => none
theorem pickO_t {a b : AV} : pickO (.bool true) a b = some a := rfl
theorem pickO_f {a b : AV} : pickO (.bool false) a b = some b := rfl
theorem wx_pick {c x y : Opd} : awpOp P p0 ⟨d, .pick c x y, g, s, pre⟩ ρ A K = orF (ev (pickO (c.get ρ) (x.get ρ) (y.get ρ))) fun v => K (aput ρ d v) A :=
  (astep_n (io := .pick c x y) (fun _ _ => rfl) (fun _ _ _ => rfl) (F := fun v A' => K (aput ρ d v) A')).trans rfl
def bparts (ρ : List AV) : List (Nat × Nat × Opd) → List (Nat × Nat × AV)
  | [] => []
  | (o, n, x) :: ps => (o, n, x.get ρ) :: bparts ρ ps
theorem bparts_nil : bparts ρ [] = [] := rfl
theorem bparts_cons {o n : Nat} {x : Opd} {ps : List (Nat × Nat × Opd)} : bparts ρ ((o, n, x) :: ps) = (o, n, x.get ρ) :: bparts ρ ps := rfl
theorem bparts_eq : ∀ (ps : List (Nat × Nat × Opd)), ps.map (fun (o, s, x) => (o, s, x.get ρ)) = bparts ρ ps
  | [] => rfl
  | (o, n, x) :: ps => by rw [bparts_cons, ← bparts_eq ps]; rfl
theorem wx_build {z : List AV} {ps : List (Nat × Nat × Opd)} : awpOp P p0 ⟨d, .build z ps, g, s, pre⟩ ρ A K = orF (ev (bfill z (bparts ρ ps))) fun cs => K (aput ρ d (.agg cs)) A := by
  rw [wp_build, bparts_eq]
theorem bfill_nil {z : List AV} : bfill z [] = some z := rfl
theorem bfill_cons {z : List AV} {o n : Nat} {v : AV} {ps : List (Nat × Nat × AV)} : bfill z ((o, n, v) :: ps) = if v.cells.length = n ∧ o + n ≤ z.length then bfill (wrt z o v.cells) ps else none := rfl
def nilckO (v : AV) : Option AV := match v with | .ptr l o => some (.ptr l o) | .eptr l i o => some (.eptr l i o) | .pp cs => some (.pp cs) | .fn f a b => some (.fn f a b) | _ => none
theorem wx_nilck {x : Opd} : awpOp P p0 ⟨d, .nilck x, g, s, pre⟩ ρ A K = orF (ev (nilckO (x.get ρ))) fun v => K (aput ρ d v) A := astep_n (F := fun v A' => K (aput ρ d v) A') (fun _ _ => rfl) (fun _ _ _ => rfl)
theorem nilckO_ptr {l o : Nat} : nilckO (.ptr l o) = some (.ptr l o) := rfl
theorem nilckO_eptr {l i o : Nat} : nilckO (.eptr l i o) = some (.eptr l i o) := rfl
theorem nilckO_pp {cs : List AV} : nilckO (.pp cs) = some (.pp cs) := rfl
theorem nilckO_fn {f : FuncId} {a b : List AV} : nilckO (.fn f a b) = some (.fn f a b) := rfl
def cviO (k : IntKind) (v : AV) : Option AV := match v with | .int _ n => some (.int k (k.wrap n)) | _ => none
theorem wx_cvi {k : IntKind} {x : Opd} : awpOp P p0 ⟨d, .cvi k x, g, s, pre⟩ ρ A K = orF (ev (cviO k (x.get ρ))) fun v => K (aput ρ d v) A := (astep_n (io := .cvi k x) (F := fun v A' => K (aput ρ d v) A') (fun _ _ => rfl) (fun _ _ _ => rfl)).trans rfl
theorem cviO_int {k k' : IntKind} {n : Int} : cviO k (.int k' n) = some (.int k (k.wrap n)) := rfl
def cvsO (v : AV) : Option AV := match v with | .str s => some (.str s) | _ => none
theorem wx_cvs {x : Opd} : awpOp P p0 ⟨d, .cvs x, g, s, pre⟩ ρ A K = orF (ev (cvsO (x.get ρ))) fun v => K (aput ρ d v) A := (astep_n (io := .cvs x) (F := fun v A' => K (aput ρ d v) A') (fun _ _ => rfl) (fun _ _ _ => rfl)).trans rfl
theorem cvsO_str {t : List UInt8} : cvsO (.str t) = some (.str t) := rfl
def extO (i : Nat) (v : AV) : Option AV := match v with | .tup vs => vs[i]? | _ => none
theorem wx_ext {i : Nat} {x : Opd} : awpOp P p0 ⟨d, .ext i x, g, s, pre⟩ ρ A K = orF (ev (extO i (x.get ρ))) fun v => K (aput ρ d v) A := (astep_n (io := .ext i x) (F := fun v A' => K (aput ρ d v) A') (fun _ _ => rfl) (fun _ _ _ => rfl)).trans rfl
theorem extO_tup {i : Nat} {vs : List AV} : extO i (.tup vs) = vs[i]? := rfl
def mnO (vs : List AV) : Option AV := match vs with | [] => none | x :: r => foldO AV.mn2 x r
def mxO (vs : List AV) : Option AV := match vs with | [] => none | x :: r => foldO AV.mx2 x r
theorem wx_mn {xs : List Opd} : awpOp P p0 ⟨d, .mn xs, g, s, pre⟩ ρ A K = orF (ev (mnO (xs.map (·.get ρ)))) fun v => K (aput ρ d v) A := (astep_n (io := .mn xs) (F := fun v A' => K (aput ρ d v) A') (fun _ _ => rfl) (fun _ _ _ => rfl)).trans rfl
theorem wx_mx {xs : List Opd} : awpOp P p0 ⟨d, .mx xs, g, s, pre⟩ ρ A K = orF (ev (mxO (xs.map (·.get ρ)))) fun v => K (aput ρ d v) A := (astep_n (io := .mx xs) (F := fun v A' => K (aput ρ d v) A') (fun _ _ => rfl) (fun _ _ _ => rfl)).trans rfl
theorem mnO_2 {k k' : IntKind} {x y : Int} : mnO [.int k x, .int k' y] = some (.int k (min x y)) := by
  show some (AV.int k (if y < x then y else x)) = _
  rw [Int.min_def]
  congr 2
  by_cases h : y < x
  · rw [if_pos h, if_neg (by omega)]
  · rw [if_neg h, if_pos (by omega)]
theorem mxO_2 {k k' : IntKind} {x y : Int} : mxO [.int k x, .int k' y] = some (.int k (max x y)) := by
  show some (AV.int k (if y > x then y else x)) = _
  rw [Int.max_def]
  congr 2
  by_cases h : y > x
  · rw [if_pos h, if_pos (by omega)]
  · rw [if_neg h]; split <;> omega

theorem bin_int {o : BinOp} {k k' : IntKind} {a b : Int} : AV.bin o (.int k a) (.int k' b) = binI o k a k' b := rfl
theorem bin_str {o : BinOp} {a b : List UInt8} : AV.bin o (.str a) (.str b) = binS o a b := rfl
theorem binI_add {k : IntKind} {a b : Int} : binI .add k a k b = some (.int k (k.wrap (a + b))) := by simp [binI]
theorem binI_sub {k : IntKind} {a b : Int} : binI .sub k a k b = some (.int k (k.wrap (a - b))) := by simp [binI]
theorem binI_mul {k : IntKind} {a b : Int} : binI .mul k a k b = some (.int k (k.wrap (a * b))) := by simp [binI]
theorem binI_quo {k : IntKind} {a b : Int} : binI .quo k a k b = if b ≠ 0 then some (.int k (k.wrap (a.tdiv b))) else none := by by_cases h : b = 0 <;> simp [binI, h]
theorem binI_rem {k : IntKind} {a b : Int} : binI .rem k a k b = if b ≠ 0 then some (.int k (a.tmod b)) else none := by by_cases h : b = 0 <;> simp [binI, h]
theorem binI_and {k : IntKind} {a b : Int} : binI .and k a k b = some (.int k (ibits .and k a b)) := by simp [binI]
theorem binI_or {k : IntKind} {a b : Int} : binI .or k a k b = some (.int k (ibits .or k a b)) := by simp [binI]
theorem binI_xor {k : IntKind} {a b : Int} : binI .xor k a k b = some (.int k (ibits .xor k a b)) := by simp [binI]
theorem binI_andNot {k : IntKind} {a b : Int} : binI .andNot k a k b = some (.int k (ibits .andNot k a b)) := by simp [binI]
theorem binI_shl {k k' : IntKind} {a b : Int} : binI .shl k a k' b = if 0 ≤ b then some (.int k (k.wrap (a * 2 ^ min b.toNat k.bits))) else none := by
  by_cases h : b < 0
  · simp [binI, h, show ¬ (0 ≤ b) by omega]
  · simp [binI, h, show 0 ≤ b by omega]
theorem binI_shr {k k' : IntKind} {a b : Int} : binI .shr k a k' b = if 0 ≤ b then some (.int k (a.fdiv (2 ^ min b.toNat k.bits))) else none := by
  by_cases h : b < 0
  · simp [binI, h, show ¬ (0 ≤ b) by omega]
  · simp [binI, h, show 0 ≤ b by omega]
theorem binI_eql {k : IntKind} {a b : Int} : binI .eql k a k b = some (.bool (decide (a = b))) := by simp [binI]; rfl
theorem binI_neq {k : IntKind} {a b : Int} : binI .neq k a k b = some (.bool (!decide (a = b))) := by simp [binI]; rfl
theorem binI_lss {k : IntKind} {a b : Int} : binI .lss k a k b = some (.bool (decide (a < b))) := by simp [binI]
theorem binI_leq {k : IntKind} {a b : Int} : binI .leq k a k b = some (.bool (decide (a ≤ b))) := by simp [binI]
theorem binI_gtr {k : IntKind} {a b : Int} : binI .gtr k a k b = some (.bool (decide (b < a))) := by simp [binI]
theorem binI_geq {k : IntKind} {a b : Int} : binI .geq k a k b = some (.bool (decide (b ≤ a))) := by simp [binI]
theorem binS_add {a b : List UInt8} : binS .add a b = if a.length + b.length ≤ 4611686018427387904 then some (.str (a ++ b)) else none := rfl
theorem binS_eql {a b : List UInt8} : binS .eql a b = some (.bool (decide (a = b))) := by
  show some (AV.bool (a == b)) = _
  congr 2
  rw [Bool.eq_iff_iff]; simp
theorem binS_neq {a b : List UInt8} : binS .neq a b = some (.bool (!decide (a = b))) := by
  show some (AV.bool (!(a == b))) = _
  congr 3
  rw [Bool.eq_iff_iff]; simp

theorem eqv_bool {a b : Bool} : AV.eqv .bool (.bool a) (.bool b) = some (a == b) := rfl
theorem eqv_ptr {x y : AV} : AV.eqv .ptr x y = eqNil x.nilP y.nilP := rfl
theorem eqv_slice {x y : AV} : AV.eqv .slice x y = eqNil x.nilS y.nilS := rfl
theorem eqv_map {x y : AV} : AV.eqv .map x y = eqNil x.nilM y.nilM := rfl
theorem eqv_func {x y : AV} : AV.eqv .func x y = eqNil x.nilF y.nilF := rfl
theorem eqv_struct {ks : List LK} {x y : List AV} : AV.eqv (.struct ks) (.agg x) (.agg y) = AV.eqL ks x y := rfl
theorem nilP_nilp : AV.nilP .nilp = some true := rfl
theorem nilP_ptr {l o : Nat} : AV.nilP (.ptr l o) = some false := rfl
theorem nilP_eptr {l i o : Nat} : AV.nilP (.eptr l i o) = some false := rfl
theorem nilP_pp {cs : List AV} : AV.nilP (.pp cs) = some false := rfl
theorem nilS_nils : AV.nilS .nils = some true := rfl
theorem nilS_sl {l z o n : Nat} {t : Bool} : AV.nilS (.sl l z o n t) = some false := rfl
theorem nilS_es : AV.nilS .es = some false := rfl
theorem nilM_nilm : AV.nilM .nilm = some true := rfl
theorem nilM_mp {l : Nat} : AV.nilM (.mp l) = some false := rfl
theorem nilF_nilf : AV.nilF .nilf = some true := rfl
theorem nilF_fn {f : FuncId} {a b : List AV} : AV.nilF (.fn f a b) = some false := rfl
theorem eqNil_tt : eqNil (some true) (some true) = some true := rfl
theorem eqNil_tf : eqNil (some true) (some false) = some false := rfl
theorem eqNil_ft : eqNil (some false) (some true) = some false := rfl
theorem eqL_nil : AV.eqL [] [] [] = some true := rfl
theorem eqL_int {ks : List LK} {k : IntKind} {a b : Int} {as bs : List AV} : AV.eqL (.int :: ks) (.int k a :: as) (.int k b :: bs) = (AV.eqL ks as bs).map fun r => decide (a = b) && r := by
  have : (a == b) = decide (a = b) := by rw [Bool.eq_iff_iff]; simp
  show (match AV.eqK .int (.int k a) (.int k b) with | some r => _ | none => none) = _
  simp only [AV.eqK, if_true, this]
  cases AV.eqL ks as bs <;> rfl
theorem eqL_bool {ks : List LK} {a b : Bool} {as bs : List AV} : AV.eqL (.bool :: ks) (.bool a :: as) (.bool b :: bs) = (AV.eqL ks as bs).map fun r => (a == b) && r := by
  simp only [AV.eqL, AV.eqK]
  cases AV.eqL ks as bs <;> rfl
theorem eqL_str {ks : List LK} {a b : List UInt8} {as bs : List AV} : AV.eqL (.str :: ks) (.str a :: as) (.str b :: bs) = (AV.eqL ks as bs).map fun r => decide (a = b) && r := by
  have : (a == b) = decide (a = b) := by rw [Bool.eq_iff_iff]; simp
  simp only [AV.eqL, AV.eqK, this]
  cases AV.eqL ks as bs <;> rfl
theorem omap_some {α β : Type} {f : α → β} {a : α} : Option.map f (some a) = some (f a) := rfl
theorem omap_none {α β : Type} {f : α → β} : Option.map f none = none := rfl
theorem un_neg {k : IntKind} {n : Int} : AV.unop .neg (.int k n) = some (.int k (k.wrap (0 - n))) := rfl
theorem un_xor {k : IntKind} {n : Int} : AV.unop .xor (.int k n) = some (.int k (ibits .xor k (if k.signed then -1 else k.max) n)) := rfl
theorem un_not {b : Bool} : AV.unop .not (.bool b) = some (.bool (!b)) := rfl
theorem faddr_ptr {o l p : Nat} : AV.faddr o (.ptr l p) = some (.ptr l (p + o)) := rfl
theorem faddr_eptr {o l i p : Nat} : AV.faddr o (.eptr l i p) = some (.eptr l i (p + o)) := rfl
theorem faddr_pp {o : Nat} {cs : List AV} : AV.faddr o (.pp cs) = some (.pp (cs.drop o)) := rfl
theorem fld_one {o : Nat} {cs : List AV} : AV.fld o none (.agg cs) = cs[o]? := rfl
theorem fld_n {o n : Nat} {cs : List AV} : AV.fld o (some n) (.agg cs) = if o + n ≤ cs.length then some (.agg ((cs.drop o).take n)) else none := rfl
theorem iaddr_sl {z l lo n : Nat} {t : Bool} {k : IntKind} {i : Int} : AV.iaddr z (.sl l z lo n t) (.int k i) = if 0 ≤ i ∧ i < n then some (.eptr l (lo + i.toNat) 0) else none := by simp [AV.iaddr]
theorem iaddr_ps {z : Nat} {xs : List (List AV)} {k : IntKind} {i : Int} : AV.iaddr z (.ps z xs) (.int k i) = if 0 ≤ i ∧ i < xs.length then some (.pp (xs.getD i.toNat [])) else none := by simp [AV.iaddr]
theorem iaddra_int {n z : Nat} {x : AV} {k : IntKind} {i : Int} : AV.iaddra n z x (.int k i) = if 0 ≤ i ∧ i < n then AV.faddr (i.toNat * z) x else none := rfl
theorem idxs_str {t : List UInt8} {k : IntKind} {i : Int} : AV.idxs (.str t) (.int k i) = if 0 ≤ i ∧ i < t.length then some (.int .u8 (t.getD i.toNat 0).toNat) else none := rfl
theorem idxa_one {n z : Nat} {cs : List AV} {k : IntKind} {i : Int} : AV.idxa n z none (.agg cs) (.int k i) = if 0 ≤ i ∧ i < n then cs[i.toNat * z]? else none := rfl
theorem idxa_n {n z m : Nat} {cs : List AV} {k : IntKind} {i : Int} : AV.idxa n z (some m) (.agg cs) (.int k i) = if 0 ≤ i ∧ i < n then (if i.toNat * z + m ≤ cs.length then some (.agg ((cs.drop (i.toNat * z)).take m)) else none) else none := rfl
theorem lenst_str {t : List UInt8} : AV.lenst (.str t) = some (.int .i64 t.length) := rfl
theorem lens_sl {l z lo n : Nat} {t : Bool} : AV.lens (.sl l z lo n t) = some (.int .i64 n) := rfl
theorem lens_es : AV.lens .es = some (.int .i64 0) := rfl
theorem lens_nils : AV.lens .nils = some (.int .i64 0) := rfl
theorem lens_ps {z : Nat} {xs : List (List AV)} : AV.lens (.ps z xs) = some (.int .i64 xs.length) := rfl
theorem cells_agg {cs : List AV} : AV.cells (.agg cs) = cs := rfl
theorem cells_any : AV.cells .any = [] := rfl
theorem cells_int {k : IntKind} {n : Int} : AV.cells (.int k n) = [.int k n] := rfl
theorem cells_bool {b : Bool} : AV.cells (.bool b) = [.bool b] := rfl
theorem cells_str {t : List UInt8} : AV.cells (.str t) = [.str t] := rfl
theorem cells_ptr {l o : Nat} : AV.cells (.ptr l o) = [.ptr l o] := rfl
theorem cells_eptr {l i o : Nat} : AV.cells (.eptr l i o) = [.eptr l i o] := rfl
theorem cells_sl {l z lo n : Nat} {t : Bool} : AV.cells (.sl l z lo n t) = [.sl l z lo n t] := rfl
theorem cells_nils : AV.cells .nils = [.nils] := rfl
theorem cells_nilp : AV.cells .nilp = [.nilp] := rfl
theorem cells_nilf : AV.cells .nilf = [.nilf] := rfl
theorem cells_nilm : AV.cells .nilm = [.nilm] := rfl
theorem cells_nili : AV.cells .nili = [.nili] := rfl
theorem cells_es : AV.cells .es = [.es] := rfl
theorem cells_mp {l : Nat} : AV.cells (.mp l) = [.mp l] := rfl
theorem cells_fn {f : FuncId} {a b : List AV} : AV.cells (.fn f a b) = [.fn f a b] := rfl

def cellsO (o : Option (Option AO)) (off n : Nat) : Option (List AV) :=
  match o with | some (some (.cells vs)) => if off + n ≤ vs.length then some ((vs.drop off).take n) else none | _ => none
theorem cellsO_some {vs : List AV} {off n : Nat} : cellsO (some (some (.cells vs))) off n = if off + n ≤ vs.length then some ((vs.drop off).take n) else none := rfl
def rowO (o : Option (List AV)) (off n : Nat) : Option (List AV) := match o with | some e => if off + n ≤ e.length then some ((e.drop off).take n) else none | none => none
theorem rowO_some {e : List AV} {off n : Nat} : rowO (some e) off n = if off + n ≤ e.length then some ((e.drop off).take n) else none := rfl
def arrO (o : Option (Option AO)) (i off n : Nat) : Option (List AV) := match o with | some (some (.arr es)) => rowO es[i]? off n | _ => none
theorem arrO_some {es : List (List AV)} {i off n : Nat} : arrO (some (some (.arr es))) i off n = rowO es[i]? off n := rfl
theorem rdN_ptr {l off n : Nat} : rdN A (.ptr l off) n = cellsO A[l]? off n := by
  unfold rdN cellsO; rfl
theorem rdN_eptr {l i off n : Nat} : rdN A (.eptr l i off) n = arrO A[l]? i off n := by
  simp only [rdN, arrO]
  cases A[l]? with
  | none => rfl
  | some o => cases o with
    | none => rfl
    | some o => cases o <;> first | rfl | (rename_i es; simp only [rowO]; cases es[i]? <;> rfl)
theorem rdN_pp {cs : List AV} {n : Nat} : rdN A (.pp cs) n = if n ≤ cs.length then some (cs.take n) else none := rfl
def load1 (o : Option (List AV)) : Option AV := match o with | some [v] => some v | _ => none
def loadN (o : Option (List AV)) : Option AV := match o with | some vs => some (.agg vs) | none => none
theorem load1_some {v : AV} : load1 (some [v]) = some v := rfl
theorem loadN_some {vs : List AV} : loadN (some vs) = some (.agg vs) := rfl
theorem aload_one {x : AV} : aload A none x = load1 (rdN A x 1) := rfl
theorem aload_n {n : Nat} {x : AV} : aload A (some n) x = loadN (rdN A x n) := rfl
theorem load1_ite {c : Prop} [Decidable c] {a : List AV} : load1 (if c then some a else none) = if c then load1 (some a) else none := by split <;> rfl
theorem loadN_ite {c : Prop} [Decidable c] {a : List AV} : loadN (if c then some a else none) = if c then some (.agg a) else none := by split <;> rfl

def wrC (A : AHeap) (l off : Nat) (ns : List AV) (o : Option (Option AO)) : Option AHeap :=
  match o with | some (some (.cells vs)) => if off + ns.length ≤ vs.length then (if ns.all AV.one then some (A.set l (some (.cells (wrt vs off ns)))) else none) else none | _ => none
theorem wrC_some {l off : Nat} {ns vs : List AV} : wrC A l off ns (some (some (.cells vs))) = if off + ns.length ≤ vs.length ∧ ns.all AV.one = true then some (A.set l (some (.cells (wrt vs off ns)))) else none := by
  simp only [wrC]
  by_cases h : off + ns.length ≤ vs.length <;> by_cases h2 : ns.all AV.one = true <;> simp [h, h2]
def wrR (A : AHeap) (l i off : Nat) (ns : List AV) (es : List (List AV)) (o : Option (List AV)) : Option AHeap :=
  match o with | some e => if off + ns.length ≤ e.length then (if ns.all AV.one then some (A.set l (some (.arr (es.set i (wrt e off ns))))) else none) else none | none => none
theorem wrR_some {l i off : Nat} {ns e : List AV} {es : List (List AV)} : wrR A l i off ns es (some e) = if off + ns.length ≤ e.length ∧ ns.all AV.one = true then some (A.set l (some (.arr (es.set i (wrt e off ns))))) else none := by
  simp only [wrR]
  by_cases h : off + ns.length ≤ e.length <;> by_cases h2 : ns.all AV.one = true <;> simp [h, h2]
def wrE (A : AHeap) (l i off : Nat) (ns : List AV) (o : Option (Option AO)) : Option AHeap := match o with | some (some (.arr es)) => wrR A l i off ns es es[i]? | _ => none
theorem wrE_some {l i off : Nat} {ns : List AV} {es : List (List AV)} : wrE A l i off ns (some (some (.arr es))) = wrR A l i off ns es es[i]? := rfl
theorem wrN_ptr {l off : Nat} {ns : List AV} : wrN A (.ptr l off) ns = wrC A l off ns A[l]? := by
  unfold wrN wrC; rfl
theorem wrN_eptr {l i off : Nat} {ns : List AV} : wrN A (.eptr l i off) ns = wrE A l i off ns A[l]? := by
  simp only [wrN, wrE]
  cases A[l]? with
  | none => rfl
  | some o => cases o with
    | none => rfl
    | some o => cases o <;> first | rfl | (rename_i es; simp only [wrR]; cases es[i]? <;> rfl)
theorem wrt_nil {vs : List AV} {o : Nat} : wrt vs o [] = vs := rfl
theorem wrt_cons {vs ns : List AV} {o : Nat} {n : AV} : wrt vs o (n :: ns) = wrt (vs.set o n) (o + 1) ns := rfl
theorem one_int {k : IntKind} {n : Int} : AV.one (.int k n) = true := rfl
theorem one_bool {b : Bool} : AV.one (.bool b) = true := rfl
theorem one_str {t : List UInt8} : AV.one (.str t) = true := rfl
theorem one_ptr {l o : Nat} : AV.one (.ptr l o) = true := rfl
theorem one_eptr {l i o : Nat} : AV.one (.eptr l i o) = true := rfl
theorem one_sl {l z lo n : Nat} {t : Bool} : AV.one (.sl l z lo n t) = true := rfl
theorem one_nils : AV.one .nils = true := rfl
theorem one_nilp : AV.one .nilp = true := rfl
theorem one_nilf : AV.one .nilf = true := rfl
theorem one_nilm : AV.one .nilm = true := rfl
theorem one_nili : AV.one .nili = true := rfl
theorem one_es : AV.one .es = true := rfl
theorem one_mp {l : Nat} : AV.one (.mp l) = true := rfl
theorem one_fn {f : FuncId} {a b : List AV} : AV.one (.fn f a b) = true := rfl

def atO {α : Type} (o : Option (Option AO)) (r : Option α) : Option α := match o with | some none => r | _ => none
theorem atO_some {α : Type} {r : Option α} : atO (some none) r = r := rfl
theorem anew_eq {p : Nat} {v : AV} {o : AO} : anew A p v o = atO A[p]? (some (v, A.set p (some o))) := by
  unfold anew atO; rfl
theorem abslice_eq {p z : Nat} {vs : List (List AV)} : abslice A p z vs = atO A[p]? (if vs.all (fun e => e.length == z) = true then some (.sl p z 0 vs.length true, A.set p (some (.arr vs))) else none) := by
  unfold abslice atO; rfl
theorem amksl_eq {p z b : Nat} {zs : List AV} {k k' : IntKind} {n c : Int} : amksl A p z b zs (.int k n) (.int k' c) = atO A[p]? (if 0 ≤ n ∧ n = c ∧ n * b ≤ 140737488355328 then some (.sl p z 0 n.toNat true, A.set p (some (.arr (List.replicate n.toNat zs)))) else none) := by
  unfold amksl atO; rfl
def elemsO (o : Option (Option AO)) (z z' lo n : Nat) : Option (List (List AV)) := match o with | some (some (.arr es)) => if z' = z ∧ lo + n ≤ es.length then some ((es.drop lo).take n) else none | _ => none
theorem elemsO_some {z lo n : Nat} {es : List (List AV)} : elemsO (some (some (.arr es))) z z lo n = if lo + n ≤ es.length then some ((es.drop lo).take n) else none := by simp [elemsO]
theorem elems_full {z n : Nat} {es : List (List AV)} (h : es.length = n) : elemsO (some (some (.arr es))) z z 0 n = some es := by subst h; simp [elemsO]
theorem elemsOf_sl {l z z' lo n : Nat} {t : Bool} : elemsOf A z (.sl l z' lo n t) = elemsO A[l]? z z' lo n := by
  unfold elemsOf elemsO; rfl
theorem elemsOf_nils {z : Nat} : elemsOf A z .nils = some [] := rfl
theorem elemsOf_es {z : Nat} : elemsOf A z .es = some [] := rfl
theorem elemsOf_ps {z : Nat} {xs : List (List AV)} : elemsOf A z (.ps z xs) = some xs := by simp [elemsOf]
theorem rowsOk_nil {z : Nat} : rowsOk z [] = true := rfl
theorem rowsOk_cons {z : Nat} {e : List AV} {xs : List (List AV)} : rowsOk z (e :: xs) = ((e.length == z && e.all AV.one) && rowsOk z xs) := rfl

/-- Appended to none. -/
theorem app_nils {p z b : Nat} {x : List AV} {xs : List (List AV)} : aapp A p z b .nils (x :: xs) = atO A[p]? (if (x :: xs).length * b ≤ 140737488355328 then some (.sl p z 0 (x :: xs).length false, A.set p (some (.arr (x :: xs)))) else none) := by
  unfold aapp atO; rfl
theorem app_nils0 {p z b : Nat} : aapp A p z b .nils [] = some (.nils, A) := rfl
theorem app_nilsR {p z b : Nat} {L : List (List AV)} (h : 0 < L.length) : aapp A p z b .nils L = atO A[p]? (if L.length * b ≤ 140737488355328 then some (.sl p z 0 L.length false, A.set p (some (.arr L))) else none) := by
  cases L with
  | nil => simp at h
  | cons x xs => exact app_nils
theorem ren_int {f : Nat → Option Nat} {k : IntKind} {n : Int} : AV.ren f (.int k n) = .int k n := rfl
theorem ren_bool {f : Nat → Option Nat} {b : Bool} : AV.ren f (.bool b) = .bool b := rfl
theorem ren_str {f : Nat → Option Nat} {t : List UInt8} : AV.ren f (.str t) = .str t := rfl
theorem ren_nils {f : Nat → Option Nat} : AV.ren f .nils = .nils := rfl
theorem ren_nilp {f : Nat → Option Nat} : AV.ren f .nilp = .nilp := rfl
theorem ren_nilm {f : Nat → Option Nat} : AV.ren f .nilm = .nilm := rfl
theorem ren_nilf {f : Nat → Option Nat} : AV.ren f .nilf = .nilf := rfl
theorem ren_nili {f : Nat → Option Nat} : AV.ren f .nili = .nili := rfl
theorem ren_es {f : Nat → Option Nat} : AV.ren f .es = .es := rfl
theorem ren_any {f : Nat → Option Nat} : AV.ren f .any = .any := rfl
def renTo (o : Option Nat) (F : Nat → AV) : AV := match o with | some l => F l | none => .any
theorem renTo_some {l : Nat} {F : Nat → AV} : renTo (some l) F = F l := rfl
theorem renTo_none {F : Nat → AV} : renTo none F = .any := rfl
theorem ren_ptr {f : Nat → Option Nat} {l o : Nat} : AV.ren f (.ptr l o) = renTo (f l) fun l => .ptr l o := by simp only [AV.ren, renTo]; cases f l <;> rfl
theorem ren_eptr {f : Nat → Option Nat} {l i o : Nat} : AV.ren f (.eptr l i o) = renTo (f l) fun l => .eptr l i o := by simp only [AV.ren, renTo]; cases f l <;> rfl
theorem ren_sl {f : Nat → Option Nat} {l z lo n : Nat} {t : Bool} : AV.ren f (.sl l z lo n t) = renTo (f l) fun l => .sl l z lo n t := by simp only [AV.ren, renTo]; cases f l <;> rfl
theorem ren_mp {f : Nat → Option Nat} {l : Nat} : AV.ren f (.mp l) = renTo (f l) .mp := by simp only [AV.ren, renTo]; cases f l <;> rfl
theorem ren_fn {f : Nat → Option Nat} {g : FuncId} {a b : List AV} : AV.ren f (.fn g a b) = .fn g (a.map (AV.ren f)) (b.map (AV.ren f)) := by simp only [AV.ren, renL_eq]
theorem ren_agg {f : Nat → Option Nat} {cs : List AV} : AV.ren f (.agg cs) = .agg (cs.map (AV.ren f)) := by simp only [AV.ren, renL_eq]
theorem ren_tup {f : Nat → Option Nat} {cs : List AV} : AV.ren f (.tup cs) = .tup (cs.map (AV.ren f)) := by simp only [AV.ren, renL_eq]
theorem aoren_cells {f : Nat → Option Nat} {cs : List AV} : AO.ren f (.cells cs) = .cells (cs.map (AV.ren f)) := rfl
theorem aoren_arr {f : Nat → Option Nat} {es : List (List AV)} : AO.ren f (.arr es) = .arr (es.map fun e => e.map (AV.ren f)) := rfl
theorem aoren_dead {f : Nat → Option Nat} : AO.ren f .dead = .dead := rfl
theorem aoren_nil {f : Nat → Option Nat} : AO.ren f (.arr []) = .arr [] := rfl
theorem rn_place {js : List Nat} {top j : Nat} : rn (place js top) j = some (if j < js.length then js.getD j 0 else top + (j - js.length)) := rfl
theorem putAll_nil {g : Nat → Option Nat} {B A : AHeap} : putAll g B [] A = B ++ A.map fun o => o.map (AO.ren g) := by simp only [putAll]
theorem putAll_cons {g : Nat → Option Nat} {B A : AHeap} {j : Nat} {js : List Nat} {o : Option AO} : putAll g B (j :: js) (o :: A) = putAll g (B.set j (o.map (AO.ren g))) js A := by simp only [putAll]
theorem foldA_eq {n : Nat} {ks : List Nat} : foldAo n (some ks) A = (A.take n ++ ks.map fun k => (A[k]?).join).map fun o => o.map (AO.ren (fnew n ks)) := rfl
theorem foldR_eq {n : Nat} {ks : List Nat} : foldRo n (some ks) ρ = ρ.map (AV.ren (fnew n ks)) := rfl
theorem foldV_eq {n : Nat} {ks : List Nat} {v : AV} : foldVo n (some ks) v = AV.ren (fnew n ks) v := rfl
def idxTo (n0 : Nat) (o : Option Nat) : Option Nat := match o with | some i => some (n0 + i) | none => none
theorem fnew_eq {n0 : Nat} {ks : List Nat} {l : Nat} : fnew n0 ks l = if l < n0 then some l else idxTo n0 (ks.idxOf? l) := by
  unfold fnew idxTo
  split <;> first | rfl | (cases ks.idxOf? l <;> rfl)
theorem idxTo_some {n0 i : Nat} : idxTo n0 (some i) = some (n0 + i) := rfl
theorem idxTo_none {n0 : Nat} : idxTo n0 none = none := rfl
theorem idxOf_nil {l : Nat} : ([] : List Nat).idxOf? l = none := rfl
theorem idxOf_cons {k l : Nat} {ks : List Nat} : (k :: ks).idxOf? l = if k = l then some 0 else (ks.idxOf? l).map (· + 1) := by
  rw [List.idxOf?_cons]
  by_cases h : k = l <;> simp [h]
theorem join_some {o : Option AO} : (some o).join = o := by cases o <;> rfl
theorem app_es {p z b : Nat} {x : List AV} {xs : List (List AV)} : aapp A p z b .es (x :: xs) = atO A[p]? (if (x :: xs).length * b ≤ 140737488355328 then some (.sl p z 0 (x :: xs).length false, A.set p (some (.arr (x :: xs)))) else none) := by
  unfold aapp atO; rfl
theorem app_es0 {p z b : Nat} : aapp A p z b .es [] = some (.es, A) := rfl
/-- The old place is given up. -/
def appF (A : AHeap) (l p z b lo n : Nat) (xs : List (List AV)) (o o' : Option (Option AO)) : Option (AV × AHeap) :=
  match o with
  | some (some (.arr es)) => atO o' (if lo + n ≤ es.length ∧ (n + xs.length) * b ≤ 140737488355328 then some (.sl p z 0 (n + xs.length) false, (A.set l (some .dead)).set p (some (.arr ((es.drop lo).take n ++ xs)))) else none)
  | _ => none
theorem appF_some {l p z b lo n : Nat} {xs es : List (List AV)} : appF A l p z b lo n xs (some (some (.arr es))) (some none) = (if lo + n ≤ es.length ∧ (n + xs.length) * b ≤ 140737488355328 then some (.sl p z 0 (n + xs.length) false, (A.set l (some .dead)).set p (some (.arr ((es.drop lo).take n ++ xs)))) else none) := rfl
theorem appF_full {l p z b n : Nat} {xs es : List (List AV)} (h : es.length = n) : appF A l p z b 0 n xs (some (some (.arr es))) (some none) = (if (n + xs.length) * b ≤ 140737488355328 then some (.sl p z 0 (n + xs.length) false, (A.set l (some .dead)).set p (some (.arr (es ++ xs)))) else none) := by
  subst h; rw [appF_some]; simp
theorem app_slF {l p z b lo n : Nat} {xs : List (List AV)} : aapp A p z b (.sl l z lo n false) xs = appF A l p z b lo n xs A[l]? A[p]? := by
  unfold aapp appF
  simp only []
  cases A[l]? with
  | none => rfl
  | some o => cases o with
    | none => rfl
    | some o => cases o <;> first | rfl | (cases A[p]? with
      | none => rfl
      | some q => cases q <;> simp [atO])
/-- The old place stays. -/
def appT (A : AHeap) (l p z b lo n : Nat) (x : List AV) (xs : List (List AV)) (o o' : Option (Option AO)) : Option (AV × AHeap) :=
  match o with
  | some (some (.arr es)) => atO o' (if lo + n ≤ es.length ∧ (n + (x :: xs).length) * b ≤ 140737488355328 then some (.sl p z 0 (n + (x :: xs).length) false, A.set p (some (.arr ((es.drop lo).take n ++ x :: xs)))) else none)
  | _ => none
theorem appT_some {l p z b lo n : Nat} {x : List AV} {xs es : List (List AV)} : appT A l p z b lo n x xs (some (some (.arr es))) (some none) = (if lo + n ≤ es.length ∧ (n + (x :: xs).length) * b ≤ 140737488355328 then some (.sl p z 0 (n + (x :: xs).length) false, A.set p (some (.arr ((es.drop lo).take n ++ x :: xs)))) else none) := rfl
theorem app_slT {l p z b lo n : Nat} {x : List AV} {xs : List (List AV)} : aapp A p z b (.sl l z lo n true) (x :: xs) = appT A l p z b lo n x xs A[l]? A[p]? := by
  unfold aapp appT
  simp only []
  cases A[l]? with
  | none => rfl
  | some o => cases o with
    | none => rfl
    | some o => cases o <;> first | rfl | (cases A[p]? with
      | none => rfl
      | some q => cases q <;> simp [atO])
theorem app_slT0 {l p z b lo n : Nat} : aapp A p z b (.sl l z lo n true) [] = appF A l p z b lo n [] A[l]? A[p]? := by
  unfold aapp appF
  simp only []
  cases A[l]? with
  | none => rfl
  | some o => cases o with
    | none => rfl
    | some o => cases o <;> first | rfl | (cases A[p]? with
      | none => rfl
      | some q => cases q <;> simp [atO])

def rvO (v : AV) (o : Option (List AV)) : Option (List AV) := match o with | some vs => some (v :: vs) | none => none
theorem rvO_some {v : AV} {vs : List AV} : rvO v (some vs) = some (v :: vs) := rfl
def rvL (v : Option AV) (o : Option (List AV)) : Option (List AV) := match v with | some v => rvO v o | none => none
theorem rvL_some {v : AV} {o : Option (List AV)} : rvL (some v) o = rvO v o := rfl
theorem rvs_nil : rvs ρ A [] = some [] := rfl
theorem rvs_t {i : Nat} {rs : List RV} : rvs ρ A (.t i :: rs) = rvO (ρ.getD i .any) (rvs ρ A rs) := by
  show (match rvs ρ A rs with | some vs => _ | none => none) = _
  unfold rvO; rfl
theorem rvs_cell {i : Nat} {n : Option Nat} {rs : List RV} : rvs ρ A (.cell i n :: rs) = rvL (aload A n (ρ.getD i .any)) (rvs ρ A rs) := by
  simp only [rvs]
  cases aload A n (ρ.getD i .any) <;> cases rvs ρ A rs <;> rfl
theorem rtup_1 {v : AV} : rtup [v] = v := rfl
theorem rtup_0 : rtup [] = .tup [] := rfl
theorem rtup_2 {a b : AV} {vs : List AV} : rtup (a :: b :: vs) = .tup (a :: b :: vs) := rfl
theorem more_eq {m : Nat} : A.more m = A ++ List.replicate m none := rfl
theorem waits_eq {ms : List Nat} {i j : Nat} : waits ms i j = decide ((ms.getD j 0) / 2 ^ i % 2 = 1) := by unfold waits; rw [Nat.testBit_eq_decide_div_mod_eq]
end

/-! ### Guarded operations that need no cases -/
section
variable {P : Program} {p0 n0 : Nat} {ρ : List AV} {A : AHeap} {K : List AV → AHeap → Prop} {s : Nat} {pre : List Nat} {g : Option (Nat × Bool)}
/-- v, if c; else what an operation that was not wanted leaves. -/
def selV (c : Bool) (v : AV) : AV := bif c then v else .tup []
theorem selV_t {v : AV} : selV true v = v := rfl
theorem selV_f {v : AV} : selV false v = .tup [] := rfl
theorem bne_f {b : Bool} : (b != false) = b := by cases b <;> rfl
theorem bne_t {b : Bool} : (b != true) = !b := by cases b <;> rfl
theorem pick_or {b x : Bool} : pickO (.bool b) (.bool true) (selV (!b) (.bool x)) = some (.bool (b || x)) := by cases b <;> rfl
theorem pick_and {b x : Bool} : pickO (.bool b) (selV b (.bool x)) (.bool false) = some (.bool (b && x)) := by cases b <;> rfl
theorem pick_orN {b x : Bool} : pickO (.bool (!b)) (.bool true) (selV b (.bool x)) = some (.bool (!b || x)) := by cases b <;> rfl
def valO (ρ : List AV) (A : AHeap) (op : IOp) : Option AV := match nstep ρ op with | some v => some v | none => rstep ρ A op
theorem val_awp {op : IOp} {v : AV} {d : Option Nat} (h : valO ρ A op = some v) (hk : K (aput ρ d v) A) : awpOp P p0 ⟨d, op, g, s, pre⟩ ρ A K := by
  have hs : ∀ p, astep ρ A p op = some (v, A) := by
    intro p
    unfold valO at h
    unfold astep
    cases hn : nstep ρ op with
    | some w => rw [hn] at h; cases h; rfl
    | none => rw [hn] at h; rw [show rstep ρ A op = some v from h]
  cases op <;> first | (unfold awpOp; simp only [hs]; exact hk) | (exfalso; unfold valO at h; exact absurd h (by simp [nstep, rstep]))
theorem awpGd_nst {op : IOp} {b : Bool} {v : AV} {d : Option Nat} (hv : b = true → ∃ w, valO ρ A op = some w ∧ w = v) (hk : K (aput ρ d (selV b v)) A) :
    awpGd true (.bool b) (awpOp P p0 ⟨d, op, g, s, pre⟩ ρ A K) (K (aput ρ d (.tup [])) A) := by
  refine ⟨fun h => ?_, fun h => ?_⟩
  · obtain ⟨w, h1, rfl⟩ := hv h
    rw [h] at hk
    exact val_awp h1 hk
  · rw [show b = false from h] at hk; exact hk
theorem awpGd_nsf {op : IOp} {b : Bool} {v : AV} {d : Option Nat} (hv : b = false → ∃ w, valO ρ A op = some w ∧ w = v) (hk : K (aput ρ d (selV (!b) v)) A) :
    awpGd false (.bool b) (awpOp P p0 ⟨d, op, g, s, pre⟩ ρ A K) (K (aput ρ d (.tup [])) A) := by
  refine ⟨fun h => ?_, fun h => ?_⟩
  · obtain ⟨w, h1, rfl⟩ := hv h
    rw [h] at hk
    exact val_awp h1 hk
  · rw [show b = true from h] at hk; exact hk
/-- The guard itself was guarded. -/
theorem awpGd_sel {c x : Bool} {w : Bool} {X Y : Prop} : awpGd w (selV c (.bool x)) X Y = awpGd true (.bool (c && (x == w))) X Y := by
  cases c <;> cases x <;> cases w <;> simp [selV, awpGd]
theorem awpGd_selt {c x : Bool} {X Y : Prop} : awpGd true (selV c (.bool x)) X Y = awpGd true (.bool (c && x)) X Y := by
  cases c <;> cases x <;> simp [selV, awpGd]
theorem awpGd_self {c x : Bool} {X Y : Prop} : awpGd false (selV c (.bool x)) X Y = awpGd true (.bool (c && !x)) X Y := by
  cases c <;> cases x <;> simp [selV, awpGd]
theorem guardO_selt {c x : Bool} {o : Option AV} : guardO true (selV c (.bool x)) o = guardO true (.bool (c && x)) o := by
  cases c <;> cases x <;> simp [selV, guardO]
theorem guardO_self {c x : Bool} {o : Option AV} : guardO false (selV c (.bool x)) o = guardO true (.bool (c && !x)) o := by
  cases c <;> cases x <;> simp [selV, guardO]
theorem guardO_st {b : Bool} {v : AV} : guardO true (.bool b) (some v) = some (selV b v) := by cases b <;> rfl
theorem guardO_sf {b : Bool} {v : AV} : guardO false (.bool b) (some v) = some (selV (!b) v) := by cases b <;> rfl
theorem guardO_sel {c x w : Bool} {o : Option AV} : guardO w (selV c (.bool x)) o = guardO true (.bool (c && (x == w))) o := by
  cases c <;> cases x <;> cases w <;> simp [selV, guardO]
theorem gO_t {b : Bool} {v : AV} {o : Option AV} {F : AV → Prop} (hv : b = true → ∃ w, o = some w ∧ w = v) (hk : F (selV b v)) : orF (guardO true (.bool b) o) F := by
  cases b
  · exact ⟨_, rfl, hk⟩
  · obtain ⟨w, h, rfl⟩ := hv rfl; exact ⟨_, h, hk⟩
theorem gO_f {b : Bool} {v : AV} {o : Option AV} {F : AV → Prop} (hv : b = false → ∃ w, o = some w ∧ w = v) (hk : F (selV (!b) v)) : orF (guardO false (.bool b) o) F := by
  cases b
  · obtain ⟨w, h, rfl⟩ := hv rfl; exact ⟨_, h, hk⟩
  · exact ⟨_, rfl, hk⟩
theorem gO_cases {b w : Bool} {o : Option AV} {F : AV → Prop} (h1 : b = w → orF o F) (h2 : b = !w → F (.tup [])) : orF (guardO w (.bool b) o) F := by
  cases b <;> cases w
  · exact h1 rfl
  · exact ⟨_, rfl, h2 rfl⟩
  · exact ⟨_, rfl, h2 rfl⟩
  · exact h1 rfl
theorem guardO_tt {o : Option AV} : guardO true (.bool true) o = o := rfl
theorem guardO_tf {o : Option AV} : guardO true (.bool false) o = some (.tup []) := rfl
theorem guardO_ft {o : Option AV} : guardO false (.bool true) o = some (.tup []) := rfl
theorem guardO_ff {o : Option AV} : guardO false (.bool false) o = o := rfl
theorem chkA_f {b c : Bool} {o : Option AV} {v : AV} {R : Prop} (h0 : c = !b) (h : b = false → o = some v) (hr : R) : guardO false (.bool b) o = some (selV c v) ∧ R := by
  subst h0
  refine ⟨?_, hr⟩
  cases b
  · exact h rfl
  · rfl
theorem chkA_t {b c : Bool} {o : Option AV} {v : AV} {R : Prop} (h0 : c = b) (h : b = true → o = some v) (hr : R) : guardO true (.bool b) o = some (selV c v) ∧ R := by
  subst h0
  refine ⟨?_, hr⟩
  cases c
  · rfl
  · exact h rfl
theorem awpGd_pct {f : FuncId} {args : List AV} {v : AV} {b : Bool} {fo : Opd} {xs : List Opd} {d : Option Nat} (h : PCall P f args v) (ha : b = true → fo.get ρ = .fn f [] [] ∧ xs.map (·.get ρ) = args) (h1 : AV.flatL args = true) (h2 : AV.flat v = true)
    (hk : K (aput ρ d (selV b v)) A) : awpGd true (.bool b) (awpOp P p0 ⟨d, .call fo xs, g, s, pre⟩ ρ A K) (K (aput ρ d (.tup [])) A) := by
  refine ⟨fun hb => ?_, fun hb => ?_⟩
  · obtain ⟨e1, e2⟩ := ha hb
    rw [hb] at hk
    show ACallV P (fo.get ρ) (xs.map (·.get ρ)) A _
    rw [e1, e2]
    show ACall P f ([] ++ args ++ []) A _
    rw [List.nil_append, List.append_nil]
    exact h.use h1 h2 hk
  · rw [show b = false from hb] at hk; exact hk
theorem awpGd_pcf {f : FuncId} {args : List AV} {v : AV} {b : Bool} {fo : Opd} {xs : List Opd} {d : Option Nat} (h : PCall P f args v) (ha : b = false → fo.get ρ = .fn f [] [] ∧ xs.map (·.get ρ) = args) (h1 : AV.flatL args = true) (h2 : AV.flat v = true)
    (hk : K (aput ρ d (selV (!b) v)) A) : awpGd false (.bool b) (awpOp P p0 ⟨d, .call fo xs, g, s, pre⟩ ρ A K) (K (aput ρ d (.tup [])) A) := by
  refine ⟨fun hb => ?_, fun hb => ?_⟩
  · obtain ⟨e1, e2⟩ := ha hb
    rw [hb] at hk
    show ACallV P (fo.get ρ) (xs.map (·.get ρ)) A _
    rw [e1, e2]
    show ACall P f ([] ++ args ++ []) A _
    rw [List.nil_append, List.append_nil]
    exact h.use h1 h2 hk
  · rw [show b = true from hb] at hk; exact hk
theorem val_mv {x : Opd} : valO ρ A (.mv x) = some (x.get ρ) := rfl
theorem val_pick {c x y : Opd} : valO ρ A (.pick c x y) = pickO (c.get ρ) (x.get ρ) (y.get ρ) := by
  have : nstep ρ (.pick c x y) = pickO (c.get ρ) (x.get ρ) (y.get ρ) := rfl
  unfold valO; rw [this]; cases pickO (c.get ρ) (x.get ρ) (y.get ρ) <;> rfl
theorem val_bin {o : BinOp} {x y : Opd} : valO ρ A (.bin o x y) = AV.bin o (x.get ρ) (y.get ρ) := by
  have : nstep ρ (.bin o x y) = AV.bin o (x.get ρ) (y.get ρ) := rfl
  unfold valO; rw [this]; cases AV.bin o (x.get ρ) (y.get ρ) <;> rfl
theorem val_un {o : UnOp} {x : Opd} : valO ρ A (.un o x) = AV.unop o (x.get ρ) := by
  have : nstep ρ (.un o x) = AV.unop o (x.get ρ) := rfl
  unfold valO; rw [this]; cases AV.unop o (x.get ρ) <;> rfl
theorem val_eqv {n : Bool} {e : EK} {x y : Opd} : valO ρ A (.eqv n e x y) = (AV.eqv e (x.get ρ) (y.get ρ)).map fun r => .bool (r != n) := by
  unfold valO; simp only [nstep]; cases AV.eqv e (x.get ρ) (y.get ρ) <;> rfl
theorem val_cvi {k : IntKind} {x : Opd} : valO ρ A (.cvi k x) = cviO k (x.get ρ) := by
  have : nstep ρ (.cvi k x) = cviO k (x.get ρ) := rfl
  unfold valO; rw [this]; cases cviO k (x.get ρ) <;> rfl
theorem val_cvs {x : Opd} : valO ρ A (.cvs x) = cvsO (x.get ρ) := by
  have : nstep ρ (.cvs x) = cvsO (x.get ρ) := rfl
  unfold valO; rw [this]; cases cvsO (x.get ρ) <;> rfl
theorem val_faddr {o : Nat} {x : Opd} : valO ρ A (.faddr o x) = AV.faddr o (x.get ρ) := by
  have : nstep ρ (.faddr o x) = AV.faddr o (x.get ρ) := rfl
  unfold valO; rw [this]; cases AV.faddr o (x.get ρ) <;> rfl
theorem val_fld {o : Nat} {n : Option Nat} {x : Opd} : valO ρ A (.fld o n x) = AV.fld o n (x.get ρ) := by
  have : nstep ρ (.fld o n x) = AV.fld o n (x.get ρ) := rfl
  unfold valO; rw [this]; cases AV.fld o n (x.get ρ) <;> rfl
theorem val_iaddr {z : Nat} {x i : Opd} : valO ρ A (.iaddr z x i) = AV.iaddr z (x.get ρ) (i.get ρ) := by
  have : nstep ρ (.iaddr z x i) = AV.iaddr z (x.get ρ) (i.get ρ) := rfl
  unfold valO; rw [this]; cases AV.iaddr z (x.get ρ) (i.get ρ) <;> rfl
theorem val_iaddra {l z : Nat} {x i : Opd} : valO ρ A (.iaddra l z x i) = AV.iaddra l z (x.get ρ) (i.get ρ) := by
  have : nstep ρ (.iaddra l z x i) = AV.iaddra l z (x.get ρ) (i.get ρ) := rfl
  unfold valO; rw [this]; cases AV.iaddra l z (x.get ρ) (i.get ρ) <;> rfl
theorem val_idxs {x i : Opd} : valO ρ A (.idxs x i) = AV.idxs (x.get ρ) (i.get ρ) := by
  have : nstep ρ (.idxs x i) = AV.idxs (x.get ρ) (i.get ρ) := rfl
  unfold valO; rw [this]; cases AV.idxs (x.get ρ) (i.get ρ) <;> rfl
theorem val_idxa {l z : Nat} {n : Option Nat} {x i : Opd} : valO ρ A (.idxa l z n x i) = AV.idxa l z n (x.get ρ) (i.get ρ) := by
  have : nstep ρ (.idxa l z n x i) = AV.idxa l z n (x.get ρ) (i.get ρ) := rfl
  unfold valO; rw [this]; cases AV.idxa l z n (x.get ρ) (i.get ρ) <;> rfl
theorem val_ext {i : Nat} {x : Opd} : valO ρ A (.ext i x) = extO i (x.get ρ) := by
  have : nstep ρ (.ext i x) = extO i (x.get ρ) := rfl
  unfold valO; rw [this]; cases extO i (x.get ρ) <;> rfl
theorem val_lenst {x : Opd} : valO ρ A (.lenst x) = AV.lenst (x.get ρ) := by
  have : nstep ρ (.lenst x) = AV.lenst (x.get ρ) := rfl
  unfold valO; rw [this]; cases AV.lenst (x.get ρ) <;> rfl
theorem val_lens {x : Opd} : valO ρ A (.lens x) = AV.lens (x.get ρ) := by
  have : nstep ρ (.lens x) = AV.lens (x.get ρ) := rfl
  unfold valO; rw [this]; cases AV.lens (x.get ρ) <;> rfl
theorem val_lenc {n : Nat} : valO ρ A (.lenc n) = some (.int .i64 n) := rfl
theorem val_mn {xs : List Opd} : valO ρ A (.mn xs) = mnO (xs.map (·.get ρ)) := by
  have : nstep ρ (.mn xs) = mnO (xs.map (·.get ρ)) := rfl
  unfold valO; rw [this]; cases mnO (xs.map (·.get ρ)) <;> rfl
theorem val_mx {xs : List Opd} : valO ρ A (.mx xs) = mxO (xs.map (·.get ρ)) := by
  have : nstep ρ (.mx xs) = mxO (xs.map (·.get ρ)) := rfl
  unfold valO; rw [this]; cases mxO (xs.map (·.get ρ)) <;> rfl
theorem val_nilck {x : Opd} : valO ρ A (.nilck x) = nilckO (x.get ρ) := by
  have : nstep ρ (.nilck x) = nilckO (x.get ρ) := rfl
  unfold valO; rw [this]; cases nilckO (x.get ρ) <;> rfl
theorem val_load {n : Option Nat} {x : Opd} : valO ρ A (.load n x) = aload A n (x.get ρ) := rfl
theorem val_lookup {lk : LK} {z : AV} {ok : Bool} {m k : Opd} : valO ρ A (.lookup lk z ok m k) = alookup A lk z ok (m.get ρ) (k.get ρ) := rfl
theorem val_lenm {x : Opd} : valO ρ A (.lenm x) = alenm A (x.get ρ) := rfl
theorem val_mkif {t : TypeId} {x : Opd} : valO ρ A (.mkif t x) = some (.ifc t (x.get ρ)) := rfl
theorem val_mkfn {f : FuncId} {a b : List Opd} : valO ρ A (.mkfn f a b) = some (.fn f (a.map (·.get ρ)) (b.map (·.get ρ))) := rfl
theorem val_build {z : List AV} {ps : List (Nat × Nat × Opd)} : valO ρ A (.build z ps) = (bfill z (bparts ρ ps)).map .agg := by
  unfold valO; simp only [nstep, bparts_eq]; cases bfill z (bparts ρ ps) <;> rfl
theorem val_slcs {x : Opd} {lo hi : Option Opd} : valO ρ A (.slcs x lo hi) = AV.slcs (x.get ρ) (lo.map (·.get ρ)) (hi.map (·.get ρ)) := by
  have : nstep ρ (.slcs x lo hi) = AV.slcs (x.get ρ) (lo.map (·.get ρ)) (hi.map (·.get ρ)) := rfl
  unfold valO; rw [this]; cases AV.slcs (x.get ρ) (lo.map (·.get ρ)) (hi.map (·.get ρ)) <;> rfl
theorem val_slc {z : Nat} {x : Opd} {lo hi m : Option Opd} : valO ρ A (.slc z x lo hi m) = AV.slc z (x.get ρ) (lo.map (·.get ρ)) (hi.map (·.get ρ)) (m.map (·.get ρ)) := by
  have : nstep ρ (.slc z x lo hi m) = AV.slc z (x.get ρ) (lo.map (·.get ρ)) (hi.map (·.get ρ)) (m.map (·.get ρ)) := rfl
  unfold valO; rw [this]; cases AV.slc z (x.get ρ) (lo.map (·.get ρ)) (hi.map (·.get ρ)) (m.map (·.get ρ)) <;> rfl
end
attribute [go_sem ↓] aw_skip aw_region aw_regionD retP_normal cntQ_exit cntQ_goto cntQ_ret cntQ_normal retP_ret aw_seq aw_cond aw_block aw_exit aw_ret aw_label aw_goto seqQ_normal seqQ_exit seqQ_goto seqQ_ret blockQ_normal blockQ_exit blockQ_goto blockQ_ret retQ_normal retQ_ret awpG_none awpG_some wp_mv wx_build wp_bin wp_eqv wp_un wp_mkfn wp_slcs wp_slc wp_faddr wp_fld wp_iaddr wp_iaddra wp_idxs wp_idxa wp_lenst wp_lens wp_lenc wp_mkif wp_load wp_lookup wp_lenm wp_alloc wp_box wp_bslice wp_mkmap wp_mksl wp_store wp_mset wp_del wp_clr wp_clrs wp_app wp_cpy wp_call callV_fn wx_pick wx_nilck wx_cvi wx_cvs wx_ext wx_mn wx_mx
attribute [go_sem] awpOrd_nil awpOrd_cons guardO_tup yld_load yld_loadG yld_lookup yld_lookupG yld_lenm yld_lenmG chks_nil chks_cons awpIf_t awpIf_f awpOps_nil awpOps_cons awpGd_tt awpGd_tf awpGd_ft awpGd_ff awpGd_tup orF_some orF_none orF_iteN orF_map get_t get_c aput_some aput_none mask_nil mask_cons pickO_t pickO_f bfill_nil bfill_cons nilckO_ptr nilckO_eptr nilckO_pp nilckO_fn cviO_int cvsO_str extO_tup mnO_2 mxO_2 bin_int bin_str binI_add binI_sub binI_mul binI_quo binI_rem binI_and binI_or binI_xor binI_andNot binI_shl binI_shr binI_eql binI_neq binI_lss binI_leq binI_gtr binI_geq binS_add binS_eql binS_neq eqv_bool eqv_ptr eqv_slice eqv_map eqv_func eqv_struct nilP_nilp nilP_ptr nilP_eptr nilP_pp nilS_nils nilS_sl nilS_es nilM_nilm nilM_mp nilF_nilf nilF_fn eqNil_tt eqNil_tf eqNil_ft eqL_nil eqL_int eqL_bool eqL_str omap_some omap_none un_neg un_xor un_not faddr_ptr faddr_eptr faddr_pp fld_one fld_n iaddr_sl iaddr_ps iaddra_int idxs_str idxa_one idxa_n lenst_str lens_sl lens_es lens_nils lens_ps cells_agg cells_any cells_int cells_bool cells_str cells_ptr cells_eptr cells_sl cells_nils cells_nilp cells_nilf cells_nilm cells_nili cells_es cells_mp cells_fn cellsO_some rowO_some arrO_some rdN_ptr rdN_eptr rdN_pp load1_some loadN_some aload_one aload_n load1_ite loadN_ite wrC_some wrR_some wrE_some wrN_ptr wrN_eptr wrt_nil wrt_cons one_int one_bool one_str one_ptr one_eptr one_sl one_nils one_nilp one_nilf one_nilm one_nili one_es one_mp one_fn atO_some anew_eq abslice_eq amksl_eq elemsOf_sl elemsOf_nils elemsOf_es elemsOf_ps rowsOk_nil rowsOk_cons app_nils app_nils0 app_es app_es0 app_slF appT_some app_slT app_slT0 rvO_some rvL_some rvs_nil rvs_t rvs_cell rtup_1 rtup_0 rtup_2 more_eq waits_eq ev_eq bparts_nil bparts_cons ordS_some ordC_read ordC_make ordC_eff ordP_mv ordP_pick ordP_build ordP_nilck ordP_bin ordP_eqv ordP_un ordP_cvi ordP_cvs ordP_mkfn ordP_slcs ordP_slc ordP_faddr ordP_fld ordP_iaddr ordP_iaddra ordP_idxs ordP_idxa ordP_ext ordP_lenst ordP_lens ordP_lenc ordP_mn ordP_mx ordP_mkif cls_mv cls_pick cls_alloc cls_box cls_build cls_bslice cls_load cls_store cls_nilck cls_bin cls_eqv cls_un cls_cvi cls_cvs cls_mkfn cls_mkmap cls_mksl cls_slcs cls_slc cls_faddr cls_fld cls_iaddr cls_iaddra cls_idxs cls_idxa cls_lookup cls_mset cls_ext cls_lenst cls_lens cls_lenc cls_lenm cls_app cls_cpy cls_mn cls_mx cls_del cls_clr cls_clrs cls_mkif cls_call bparts_eq app_nilsR ren_int ren_bool ren_str ren_nils ren_nilp ren_nilm ren_nilf ren_nili ren_es ren_any renTo_some renTo_none ren_ptr ren_eptr ren_sl ren_mp ren_fn ren_agg ren_tup aoren_cells aoren_dead aoren_nil rn_place putAll_nil putAll_cons foldA_eq foldR_eq foldV_eq fnew_eq idxTo_some idxTo_none idxOf_nil idxOf_cons join_some
attribute [go_sem] Int.cast_ofNat_Int List.foldl_cons List.foldl_nil List.set_cons_zero List.set_cons_succ List.getD_cons_zero List.getD_cons_succ List.getElem?_cons_zero List.getElem?_cons_succ List.replicate_succ List.replicate_zero List.append_nil List.cons_append List.nil_append List.length_cons List.length_nil List.map_cons List.map_nil List.drop_zero List.drop_succ_cons List.take_succ_cons List.take_zero List.all_cons List.all_nil Nat.zero_add Nat.add_zero Bool.and_true Bool.true_and Bool.not_true Bool.not_false true_and and_true cond_true cond_false true_implies false_implies Bool.true_eq_false Bool.false_eq_true false_and and_false AV.bool.injEq AV.int.injEq decide_true decide_false Option.some.injEq exists_eq_left' true_or or_true or_false false_or implies_true beq_self_eq_true IntWalk.i64_in IntWalk.u8_in IntWalk.u32_in IntWalk.u64_in not_true_eq_false not_false_eq_true
attribute [go_sem] selV_t selV_f pick_or pick_and pick_orN awpGd_selt awpGd_self guardO_st guardO_sf guardO_selt guardO_self guardO_tt guardO_tf guardO_ft guardO_ff val_mv val_pick val_bin val_un val_eqv val_cvi val_cvs val_faddr val_fld val_iaddr val_iaddra val_idxs val_idxa val_ext val_lenst val_lens val_lenc val_mn val_mx val_nilck val_load val_lookup val_lenm val_mkif val_mkfn val_build val_slcs val_slc Bool.not_not
attribute [go_sem high] elems_full appF_full
attribute [go_sem] bne_f bne_t

attribute [go_sem] Nat.reduceAdd Nat.reduceSub Nat.reduceLeDiff Nat.reduceLT reduceIte reduceCtorEq Nat.reducePow Nat.reduceDiv Nat.reduceMod Nat.reduceEqDiff
theorem dis {p : Prop} (h : p := by first | omega | with_unfolding_all rfl | (simp only [rows_length, List.length_append, List.length_cons, List.length_nil, List.length_replicate, List.length_set, Nat.zero_add]; done) | fail) : p := h
class Nrm (p : Prop) (q : outParam Prop) : Prop where
  h : p → q
theorem nrm {p q : Prop} [k : Nrm p q] (h : p) : q := k.h h
instance (priority := low) {p : Prop} : Nrm p p := ⟨id⟩
instance {p : Prop} [Decidable p] : Nrm (decide p = true) p := ⟨of_decide_eq_true⟩
instance {p : Prop} [Decidable p] : Nrm (decide p = false) (¬ p) := ⟨of_decide_eq_false⟩
instance {b : Bool} {q : Prop} [k : Nrm (b = false) q] : Nrm ((!b) = true) q := ⟨fun h => k.h (by simpa using h)⟩
instance {b : Bool} {q : Prop} [k : Nrm (b = true) q] : Nrm ((!b) = false) q := ⟨fun h => k.h (by simpa using h)⟩
end Go.SB
