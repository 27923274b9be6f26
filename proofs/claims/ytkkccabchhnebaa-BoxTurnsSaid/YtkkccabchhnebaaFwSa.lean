/- Framework, part Sa: the weakest precondition in a form that 'simp' steps through. Conditions: none. -/
import Derived.Test.YtkkccabchhnebaaFwZ
import Derived.IntWalk
set_option linter.unusedVariables false
set_option linter.unusedSimpArgs false
namespace Go.SB
universe u
section
variable {P : Program} {p0 n0 : Nat} {ρ : List AV} {A : AHeap} {K : List AV → AHeap → Prop} {Q : IExit → List AV → AHeap → Prop} {d : Option Nat} {s : Nat} {pre : List Nat}

/-- The second argument, 'depending' on the first: 'simp' leaves the first alone. -/
abbrev Dep {β : Sort u} (_ : β) (α : Type) : Type := α

/-- Marks what is to be reckoned first. -/
def ev {α : Type} (x : α) : α := x
theorem ev_eq {α : Type} {x : α} : ev x = x := rfl

/-- The value is there, and F holds of it. -/
def orF {α : Type} (o : Option α) (F : α → Prop) (_ : Dep F Unit := ()) : Prop := ∃ v, o = some v ∧ F v

theorem orF_some {α : Type} {v : α} {F : α → Prop} : orF (some v) F = F v := by simp [orF]
theorem orF_none {α : Type} {F : α → Prop} : orF none F = False := by simp [orF]
theorem orF_ite {α : Type} {c : Prop} [Decidable c] {a b : Option α} {F : α → Prop} : orF (if c then a else b) F = ((c → orF a F) ∧ (¬ c → orF b F)) := by
  by_cases h : c <;> simp [h]
theorem orF_iteN {α : Type} {c : Prop} [Decidable c] {a : α} {F : α → Prop} : orF (if c then some a else none) F = (c ∧ F a) := by
  by_cases h : c <;> simp [h, orF]
theorem orF_map {α β : Type} {o : Option α} {f : α → β} {F : β → Prop} : orF (o.map f) F = orF o fun a => F (f a) := by
  cases o <;> simp [orF]
theorem orF_def {α : Type} {o : Option α} {F : α → Prop} : orF o F = (match o with | some v => F v | none => False) := by
  cases o <;> simp [orF]

def OPS (P : Program) (p0 : Nat) (os : List IOper) (ρ : List AV) (A : AHeap) (K : List AV → AHeap → Prop) (_ : Dep K Unit := ()) : Prop := awpOps P p0 os ρ A K
theorem awpOps_nil : OPS P p0 [] ρ A K = K ρ A := rfl
theorem awpOps_cons {o : IOper} {os : List IOper} : OPS P p0 (o :: os) ρ A K = awpG P p0 o ρ A fun ρ' A' => OPS P p0 os ρ' A' K := rfl
theorem awpG_none {op : IOp} : awpG P p0 ⟨d, op, none, s, pre⟩ ρ A K = awpOp P p0 ⟨d, op, none, s, pre⟩ ρ A K := rfl
/-- A guard. -/
def awpGd (want : Bool) (g : AV) (now skip : Prop) (_ : Dep now Unit := ()) (_ : Dep skip Unit := ()) : Prop :=
  match g with
  | .bool b => (b = want → now) ∧ (b = !want → skip)
  | .tup _ => skip
  | _ => False
theorem awpG_some {op : IOp} {t : Nat} {want : Bool} : awpG P p0 ⟨d, op, some (t, want), s, pre⟩ ρ A K = awpGd want (ev (ρ.getD t .any)) (awpOp P p0 ⟨d, op, some (t, want), s, pre⟩ ρ A K) (K (aput ρ d (.tup [])) A) := by
  simp only [ev_eq]
  cases h : ρ.getD t .any <;> simp only [awpG, awpGd, h]
theorem awpGd_bool {want b : Bool} {x y : Prop} : awpGd want (.bool b) x y = ((b = want → x) ∧ (b = !want → y)) := rfl
theorem awpGd_cases {want b : Bool} {x y : Prop} (h1 : b = want → x) (h2 : b = !want → y) : awpGd want (.bool b) x y := ⟨h1, h2⟩
theorem awpGd_tt {x y : Prop} : awpGd true (.bool true) x y = x := by simp [awpGd]
theorem awpGd_tf {x y : Prop} : awpGd true (.bool false) x y = y := by simp [awpGd]
theorem awpGd_ft {x y : Prop} : awpGd false (.bool true) x y = y := by simp [awpGd]
theorem awpGd_ff {x y : Prop} : awpGd false (.bool false) x y = x := by simp [awpGd]
theorem awpGd_tup {want : Bool} {vs : List AV} {x y : Prop} : awpGd want (.tup vs) x y = y := rfl

variable {g : Option (Nat × Bool)}

theorem astep_n {io : IOp} (h1 : ∀ ρ A, rstep ρ A io = none) (h2 : ∀ ρ A p, wstep ρ A p io = none) {p : Nat} {F : AV → AHeap → Prop} :
    (match astep ρ A p io with | some (v, A') => F v A' | none => False) = orF (nstep ρ io) fun v => F v A := by
  unfold astep
  cases h : nstep ρ io with
  | some v => simp [orF]
  | none => simp [orF, h1, h2]
theorem astep_r {io : IOp} (h1 : ∀ ρ, nstep ρ io = none) (h2 : ∀ ρ A p, wstep ρ A p io = none) {p : Nat} {F : AV → AHeap → Prop} :
    (match astep ρ A p io with | some (v, A') => F v A' | none => False) = orF (rstep ρ A io) fun v => F v A := by
  unfold astep
  rw [h1]
  cases h : rstep ρ A io with
  | some v => simp [orF]
  | none => simp [orF, h2]
theorem astep_w {io : IOp} (h1 : ∀ ρ, nstep ρ io = none) (h2 : ∀ ρ A, rstep ρ A io = none) {p : Nat} {F : AV → AHeap → Prop} :
    (match astep ρ A p io with | some (v, A') => F v A' | none => False) = orF (wstep ρ A p io) fun x => F x.1 x.2 := by
  unfold astep
  rw [h1, h2]
  cases h : wstep ρ A p io with
  | some v => simp [orF]
  | none => simp [orF]

theorem wp_mv {x : Opd} : awpOp P p0 ⟨d, .mv x, g, s, pre⟩ ρ A K = K (aput ρ d (x.get ρ)) A := rfl
theorem wp_pick {c x y : Opd} : awpOp P p0 ⟨d, .pick c x y, g, s, pre⟩ ρ A K = orF (ev (match c.get ρ with | .bool c => some (bif c then x.get ρ else y.get ρ) | _ => none)) fun v => K (aput ρ d v) A :=
  (astep_n (io := .pick c x y) (fun _ _ => rfl) (fun _ _ _ => rfl) (F := fun v A' => K (aput ρ d v) A')).trans rfl
theorem wp_build {z : List AV} {ps : List (Nat × Nat × Opd)} : awpOp P p0 ⟨d, .build z ps, g, s, pre⟩ ρ A K = orF (ev (bfill z (ps.map fun (o, s, x) => (o, s, x.get ρ)))) fun cs => K (aput ρ d (.agg cs)) A := by
  simp only [ev_eq]
  refine (astep_n (io := .build z ps) (fun _ _ => rfl) (fun _ _ _ => rfl) (F := fun v A' => K (aput ρ d v) A')).trans ?_
  simp only [nstep]
  cases bfill z (ps.map fun (o, s, x) => (o, s, x.get ρ)) <;> simp [orF]
theorem wp_nilck {x : Opd} : awpOp P p0 ⟨d, .nilck x, g, s, pre⟩ ρ A K = orF (ev (nstep ρ (.nilck x))) fun v => K (aput ρ d v) A := astep_n (F := fun v A' => K (aput ρ d v) A') (fun _ _ => rfl) (fun _ _ _ => rfl)
theorem wp_bin {o : BinOp} {x y : Opd} : awpOp P p0 ⟨d, .bin o x y, g, s, pre⟩ ρ A K = orF (ev (AV.bin o (x.get ρ) (y.get ρ))) fun v => K (aput ρ d v) A := (astep_n (io := .bin o x y) (F := fun v A' => K (aput ρ d v) A') (fun _ _ => rfl) (fun _ _ _ => rfl)).trans rfl
theorem wp_eqv {n : Bool} {e : EK} {x y : Opd} : awpOp P p0 ⟨d, .eqv n e x y, g, s, pre⟩ ρ A K = orF (ev (AV.eqv e (x.get ρ) (y.get ρ))) fun r => K (aput ρ d (.bool (r != n))) A := by
  simp only [ev_eq]
  refine (astep_n (io := .eqv n e x y) (fun _ _ => rfl) (fun _ _ _ => rfl) (F := fun v A' => K (aput ρ d v) A')).trans ?_
  simp only [nstep]
  cases AV.eqv e (x.get ρ) (y.get ρ) <;> simp [orF]
theorem wp_un {o : UnOp} {x : Opd} : awpOp P p0 ⟨d, .un o x, g, s, pre⟩ ρ A K = orF (ev (AV.unop o (x.get ρ))) fun v => K (aput ρ d v) A := (astep_n (io := .un o x) (F := fun v A' => K (aput ρ d v) A') (fun _ _ => rfl) (fun _ _ _ => rfl)).trans rfl
theorem wp_cvi {k : IntKind} {x : Opd} : awpOp P p0 ⟨d, .cvi k x, g, s, pre⟩ ρ A K = orF (ev (nstep ρ (.cvi k x))) fun v => K (aput ρ d v) A := (astep_n (io := .cvi k x) (F := fun v A' => K (aput ρ d v) A') (fun _ _ => rfl) (fun _ _ _ => rfl)).trans rfl
theorem wp_cvs {x : Opd} : awpOp P p0 ⟨d, .cvs x, g, s, pre⟩ ρ A K = orF (ev (nstep ρ (.cvs x))) fun v => K (aput ρ d v) A := (astep_n (io := .cvs x) (F := fun v A' => K (aput ρ d v) A') (fun _ _ => rfl) (fun _ _ _ => rfl)).trans rfl
theorem wp_mkfn {f : FuncId} {a b : List Opd} : awpOp P p0 ⟨d, .mkfn f a b, g, s, pre⟩ ρ A K = K (aput ρ d (.fn f (a.map (·.get ρ)) (b.map (·.get ρ)))) A := rfl
theorem wp_slcs {x : Opd} {lo hi : Option Opd} : awpOp P p0 ⟨d, .slcs x lo hi, g, s, pre⟩ ρ A K = orF (ev (AV.slcs (x.get ρ) (lo.map (·.get ρ)) (hi.map (·.get ρ)))) fun v => K (aput ρ d v) A := (astep_n (io := .slcs x lo hi) (F := fun v A' => K (aput ρ d v) A') (fun _ _ => rfl) (fun _ _ _ => rfl)).trans rfl
theorem wp_slc {sz : Nat} {x : Opd} {lo hi mx : Option Opd} : awpOp P p0 ⟨d, .slc sz x lo hi mx, g, s, pre⟩ ρ A K = orF (ev (AV.slc sz (x.get ρ) (lo.map (·.get ρ)) (hi.map (·.get ρ)) (mx.map (·.get ρ)))) fun v => K (aput ρ d v) A := (astep_n (io := .slc sz x lo hi mx) (F := fun v A' => K (aput ρ d v) A') (fun _ _ => rfl) (fun _ _ _ => rfl)).trans rfl
theorem wp_faddr {o : Nat} {x : Opd} : awpOp P p0 ⟨d, .faddr o x, g, s, pre⟩ ρ A K = orF (ev (AV.faddr o (x.get ρ))) fun v => K (aput ρ d v) A := (astep_n (io := .faddr o x) (F := fun v A' => K (aput ρ d v) A') (fun _ _ => rfl) (fun _ _ _ => rfl)).trans rfl
theorem wp_fld {o : Nat} {n : Option Nat} {x : Opd} : awpOp P p0 ⟨d, .fld o n x, g, s, pre⟩ ρ A K = orF (ev (AV.fld o n (x.get ρ))) fun v => K (aput ρ d v) A := (astep_n (io := .fld o n x) (F := fun v A' => K (aput ρ d v) A') (fun _ _ => rfl) (fun _ _ _ => rfl)).trans rfl
theorem wp_iaddr {sz : Nat} {x i : Opd} : awpOp P p0 ⟨d, .iaddr sz x i, g, s, pre⟩ ρ A K = orF (ev (AV.iaddr sz (x.get ρ) (i.get ρ))) fun v => K (aput ρ d v) A := (astep_n (io := .iaddr sz x i) (F := fun v A' => K (aput ρ d v) A') (fun _ _ => rfl) (fun _ _ _ => rfl)).trans rfl
theorem wp_iaddra {l sz : Nat} {x i : Opd} : awpOp P p0 ⟨d, .iaddra l sz x i, g, s, pre⟩ ρ A K = orF (ev (AV.iaddra l sz (x.get ρ) (i.get ρ))) fun v => K (aput ρ d v) A := (astep_n (io := .iaddra l sz x i) (F := fun v A' => K (aput ρ d v) A') (fun _ _ => rfl) (fun _ _ _ => rfl)).trans rfl
theorem wp_idxs {x i : Opd} : awpOp P p0 ⟨d, .idxs x i, g, s, pre⟩ ρ A K = orF (ev (AV.idxs (x.get ρ) (i.get ρ))) fun v => K (aput ρ d v) A := (astep_n (io := .idxs x i) (F := fun v A' => K (aput ρ d v) A') (fun _ _ => rfl) (fun _ _ _ => rfl)).trans rfl
theorem wp_idxa {l sz : Nat} {n : Option Nat} {x i : Opd} : awpOp P p0 ⟨d, .idxa l sz n x i, g, s, pre⟩ ρ A K = orF (ev (AV.idxa l sz n (x.get ρ) (i.get ρ))) fun v => K (aput ρ d v) A := (astep_n (io := .idxa l sz n x i) (F := fun v A' => K (aput ρ d v) A') (fun _ _ => rfl) (fun _ _ _ => rfl)).trans rfl
theorem wp_ext {i : Nat} {x : Opd} : awpOp P p0 ⟨d, .ext i x, g, s, pre⟩ ρ A K = orF (ev (nstep ρ (.ext i x))) fun v => K (aput ρ d v) A := (astep_n (io := .ext i x) (F := fun v A' => K (aput ρ d v) A') (fun _ _ => rfl) (fun _ _ _ => rfl)).trans rfl
theorem wp_lenst {x : Opd} : awpOp P p0 ⟨d, .lenst x, g, s, pre⟩ ρ A K = orF (ev (AV.lenst (x.get ρ))) fun v => K (aput ρ d v) A := (astep_n (io := .lenst x) (F := fun v A' => K (aput ρ d v) A') (fun _ _ => rfl) (fun _ _ _ => rfl)).trans rfl
theorem wp_lens {x : Opd} : awpOp P p0 ⟨d, .lens x, g, s, pre⟩ ρ A K = orF (ev (AV.lens (x.get ρ))) fun v => K (aput ρ d v) A := (astep_n (io := .lens x) (F := fun v A' => K (aput ρ d v) A') (fun _ _ => rfl) (fun _ _ _ => rfl)).trans rfl
theorem wp_lenc {n : Nat} : awpOp P p0 ⟨d, .lenc n, g, s, pre⟩ ρ A K = K (aput ρ d (.int .i64 n)) A := rfl
theorem wp_mn {xs : List Opd} : awpOp P p0 ⟨d, .mn xs, g, s, pre⟩ ρ A K = orF (ev (nstep ρ (.mn xs))) fun v => K (aput ρ d v) A := (astep_n (io := .mn xs) (F := fun v A' => K (aput ρ d v) A') (fun _ _ => rfl) (fun _ _ _ => rfl)).trans rfl
theorem wp_mx {xs : List Opd} : awpOp P p0 ⟨d, .mx xs, g, s, pre⟩ ρ A K = orF (ev (nstep ρ (.mx xs))) fun v => K (aput ρ d v) A := (astep_n (io := .mx xs) (F := fun v A' => K (aput ρ d v) A') (fun _ _ => rfl) (fun _ _ _ => rfl)).trans rfl
theorem wp_mkif {t : TypeId} {x : Opd} : awpOp P p0 ⟨d, .mkif t x, g, s, pre⟩ ρ A K = K (aput ρ d (.ifc t (x.get ρ))) A := rfl
theorem wp_load {n : Option Nat} {x : Opd} : awpOp P p0 ⟨d, .load n x, g, s, pre⟩ ρ A K = orF (ev (aload A n (x.get ρ))) fun v => K (aput ρ d v) A := (astep_r (io := .load n x) (F := fun v A' => K (aput ρ d v) A') (fun _ => rfl) (fun _ _ _ => rfl)).trans rfl
theorem wp_lookup {lk : LK} {z : AV} {ok : Bool} {m k : Opd} : awpOp P p0 ⟨d, .lookup lk z ok m k, g, s, pre⟩ ρ A K = orF (ev (alookup A lk z ok (m.get ρ) (k.get ρ))) fun v => K (aput ρ d v) A := (astep_r (io := .lookup lk z ok m k) (F := fun v A' => K (aput ρ d v) A') (fun _ => rfl) (fun _ _ _ => rfl)).trans rfl
theorem wp_lenm {x : Opd} : awpOp P p0 ⟨d, .lenm x, g, s, pre⟩ ρ A K = orF (ev (alenm A (x.get ρ))) fun v => K (aput ρ d v) A := (astep_r (io := .lenm x) (F := fun v A' => K (aput ρ d v) A') (fun _ => rfl) (fun _ _ _ => rfl)).trans rfl
theorem wp_w {io : IOp} (h1 : ∀ ρ, nstep ρ io = none) (h2 : ∀ ρ A, rstep ρ A io = none) (h3 : ∀ f xs, io ≠ .call f xs) : awpOp P p0 ⟨d, io, g, s, pre⟩ ρ A K = orF (ev (wstep ρ A (p0 + s) io)) fun x => K (aput ρ d x.1) x.2 := by
  simp only [ev_eq]
  refine Eq.trans ?_ (astep_w (io := io) (F := fun v A' => K (aput ρ d v) A') h1 h2)
  cases io <;> first | rfl | exact absurd rfl (h3 _ _)
theorem wp_alloc {z : List AV} : awpOp P p0 ⟨d, .alloc z, g, s, pre⟩ ρ A K = orF (ev (anew A (p0 + s) (.ptr (p0 + s) 0) (.cells z))) fun x => K (aput ρ d x.1) x.2 := wp_w (fun _ => rfl) (fun _ _ => rfl) (fun _ _ h => by cases h)
theorem wp_box {x : Opd} : awpOp P p0 ⟨d, .box x, g, s, pre⟩ ρ A K = orF (ev (anew A (p0 + s) (.ptr (p0 + s) 0) (.cells (x.get ρ).cells))) fun x => K (aput ρ d x.1) x.2 := wp_w (fun _ => rfl) (fun _ _ => rfl) (fun _ _ h => by cases h)
theorem wp_bslice {sz : Nat} {es : List Opd} : awpOp P p0 ⟨d, .bslice sz es, g, s, pre⟩ ρ A K = orF (ev (abslice A (p0 + s) sz (es.map fun x => (x.get ρ).cells))) fun x => K (aput ρ d x.1) x.2 := wp_w (fun _ => rfl) (fun _ _ => rfl) (fun _ _ h => by cases h)
theorem wp_mkmap : awpOp P p0 ⟨d, .mkmap, g, s, pre⟩ ρ A K = orF (ev (anew A (p0 + s) (.mp (p0 + s)) (.map []))) fun x => K (aput ρ d x.1) x.2 := wp_w (fun _ => rfl) (fun _ _ => rfl) (fun _ _ h => by cases h)
theorem wp_mksl {sz bytes : Nat} {z : List AV} {n c : Opd} : awpOp P p0 ⟨d, .mksl sz bytes z n c, g, s, pre⟩ ρ A K = orF (ev (amksl A (p0 + s) sz bytes z (n.get ρ) (c.get ρ))) fun x => K (aput ρ d x.1) x.2 := wp_w (fun _ => rfl) (fun _ _ => rfl) (fun _ _ h => by cases h)
theorem withAny_or {o : Option AHeap} {F : AV × AHeap → Prop} : orF (withAny o) F = orF o fun A => F (.any, A) := by cases o <;> simp [orF, withAny]
theorem wp_store {n : Nat} {a x : Opd} : awpOp P p0 ⟨d, .store n a x, g, s, pre⟩ ρ A K = ((x.get ρ).cells.length = n ∧ orF (ev (wrN A (a.get ρ) (x.get ρ).cells)) fun A' => K (aput ρ d .any) A') := by
  simp only [ev_eq]
  refine (wp_w (fun _ => rfl) (fun _ _ => rfl) (fun _ _ h => by cases h)).trans ?_
  simp only [wstep]
  by_cases h : (x.get ρ).cells.length = n <;> simp [h, ev_eq, orF_none, withAny_or]
theorem wp_mset {lk : LK} {m k v : Opd} : awpOp P p0 ⟨d, .mset lk m k v, g, s, pre⟩ ρ A K = orF (ev (amset A lk (m.get ρ) (k.get ρ) (v.get ρ))) fun A' => K (aput ρ d .any) A' :=
  (wp_w (fun _ => rfl) (fun _ _ => rfl) (fun _ _ h => by cases h)).trans withAny_or
theorem wp_del {lk : LK} {m k : Opd} : awpOp P p0 ⟨d, .del lk m k, g, s, pre⟩ ρ A K = orF (ev (amdel A lk (m.get ρ) (k.get ρ))) fun A' => K (aput ρ d .any) A' :=
  (wp_w (fun _ => rfl) (fun _ _ => rfl) (fun _ _ h => by cases h)).trans withAny_or
theorem wp_clr {m : Opd} : awpOp P p0 ⟨d, .clr m, g, s, pre⟩ ρ A K = orF (ev (amclr A (m.get ρ))) fun A' => K (aput ρ d .any) A' :=
  (wp_w (fun _ => rfl) (fun _ _ => rfl) (fun _ _ h => by cases h)).trans withAny_or
theorem wp_clrs {sz : Nat} {z : List AV} {x : Opd} : awpOp P p0 ⟨d, .clrs sz z x, g, s, pre⟩ ρ A K = orF (ev (aclrs A sz z (x.get ρ))) fun A' => K (aput ρ d .any) A' :=
  (wp_w (fun _ => rfl) (fun _ _ => rfl) (fun _ _ h => by cases h)).trans withAny_or
theorem wp_app {sz bytes : Nat} {x y : Opd} : awpOp P p0 ⟨d, .app sz bytes x y, g, s, pre⟩ ρ A K = orF (ev (elemsOf A sz (y.get ρ))) fun xs => rowsOk sz xs = true ∧ orF (ev (aapp A (p0 + s) sz bytes (x.get ρ) xs)) fun x => K (aput ρ d x.1) x.2 := by
  simp only [ev_eq]
  refine (wp_w (fun _ => rfl) (fun _ _ => rfl) (fun _ _ h => by cases h)).trans ?_
  simp only [wstep]
  cases h : elemsOf A sz (y.get ρ) with
  | none => simp [orF, ev_eq]
  | some xs => simp only [orF_some, ev_eq]; by_cases h : rowsOk sz xs <;> simp [h, ev_eq, orF_none]
theorem wp_cpy {sz : Nat} {x y : Opd} : awpOp P p0 ⟨d, .cpy sz x y, g, s, pre⟩ ρ A K = orF (ev (elemsOf A sz (y.get ρ))) fun xs => rowsOk sz xs = true ∧ orF (ev (acpy A sz (x.get ρ) xs)) fun x => K (aput ρ d x.1) x.2 := by
  simp only [ev_eq]
  refine (wp_w (fun _ => rfl) (fun _ _ => rfl) (fun _ _ h => by cases h)).trans ?_
  simp only [wstep]
  cases h : elemsOf A sz (y.get ρ) with
  | none => simp [orF, ev_eq]
  | some xs => simp only [orF_some, ev_eq]; by_cases h : rowsOk sz xs <;> simp [h, ev_eq, orF_none]
/-- A call, and what is to hold behind it. -/
def AC (P : Program) (f : FuncId) (args : List AV) (A : AHeap) (K : AV → AHeap → Prop) (_ : Dep K Unit := ()) : Prop := ACall P f args A K
def ACV (P : Program) (f : AV) (args : List AV) (A : AHeap) (K : AV → AHeap → Prop) (_ : Dep K Unit := ()) : Prop := ACallV P f args A K
theorem wp_call {f : Opd} {xs : List Opd} : awpOp P p0 ⟨d, .call f xs, g, s, pre⟩ ρ A K = ACV P (f.get ρ) (xs.map (·.get ρ)) A fun r A' => K (aput ρ d r) A' := rfl
theorem callV_fn {f : FuncId} {a b : List AV} {xs : List AV} {K : AV → AHeap → Prop} : ACV P (.fn f a b) xs A K = AC P f (a ++ xs ++ b) A K := rfl

def ORD (P : Program) (p0 : Nat) (ios : List IOper) (anc : Nat → Nat → Bool) (K : List AV → AHeap → Prop) (c : List Nat) (R : Chk) (ρ : List AV) (A : AHeap) (_ : Dep K Unit := ()) : Prop := awpOrd P p0 ios anc K c R ρ A
def AW (P : Program) (n0 : Nat) (ic : IC) (ρ : List AV) (A : AHeap) (Q : IExit → List AV → AHeap → Prop) (_ : Dep Q Unit := ()) : Prop := awp P n0 ic ρ A Q
theorem aw_skip : AW P n0 .skip ρ A Q = Q .normal ρ A := rfl
theorem aw_region {m : Nat} {ops : List IOper} {kill : List Nat} : AW P n0 (.region m ops kill) ρ A Q = OPS P A.length ops ρ (A.more m) fun ρ' A' => Q .normal (mask kill ρ') A' := rfl
theorem aw_regionD {m : Nat} {ops : List IOper} {ord ms kill : List Nat} : AW P n0 (.regionD m ops ord ms kill) ρ A Q = ORD P A.length ops (waits ms) (fun ρ' A' => Q .normal (mask kill ρ') A') ord [] ρ (A.more m) := rfl
theorem aw_seq {x y : IC} : AW P n0 (.seq x y) ρ A Q = AW P n0 x ρ A (seqQ (fun ρ' A' => AW P n0 y ρ' A' Q) Q) := rfl
def awpIf (v : AV) (x y : Prop) (_ : Dep x Unit := ()) (_ : Dep y Unit := ()) : Prop := match v with | .bool b => (b = true → x) ∧ (b = false → y) | _ => False
theorem aw_cond {c : Opd} {kill : List Nat} {x y : IC} : AW P n0 (.cond c kill x y) ρ A Q = awpIf (ev (c.get ρ)) (AW P n0 x (mask kill ρ) A Q) (AW P n0 y (mask kill ρ) A Q) := by
  simp only [ev_eq]
  simp only [AW, awp, awpIf]
  cases c.get ρ <;> rfl
theorem awpIf_bool {b : Bool} {x y : Prop} : awpIf (.bool b) x y = ((b = true → x) ∧ (b = false → y)) := rfl
theorem awpIf_cases {b : Bool} {x y : Prop} (h1 : b = true → x) (h2 : b = false → y) : awpIf (.bool b) x y := ⟨h1, h2⟩
theorem awpIf_t {x y : Prop} : awpIf (.bool true) x y = x := by simp [awpIf]
theorem awpIf_f {x y : Prop} : awpIf (.bool false) x y = y := by simp [awpIf]
theorem aw_block {id : Nat} {x : IC} : AW P n0 (.block id x) ρ A Q = AW P n0 x ρ A (blockQ id Q) := rfl
theorem aw_exit {id : Nat} : AW P n0 (.exit id) ρ A Q = Q (.exit id) ρ A := rfl
theorem aw_ret : AW P n0 .ret ρ A Q = Q .ret ρ A := rfl
theorem aw_label {l : Nat} : AW P n0 (.label l) ρ A Q = Q .normal ρ A := rfl
theorem aw_goto {l : Nat} : AW P n0 (.goto l) ρ A Q = Q (.goto l) ρ A := rfl
theorem seqQ_normal {N : List AV → AHeap → Prop} : seqQ N Q .normal ρ A = N ρ A := rfl
theorem seqQ_exit {N : List AV → AHeap → Prop} {i : Nat} : seqQ N Q (.exit i) ρ A = Q (.exit i) ρ A := rfl
theorem seqQ_goto {N : List AV → AHeap → Prop} {i : Nat} : seqQ N Q (.goto i) ρ A = Q (.goto i) ρ A := rfl
theorem seqQ_ret {N : List AV → AHeap → Prop} : seqQ N Q .ret ρ A = Q .ret ρ A := rfl
theorem blockQ_normal {id : Nat} : blockQ id Q .normal ρ A = Q .normal ρ A := rfl
theorem blockQ_exit {id i : Nat} : blockQ id Q (.exit i) ρ A = if i = id then Q .normal ρ A else Q (.exit i) ρ A := rfl
theorem blockQ_goto {id i : Nat} : blockQ id Q (.goto i) ρ A = Q (.goto i) ρ A := rfl
theorem blockQ_ret {id : Nat} : blockQ id Q .ret ρ A = Q .ret ρ A := rfl
theorem loopQ_exit {kill : List Nat} {I : Nat → List AV → AHeap → Prop} {m i : Nat} : loopQ n0 kill I m Q (.exit i) ρ A = Q (.exit i) ρ A := rfl
theorem loopQ_goto {kill : List Nat} {I : Nat → List AV → AHeap → Prop} {m i : Nat} : loopQ n0 kill I m Q (.goto i) ρ A = Q (.goto i) ρ A := rfl
theorem loopQ_ret {kill : List Nat} {I : Nat → List AV → AHeap → Prop} {m : Nat} : loopQ n0 kill I m Q .ret ρ A = Q .ret ρ A := rfl
theorem loopQ_normal {kill : List Nat} {I : Nat → List AV → AHeap → Prop} {m : Nat} : loopQ n0 kill I m Q .normal ρ A = ∃ j, j < m ∧ ∃ ks, okKeepO n0 ks = true ∧ I j (foldRo n0 ks (mask kill ρ)) (foldAo n0 ks A) := rfl
theorem retQ_any {rs : List RV} {K : AV → AHeap → Prop} {e : IExit} (he : e = .normal ∨ e = .ret) : retQ n0 rs K e ρ A = orF (ev (rvs ρ A rs)) fun vs => ∃ ks, okKeepO n0 ks = true ∧ K (foldVo n0 ks (rtup vs)) (foldAo n0 ks A) := by
  simp only [ev_eq]
  rcases he with rfl | rfl <;> simp only [retQ, orF_def] <;> cases rvs ρ A rs <;> rfl
theorem retQ_normal {rs : List RV} {K : AV → AHeap → Prop} : retQ n0 rs K .normal ρ A = orF (ev (rvs ρ A rs)) fun vs => ∃ ks, okKeepO n0 ks = true ∧ K (foldVo n0 ks (rtup vs)) (foldAo n0 ks A) := retQ_any (.inl rfl)
theorem retQ_ret {rs : List RV} {K : AV → AHeap → Prop} : retQ n0 rs K .ret ρ A = orF (ev (rvs ρ A rs)) fun vs => ∃ ks, okKeepO n0 ks = true ∧ K (foldVo n0 ks (rtup vs)) (foldAo n0 ks A) := retQ_any (.inr rfl)
end

/-! ### Regions that draw their order -/
section
variable {P : Program} {p0 : Nat} {ρ : List AV} {A : AHeap} {K : List AV → AHeap → Prop} {d : Option Nat} {s : Nat} {pre : List Nat} {ios : List IOper} {anc : Nat → Nat → Bool} {R : Chk} {i : Nat} {c : List Nat} {g : Option (Nat × Bool)}

def ordS (P : Program) (p0 : Nat) (ios : List IOper) (anc : Nat → Nat → Bool) (K : List AV → AHeap → Prop) (o : Option IOper) (i : Nat) (c : List Nat) (R : Chk) (ρ : List AV) (A : AHeap) (_ : Dep K Unit := ()) : Prop :=
  match o with
  | none => False
  | some x => match x.op.cls with
    | .pure => (match yld x ρ A with | some v => awpOrd P p0 ios anc K c R (aput ρ x.dst v) A | none => False)
    | .read => (match yld x ρ A with | some v => awpOrd P p0 ios anc K c ((i, v) :: R) (aput ρ x.dst v) A | none => False)
    | .make => awpG P p0 x ρ A fun ρ' A' => awpOrd P p0 ios anc K c R ρ' A'
    | .eff => awpG P p0 x ρ A fun ρ' A' => chks ios anc R i ρ' A' ∧ awpOrd P p0 ios anc K c R ρ' A'
theorem awpOrd_nil : ORD P p0 ios anc K [] R ρ A = K ρ A := rfl
theorem awpOrd_cons : ORD P p0 ios anc K (i :: c) R ρ A = ordS P p0 ios anc K (ev ios[i]?) i c R ρ A := rfl

theorem yld_awpG {op : IOp} (hc : op.cls = .pure) {F : List AV → Prop} (hF : ∀ ρ', K ρ' A = F ρ') :
    (match yld ⟨d, op, g, s, pre⟩ ρ A with | some v => F (aput ρ d v) | none => False) = awpG P p0 ⟨d, op, g, s, pre⟩ ρ A K := by
  have h0 : ∀ ρ A, rstep ρ A op = none := by cases op <;> first | (intro ρ A; rfl) | cases hc
  have h1 : ∀ ρ A p, wstep ρ A p op = none := by cases op <;> first | (intro ρ A p; rfl) | cases hc
  have hop : awpOp P p0 ⟨d, op, g, s, pre⟩ ρ A K = orF (nstep ρ op) fun v => F (aput ρ d v) := by
    have : (fun v => F (aput ρ d v)) = fun v => K (aput ρ d v) A := by funext v; rw [hF]
    rw [this]
    refine Eq.trans ?_ (astep_n h0 h1 (p := p0 + s) (F := fun v A' => K (aput ρ d v) A'))
    cases op <;> first | rfl | cases hc
  have hy : (match nstep ρ op with | some v => some v | none => rstep ρ A op) = nstep ρ op := by
    cases h : nstep ρ op with
    | some v => rfl
    | none => exact h0 ρ A
  cases g with
  | none =>
    rw [awpG_none, hop]
    simp only [yld, hy]
    cases h : nstep ρ op with
    | none => simp [orF, h0]
    | some v => simp [orF]
  | some q =>
    obtain ⟨t, want⟩ := q
    rw [awpG_some, hop]
    simp only [yld, hy, ev_eq]
    cases hg : ρ.getD t .any <;> simp only [awpGd, hF]
    rename_i b
    cases b <;> cases want <;> simp <;> (cases nstep ρ op <;> simp [orF, h0])
theorem cls_mv : ∀ x, IOp.cls (.mv x) = .pure := fun _ => rfl
theorem cls_pick : ∀ a b c, IOp.cls (.pick a b c) = .pure := fun _ _ _ => rfl
theorem cls_alloc : ∀ a, IOp.cls (.alloc a) = .make := fun _ => rfl
theorem cls_box : ∀ a, IOp.cls (.box a) = .make := fun _ => rfl
theorem cls_build : ∀ a b, IOp.cls (.build a b) = .pure := fun _ _ => rfl
theorem cls_bslice : ∀ a b, IOp.cls (.bslice a b) = .make := fun _ _ => rfl
theorem cls_load : ∀ a b, IOp.cls (.load a b) = .read := fun _ _ => rfl
theorem cls_store : ∀ a b c, IOp.cls (.store a b c) = .eff := fun _ _ _ => rfl
theorem cls_nilck : ∀ a, IOp.cls (.nilck a) = .pure := fun _ => rfl
theorem cls_bin : ∀ a b c, IOp.cls (.bin a b c) = .pure := fun _ _ _ => rfl
theorem cls_eqv : ∀ a b c d, IOp.cls (.eqv a b c d) = .pure := fun _ _ _ _ => rfl
theorem cls_un : ∀ a b, IOp.cls (.un a b) = .pure := fun _ _ => rfl
theorem cls_cvi : ∀ a b, IOp.cls (.cvi a b) = .pure := fun _ _ => rfl
theorem cls_cvs : ∀ a, IOp.cls (.cvs a) = .pure := fun _ => rfl
theorem cls_mkfn : ∀ a b c, IOp.cls (.mkfn a b c) = .pure := fun _ _ _ => rfl
theorem cls_mkmap : IOp.cls (.mkmap) = .make := rfl
theorem cls_mksl : ∀ a b c d e, IOp.cls (.mksl a b c d e) = .make := fun _ _ _ _ _ => rfl
theorem cls_slcs : ∀ a b c, IOp.cls (.slcs a b c) = .pure := fun _ _ _ => rfl
theorem cls_slc : ∀ a b c d e, IOp.cls (.slc a b c d e) = .pure := fun _ _ _ _ _ => rfl
theorem cls_faddr : ∀ a b, IOp.cls (.faddr a b) = .pure := fun _ _ => rfl
theorem cls_fld : ∀ a b c, IOp.cls (.fld a b c) = .pure := fun _ _ _ => rfl
theorem cls_iaddr : ∀ a b c, IOp.cls (.iaddr a b c) = .pure := fun _ _ _ => rfl
theorem cls_iaddra : ∀ a b c d, IOp.cls (.iaddra a b c d) = .pure := fun _ _ _ _ => rfl
theorem cls_idxs : ∀ a b, IOp.cls (.idxs a b) = .pure := fun _ _ => rfl
theorem cls_idxa : ∀ a b c d e, IOp.cls (.idxa a b c d e) = .pure := fun _ _ _ _ _ => rfl
theorem cls_lookup : ∀ a b c d e, IOp.cls (.lookup a b c d e) = .read := fun _ _ _ _ _ => rfl
theorem cls_mset : ∀ a b c d, IOp.cls (.mset a b c d) = .eff := fun _ _ _ _ => rfl
theorem cls_ext : ∀ a b, IOp.cls (.ext a b) = .pure := fun _ _ => rfl
theorem cls_lenst : ∀ a, IOp.cls (.lenst a) = .pure := fun _ => rfl
theorem cls_lens : ∀ a, IOp.cls (.lens a) = .pure := fun _ => rfl
theorem cls_lenc : ∀ a, IOp.cls (.lenc a) = .pure := fun _ => rfl
theorem cls_lenm : ∀ a, IOp.cls (.lenm a) = .read := fun _ => rfl
theorem cls_app : ∀ a b c d, IOp.cls (.app a b c d) = .eff := fun _ _ _ _ => rfl
theorem cls_cpy : ∀ a b c, IOp.cls (.cpy a b c) = .eff := fun _ _ _ => rfl
theorem cls_mn : ∀ a, IOp.cls (.mn a) = .pure := fun _ => rfl
theorem cls_mx : ∀ a, IOp.cls (.mx a) = .pure := fun _ => rfl
theorem cls_del : ∀ a b c, IOp.cls (.del a b c) = .eff := fun _ _ _ => rfl
theorem cls_clr : ∀ a, IOp.cls (.clr a) = .eff := fun _ => rfl
theorem cls_clrs : ∀ a b c, IOp.cls (.clrs a b c) = .eff := fun _ _ _ => rfl
theorem cls_mkif : ∀ a b, IOp.cls (.mkif a b) = .pure := fun _ _ => rfl
theorem cls_call : ∀ a b, IOp.cls (.call a b) = .eff := fun _ _ => rfl
/-- By the operation's kind. -/
def ordC (P : Program) (p0 : Nat) (ios : List IOper) (anc : Nat → Nat → Bool) (K : List AV → AHeap → Prop) (k : Cls) (x : IOper) (i : Nat) (c : List Nat) (R : Chk) (ρ : List AV) (A : AHeap) (_ : Dep K Unit := ()) : Prop :=
  match k with
  | .pure => (match yld x ρ A with | some v => awpOrd P p0 ios anc K c R (aput ρ x.dst v) A | none => False)
  | .read => (match yld x ρ A with | some v => awpOrd P p0 ios anc K c ((i, v) :: R) (aput ρ x.dst v) A | none => False)
  | .make => awpG P p0 x ρ A fun ρ' A' => awpOrd P p0 ios anc K c R ρ' A'
  | .eff => awpG P p0 x ρ A fun ρ' A' => chks ios anc R i ρ' A' ∧ awpOrd P p0 ios anc K c R ρ' A'
theorem ordS_some {op : IOp} : ordS P p0 ios anc K (some ⟨d, op, g, s, pre⟩) i c R ρ A = ordC P p0 ios anc K op.cls ⟨d, op, g, s, pre⟩ i c R ρ A := rfl
/-- Now, if it is of that kind. -/
theorem ordC_pure' {op : IOp} (hc : op.cls = .pure) : ordC P p0 ios anc K .pure ⟨d, op, g, s, pre⟩ i c R ρ A = awpG P p0 ⟨d, op, g, s, pre⟩ ρ A fun ρ' A' => ORD P p0 ios anc K c R ρ' A' := by
  simp only [ordC, ORD]
  exact yld_awpG hc (fun _ => rfl)
theorem ordC_read {x : IOper} : ordC P p0 ios anc K .read x i c R ρ A = orF (ev (yld x ρ A)) fun v => ORD P p0 ios anc K c ((i, v) :: R) (aput ρ x.dst v) A := by
  simp only [ordC, ORD, ev_eq]
  cases yld x ρ A <;> simp [orF]
theorem ordC_make {x : IOper} : ordC P p0 ios anc K .make x i c R ρ A = awpG P p0 x ρ A fun ρ' A' => ORD P p0 ios anc K c R ρ' A' := rfl
theorem ordC_eff {x : IOper} : ordC P p0 ios anc K .eff x i c R ρ A = awpG P p0 x ρ A fun ρ' A' => chks ios anc R i ρ' A' ∧ ORD P p0 ios anc K c R ρ' A' := rfl
theorem ordP_mv : ∀ o0, ordC P p0 ios anc K .pure ⟨d, .mv o0, g, s, pre⟩ i c R ρ A = awpG P p0 ⟨d, .mv o0, g, s, pre⟩ ρ A fun ρ' A' => ORD P p0 ios anc K c R ρ' A' := fun _ => ordC_pure' rfl
theorem ordP_pick : ∀ o0 o1 o2, ordC P p0 ios anc K .pure ⟨d, .pick o0 o1 o2, g, s, pre⟩ i c R ρ A = awpG P p0 ⟨d, .pick o0 o1 o2, g, s, pre⟩ ρ A fun ρ' A' => ORD P p0 ios anc K c R ρ' A' := fun _ _ _ => ordC_pure' rfl
theorem ordP_build : ∀ o0 o1, ordC P p0 ios anc K .pure ⟨d, .build o0 o1, g, s, pre⟩ i c R ρ A = awpG P p0 ⟨d, .build o0 o1, g, s, pre⟩ ρ A fun ρ' A' => ORD P p0 ios anc K c R ρ' A' := fun _ _ => ordC_pure' rfl
theorem ordP_nilck : ∀ o0, ordC P p0 ios anc K .pure ⟨d, .nilck o0, g, s, pre⟩ i c R ρ A = awpG P p0 ⟨d, .nilck o0, g, s, pre⟩ ρ A fun ρ' A' => ORD P p0 ios anc K c R ρ' A' := fun _ => ordC_pure' rfl
theorem ordP_bin : ∀ o0 o1 o2, ordC P p0 ios anc K .pure ⟨d, .bin o0 o1 o2, g, s, pre⟩ i c R ρ A = awpG P p0 ⟨d, .bin o0 o1 o2, g, s, pre⟩ ρ A fun ρ' A' => ORD P p0 ios anc K c R ρ' A' := fun _ _ _ => ordC_pure' rfl
theorem ordP_eqv : ∀ o0 o1 o2 o3, ordC P p0 ios anc K .pure ⟨d, .eqv o0 o1 o2 o3, g, s, pre⟩ i c R ρ A = awpG P p0 ⟨d, .eqv o0 o1 o2 o3, g, s, pre⟩ ρ A fun ρ' A' => ORD P p0 ios anc K c R ρ' A' := fun _ _ _ _ => ordC_pure' rfl
theorem ordP_un : ∀ o0 o1, ordC P p0 ios anc K .pure ⟨d, .un o0 o1, g, s, pre⟩ i c R ρ A = awpG P p0 ⟨d, .un o0 o1, g, s, pre⟩ ρ A fun ρ' A' => ORD P p0 ios anc K c R ρ' A' := fun _ _ => ordC_pure' rfl
theorem ordP_cvi : ∀ o0 o1, ordC P p0 ios anc K .pure ⟨d, .cvi o0 o1, g, s, pre⟩ i c R ρ A = awpG P p0 ⟨d, .cvi o0 o1, g, s, pre⟩ ρ A fun ρ' A' => ORD P p0 ios anc K c R ρ' A' := fun _ _ => ordC_pure' rfl
theorem ordP_cvs : ∀ o0, ordC P p0 ios anc K .pure ⟨d, .cvs o0, g, s, pre⟩ i c R ρ A = awpG P p0 ⟨d, .cvs o0, g, s, pre⟩ ρ A fun ρ' A' => ORD P p0 ios anc K c R ρ' A' := fun _ => ordC_pure' rfl
theorem ordP_mkfn : ∀ o0 o1 o2, ordC P p0 ios anc K .pure ⟨d, .mkfn o0 o1 o2, g, s, pre⟩ i c R ρ A = awpG P p0 ⟨d, .mkfn o0 o1 o2, g, s, pre⟩ ρ A fun ρ' A' => ORD P p0 ios anc K c R ρ' A' := fun _ _ _ => ordC_pure' rfl
theorem ordP_slcs : ∀ o0 o1 o2, ordC P p0 ios anc K .pure ⟨d, .slcs o0 o1 o2, g, s, pre⟩ i c R ρ A = awpG P p0 ⟨d, .slcs o0 o1 o2, g, s, pre⟩ ρ A fun ρ' A' => ORD P p0 ios anc K c R ρ' A' := fun _ _ _ => ordC_pure' rfl
theorem ordP_slc : ∀ o0 o1 o2 o3 o4, ordC P p0 ios anc K .pure ⟨d, .slc o0 o1 o2 o3 o4, g, s, pre⟩ i c R ρ A = awpG P p0 ⟨d, .slc o0 o1 o2 o3 o4, g, s, pre⟩ ρ A fun ρ' A' => ORD P p0 ios anc K c R ρ' A' := fun _ _ _ _ _ => ordC_pure' rfl
theorem ordP_faddr : ∀ o0 o1, ordC P p0 ios anc K .pure ⟨d, .faddr o0 o1, g, s, pre⟩ i c R ρ A = awpG P p0 ⟨d, .faddr o0 o1, g, s, pre⟩ ρ A fun ρ' A' => ORD P p0 ios anc K c R ρ' A' := fun _ _ => ordC_pure' rfl
theorem ordP_fld : ∀ o0 o1 o2, ordC P p0 ios anc K .pure ⟨d, .fld o0 o1 o2, g, s, pre⟩ i c R ρ A = awpG P p0 ⟨d, .fld o0 o1 o2, g, s, pre⟩ ρ A fun ρ' A' => ORD P p0 ios anc K c R ρ' A' := fun _ _ _ => ordC_pure' rfl
theorem ordP_iaddr : ∀ o0 o1 o2, ordC P p0 ios anc K .pure ⟨d, .iaddr o0 o1 o2, g, s, pre⟩ i c R ρ A = awpG P p0 ⟨d, .iaddr o0 o1 o2, g, s, pre⟩ ρ A fun ρ' A' => ORD P p0 ios anc K c R ρ' A' := fun _ _ _ => ordC_pure' rfl
theorem ordP_iaddra : ∀ o0 o1 o2 o3, ordC P p0 ios anc K .pure ⟨d, .iaddra o0 o1 o2 o3, g, s, pre⟩ i c R ρ A = awpG P p0 ⟨d, .iaddra o0 o1 o2 o3, g, s, pre⟩ ρ A fun ρ' A' => ORD P p0 ios anc K c R ρ' A' := fun _ _ _ _ => ordC_pure' rfl
theorem ordP_idxs : ∀ o0 o1, ordC P p0 ios anc K .pure ⟨d, .idxs o0 o1, g, s, pre⟩ i c R ρ A = awpG P p0 ⟨d, .idxs o0 o1, g, s, pre⟩ ρ A fun ρ' A' => ORD P p0 ios anc K c R ρ' A' := fun _ _ => ordC_pure' rfl
theorem ordP_idxa : ∀ o0 o1 o2 o3 o4, ordC P p0 ios anc K .pure ⟨d, .idxa o0 o1 o2 o3 o4, g, s, pre⟩ i c R ρ A = awpG P p0 ⟨d, .idxa o0 o1 o2 o3 o4, g, s, pre⟩ ρ A fun ρ' A' => ORD P p0 ios anc K c R ρ' A' := fun _ _ _ _ _ => ordC_pure' rfl
theorem ordP_ext : ∀ o0 o1, ordC P p0 ios anc K .pure ⟨d, .ext o0 o1, g, s, pre⟩ i c R ρ A = awpG P p0 ⟨d, .ext o0 o1, g, s, pre⟩ ρ A fun ρ' A' => ORD P p0 ios anc K c R ρ' A' := fun _ _ => ordC_pure' rfl
theorem ordP_lenst : ∀ o0, ordC P p0 ios anc K .pure ⟨d, .lenst o0, g, s, pre⟩ i c R ρ A = awpG P p0 ⟨d, .lenst o0, g, s, pre⟩ ρ A fun ρ' A' => ORD P p0 ios anc K c R ρ' A' := fun _ => ordC_pure' rfl
theorem ordP_lens : ∀ o0, ordC P p0 ios anc K .pure ⟨d, .lens o0, g, s, pre⟩ i c R ρ A = awpG P p0 ⟨d, .lens o0, g, s, pre⟩ ρ A fun ρ' A' => ORD P p0 ios anc K c R ρ' A' := fun _ => ordC_pure' rfl
theorem ordP_lenc : ∀ o0, ordC P p0 ios anc K .pure ⟨d, .lenc o0, g, s, pre⟩ i c R ρ A = awpG P p0 ⟨d, .lenc o0, g, s, pre⟩ ρ A fun ρ' A' => ORD P p0 ios anc K c R ρ' A' := fun _ => ordC_pure' rfl
theorem ordP_mn : ∀ o0, ordC P p0 ios anc K .pure ⟨d, .mn o0, g, s, pre⟩ i c R ρ A = awpG P p0 ⟨d, .mn o0, g, s, pre⟩ ρ A fun ρ' A' => ORD P p0 ios anc K c R ρ' A' := fun _ => ordC_pure' rfl
theorem ordP_mx : ∀ o0, ordC P p0 ios anc K .pure ⟨d, .mx o0, g, s, pre⟩ i c R ρ A = awpG P p0 ⟨d, .mx o0, g, s, pre⟩ ρ A fun ρ' A' => ORD P p0 ios anc K c R ρ' A' := fun _ => ordC_pure' rfl
theorem ordP_mkif : ∀ o0 o1, ordC P p0 ios anc K .pure ⟨d, .mkif o0 o1, g, s, pre⟩ i c R ρ A = awpG P p0 ⟨d, .mkif o0 o1, g, s, pre⟩ ρ A fun ρ' A' => ORD P p0 ios anc K c R ρ' A' := fun _ _ => ordC_pure' rfl

/-- A guarded value. -/
def guardO (want : Bool) (g : AV) (o : Option AV) : Option AV :=
  match g with
  | .bool b => if b = want then o else some (.tup [])
  | .tup _ => some (.tup [])
  | _ => none
theorem guardO_bool {want b : Bool} {o : Option AV} : guardO want (.bool b) o = if b = want then o else some (.tup []) := rfl
theorem guardO_tup {want : Bool} {vs : List AV} {o : Option AV} : guardO want (.tup vs) o = some (.tup []) := rfl
theorem yld_load {n : Option Nat} {x : Opd} : yld ⟨d, .load n x, none, s, pre⟩ ρ A = aload A n (x.get ρ) := rfl
theorem yld_loadG {n : Option Nat} {x : Opd} {t : Nat} {want : Bool} : yld ⟨d, .load n x, some (t, want), s, pre⟩ ρ A = guardO want (ρ.getD t .any) (aload A n (x.get ρ)) := by
  cases h : ρ.getD t .any <;> simp only [yld, guardO, h] <;> rfl
theorem yld_lookup {lk : LK} {z : AV} {ok : Bool} {m k : Opd} : yld ⟨d, .lookup lk z ok m k, none, s, pre⟩ ρ A = alookup A lk z ok (m.get ρ) (k.get ρ) := rfl
theorem yld_lookupG {lk : LK} {z : AV} {ok : Bool} {m k : Opd} {t : Nat} {want : Bool} : yld ⟨d, .lookup lk z ok m k, some (t, want), s, pre⟩ ρ A = guardO want (ρ.getD t .any) (alookup A lk z ok (m.get ρ) (k.get ρ)) := by
  cases h : ρ.getD t .any <;> simp only [yld, guardO, h] <;> rfl
theorem yld_lenm {x : Opd} : yld ⟨d, .lenm x, none, s, pre⟩ ρ A = alenm A (x.get ρ) := rfl
theorem yld_lenmG {x : Opd} {t : Nat} {want : Bool} : yld ⟨d, .lenm x, some (t, want), s, pre⟩ ρ A = guardO want (ρ.getD t .any) (alenm A (x.get ρ)) := by
  cases h : ρ.getD t .any <;> simp only [yld, guardO, h] <;> rfl
theorem chks_nil : chks ios anc [] i ρ A = True := rfl
theorem chks_cons {j : Nat} {v : AV} : chks ios anc ((i, v) :: R) j ρ A = ((anc i j = true ∨ ∃ io, ios[i]? = some io ∧ yld io ρ A = some v) ∧ chks ios anc R j ρ A) := rfl
end
end Go.SB
