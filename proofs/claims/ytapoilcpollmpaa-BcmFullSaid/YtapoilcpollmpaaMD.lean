/- FwSa, FwSb, FwSc, FwSd, put together. Conditions: none. -/
import Derived.Test.YtapoilcpollmpaaMC
import Derived.IntWalk
/- Framework, part Sa: the weakest precondition in a form that 'simp' steps through. -/
section
set_option linter.unusedVariables false
set_option linter.unusedSimpArgs false
namespace Go.SB
universe u
section
variable {P : Program} {p0 n0 : Nat} {ρ : List AV} {A : AHeap} {K : List AV → AHeap → Prop} {Q : IExit → List AV → AHeap → Prop} {d : Option Nat} {s : Nat} {pre : List Nat}

/-- The second argument, 'depending' on the first: 'simp' leaves the first alone. -/
abbrev Dep {β : Sort u} (_ : β) (α : Type) : Type := α

/-- Marks what is to be reckoned first. -/
def ev {α : Type} (x : α) : α := x
theorem ev_eq {α : Type} {x : α} : ev x = x := rfl

/-- The value is there, and F holds of it. -/
def orF {α : Type} (o : Option α) (F : α → Prop) (_ : Dep F Unit := ()) : Prop := ∃ v, o = some v ∧ F v

theorem orF_some {α : Type} {v : α} {F : α → Prop} : orF (some v) F = F v := by simp [orF]
theorem orF_none {α : Type} {F : α → Prop} : orF none F = False := by simp [orF]
theorem orF_ite {α : Type} {c : Prop} [Decidable c] {a b : Option α} {F : α → Prop} : orF (if c then a else b) F = ((c → orF a F) ∧ (¬ c → orF b F)) := by
  by_cases h : c <;> simp [h]
theorem orF_iteN {α : Type} {c : Prop} [Decidable c] {a : α} {F : α → Prop} : orF (if c then some a else none) F = (c ∧ F a) := by
  by_cases h : c <;> simp [h, orF]
theorem orF_map {α β : Type} {o : Option α} {f : α → β} {F : β → Prop} : orF (o.map f) F = orF o fun a => F (f a) := by
  cases o <;> simp [orF]
theorem orF_def {α : Type} {o : Option α} {F : α → Prop} : orF o F = (match o with | some v => F v | none => False) := by
  cases o <;> simp [orF]

def OPS (P : Program) (p0 : Nat) (os : List IOper) (ρ : List AV) (A : AHeap) (K : List AV → AHeap → Prop) (_ : Dep K Unit := ()) : Prop := awpOps P p0 os ρ A K
theorem awpOps_nil : OPS P p0 [] ρ A K = K ρ A := rfl
theorem awpOps_cons {o : IOper} {os : List IOper} : OPS P p0 (o :: os) ρ A K = awpG P p0 o ρ A fun ρ' A' => OPS P p0 os ρ' A' K := rfl
theorem awpG_none {op : IOp} : awpG P p0 ⟨d, op, none, s, pre⟩ ρ A K = awpOp P p0 ⟨d, op, none, s, pre⟩ ρ A K := rfl
/-- A guard. -/
def awpGd (want : Bool) (g : AV) (now skip : Prop) (_ : Dep now Unit := ()) (_ : Dep skip Unit := ()) : Prop :=
  match g with
  | .bool b => (b = want → now) ∧ (b = !want → skip)
  | .tup _ => skip
  | _ => False
theorem awpG_some {op : IOp} {t : Nat} {want : Bool} : awpG P p0 ⟨d, op, some (t, want), s, pre⟩ ρ A K = awpGd want (ev (ρ.getD t .any)) (awpOp P p0 ⟨d, op, some (t, want), s, pre⟩ ρ A K) (K (aput ρ d (.tup [])) A) := by
  simp only [ev_eq]
  cases h : ρ.getD t .any <;> simp only [awpG, awpGd, h]
theorem awpGd_bool {want b : Bool} {x y : Prop} : awpGd want (.bool b) x y = ((b = want → x) ∧ (b = !want → y)) := rfl
theorem awpGd_cases {want b : Bool} {x y : Prop} (h1 : b = want → x) (h2 : b = !want → y) : awpGd want (.bool b) x y := ⟨h1, h2⟩
theorem awpGd_tt {x y : Prop} : awpGd true (.bool true) x y = x := by simp [awpGd]
theorem awpGd_tf {x y : Prop} : awpGd true (.bool false) x y = y := by simp [awpGd]
theorem awpGd_ft {x y : Prop} : awpGd false (.bool true) x y = y := by simp [awpGd]
theorem awpGd_ff {x y : Prop} : awpGd false (.bool false) x y = x := by simp [awpGd]
theorem awpGd_tup {want : Bool} {vs : List AV} {x y : Prop} : awpGd want (.tup vs) x y = y := rfl

variable {g : Option (Nat × Bool)}

theorem astep_n {io : IOp} (h1 : ∀ ρ A, rstep ρ A io = none) (h2 : ∀ ρ A p, wstep ρ A p io = none) {p : Nat} {F : AV → AHeap → Prop} :
    (match astep ρ A p io with | some (v, A') => F v A' | none => False) = orF (nstep ρ io) fun v => F v A := by
  unfold astep
  cases h : nstep ρ io with
  | some v => simp [orF]
  | none => simp [orF, h1, h2]
theorem astep_r {io : IOp} (h1 : ∀ ρ, nstep ρ io = none) (h2 : ∀ ρ A p, wstep ρ A p io = none) {p : Nat} {F : AV → AHeap → Prop} :
    (match astep ρ A p io with | some (v, A') => F v A' | none => False) = orF (rstep ρ A io) fun v => F v A := by
  unfold astep
  rw [h1]
  cases h : rstep ρ A io with
  | some v => simp [orF]
  | none => simp [orF, h2]
theorem astep_w {io : IOp} (h1 : ∀ ρ, nstep ρ io = none) (h2 : ∀ ρ A, rstep ρ A io = none) {p : Nat} {F : AV → AHeap → Prop} :
    (match astep ρ A p io with | some (v, A') => F v A' | none => False) = orF (wstep ρ A p io) fun x => F x.1 x.2 := by
  unfold astep
  rw [h1, h2]
  cases h : wstep ρ A p io with
  | some v => simp [orF]
  | none => simp [orF]

theorem wp_mv {x : Opd} : awpOp P p0 ⟨d, .mv x, g, s, pre⟩ ρ A K = K (aput ρ d (x.get ρ)) A := rfl
theorem wp_pick {c x y : Opd} : awpOp P p0 ⟨d, .pick c x y, g, s, pre⟩ ρ A K = orF (ev (match c.get ρ with | .bool c => some (bif c then x.get ρ else y.get ρ) | _ => none)) fun v => K (aput ρ d v) A :=
  (astep_n (io := .pick c x y) (fun _ _ => rfl) (fun _ _ _ => rfl) (F := fun v A' => K (aput ρ d v) A')).trans rfl
theorem wp_build {z : List AV} {ps : List (Nat × Nat × Opd)} : awpOp P p0 ⟨d, .build z ps, g, s, pre⟩ ρ A K = orF (ev (bfill z (ps.map fun (o, s, x) => (o, s, x.get ρ)))) fun cs => K (aput ρ d (.agg cs)) A := by
  simp only [ev_eq]
  refine (astep_n (io := .build z ps) (fun _ _ => rfl) (fun _ _ _ => rfl) (F := fun v A' => K (aput ρ d v) A')).trans ?_
  simp only [nstep]
  cases bfill z (ps.map fun (o, s, x) => (o, s, x.get ρ)) <;> simp [orF]
theorem wp_nilck {x : Opd} : awpOp P p0 ⟨d, .nilck x, g, s, pre⟩ ρ A K = orF (ev (nstep ρ (.nilck x))) fun v => K (aput ρ d v) A := astep_n (F := fun v A' => K (aput ρ d v) A') (fun _ _ => rfl) (fun _ _ _ => rfl)
theorem wp_bin {o : BinOp} {x y : Opd} : awpOp P p0 ⟨d, .bin o x y, g, s, pre⟩ ρ A K = orF (ev (AV.bin o (x.get ρ) (y.get ρ))) fun v => K (aput ρ d v) A := (astep_n (io := .bin o x y) (F := fun v A' => K (aput ρ d v) A') (fun _ _ => rfl) (fun _ _ _ => rfl)).trans rfl
theorem wp_eqv {n : Bool} {e : EK} {x y : Opd} : awpOp P p0 ⟨d, .eqv n e x y, g, s, pre⟩ ρ A K = orF (ev (AV.eqv e (x.get ρ) (y.get ρ))) fun r => K (aput ρ d (.bool (r != n))) A := by
  simp only [ev_eq]
  refine (astep_n (io := .eqv n e x y) (fun _ _ => rfl) (fun _ _ _ => rfl) (F := fun v A' => K (aput ρ d v) A')).trans ?_
  simp only [nstep]
  cases AV.eqv e (x.get ρ) (y.get ρ) <;> simp [orF]
theorem wp_un {o : UnOp} {x : Opd} : awpOp P p0 ⟨d, .un o x, g, s, pre⟩ ρ A K = orF (ev (AV.unop o (x.get ρ))) fun v => K (aput ρ d v) A := (astep_n (io := .un o x) (F := fun v A' => K (aput ρ d v) A') (fun _ _ => rfl) (fun _ _ _ => rfl)).trans rfl
theorem wp_cvi {k : IntKind} {x : Opd} : awpOp P p0 ⟨d, .cvi k x, g, s, pre⟩ ρ A K = orF (ev (nstep ρ (.cvi k x))) fun v => K (aput ρ d v) A := (astep_n (io := .cvi k x) (F := fun v A' => K (aput ρ d v) A') (fun _ _ => rfl) (fun _ _ _ => rfl)).trans rfl
theorem wp_cvs {x : Opd} : awpOp P p0 ⟨d, .cvs x, g, s, pre⟩ ρ A K = orF (ev (nstep ρ (.cvs x))) fun v => K (aput ρ d v) A := (astep_n (io := .cvs x) (F := fun v A' => K (aput ρ d v) A') (fun _ _ => rfl) (fun _ _ _ => rfl)).trans rfl
theorem wp_mkfn {f : FuncId} {a b : List Opd} : awpOp P p0 ⟨d, .mkfn f a b, g, s, pre⟩ ρ A K = K (aput ρ d (.fn f (a.map (·.get ρ)) (b.map (·.get ρ)))) A := rfl
theorem wp_slcs {x : Opd} {lo hi : Option Opd} : awpOp P p0 ⟨d, .slcs x lo hi, g, s, pre⟩ ρ A K = orF (ev (AV.slcs (x.get ρ) (lo.map (·.get ρ)) (hi.map (·.get ρ)))) fun v => K (aput ρ d v) A := (astep_n (io := .slcs x lo hi) (F := fun v A' => K (aput ρ d v) A') (fun _ _ => rfl) (fun _ _ _ => rfl)).trans rfl
theorem wp_slc {sz : Nat} {x : Opd} {lo hi mx : Option Opd} : awpOp P p0 ⟨d, .slc sz x lo hi mx, g, s, pre⟩ ρ A K = orF (ev (AV.slc sz (x.get ρ) (lo.map (·.get ρ)) (hi.map (·.get ρ)) (mx.map (·.get ρ)))) fun v => K (aput ρ d v) A := (astep_n (io := .slc sz x lo hi mx) (F := fun v A' => K (aput ρ d v) A') (fun _ _ => rfl) (fun _ _ _ => rfl)).trans rfl
theorem wp_faddr {o : Nat} {x : Opd} : awpOp P p0 ⟨d, .faddr o x, g, s, pre⟩ ρ A K = orF (ev (AV.faddr o (x.get ρ))) fun v => K (aput ρ d v) A := (astep_n (io := .faddr o x) (F := fun v A' => K (aput ρ d v) A') (fun _ _ => rfl) (fun _ _ _ => rfl)).trans rfl
theorem wp_fld {o : Nat} {n : Option Nat} {x : Opd} : awpOp P p0 ⟨d, .fld o n x, g, s, pre⟩ ρ A K = orF (ev (AV.fld o n (x.get ρ))) fun v => K (aput ρ d v) A := (astep_n (io := .fld o n x) (F := fun v A' => K (aput ρ d v) A') (fun _ _ => rfl) (fun _ _ _ => rfl)).trans rfl
theorem wp_iaddr {sz : Nat} {x i : Opd} : awpOp P p0 ⟨d, .iaddr sz x i, g, s, pre⟩ ρ A K = orF (ev (AV.iaddr sz (x.get ρ) (i.get ρ))) fun v => K (aput ρ d v) A := (astep_n (io := .iaddr sz x i) (F := fun v A' => K (aput ρ d v) A') (fun _ _ => rfl) (fun _ _ _ => rfl)).trans rfl
theorem wp_iaddra {l sz : Nat} {x i : Opd} : awpOp P p0 ⟨d, .iaddra l sz x i, g, s, pre⟩ ρ A K = orF (ev (AV.iaddra l sz (x.get ρ) (i.get ρ))) fun v => K (aput ρ d v) A := (astep_n (io := .iaddra l sz x i) (F := fun v A' => K (aput ρ d v) A') (fun _ _ => rfl) (fun _ _ _ => rfl)).trans rfl
theorem wp_idxs {x i : Opd} : awpOp P p0 ⟨d, .idxs x i, g, s, pre⟩ ρ A K = orF (ev (AV.idxs (x.get ρ) (i.get ρ))) fun v => K (aput ρ d v) A := (astep_n (io := .idxs x i) (F := fun v A' => K (aput ρ d v) A') (fun _ _ => rfl) (fun _ _ _ => rfl)).trans rfl
theorem wp_idxa {l sz : Nat} {n : Option Nat} {x i : Opd} : awpOp P p0 ⟨d, .idxa l sz n x i, g, s, pre⟩ ρ A K = orF (ev (AV.idxa l sz n (x.get ρ) (i.get ρ))) fun v => K (aput ρ d v) A := (astep_n (io := .idxa l sz n x i) (F := fun v A' => K (aput ρ d v) A') (fun _ _ => rfl) (fun _ _ _ => rfl)).trans rfl
theorem wp_ext {i : Nat} {x : Opd} : awpOp P p0 ⟨d, .ext i x, g, s, pre⟩ ρ A K = orF (ev (nstep ρ (.ext i x))) fun v => K (aput ρ d v) A := (astep_n (io := .ext i x) (F := fun v A' => K (aput ρ d v) A') (fun _ _ => rfl) (fun _ _ _ => rfl)).trans rfl
theorem wp_lenst {x : Opd} : awpOp P p0 ⟨d, .lenst x, g, s, pre⟩ ρ A K = orF (ev (AV.lenst (x.get ρ))) fun v => K (aput ρ d v) A := (astep_n (io := .lenst x) (F := fun v A' => K (aput ρ d v) A') (fun _ _ => rfl) (fun _ _ _ => rfl)).trans rfl
theorem wp_lens {x : Opd} : awpOp P p0 ⟨d, .lens x, g, s, pre⟩ ρ A K = orF (ev (AV.lens (x.get ρ))) fun v => K (aput ρ d v) A := (astep_n (io := .lens x) (F := fun v A' => K (aput ρ d v) A') (fun _ _ => rfl) (fun _ _ _ => rfl)).trans rfl
theorem wp_lenc {n : Nat} : awpOp P p0 ⟨d, .lenc n, g, s, pre⟩ ρ A K = K (aput ρ d (.int .i64 n)) A := rfl
theorem wp_mn {xs : List Opd} : awpOp P p0 ⟨d, .mn xs, g, s, pre⟩ ρ A K = orF (ev (nstep ρ (.mn xs))) fun v => K (aput ρ d v) A := (astep_n (io := .mn xs) (F := fun v A' => K (aput ρ d v) A') (fun _ _ => rfl) (fun _ _ _ => rfl)).trans rfl
theorem wp_mx {xs : List Opd} : awpOp P p0 ⟨d, .mx xs, g, s, pre⟩ ρ A K = orF (ev (nstep ρ (.mx xs))) fun v => K (aput ρ d v) A := (astep_n (io := .mx xs) (F := fun v A' => K (aput ρ d v) A') (fun _ _ => rfl) (fun _ _ _ => rfl)).trans rfl
theorem wp_mkif {t : TypeId} {x : Opd} : awpOp P p0 ⟨d, .mkif t x, g, s, pre⟩ ρ A K = K (aput ρ d (.ifc t (x.get ρ))) A := rfl
theorem wp_load {n : Option Nat} {x : Opd} : awpOp P p0 ⟨d, .load n x, g, s, pre⟩ ρ A K = orF (ev (aload A n (x.get ρ))) fun v => K (aput ρ d v) A := (astep_r (io := .load n x) (F := fun v A' => K (aput ρ d v) A') (fun _ => rfl) (fun _ _ _ => rfl)).trans rfl
theorem wp_lookup {lk : LK} {z : AV} {ok : Bool} {m k : Opd} : awpOp P p0 ⟨d, .lookup lk z ok m k, g, s, pre⟩ ρ A K = orF (ev (alookup A lk z ok (m.get ρ) (k.get ρ))) fun v => K (aput ρ d v) A := (astep_r (io := .lookup lk z ok m k) (F := fun v A' => K (aput ρ d v) A') (fun _ => rfl) (fun _ _ _ => rfl)).trans rfl
theorem wp_lenm {x : Opd} : awpOp P p0 ⟨d, .lenm x, g, s, pre⟩ ρ A K = orF (ev (alenm A (x.get ρ))) fun v => K (aput ρ d v) A := (astep_r (io := .lenm x) (F := fun v A' => K (aput ρ d v) A') (fun _ => rfl) (fun _ _ _ => rfl)).trans rfl
theorem wp_w {io : IOp} (h1 : ∀ ρ, nstep ρ io = none) (h2 : ∀ ρ A, rstep ρ A io = none) (h3 : ∀ f xs, io ≠ .call f xs) : awpOp P p0 ⟨d, io, g, s, pre⟩ ρ A K = orF (ev (wstep ρ A (p0 + s) io)) fun x => K (aput ρ d x.1) x.2 := by
  simp only [ev_eq]
  refine Eq.trans ?_ (astep_w (io := io) (F := fun v A' => K (aput ρ d v) A') h1 h2)
  cases io <;> first | rfl | exact absurd rfl (h3 _ _)
theorem wp_alloc {z : List AV} : awpOp P p0 ⟨d, .alloc z, g, s, pre⟩ ρ A K = orF (ev (anew A (p0 + s) (.ptr (p0 + s) 0) (.cells z))) fun x => K (aput ρ d x.1) x.2 := wp_w (fun _ => rfl) (fun _ _ => rfl) (fun _ _ h => by cases h)
theorem wp_box {x : Opd} : awpOp P p0 ⟨d, .box x, g, s, pre⟩ ρ A K = orF (ev (anew A (p0 + s) (.ptr (p0 + s) 0) (.cells (x.get ρ).cells))) fun x => K (aput ρ d x.1) x.2 := wp_w (fun _ => rfl) (fun _ _ => rfl) (fun _ _ h => by cases h)
theorem wp_bslice {sz : Nat} {es : List Opd} : awpOp P p0 ⟨d, .bslice sz es, g, s, pre⟩ ρ A K = orF (ev (abslice A (p0 + s) sz (es.map fun x => (x.get ρ).cells))) fun x => K (aput ρ d x.1) x.2 := wp_w (fun _ => rfl) (fun _ _ => rfl) (fun _ _ h => by cases h)
theorem wp_mkmap : awpOp P p0 ⟨d, .mkmap, g, s, pre⟩ ρ A K = orF (ev (anew A (p0 + s) (.mp (p0 + s)) (.map []))) fun x => K (aput ρ d x.1) x.2 := wp_w (fun _ => rfl) (fun _ _ => rfl) (fun _ _ h => by cases h)
theorem wp_mksl {sz bytes : Nat} {z : List AV} {n c : Opd} : awpOp P p0 ⟨d, .mksl sz bytes z n c, g, s, pre⟩ ρ A K = orF (ev (amksl A (p0 + s) sz bytes z (n.get ρ) (c.get ρ))) fun x => K (aput ρ d x.1) x.2 := wp_w (fun _ => rfl) (fun _ _ => rfl) (fun _ _ h => by cases h)
theorem withAny_or {o : Option AHeap} {F : AV × AHeap → Prop} : orF (withAny o) F = orF o fun A => F (.any, A) := by cases o <;> simp [orF, withAny]
theorem wp_store {n : Nat} {a x : Opd} : awpOp P p0 ⟨d, .store n a x, g, s, pre⟩ ρ A K = ((x.get ρ).cells.length = n ∧ orF (ev (wrN A (a.get ρ) (x.get ρ).cells)) fun A' => K (aput ρ d .any) A') := by
  simp only [ev_eq]
  refine (wp_w (fun _ => rfl) (fun _ _ => rfl) (fun _ _ h => by cases h)).trans ?_
  simp only [wstep]
  by_cases h : (x.get ρ).cells.length = n <;> simp [h, ev_eq, orF_none, withAny_or]
theorem wp_mset {lk : LK} {m k v : Opd} : awpOp P p0 ⟨d, .mset lk m k v, g, s, pre⟩ ρ A K = orF (ev (amset A lk (m.get ρ) (k.get ρ) (v.get ρ))) fun A' => K (aput ρ d .any) A' :=
  (wp_w (fun _ => rfl) (fun _ _ => rfl) (fun _ _ h => by cases h)).trans withAny_or
theorem wp_del {lk : LK} {m k : Opd} : awpOp P p0 ⟨d, .del lk m k, g, s, pre⟩ ρ A K = orF (ev (amdel A lk (m.get ρ) (k.get ρ))) fun A' => K (aput ρ d .any) A' :=
  (wp_w (fun _ => rfl) (fun _ _ => rfl) (fun _ _ h => by cases h)).trans withAny_or
theorem wp_clr {m : Opd} : awpOp P p0 ⟨d, .clr m, g, s, pre⟩ ρ A K = orF (ev (amclr A (m.get ρ))) fun A' => K (aput ρ d .any) A' :=
  (wp_w (fun _ => rfl) (fun _ _ => rfl) (fun _ _ h => by cases h)).trans withAny_or
theorem wp_clrs {sz : Nat} {z : List AV} {x : Opd} : awpOp P p0 ⟨d, .clrs sz z x, g, s, pre⟩ ρ A K = orF (ev (aclrs A sz z (x.get ρ))) fun A' => K (aput ρ d .any) A' :=
  (wp_w (fun _ => rfl) (fun _ _ => rfl) (fun _ _ h => by cases h)).trans withAny_or
theorem wp_app {sz bytes : Nat} {x y : Opd} : awpOp P p0 ⟨d, .app sz bytes x y, g, s, pre⟩ ρ A K = orF (ev (elemsOf A sz (y.get ρ))) fun xs => rowsOk sz xs = true ∧ orF (ev (aapp A (p0 + s) sz bytes (x.get ρ) xs)) fun x => K (aput ρ d x.1) x.2 := by
  simp only [ev_eq]
  refine (wp_w (fun _ => rfl) (fun _ _ => rfl) (fun _ _ h => by cases h)).trans ?_
  simp only [wstep]
  cases h : elemsOf A sz (y.get ρ) with
  | none => simp [orF, ev_eq]
  | some xs => simp only [orF_some, ev_eq]; by_cases h : rowsOk sz xs <;> simp [h, ev_eq, orF_none]
theorem wp_cpy {sz : Nat} {x y : Opd} : awpOp P p0 ⟨d, .cpy sz x y, g, s, pre⟩ ρ A K = orF (ev (elemsOf A sz (y.get ρ))) fun xs => rowsOk sz xs = true ∧ orF (ev (acpy A sz (x.get ρ) xs)) fun x => K (aput ρ d x.1) x.2 := by
  simp only [ev_eq]
  refine (wp_w (fun _ => rfl) (fun _ _ => rfl) (fun _ _ h => by cases h)).trans ?_
  simp only [wstep]
  cases h : elemsOf A sz (y.get ρ) with
  | none => simp [orF, ev_eq]
  | some xs => simp only [orF_some, ev_eq]; by_cases h : rowsOk sz xs <;> simp [h, ev_eq, orF_none]
/-- A call, and what is to hold behind it. -/
def AC (P : Program) (f : FuncId) (args : List AV) (A : AHeap) (K : AV → AHeap → Prop) (_ : Dep K Unit := ()) : Prop := ACall P f args A K
def ACV (P : Program) (f : AV) (args : List AV) (A : AHeap) (K : AV → AHeap → Prop) (_ : Dep K Unit := ()) : Prop := ACallV P f args A K
theorem wp_call {f : Opd} {xs : List Opd} : awpOp P p0 ⟨d, .call f xs, g, s, pre⟩ ρ A K = ACV P (f.get ρ) (xs.map (·.get ρ)) A fun r A' => K (aput ρ d r) A' := rfl
theorem callV_fn {f : FuncId} {a b : List AV} {xs : List AV} {K : AV → AHeap → Prop} : ACV P (.fn f a b) xs A K = AC P f (a ++ xs ++ b) A K := rfl

def ORD (P : Program) (p0 : Nat) (ios : List IOper) (anc : Nat → Nat → Bool) (K : List AV → AHeap → Prop) (c : List Nat) (R : Chk) (ρ : List AV) (A : AHeap) (_ : Dep K Unit := ()) : Prop := awpOrd P p0 ios anc K c R ρ A
def AW (P : Program) (n0 : Nat) (ic : IC) (ρ : List AV) (A : AHeap) (Q : IExit → List AV → AHeap → Prop) (_ : Dep Q Unit := ()) : Prop := awp P n0 ic ρ A Q
theorem aw_skip : AW P n0 .skip ρ A Q = Q .normal ρ A := rfl
theorem aw_region {m : Nat} {ops : List IOper} {kill : List Nat} : AW P n0 (.region m ops kill) ρ A Q = OPS P A.length ops ρ (A.more m) fun ρ' A' => Q .normal (mask kill ρ') A' := rfl
theorem aw_regionD {m : Nat} {ops : List IOper} {ord ms kill : List Nat} : AW P n0 (.regionD m ops ord ms kill) ρ A Q = ORD P A.length ops (waits ms) (fun ρ' A' => Q .normal (mask kill ρ') A') ord [] ρ (A.more m) := rfl
theorem aw_seq {x y : IC} : AW P n0 (.seq x y) ρ A Q = AW P n0 x ρ A (seqQ (fun ρ' A' => AW P n0 y ρ' A' Q) Q) := rfl
def awpIf (v : AV) (x y : Prop) (_ : Dep x Unit := ()) (_ : Dep y Unit := ()) : Prop := match v with | .bool b => (b = true → x) ∧ (b = false → y) | _ => False
theorem aw_cond {c : Opd} {kill : List Nat} {x y : IC} : AW P n0 (.cond c kill x y) ρ A Q = awpIf (ev (c.get ρ)) (AW P n0 x (mask kill ρ) A Q) (AW P n0 y (mask kill ρ) A Q) := by
  simp only [ev_eq]
  simp only [AW, awp, awpIf]
  cases c.get ρ <;> rfl
theorem awpIf_bool {b : Bool} {x y : Prop} : awpIf (.bool b) x y = ((b = true → x) ∧ (b = false → y)) := rfl
theorem awpIf_cases {b : Bool} {x y : Prop} (h1 : b = true → x) (h2 : b = false → y) : awpIf (.bool b) x y := ⟨h1, h2⟩
theorem awpIf_t {x y : Prop} : awpIf (.bool true) x y = x := by simp [awpIf]
theorem awpIf_f {x y : Prop} : awpIf (.bool false) x y = y := by simp [awpIf]
theorem aw_block {id : Nat} {x : IC} : AW P n0 (.block id x) ρ A Q = AW P n0 x ρ A (blockQ id Q) := rfl
theorem aw_exit {id : Nat} : AW P n0 (.exit id) ρ A Q = Q (.exit id) ρ A := rfl
theorem aw_ret : AW P n0 .ret ρ A Q = Q .ret ρ A := rfl
theorem aw_label {l : Nat} : AW P n0 (.label l) ρ A Q = Q .normal ρ A := rfl
theorem aw_goto {l : Nat} : AW P n0 (.goto l) ρ A Q = Q (.goto l) ρ A := rfl
theorem seqQ_normal {N : List AV → AHeap → Prop} : seqQ N Q .normal ρ A = N ρ A := rfl
theorem seqQ_exit {N : List AV → AHeap → Prop} {i : Nat} : seqQ N Q (.exit i) ρ A = Q (.exit i) ρ A := rfl
theorem seqQ_goto {N : List AV → AHeap → Prop} {i : Nat} : seqQ N Q (.goto i) ρ A = Q (.goto i) ρ A := rfl
theorem seqQ_ret {N : List AV → AHeap → Prop} : seqQ N Q .ret ρ A = Q .ret ρ A := rfl
theorem blockQ_normal {id : Nat} : blockQ id Q .normal ρ A = Q .normal ρ A := rfl
theorem blockQ_exit {id i : Nat} : blockQ id Q (.exit i) ρ A = if i = id then Q .normal ρ A else Q (.exit i) ρ A := rfl
theorem blockQ_goto {id i : Nat} : blockQ id Q (.goto i) ρ A = Q (.goto i) ρ A := rfl
theorem blockQ_ret {id : Nat} : blockQ id Q .ret ρ A = Q .ret ρ A := rfl
theorem loopQ_exit {kill : List Nat} {I : Nat → List AV → AHeap → Prop} {m i : Nat} : loopQ n0 kill I m Q (.exit i) ρ A = Q (.exit i) ρ A := rfl
theorem loopQ_goto {kill : List Nat} {I : Nat → List AV → AHeap → Prop} {m i : Nat} : loopQ n0 kill I m Q (.goto i) ρ A = Q (.goto i) ρ A := rfl
theorem loopQ_ret {kill : List Nat} {I : Nat → List AV → AHeap → Prop} {m : Nat} : loopQ n0 kill I m Q .ret ρ A = Q .ret ρ A := rfl
theorem loopQ_normal {kill : List Nat} {I : Nat → List AV → AHeap → Prop} {m : Nat} : loopQ n0 kill I m Q .normal ρ A = ∃ j, j < m ∧ ∃ ks, okKeepO n0 ks = true ∧ I j (foldRo n0 ks (mask kill ρ)) (foldAo n0 ks A) := rfl
theorem retQ_any {rs : List RV} {K : AV → AHeap → Prop} {e : IExit} (he : e = .normal ∨ e = .ret) : retQ n0 rs K e ρ A = orF (ev (rvs ρ A rs)) fun vs => ∃ ks, okKeepO n0 ks = true ∧ K (foldVo n0 ks (rtup vs)) (foldAo n0 ks A) := by
  simp only [ev_eq]
  rcases he with rfl | rfl <;> simp only [retQ, orF_def] <;> cases rvs ρ A rs <;> rfl
theorem retQ_normal {rs : List RV} {K : AV → AHeap → Prop} : retQ n0 rs K .normal ρ A = orF (ev (rvs ρ A rs)) fun vs => ∃ ks, okKeepO n0 ks = true ∧ K (foldVo n0 ks (rtup vs)) (foldAo n0 ks A) := retQ_any (.inl rfl)
theorem retQ_ret {rs : List RV} {K : AV → AHeap → Prop} : retQ n0 rs K .ret ρ A = orF (ev (rvs ρ A rs)) fun vs => ∃ ks, okKeepO n0 ks = true ∧ K (foldVo n0 ks (rtup vs)) (foldAo n0 ks A) := retQ_any (.inr rfl)
end

/-! ### Regions that draw their order -/
section
variable {P : Program} {p0 : Nat} {ρ : List AV} {A : AHeap} {K : List AV → AHeap → Prop} {d : Option Nat} {s : Nat} {pre : List Nat} {ios : List IOper} {anc : Nat → Nat → Bool} {R : Chk} {i : Nat} {c : List Nat} {g : Option (Nat × Bool)}

def ordS (P : Program) (p0 : Nat) (ios : List IOper) (anc : Nat → Nat → Bool) (K : List AV → AHeap → Prop) (o : Option IOper) (i : Nat) (c : List Nat) (R : Chk) (ρ : List AV) (A : AHeap) (_ : Dep K Unit := ()) : Prop :=
  match o with
  | none => False
  | some x => match x.op.cls with
    | .pure => (match yld x ρ A with | some v => awpOrd P p0 ios anc K c R (aput ρ x.dst v) A | none => False)
    | .read => (match yld x ρ A with | some v => awpOrd P p0 ios anc K c ((i, v) :: R) (aput ρ x.dst v) A | none => False)
    | .make => awpG P p0 x ρ A fun ρ' A' => awpOrd P p0 ios anc K c R ρ' A'
    | .eff => awpG P p0 x ρ A fun ρ' A' => chks ios anc R i ρ' A' ∧ awpOrd P p0 ios anc K c R ρ' A'
theorem awpOrd_nil : ORD P p0 ios anc K [] R ρ A = K ρ A := rfl
theorem awpOrd_cons : ORD P p0 ios anc K (i :: c) R ρ A = ordS P p0 ios anc K (ev ios[i]?) i c R ρ A := rfl

theorem yld_awpG {op : IOp} (hc : op.cls = .pure) {F : List AV → Prop} (hF : ∀ ρ', K ρ' A = F ρ') :
    (match yld ⟨d, op, g, s, pre⟩ ρ A with | some v => F (aput ρ d v) | none => False) = awpG P p0 ⟨d, op, g, s, pre⟩ ρ A K := by
  have h0 : ∀ ρ A, rstep ρ A op = none := by cases op <;> first | (intro ρ A; rfl) | cases hc
  have h1 : ∀ ρ A p, wstep ρ A p op = none := by cases op <;> first | (intro ρ A p; rfl) | cases hc
  have hop : awpOp P p0 ⟨d, op, g, s, pre⟩ ρ A K = orF (nstep ρ op) fun v => F (aput ρ d v) := by
    have : (fun v => F (aput ρ d v)) = fun v => K (aput ρ d v) A := by funext v; rw [hF]
    rw [this]
    refine Eq.trans ?_ (astep_n h0 h1 (p := p0 + s) (F := fun v A' => K (aput ρ d v) A'))
    cases op <;> first | rfl | cases hc
  have hy : (match nstep ρ op with | some v => some v | none => rstep ρ A op) = nstep ρ op := by
    cases h : nstep ρ op with
    | some v => rfl
    | none => exact h0 ρ A
  cases g with
  | none =>
    rw [awpG_none, hop]
    simp only [yld, hy]
    cases h : nstep ρ op with
    | none => simp [orF, h0]
    | some v => simp [orF]
  | some q =>
    obtain ⟨t, want⟩ := q
    rw [awpG_some, hop]
    simp only [yld, hy, ev_eq]
    cases hg : ρ.getD t .any <;> simp only [awpGd, hF]
    rename_i b
    cases b <;> cases want <;> simp <;> (cases nstep ρ op <;> simp [orF, h0])
theorem cls_mv : ∀ x, IOp.cls (.mv x) = .pure := fun _ => rfl
theorem cls_pick : ∀ a b c, IOp.cls (.pick a b c) = .pure := fun _ _ _ => rfl
theorem cls_alloc : ∀ a, IOp.cls (.alloc a) = .make := fun _ => rfl
theorem cls_box : ∀ a, IOp.cls (.box a) = .make := fun _ => rfl
theorem cls_build : ∀ a b, IOp.cls (.build a b) = .pure := fun _ _ => rfl
theorem cls_bslice : ∀ a b, IOp.cls (.bslice a b) = .make := fun _ _ => rfl
theorem cls_load : ∀ a b, IOp.cls (.load a b) = .read := fun _ _ => rfl
theorem cls_store : ∀ a b c, IOp.cls (.store a b c) = .eff := fun _ _ _ => rfl
theorem cls_nilck : ∀ a, IOp.cls (.nilck a) = .pure := fun _ => rfl
theorem cls_bin : ∀ a b c, IOp.cls (.bin a b c) = .pure := fun _ _ _ => rfl
theorem cls_eqv : ∀ a b c d, IOp.cls (.eqv a b c d) = .pure := fun _ _ _ _ => rfl
theorem cls_un : ∀ a b, IOp.cls (.un a b) = .pure := fun _ _ => rfl
theorem cls_cvi : ∀ a b, IOp.cls (.cvi a b) = .pure := fun _ _ => rfl
theorem cls_cvs : ∀ a, IOp.cls (.cvs a) = .pure := fun _ => rfl
theorem cls_mkfn : ∀ a b c, IOp.cls (.mkfn a b c) = .pure := fun _ _ _ => rfl
theorem cls_mkmap : IOp.cls (.mkmap) = .make := rfl
theorem cls_mksl : ∀ a b c d e, IOp.cls (.mksl a b c d e) = .make := fun _ _ _ _ _ => rfl
theorem cls_slcs : ∀ a b c, IOp.cls (.slcs a b c) = .pure := fun _ _ _ => rfl
theorem cls_slc : ∀ a b c d e, IOp.cls (.slc a b c d e) = .pure := fun _ _ _ _ _ => rfl
theorem cls_faddr : ∀ a b, IOp.cls (.faddr a b) = .pure := fun _ _ => rfl
theorem cls_fld : ∀ a b c, IOp.cls (.fld a b c) = .pure := fun _ _ _ => rfl
theorem cls_iaddr : ∀ a b c, IOp.cls (.iaddr a b c) = .pure := fun _ _ _ => rfl
theorem cls_iaddra : ∀ a b c d, IOp.cls (.iaddra a b c d) = .pure := fun _ _ _ _ => rfl
theorem cls_idxs : ∀ a b, IOp.cls (.idxs a b) = .pure := fun _ _ => rfl
theorem cls_idxa : ∀ a b c d e, IOp.cls (.idxa a b c d e) = .pure := fun _ _ _ _ _ => rfl
theorem cls_lookup : ∀ a b c d e, IOp.cls (.lookup a b c d e) = .read := fun _ _ _ _ _ => rfl
theorem cls_mset : ∀ a b c d, IOp.cls (.mset a b c d) = .eff := fun _ _ _ _ => rfl
theorem cls_ext : ∀ a b, IOp.cls (.ext a b) = .pure := fun _ _ => rfl
theorem cls_lenst : ∀ a, IOp.cls (.lenst a) = .pure := fun _ => rfl
theorem cls_lens : ∀ a, IOp.cls (.lens a) = .pure := fun _ => rfl
theorem cls_lenc : ∀ a, IOp.cls (.lenc a) = .pure := fun _ => rfl
theorem cls_lenm : ∀ a, IOp.cls (.lenm a) = .read := fun _ => rfl
theorem cls_app : ∀ a b c d, IOp.cls (.app a b c d) = .eff := fun _ _ _ _ => rfl
theorem cls_cpy : ∀ a b c, IOp.cls (.cpy a b c) = .eff := fun _ _ _ => rfl
theorem cls_mn : ∀ a, IOp.cls (.mn a) = .pure := fun _ => rfl
theorem cls_mx : ∀ a, IOp.cls (.mx a) = .pure := fun _ => rfl
theorem cls_del : ∀ a b c, IOp.cls (.del a b c) = .eff := fun _ _ _ => rfl
theorem cls_clr : ∀ a, IOp.cls (.clr a) = .eff := fun _ => rfl
theorem cls_clrs : ∀ a b c, IOp.cls (.clrs a b c) = .eff := fun _ _ _ => rfl
theorem cls_mkif : ∀ a b, IOp.cls (.mkif a b) = .pure := fun _ _ => rfl
theorem cls_call : ∀ a b, IOp.cls (.call a b) = .eff := fun _ _ => rfl
/-- By the operation's kind. -/
def ordC (P : Program) (p0 : Nat) (ios : List IOper) (anc : Nat → Nat → Bool) (K : List AV → AHeap → Prop) (k : Cls) (x : IOper) (i : Nat) (c : List Nat) (R : Chk) (ρ : List AV) (A : AHeap) (_ : Dep K Unit := ()) : Prop :=
  match k with
  | .pure => (match yld x ρ A with | some v => awpOrd P p0 ios anc K c R (aput ρ x.dst v) A | none => False)
  | .read => (match yld x ρ A with | some v => awpOrd P p0 ios anc K c ((i, v) :: R) (aput ρ x.dst v) A | none => False)
  | .make => awpG P p0 x ρ A fun ρ' A' => awpOrd P p0 ios anc K c R ρ' A'
  | .eff => awpG P p0 x ρ A fun ρ' A' => chks ios anc R i ρ' A' ∧ awpOrd P p0 ios anc K c R ρ' A'
theorem ordS_some {op : IOp} : ordS P p0 ios anc K (some ⟨d, op, g, s, pre⟩) i c R ρ A = ordC P p0 ios anc K op.cls ⟨d, op, g, s, pre⟩ i c R ρ A := rfl
/-- Now, if it is of that kind. -/
theorem ordC_pure' {op : IOp} (hc : op.cls = .pure) : ordC P p0 ios anc K .pure ⟨d, op, g, s, pre⟩ i c R ρ A = awpG P p0 ⟨d, op, g, s, pre⟩ ρ A fun ρ' A' => ORD P p0 ios anc K c R ρ' A' := by
  simp only [ordC, ORD]
  exact yld_awpG hc (fun _ => rfl)
theorem ordC_read {x : IOper} : ordC P p0 ios anc K .read x i c R ρ A = orF (ev (yld x ρ A)) fun v => ORD P p0 ios anc K c ((i, v) :: R) (aput ρ x.dst v) A := by
  simp only [ordC, ORD, ev_eq]
  cases yld x ρ A <;> simp [orF]
theorem ordC_make {x : IOper} : ordC P p0 ios anc K .make x i c R ρ A = awpG P p0 x ρ A fun ρ' A' => ORD P p0 ios anc K c R ρ' A' := rfl
theorem ordC_eff {x : IOper} : ordC P p0 ios anc K .eff x i c R ρ A = awpG P p0 x ρ A fun ρ' A' => chks ios anc R i ρ' A' ∧ ORD P p0 ios anc K c R ρ' A' := rfl
theorem ordP_mv : ∀ o0, ordC P p0 ios anc K .pure ⟨d, .mv o0, g, s, pre⟩ i c R ρ A = awpG P p0 ⟨d, .mv o0, g, s, pre⟩ ρ A fun ρ' A' => ORD P p0 ios anc K c R ρ' A' := fun _ => ordC_pure' rfl
theorem ordP_pick : ∀ o0 o1 o2, ordC P p0 ios anc K .pure ⟨d, .pick o0 o1 o2, g, s, pre⟩ i c R ρ A = awpG P p0 ⟨d, .pick o0 o1 o2, g, s, pre⟩ ρ A fun ρ' A' => ORD P p0 ios anc K c R ρ' A' := fun _ _ _ => ordC_pure' rfl
theorem ordP_build : ∀ o0 o1, ordC P p0 ios anc K .pure ⟨d, .build o0 o1, g, s, pre⟩ i c R ρ A = awpG P p0 ⟨d, .build o0 o1, g, s, pre⟩ ρ A fun ρ' A' => ORD P p0 ios anc K c R ρ' A' := fun _ _ => ordC_pure' rfl
theorem ordP_nilck : ∀ o0, ordC P p0 ios anc K .pure ⟨d, .nilck o0, g, s, pre⟩ i c R ρ A = awpG P p0 ⟨d, .nilck o0, g, s, pre⟩ ρ A fun ρ' A' => ORD P p0 ios anc K c R ρ' A' := fun _ => ordC_pure' rfl
theorem ordP_bin : ∀ o0 o1 o2, ordC P p0 ios anc K .pure ⟨d, .bin o0 o1 o2, g, s, pre⟩ i c R ρ A = awpG P p0 ⟨d, .bin o0 o1 o2, g, s, pre⟩ ρ A fun ρ' A' => ORD P p0 ios anc K c R ρ' A' := fun _ _ _ => ordC_pure' rfl
theorem ordP_eqv : ∀ o0 o1 o2 o3, ordC P p0 ios anc K .pure ⟨d, .eqv o0 o1 o2 o3, g, s, pre⟩ i c R ρ A = awpG P p0 ⟨d, .eqv o0 o1 o2 o3, g, s, pre⟩ ρ A fun ρ' A' => ORD P p0 ios anc K c R ρ' A' := fun _ _ _ _ => ordC_pure' rfl
theorem ordP_un : ∀ o0 o1, ordC P p0 ios anc K .pure ⟨d, .un o0 o1, g, s, pre⟩ i c R ρ A = awpG P p0 ⟨d, .un o0 o1, g, s, pre⟩ ρ A fun ρ' A' => ORD P p0 ios anc K c R ρ' A' := fun _ _ => ordC_pure' rfl
theorem ordP_cvi : ∀ o0 o1, ordC P p0 ios anc K .pure ⟨d, .cvi o0 o1, g, s, pre⟩ i c R ρ A = awpG P p0 ⟨d, .cvi o0 o1, g, s, pre⟩ ρ A fun ρ' A' => ORD P p0 ios anc K c R ρ' A' := fun _ _ => ordC_pure' rfl
theorem ordP_cvs : ∀ o0, ordC P p0 ios anc K .pure ⟨d, .cvs o0, g, s, pre⟩ i c R ρ A = awpG P p0 ⟨d, .cvs o0, g, s, pre⟩ ρ A fun ρ' A' => ORD P p0 ios anc K c R ρ' A' := fun _ => ordC_pure' rfl
theorem ordP_mkfn : ∀ o0 o1 o2, ordC P p0 ios anc K .pure ⟨d, .mkfn o0 o1 o2, g, s, pre⟩ i c R ρ A = awpG P p0 ⟨d, .mkfn o0 o1 o2, g, s, pre⟩ ρ A fun ρ' A' => ORD P p0 ios anc K c R ρ' A' := fun _ _ _ => ordC_pure' rfl
theorem ordP_slcs : ∀ o0 o1 o2, ordC P p0 ios anc K .pure ⟨d, .slcs o0 o1 o2, g, s, pre⟩ i c R ρ A = awpG P p0 ⟨d, .slcs o0 o1 o2, g, s, pre⟩ ρ A fun ρ' A' => ORD P p0 ios anc K c R ρ' A' := fun _ _ _ => ordC_pure' rfl
theorem ordP_slc : ∀ o0 o1 o2 o3 o4, ordC P p0 ios anc K .pure ⟨d, .slc o0 o1 o2 o3 o4, g, s, pre⟩ i c R ρ A = awpG P p0 ⟨d, .slc o0 o1 o2 o3 o4, g, s, pre⟩ ρ A fun ρ' A' => ORD P p0 ios anc K c R ρ' A' := fun _ _ _ _ _ => ordC_pure' rfl
theorem ordP_faddr : ∀ o0 o1, ordC P p0 ios anc K .pure ⟨d, .faddr o0 o1, g, s, pre⟩ i c R ρ A = awpG P p0 ⟨d, .faddr o0 o1, g, s, pre⟩ ρ A fun ρ' A' => ORD P p0 ios anc K c R ρ' A' := fun _ _ => ordC_pure' rfl
theorem ordP_fld : ∀ o0 o1 o2, ordC P p0 ios anc K .pure ⟨d, .fld o0 o1 o2, g, s, pre⟩ i c R ρ A = awpG P p0 ⟨d, .fld o0 o1 o2, g, s, pre⟩ ρ A fun ρ' A' => ORD P p0 ios anc K c R ρ' A' := fun _ _ _ => ordC_pure' rfl
theorem ordP_iaddr : ∀ o0 o1 o2, ordC P p0 ios anc K .pure ⟨d, .iaddr o0 o1 o2, g, s, pre⟩ i c R ρ A = awpG P p0 ⟨d, .iaddr o0 o1 o2, g, s, pre⟩ ρ A fun ρ' A' => ORD P p0 ios anc K c R ρ' A' := fun _ _ _ => ordC_pure' rfl
theorem ordP_iaddra : ∀ o0 o1 o2 o3, ordC P p0 ios anc K .pure ⟨d, .iaddra o0 o1 o2 o3, g, s, pre⟩ i c R ρ A = awpG P p0 ⟨d, .iaddra o0 o1 o2 o3, g, s, pre⟩ ρ A fun ρ' A' => ORD P p0 ios anc K c R ρ' A' := fun _ _ _ _ => ordC_pure' rfl
theorem ordP_idxs : ∀ o0 o1, ordC P p0 ios anc K .pure ⟨d, .idxs o0 o1, g, s, pre⟩ i c R ρ A = awpG P p0 ⟨d, .idxs o0 o1, g, s, pre⟩ ρ A fun ρ' A' => ORD P p0 ios anc K c R ρ' A' := fun _ _ => ordC_pure' rfl
theorem ordP_idxa : ∀ o0 o1 o2 o3 o4, ordC P p0 ios anc K .pure ⟨d, .idxa o0 o1 o2 o3 o4, g, s, pre⟩ i c R ρ A = awpG P p0 ⟨d, .idxa o0 o1 o2 o3 o4, g, s, pre⟩ ρ A fun ρ' A' => ORD P p0 ios anc K c R ρ' A' := fun _ _ _ _ _ => ordC_pure' rfl
theorem ordP_ext : ∀ o0 o1, ordC P p0 ios anc K .pure ⟨d, .ext o0 o1, g, s, pre⟩ i c R ρ A = awpG P p0 ⟨d, .ext o0 o1, g, s, pre⟩ ρ A fun ρ' A' => ORD P p0 ios anc K c R ρ' A' := fun _ _ => ordC_pure' rfl
theorem ordP_lenst : ∀ o0, ordC P p0 ios anc K .pure ⟨d, .lenst o0, g, s, pre⟩ i c R ρ A = awpG P p0 ⟨d, .lenst o0, g, s, pre⟩ ρ A fun ρ' A' => ORD P p0 ios anc K c R ρ' A' := fun _ => ordC_pure' rfl
theorem ordP_lens : ∀ o0, ordC P p0 ios anc K .pure ⟨d, .lens o0, g, s, pre⟩ i c R ρ A = awpG P p0 ⟨d, .lens o0, g, s, pre⟩ ρ A fun ρ' A' => ORD P p0 ios anc K c R ρ' A' := fun _ => ordC_pure' rfl
theorem ordP_lenc : ∀ o0, ordC P p0 ios anc K .pure ⟨d, .lenc o0, g, s, pre⟩ i c R ρ A = awpG P p0 ⟨d, .lenc o0, g, s, pre⟩ ρ A fun ρ' A' => ORD P p0 ios anc K c R ρ' A' := fun _ => ordC_pure' rfl
theorem ordP_mn : ∀ o0, ordC P p0 ios anc K .pure ⟨d, .mn o0, g, s, pre⟩ i c R ρ A = awpG P p0 ⟨d, .mn o0, g, s, pre⟩ ρ A fun ρ' A' => ORD P p0 ios anc K c R ρ' A' := fun _ => ordC_pure' rfl
theorem ordP_mx : ∀ o0, ordC P p0 ios anc K .pure ⟨d, .mx o0, g, s, pre⟩ i c R ρ A = awpG P p0 ⟨d, .mx o0, g, s, pre⟩ ρ A fun ρ' A' => ORD P p0 ios anc K c R ρ' A' := fun _ => ordC_pure' rfl
theorem ordP_mkif : ∀ o0 o1, ordC P p0 ios anc K .pure ⟨d, .mkif o0 o1, g, s, pre⟩ i c R ρ A = awpG P p0 ⟨d, .mkif o0 o1, g, s, pre⟩ ρ A fun ρ' A' => ORD P p0 ios anc K c R ρ' A' := fun _ _ => ordC_pure' rfl

/-- A guarded value. -/
def guardO (want : Bool) (g : AV) (o : Option AV) : Option AV :=
  match g with
  | .bool b => if b = want then o else some (.tup [])
  | .tup _ => some (.tup [])
  | _ => none
theorem guardO_bool {want b : Bool} {o : Option AV} : guardO want (.bool b) o = if b = want then o else some (.tup []) := rfl
theorem guardO_tup {want : Bool} {vs : List AV} {o : Option AV} : guardO want (.tup vs) o = some (.tup []) := rfl
theorem yld_load {n : Option Nat} {x : Opd} : yld ⟨d, .load n x, none, s, pre⟩ ρ A = aload A n (x.get ρ) := rfl
theorem yld_loadG {n : Option Nat} {x : Opd} {t : Nat} {want : Bool} : yld ⟨d, .load n x, some (t, want), s, pre⟩ ρ A = guardO want (ρ.getD t .any) (aload A n (x.get ρ)) := by
  cases h : ρ.getD t .any <;> simp only [yld, guardO, h] <;> rfl
theorem yld_lookup {lk : LK} {z : AV} {ok : Bool} {m k : Opd} : yld ⟨d, .lookup lk z ok m k, none, s, pre⟩ ρ A = alookup A lk z ok (m.get ρ) (k.get ρ) := rfl
theorem yld_lookupG {lk : LK} {z : AV} {ok : Bool} {m k : Opd} {t : Nat} {want : Bool} : yld ⟨d, .lookup lk z ok m k, some (t, want), s, pre⟩ ρ A = guardO want (ρ.getD t .any) (alookup A lk z ok (m.get ρ) (k.get ρ)) := by
  cases h : ρ.getD t .any <;> simp only [yld, guardO, h] <;> rfl
theorem yld_lenm {x : Opd} : yld ⟨d, .lenm x, none, s, pre⟩ ρ A = alenm A (x.get ρ) := rfl
theorem yld_lenmG {x : Opd} {t : Nat} {want : Bool} : yld ⟨d, .lenm x, some (t, want), s, pre⟩ ρ A = guardO want (ρ.getD t .any) (alenm A (x.get ρ)) := by
  cases h : ρ.getD t .any <;> simp only [yld, guardO, h] <;> rfl
theorem chks_nil : chks ios anc [] i ρ A = True := rfl
theorem chks_cons {j : Nat} {v : AV} : chks ios anc ((i, v) :: R) j ρ A = ((anc i j = true ∨ ∃ io, ios[i]? = some io ∧ yld io ρ A = some v) ∧ chks ios anc R j ρ A) := rfl
end
end Go.SB
end

/- Framework, part Sb: values without addresses, calls that make nothing, loops that count. -/
section
set_option linter.unusedVariables false
set_option linter.unusedSimpArgs false
namespace Go.SB

mutual
/-- No address is in it. -/
def AV.flat : AV → Bool
  | .ptr _ _ | .eptr _ _ _ | .sl _ _ _ _ _ | .mp _ => false
  | .fn _ a b => AV.flatL a && AV.flatL b
  | .ifc _ x => AV.flat x
  | .agg cs => AV.flatL cs
  | .tup vs => AV.flatL vs
  | .pp cs => AV.flatL cs
  | .ps _ xs => AV.flatLL xs
  | _ => true
def AV.flatL : List AV → Bool
  | [] => true
  | v :: vs => AV.flat v && AV.flatL vs
def AV.flatLL : List (List AV) → Bool
  | [] => true
  | v :: vs => AV.flatL v && AV.flatLL vs
end

mutual
theorem AV.ren_flat (g : Nat → Option Nat) : ∀ {v : AV}, AV.flat v = true → AV.ren g v = v
  | .int _ _, _ | .bool _, _ | .str _, _ | .nilp, _ | .nils, _ | .nilm, _ | .nilf, _ | .nili, _ | .es, _ | .raw _, _ | .any, _ => rfl
  | .ptr _ _, h | .eptr _ _ _, h | .sl _ _ _ _ _, h | .mp _, h => by simp [AV.flat] at h
  | .fn f a b, h => by
    simp only [AV.flat, Bool.and_eq_true] at h
    simp only [AV.ren, AV.renL_flat g h.1, AV.renL_flat g h.2]
  | .ifc _ x, h => by simp only [AV.flat] at h; simp only [AV.ren, AV.ren_flat g h]
  | .agg cs, h | .tup cs, h | .pp cs, h => by simp only [AV.flat] at h; simp only [AV.ren, AV.renL_flat g h]
  | .ps sz xs, h => by simp only [AV.flat] at h; simp only [AV.ren, AV.renLL_flat g h]
theorem AV.renL_flat (g : Nat → Option Nat) : ∀ {vs : List AV}, AV.flatL vs = true → AV.renL g vs = vs
  | [], _ => rfl
  | v :: vs, h => by
    simp only [AV.flatL, Bool.and_eq_true] at h
    simp only [AV.renL, AV.ren_flat g h.1, AV.renL_flat g h.2]
theorem AV.renLL_flat (g : Nat → Option Nat) : ∀ {vs : List (List AV)}, AV.flatLL vs = true → AV.renLL g vs = vs
  | [], _ => rfl
  | v :: vs, h => by
    simp only [AV.flatLL, Bool.and_eq_true] at h
    simp only [AV.renLL, AV.renL_flat g h.1, AV.renLL_flat g h.2]
end

theorem renMap_flat (g : Nat → Option Nat) {vs : List AV} (h : AV.flatL vs = true) : vs.map (AV.ren g) = vs := by rw [← renL_eq, AV.renL_flat g h]

/-- Rows that are made alike, of values without addresses. -/
def rows {α : Type} (f : α → List AV) (xs : List α) : List (List AV) := xs.map f

theorem rows_ren {α : Type} {f : α → List AV} (hf : ∀ x, AV.flatL (f x) = true) (g : Nat → Option Nat) (xs : List α) : AO.ren g (.arr (rows f xs)) = .arr (rows f xs) := by
  simp only [AO.ren, rows, List.map_map]
  congr 1
  exact List.map_congr_left fun x _ => renMap_flat g (hf x)
theorem rows_length {α : Type} {f : α → List AV} {xs : List α} : (rows f xs).length = xs.length := by simp [rows]
theorem rows_get {α : Type} {f : α → List AV} {xs : List α} {i : Nat} : (rows f xs)[i]? = (xs[i]?).map f := by simp [rows]
theorem rows_getD {α : Type} {f : α → List AV} {xs : List α} {i : Nat} {x : α} (h : xs[i]? = some x) : (rows f xs)[i]? = some (f x) := by simp [rows, h]
theorem rows_set {α : Type} {f : α → List AV} {xs : List α} {i : Nat} {x : α} : (rows f xs).set i (f x) = rows f (xs.set i x) := by simp [rows, List.map_set]
theorem rows_append {α : Type} {f : α → List AV} {xs ys : List α} : rows f xs ++ rows f ys = rows f (xs ++ ys) := by simp [rows]
theorem rows_drop {α : Type} {f : α → List AV} {xs : List α} {n : Nat} : (rows f xs).drop n = rows f (xs.drop n) := by simp [rows, List.map_drop]
theorem rows_take {α : Type} {f : α → List AV} {xs : List α} {n : Nat} : (rows f xs).take n = rows f (xs.take n) := by simp [rows, List.map_take]
theorem rows_nil {α : Type} {f : α → List AV} : rows f [] = [] := rfl
theorem rows_cons {α : Type} {f : α → List AV} {x : α} {xs : List α} : f x :: rows f xs = rows f (x :: xs) := rfl
theorem rows_replicate {α : Type} {f : α → List AV} {x : α} {n : Nat} : List.replicate n (f x) = rows f (List.replicate n x) := by simp [rows]
theorem rows_ok {α : Type} {f : α → List AV} {xs : List α} {sz : Nat} (hf : ∀ x, (f x).length = sz ∧ (f x).all AV.one = true) : rowsOk sz (rows f xs) = true := by
  simp only [rowsOk, rows, List.all_map, List.all_eq_true]
  intro x _
  simp [(hf x).1, (hf x).2]

/-- Whole numbers. -/
def rows1 (xs : List Int) : List AV := xs.map fun x => .int .i64 x

section
variable {P : Program}

/-- **A call that makes nothing, wherever it is called.** -/
theorem ACall.flat {f : FuncId} {args : List AV} {v : AV} {B : AHeap} {K : AV → AHeap → Prop} (h : ACall P f args [] fun r A => r = v ∧ A = []) (ha : AV.flatL args = true) (hv : AV.flat v = true) (hk : K v B) : ACall P f args B K := by
  have h1 := ACall.frame h (B := B) (js := []) ⟨rfl, by simp, by simp, by simp⟩
  rw [renMap_flat _ ha] at h1
  refine h1.mono ?_
  rintro r B' ⟨r0, A0, ⟨rfl, rfl⟩, rfl, rfl⟩
  rw [AV.ren_flat _ hv]
  simpa [putAll] using hk

/-- A call that answers v, and makes nothing. -/
def PCall (P : Program) (f : FuncId) (args : List AV) (v : AV) : Prop := ACall P f args [] fun r A => r = v ∧ A = []

theorem PCall.use {f : FuncId} {args : List AV} {v : AV} {B : AHeap} {K : AV → AHeap → Prop} (h : PCall P f args v) (ha : AV.flatL args = true) (hv : AV.flat v = true) (hk : K v B) : ACall P f args B K := ACall.flat h ha hv hk

theorem PCall.ac {f : FuncId} {args : List AV} {v : AV} {B : AHeap} {K : AV → AHeap → Prop} (h : PCall P f args v) (ha : AV.flatL args = true) (hv : AV.flat v = true) (hk : K v B) : AC P f args B K := ACall.flat h ha hv hk

/-- The function ends with v. -/
def retP (rs : List RV) (v : AV) (e : IExit) (ρ : List AV) (A : AHeap) : Prop :=
  match e with
  | .normal | .ret => orF (rvs ρ A rs) fun vs => rtup vs = v
  | _ => False
theorem retP_normal {rs : List RV} {v : AV} {ρ : List AV} {A : AHeap} : retP rs v .normal ρ A = orF (ev (rvs ρ A rs)) fun vs => rtup vs = v := rfl
theorem retP_ret {rs : List RV} {v : AV} {ρ : List AV} {A : AHeap} : retP rs v .ret ρ A = orF (ev (rvs ρ A rs)) fun vs => rtup vs = v := rfl

def standsL (g : Nat → Option Nat) (B : AHeap) : List Nat → AHeap → Prop
  | [], [] => True
  | j :: js, o :: A => B[j]? = some (o.map (AO.ren g)) ∧ standsL g B js A
  | _, _ => False

theorem standsL_spec {g : Nat → Option Nat} {B : AHeap} : ∀ {js : List Nat} {A : AHeap}, standsL g B js A → js.length = A.length ∧ ∀ (i j : Nat) (o : Option AO), js[i]? = some j → A[i]? = some o → B[j]? = some (o.map (AO.ren g))
  | [], [], _ => ⟨rfl, by simp⟩
  | [], _ :: _, h => h.elim
  | _ :: _, [], h => h.elim
  | j :: js, o :: A, h => by
    obtain ⟨h1, h2⟩ := standsL_spec h.2
    refine ⟨by simp [h1], fun i k o' hi ho => ?_⟩
    cases i with
    | zero => simp at hi ho; subst hi; subst ho; exact h.1
    | succ i => exact h2 i k o' (by simpa using hi) (by simpa using ho)

/-- **The frame rule, ready for use.** -/
theorem ACall.at' {f : FuncId} {args : List AV} {A : AHeap} {K0 K : AV → AHeap → Prop} (h : ACall P f args A K0) (js : List Nat) {B : AHeap} {args' : List AV} (hnd : js.Nodup) (hlt : js.all (fun j => decide (j < B.length)) = true)
    (hst : standsL (rn (place js B.length)) B js A) (hargs : args' = args.map (AV.ren (rn (place js B.length))))
    (hk : ∀ r A', K0 r A' → K (AV.ren (rn (place js B.length)) r) (putAll (rn (place js B.length)) B js A')) : ACall P f args' B K := by
  obtain ⟨h1, h2⟩ := standsL_spec hst
  subst hargs
  refine (ACall.frame h ⟨h1, hnd, fun j hj => by simpa using List.all_eq_true.1 hlt j hj, h2⟩).mono ?_
  rintro r B' ⟨r0, A0, hK, rfl, rfl⟩
  exact hk _ _ hK

theorem awpOrd_mono {p0 : Nat} {ios : List IOper} {anc : Nat → Nat → Bool} {K K' : List AV → AHeap → Prop} (hk : ∀ ρ A, K ρ A → K' ρ A) : ∀ (c : List Nat) (R : Chk) (ρ : List AV) (A : AHeap), awpOrd P p0 ios anc K c R ρ A → awpOrd P p0 ios anc K' c R ρ A
  | [], R, ρ, A, h => hk _ _ h
  | i :: c, R, ρ, A, h => by
    unfold awpOrd at h ⊢
    cases hi : ios[i]? with
    | none => rw [hi] at h; exact h.elim
    | some x =>
      rw [hi] at h
      simp only [] at h ⊢
      cases hc : x.op.cls <;> rw [hc] at h <;> simp only [] at h ⊢
      case pure =>
        cases hy : yld x ρ A with
        | none => rw [hy] at h; exact h.elim
        | some v => rw [hy] at h; exact awpOrd_mono hk c _ _ _ h
      case read =>
        cases hy : yld x ρ A with
        | none => rw [hy] at h; exact h.elim
        | some v => rw [hy] at h; exact awpOrd_mono hk c _ _ _ h
      case make => exact awpG_mono h fun ρ A h => awpOrd_mono hk c _ _ _ h
      case eff => exact awpG_mono h fun ρ A h => ⟨h.1, awpOrd_mono hk c _ _ _ h.2⟩

theorem awp_mono {n0 : Nat} : ∀ (ic : IC) {ρ : List AV} {A : AHeap} {Q Q' : IExit → List AV → AHeap → Prop}, awp P n0 ic ρ A Q → (∀ e ρ A, Q e ρ A → Q' e ρ A) → awp P n0 ic ρ A Q'
  | .skip, _, _, _, _, h, hq => hq _ _ _ h
  | .region _ _ _, _, _, _, _, h, hq => awpOps_mono (fun _ _ h => hq _ _ _ h) _ _ _ h
  | .regionD _ _ _ _ _, _, _, _, _, h, hq => awpOrd_mono (fun _ _ h => hq _ _ _ h) _ _ _ _ h
  | .seq x y, _, _, _, _, h, hq => awp_mono x (Q := seqQ _ _) h fun e ρ A h => by
      cases e with
      | normal => exact awp_mono y h hq
      | exit _ => exact hq _ _ _ h
      | goto _ => exact hq _ _ _ h
      | ret => exact hq _ _ _ h
  | .cond c kill x y, _, _, _, _, h, hq => by
      rw [show awp P n0 (.cond c kill x y) _ _ _ = _ from aw_cond] at h ⊢
      simp only [AW, ev_eq] at h ⊢
      unfold awpIf at h ⊢
      split at h
      · exact ⟨fun e => awp_mono x (h.1 e) hq, fun e => awp_mono y (h.2 e) hq⟩
      · exact h.elim
  | .block id x, _, _, _, _, h, hq => awp_mono x (Q := blockQ id _) h fun e ρ A h => by
      cases e with
      | normal => exact hq _ _ _ h
      | exit i =>
        rw [blockQ_exit] at h ⊢
        split at h
        · rename_i e; rw [if_pos e]; exact hq _ _ _ h
        · rename_i e; rw [if_neg e]; exact hq _ _ _ h
      | goto _ => exact hq _ _ _ h
      | ret => exact hq _ _ _ h
  | .loop kill x, _, _, _, _, h, hq => by
      obtain ⟨I, h0, h1⟩ := h
      refine ⟨I, h0, fun i ρ A hI => awp_mono x (h1 i ρ A hI) fun e ρ A h => ?_⟩
      cases e with
      | normal => exact h
      | exit _ => exact hq _ _ _ h
      | goto _ => exact hq _ _ _ h
      | ret => exact hq _ _ _ h
  | .exit _, _, _, _, _, h, hq => hq _ _ _ h
  | .ret, _, _, _, _, h, hq => hq _ _ _ h
  | .label _, _, _, _, _, h, hq => hq _ _ _ h
  | .goto _, _, _, _, _, h, hq => hq _ _ _ h
  | .scope l kill x r, _, _, _, _, h, hq => by
      obtain ⟨J, h0, h1⟩ := h
      refine ⟨J, awp_mono x h0 fun e ρ A h => ?_, fun i ρ A hI => awp_mono r (h1 i ρ A hI) fun e ρ A h => ?_⟩
      · cases e with
        | goto _ => exact h
        | normal => exact hq _ _ _ h
        | exit _ => exact hq _ _ _ h
        | ret => exact hq _ _ _ h
      · cases e with
        | goto _ => exact h
        | normal => exact hq _ _ _ h
        | exit _ => exact hq _ _ _ h
        | ret => exact hq _ _ _ h

theorem acallW {P : Program} (hm : P.follows .mixedOrders = true) {f : FuncId} {ic : IC} {rs : List RV} {n : Nat} (h : FnOk P f ic rs n) {args : List AV} {A : AHeap} {K : AV → AHeap → Prop}
    (hw : AW P A.length ic (args ++ List.replicate (n - args.length) .any) A (retQ A.length rs K)) : ACall P f args A K := acall_of hm h hw

theorem pcall_of {f : FuncId} {ic : IC} {rs : List RV} {n : Nat} {args : List AV} {v : AV} (hm : P.follows .mixedOrders = true) (h : FnOk P f ic rs n) (hv : AV.flat v = true)
    (hw : AW P 0 ic (args ++ List.replicate (n - args.length) .any) [] (retP rs v)) : PCall P f args v := by
  refine acall_of hm h (awp_mono ic hw ?_)
  intro e ρ A h
  have key : orF (rvs ρ A rs) (fun vs => rtup vs = v) → orF (rvs ρ A rs) fun vs => ∃ ks, okKeepO 0 ks = true ∧ foldVo 0 ks (rtup vs) = v ∧ foldAo 0 ks A = [] := by
    rintro ⟨vs, h1, h2⟩
    exact ⟨vs, h1, some [], rfl, by rw [h2]; exact AV.ren_flat _ hv, rfl⟩
  cases e with
  | normal => rw [List.length_nil, retQ_normal]; exact key h
  | ret => rw [List.length_nil, retQ_ret]; exact key h
  | exit _ => exact h.elim
  | goto _ => exact h.elim

/-- A round of a loop that counts. -/
def cntQ (n0 : Nat) (kill : List Nat) (n i : Nat) (I : Nat → List AV → AHeap → Prop) (Q : IExit → List AV → AHeap → Prop) (e : IExit) (ρ : List AV) (A : AHeap) : Prop :=
  match e with
  | .normal => i < n ∧ ∃ ks, okKeepO n0 ks = true ∧ I (i + 1) (foldRo n0 ks (mask kill ρ)) (foldAo n0 ks A)
  | e => Q e ρ A

theorem cntQ_exit {n0 : Nat} {kill : List Nat} {n i k : Nat} {I : Nat → List AV → AHeap → Prop} {Q : IExit → List AV → AHeap → Prop} {ρ : List AV} {A : AHeap} : cntQ n0 kill n i I Q (.exit k) ρ A = Q (.exit k) ρ A := rfl
theorem cntQ_goto {n0 : Nat} {kill : List Nat} {n i k : Nat} {I : Nat → List AV → AHeap → Prop} {Q : IExit → List AV → AHeap → Prop} {ρ : List AV} {A : AHeap} : cntQ n0 kill n i I Q (.goto k) ρ A = Q (.goto k) ρ A := rfl
theorem cntQ_ret {n0 : Nat} {kill : List Nat} {n i : Nat} {I : Nat → List AV → AHeap → Prop} {Q : IExit → List AV → AHeap → Prop} {ρ : List AV} {A : AHeap} : cntQ n0 kill n i I Q .ret ρ A = Q .ret ρ A := rfl
theorem cntQ_normal {n0 : Nat} {kill : List Nat} {n i : Nat} {I : Nat → List AV → AHeap → Prop} {Q : IExit → List AV → AHeap → Prop} {ρ : List AV} {A : AHeap} : cntQ n0 kill n i I Q .normal ρ A = (i < n ∧ ∃ ks, okKeepO n0 ks = true ∧ I (i + 1) (foldRo n0 ks (mask kill ρ)) (foldAo n0 ks A)) := rfl

theorem aw_loop {n0 : Nat} {kill : List Nat} {x : IC} {ρ : List AV} {A : AHeap} {Q : IExit → List AV → AHeap → Prop} (n : Nat) (I : Nat → List AV → AHeap → Prop)
    (h0 : ∃ ks, okKeepO n0 ks = true ∧ I 0 (foldRo n0 ks (mask kill ρ)) (foldAo n0 ks A))
    (hs : ∀ i ρ A, i ≤ n → I i ρ A → AW P n0 x ρ A (cntQ n0 kill n i I Q)) : AW P n0 (.loop kill x) ρ A Q := by
  show ∃ I : Nat → List AV → AHeap → Prop, _
  refine ⟨fun m ρ A => ∃ i, i ≤ n ∧ m = n - i ∧ I i ρ A, ?_, ?_⟩
  · obtain ⟨ks, hk, h⟩ := h0
    exact ⟨n, [], ks, rfl, hk, 0, Nat.zero_le _, rfl, by simpa [nlR, nlA] using h⟩
  · rintro m ρ' A' ⟨i, hi, rfl, hI⟩
    refine awp_mono x (hs i ρ' A' hi hI) ?_
    intro e ρ2 A2 h
    cases e with
    | normal =>
      obtain ⟨hlt, ks, hk, h⟩ := h
      exact ⟨n - (i + 1), by omega, ks, hk, i + 1, by omega, rfl, h⟩
    | exit _ => exact h
    | goto _ => exact h
    | ret => exact h
end
end Go.SB
end

/- Framework, part Sc: what the operations answer, one law for each shape of value. -/
section
set_option linter.unusedVariables false
set_option linter.unusedSimpArgs false
namespace Go.SB
section
variable {P : Program} {p0 n0 : Nat} {ρ : List AV} {A : AHeap} {K : List AV → AHeap → Prop} {Q : IExit → List AV → AHeap → Prop} {d : Option Nat} {s : Nat} {pre : List Nat} {g : Option (Nat × Bool)}

theorem awpIf_dec {p : Prop} [Decidable p] {x y : Prop} (h1 : p → x) (h2 : ¬ p → y) : awpIf (.bool (decide p)) x y := ⟨fun h => h1 (of_decide_eq_true h), fun h => h2 (of_decide_eq_false h)⟩
theorem awpIf_asT {b : Bool} {x y : Prop} (h : b = true) (hx : x) : awpIf (.bool b) x y := by subst h; exact ⟨fun _ => hx, fun h => by cases h⟩
theorem awpIf_asF {b : Bool} {x y : Prop} (h : b = false) (hy : y) : awpIf (.bool b) x y := by subst h; exact ⟨fun h => by (cases h), fun _ => hy⟩
theorem awpGd_tT {b : Bool} {x y : Prop} (h : b = true) (hx : x) : awpGd true (.bool b) x y := by subst h; exact ⟨fun _ => hx, fun h => by cases h⟩
theorem awpGd_tF {b : Bool} {x y : Prop} (h : b = false) (hy : y) : awpGd true (.bool b) x y := by subst h; exact ⟨fun h => by (cases h), fun _ => hy⟩
theorem awpGd_fF {b : Bool} {x y : Prop} (h : b = false) (hx : x) : awpGd false (.bool b) x y := by subst h; exact ⟨fun _ => hx, fun h => by cases h⟩
theorem awpGd_fT {b : Bool} {x y : Prop} (h : b = true) (hy : y) : awpGd false (.bool b) x y := by subst h; exact ⟨fun h => by (cases h), fun _ => hy⟩
theorem awpIf_decT {p : Prop} [Decidable p] {x y : Prop} (h : p) (hx : x) : awpIf (.bool (decide p)) x y := awpIf_dec (fun _ => hx) (fun k => absurd h k)
theorem awpIf_decF {p : Prop} [Decidable p] {x y : Prop} (h : ¬ p) (hy : y) : awpIf (.bool (decide p)) x y := awpIf_dec (fun k => absurd k h) (fun _ => hy)
theorem awpIf_ndec {p : Prop} [Decidable p] {x y : Prop} (h1 : ¬ p → x) (h2 : p → y) : awpIf (.bool (!decide p)) x y := ⟨fun h => h1 (by simpa using h), fun h => h2 (by simpa using h)⟩
theorem awpGd_tdec {p : Prop} [Decidable p] {x y : Prop} (h1 : p → x) (h2 : ¬ p → y) : awpGd true (.bool (decide p)) x y := ⟨fun h => h1 (of_decide_eq_true h), fun h => h2 (of_decide_eq_false h)⟩
theorem awpGd_fdec {p : Prop} [Decidable p] {x y : Prop} (h1 : ¬ p → x) (h2 : p → y) : awpGd false (.bool (decide p)) x y := ⟨fun h => h1 (of_decide_eq_false h), fun h => h2 (of_decide_eq_true h)⟩
theorem awpGd_tndec {p : Prop} [Decidable p] {x y : Prop} (h1 : ¬ p → x) (h2 : p → y) : awpGd true (.bool (!decide p)) x y := ⟨fun h => h1 (by simpa using h), fun h => h2 (by simpa using h)⟩
theorem awpGd_fndec {p : Prop} [Decidable p] {x y : Prop} (h1 : p → x) (h2 : ¬ p → y) : awpGd false (.bool (!decide p)) x y := ⟨fun h => h1 (by simpa using h), fun h => h2 (by simpa using h)⟩
theorem get_t {i : Nat} : Opd.get ρ (.t i) = ρ.getD i .any := rfl
theorem get_c {v : AV} : Opd.get ρ (.c v) = v := rfl
theorem aput_some {i : Nat} {v : AV} : aput ρ (some i) v = ρ.set i v := rfl
theorem aput_none {v : AV} : aput ρ none v = ρ := rfl
theorem mask_nil : mask [] ρ = ρ := rfl
theorem mask_cons {k : Nat} {ks : List Nat} : mask (k :: ks) ρ = mask ks (ρ.set k .any) := rfl

def pickO (c a b : AV) : Option AV := match c with | .bool c => some (bif c then a else b) | _ => none
theorem pickO_t {a b : AV} : pickO (.bool true) a b = some a := rfl
theorem pickO_f {a b : AV} : pickO (.bool false) a b = some b := rfl
theorem wx_pick {c x y : Opd} : awpOp P p0 ⟨d, .pick c x y, g, s, pre⟩ ρ A K = orF (ev (pickO (c.get ρ) (x.get ρ) (y.get ρ))) fun v => K (aput ρ d v) A :=
  (astep_n (io := .pick c x y) (fun _ _ => rfl) (fun _ _ _ => rfl) (F := fun v A' => K (aput ρ d v) A')).trans rfl
def bparts (ρ : List AV) : List (Nat × Nat × Opd) → List (Nat × Nat × AV)
  | [] => []
  | (o, n, x) :: ps => (o, n, x.get ρ) :: bparts ρ ps
theorem bparts_nil : bparts ρ [] = [] := rfl
theorem bparts_cons {o n : Nat} {x : Opd} {ps : List (Nat × Nat × Opd)} : bparts ρ ((o, n, x) :: ps) = (o, n, x.get ρ) :: bparts ρ ps := rfl
theorem bparts_eq : ∀ (ps : List (Nat × Nat × Opd)), ps.map (fun (o, s, x) => (o, s, x.get ρ)) = bparts ρ ps
  | [] => rfl
  | (o, n, x) :: ps => by rw [bparts_cons, ← bparts_eq ps]; rfl
theorem wx_build {z : List AV} {ps : List (Nat × Nat × Opd)} : awpOp P p0 ⟨d, .build z ps, g, s, pre⟩ ρ A K = orF (ev (bfill z (bparts ρ ps))) fun cs => K (aput ρ d (.agg cs)) A := by
  rw [wp_build, bparts_eq]
theorem bfill_nil {z : List AV} : bfill z [] = some z := rfl
theorem bfill_cons {z : List AV} {o n : Nat} {v : AV} {ps : List (Nat × Nat × AV)} : bfill z ((o, n, v) :: ps) = if v.cells.length = n ∧ o + n ≤ z.length then bfill (wrt z o v.cells) ps else none := rfl
def nilckO (v : AV) : Option AV := match v with | .ptr l o => some (.ptr l o) | .eptr l i o => some (.eptr l i o) | .pp cs => some (.pp cs) | .fn f a b => some (.fn f a b) | _ => none
theorem wx_nilck {x : Opd} : awpOp P p0 ⟨d, .nilck x, g, s, pre⟩ ρ A K = orF (ev (nilckO (x.get ρ))) fun v => K (aput ρ d v) A := astep_n (F := fun v A' => K (aput ρ d v) A') (fun _ _ => rfl) (fun _ _ _ => rfl)
theorem nilckO_ptr {l o : Nat} : nilckO (.ptr l o) = some (.ptr l o) := rfl
theorem nilckO_eptr {l i o : Nat} : nilckO (.eptr l i o) = some (.eptr l i o) := rfl
theorem nilckO_pp {cs : List AV} : nilckO (.pp cs) = some (.pp cs) := rfl
theorem nilckO_fn {f : FuncId} {a b : List AV} : nilckO (.fn f a b) = some (.fn f a b) := rfl
def cviO (k : IntKind) (v : AV) : Option AV := match v with | .int _ n => some (.int k (k.wrap n)) | _ => none
theorem wx_cvi {k : IntKind} {x : Opd} : awpOp P p0 ⟨d, .cvi k x, g, s, pre⟩ ρ A K = orF (ev (cviO k (x.get ρ))) fun v => K (aput ρ d v) A := (astep_n (io := .cvi k x) (F := fun v A' => K (aput ρ d v) A') (fun _ _ => rfl) (fun _ _ _ => rfl)).trans rfl
theorem cviO_int {k k' : IntKind} {n : Int} : cviO k (.int k' n) = some (.int k (k.wrap n)) := rfl
def cvsO (v : AV) : Option AV := match v with | .str s => some (.str s) | _ => none
theorem wx_cvs {x : Opd} : awpOp P p0 ⟨d, .cvs x, g, s, pre⟩ ρ A K = orF (ev (cvsO (x.get ρ))) fun v => K (aput ρ d v) A := (astep_n (io := .cvs x) (F := fun v A' => K (aput ρ d v) A') (fun _ _ => rfl) (fun _ _ _ => rfl)).trans rfl
theorem cvsO_str {t : List UInt8} : cvsO (.str t) = some (.str t) := rfl
def extO (i : Nat) (v : AV) : Option AV := match v with | .tup vs => vs[i]? | _ => none
theorem wx_ext {i : Nat} {x : Opd} : awpOp P p0 ⟨d, .ext i x, g, s, pre⟩ ρ A K = orF (ev (extO i (x.get ρ))) fun v => K (aput ρ d v) A := (astep_n (io := .ext i x) (F := fun v A' => K (aput ρ d v) A') (fun _ _ => rfl) (fun _ _ _ => rfl)).trans rfl
theorem extO_tup {i : Nat} {vs : List AV} : extO i (.tup vs) = vs[i]? := rfl
def mnO (vs : List AV) : Option AV := match vs with | [] => none | x :: r => foldO AV.mn2 x r
def mxO (vs : List AV) : Option AV := match vs with | [] => none | x :: r => foldO AV.mx2 x r
theorem wx_mn {xs : List Opd} : awpOp P p0 ⟨d, .mn xs, g, s, pre⟩ ρ A K = orF (ev (mnO (xs.map (·.get ρ)))) fun v => K (aput ρ d v) A := (astep_n (io := .mn xs) (F := fun v A' => K (aput ρ d v) A') (fun _ _ => rfl) (fun _ _ _ => rfl)).trans rfl
theorem wx_mx {xs : List Opd} : awpOp P p0 ⟨d, .mx xs, g, s, pre⟩ ρ A K = orF (ev (mxO (xs.map (·.get ρ)))) fun v => K (aput ρ d v) A := (astep_n (io := .mx xs) (F := fun v A' => K (aput ρ d v) A') (fun _ _ => rfl) (fun _ _ _ => rfl)).trans rfl
theorem mnO_2 {k k' : IntKind} {x y : Int} : mnO [.int k x, .int k' y] = some (.int k (min x y)) := by
  show some (AV.int k (if y < x then y else x)) = _
  rw [Int.min_def]
  congr 2
  by_cases h : y < x
  · rw [if_pos h, if_neg (by omega)]
  · rw [if_neg h, if_pos (by omega)]
theorem mxO_2 {k k' : IntKind} {x y : Int} : mxO [.int k x, .int k' y] = some (.int k (max x y)) := by
  show some (AV.int k (if y > x then y else x)) = _
  rw [Int.max_def]
  congr 2
  by_cases h : y > x
  · rw [if_pos h, if_pos (by omega)]
  · rw [if_neg h]; split <;> omega

theorem bin_int {o : BinOp} {k k' : IntKind} {a b : Int} : AV.bin o (.int k a) (.int k' b) = binI o k a k' b := rfl
theorem bin_str {o : BinOp} {a b : List UInt8} : AV.bin o (.str a) (.str b) = binS o a b := rfl
theorem binI_add {k : IntKind} {a b : Int} : binI .add k a k b = some (.int k (k.wrap (a + b))) := by simp [binI]
theorem binI_sub {k : IntKind} {a b : Int} : binI .sub k a k b = some (.int k (k.wrap (a - b))) := by simp [binI]
theorem binI_mul {k : IntKind} {a b : Int} : binI .mul k a k b = some (.int k (k.wrap (a * b))) := by simp [binI]
theorem binI_quo {k : IntKind} {a b : Int} : binI .quo k a k b = if b ≠ 0 then some (.int k (k.wrap (a.tdiv b))) else none := by by_cases h : b = 0 <;> simp [binI, h]
theorem binI_rem {k : IntKind} {a b : Int} : binI .rem k a k b = if b ≠ 0 then some (.int k (a.tmod b)) else none := by by_cases h : b = 0 <;> simp [binI, h]
theorem binI_and {k : IntKind} {a b : Int} : binI .and k a k b = some (.int k (ibits .and k a b)) := by simp [binI]
theorem binI_or {k : IntKind} {a b : Int} : binI .or k a k b = some (.int k (ibits .or k a b)) := by simp [binI]
theorem binI_xor {k : IntKind} {a b : Int} : binI .xor k a k b = some (.int k (ibits .xor k a b)) := by simp [binI]
theorem binI_andNot {k : IntKind} {a b : Int} : binI .andNot k a k b = some (.int k (ibits .andNot k a b)) := by simp [binI]
theorem binI_shl {k k' : IntKind} {a b : Int} : binI .shl k a k' b = if 0 ≤ b then some (.int k (k.wrap (a * 2 ^ min b.toNat k.bits))) else none := by
  by_cases h : b < 0
  · simp [binI, h, show ¬ (0 ≤ b) by omega]
  · simp [binI, h, show 0 ≤ b by omega]
theorem binI_shr {k k' : IntKind} {a b : Int} : binI .shr k a k' b = if 0 ≤ b then some (.int k (a.fdiv (2 ^ min b.toNat k.bits))) else none := by
  by_cases h : b < 0
  · simp [binI, h, show ¬ (0 ≤ b) by omega]
  · simp [binI, h, show 0 ≤ b by omega]
theorem binI_eql {k : IntKind} {a b : Int} : binI .eql k a k b = some (.bool (decide (a = b))) := by simp [binI]; rfl
theorem binI_neq {k : IntKind} {a b : Int} : binI .neq k a k b = some (.bool (!decide (a = b))) := by simp [binI]; rfl
theorem binI_lss {k : IntKind} {a b : Int} : binI .lss k a k b = some (.bool (decide (a < b))) := by simp [binI]
theorem binI_leq {k : IntKind} {a b : Int} : binI .leq k a k b = some (.bool (decide (a ≤ b))) := by simp [binI]
theorem binI_gtr {k : IntKind} {a b : Int} : binI .gtr k a k b = some (.bool (decide (b < a))) := by simp [binI]
theorem binI_geq {k : IntKind} {a b : Int} : binI .geq k a k b = some (.bool (decide (b ≤ a))) := by simp [binI]
theorem binS_add {a b : List UInt8} : binS .add a b = if a.length + b.length ≤ 4611686018427387904 then some (.str (a ++ b)) else none := rfl
theorem binS_eql {a b : List UInt8} : binS .eql a b = some (.bool (decide (a = b))) := by
  show some (AV.bool (a == b)) = _
  congr 2
  rw [Bool.eq_iff_iff]; simp
theorem binS_neq {a b : List UInt8} : binS .neq a b = some (.bool (!decide (a = b))) := by
  show some (AV.bool (!(a == b))) = _
  congr 3
  rw [Bool.eq_iff_iff]; simp

theorem eqv_bool {a b : Bool} : AV.eqv .bool (.bool a) (.bool b) = some (a == b) := rfl
theorem eqv_ptr {x y : AV} : AV.eqv .ptr x y = eqNil x.nilP y.nilP := rfl
theorem eqv_slice {x y : AV} : AV.eqv .slice x y = eqNil x.nilS y.nilS := rfl
theorem eqv_map {x y : AV} : AV.eqv .map x y = eqNil x.nilM y.nilM := rfl
theorem eqv_func {x y : AV} : AV.eqv .func x y = eqNil x.nilF y.nilF := rfl
theorem eqv_struct {ks : List LK} {x y : List AV} : AV.eqv (.struct ks) (.agg x) (.agg y) = AV.eqL ks x y := rfl
theorem nilP_nilp : AV.nilP .nilp = some true := rfl
theorem nilP_ptr {l o : Nat} : AV.nilP (.ptr l o) = some false := rfl
theorem nilP_eptr {l i o : Nat} : AV.nilP (.eptr l i o) = some false := rfl
theorem nilP_pp {cs : List AV} : AV.nilP (.pp cs) = some false := rfl
theorem nilS_nils : AV.nilS .nils = some true := rfl
theorem nilS_sl {l z o n : Nat} {t : Bool} : AV.nilS (.sl l z o (n + 1) t) = some false := rfl
theorem nilS_es : AV.nilS .es = some false := rfl
theorem nilM_nilm : AV.nilM .nilm = some true := rfl
theorem nilM_mp {l : Nat} : AV.nilM (.mp l) = some false := rfl
theorem nilF_nilf : AV.nilF .nilf = some true := rfl
theorem nilF_fn {f : FuncId} {a b : List AV} : AV.nilF (.fn f a b) = some false := rfl
theorem eqNil_tt : eqNil (some true) (some true) = some true := rfl
theorem eqNil_tf : eqNil (some true) (some false) = some false := rfl
theorem eqNil_ft : eqNil (some false) (some true) = some false := rfl
theorem eqL_nil : AV.eqL [] [] [] = some true := rfl
theorem eqL_int {ks : List LK} {k : IntKind} {a b : Int} {as bs : List AV} : AV.eqL (.int :: ks) (.int k a :: as) (.int k b :: bs) = (AV.eqL ks as bs).map fun r => decide (a = b) && r := by
  have : (a == b) = decide (a = b) := by rw [Bool.eq_iff_iff]; simp
  show (match AV.eqK .int (.int k a) (.int k b) with | some r => _ | none => none) = _
  simp only [AV.eqK, if_true, this]
  cases AV.eqL ks as bs <;> rfl
theorem eqL_bool {ks : List LK} {a b : Bool} {as bs : List AV} : AV.eqL (.bool :: ks) (.bool a :: as) (.bool b :: bs) = (AV.eqL ks as bs).map fun r => (a == b) && r := by
  simp only [AV.eqL, AV.eqK]
  cases AV.eqL ks as bs <;> rfl
theorem eqL_str {ks : List LK} {a b : List UInt8} {as bs : List AV} : AV.eqL (.str :: ks) (.str a :: as) (.str b :: bs) = (AV.eqL ks as bs).map fun r => decide (a = b) && r := by
  have : (a == b) = decide (a = b) := by rw [Bool.eq_iff_iff]; simp
  simp only [AV.eqL, AV.eqK, this]
  cases AV.eqL ks as bs <;> rfl
theorem omap_some {α β : Type} {f : α → β} {a : α} : Option.map f (some a) = some (f a) := rfl
theorem omap_none {α β : Type} {f : α → β} : Option.map f none = none := rfl
theorem un_neg {k : IntKind} {n : Int} : AV.unop .neg (.int k n) = some (.int k (k.wrap (0 - n))) := rfl
theorem un_xor {k : IntKind} {n : Int} : AV.unop .xor (.int k n) = some (.int k (ibits .xor k (if k.signed then -1 else k.max) n)) := rfl
theorem un_not {b : Bool} : AV.unop .not (.bool b) = some (.bool (!b)) := rfl
theorem faddr_ptr {o l p : Nat} : AV.faddr o (.ptr l p) = some (.ptr l (p + o)) := rfl
theorem faddr_eptr {o l i p : Nat} : AV.faddr o (.eptr l i p) = some (.eptr l i (p + o)) := rfl
theorem faddr_pp {o : Nat} {cs : List AV} : AV.faddr o (.pp cs) = some (.pp (cs.drop o)) := rfl
theorem fld_one {o : Nat} {cs : List AV} : AV.fld o none (.agg cs) = cs[o]? := rfl
theorem fld_n {o n : Nat} {cs : List AV} : AV.fld o (some n) (.agg cs) = if o + n ≤ cs.length then some (.agg ((cs.drop o).take n)) else none := rfl
theorem iaddr_sl {z l lo n : Nat} {t : Bool} {k : IntKind} {i : Int} : AV.iaddr z (.sl l z lo n t) (.int k i) = if 0 ≤ i ∧ i < n then some (.eptr l (lo + i.toNat) 0) else none := by simp [AV.iaddr]
theorem iaddr_ps {z : Nat} {xs : List (List AV)} {k : IntKind} {i : Int} : AV.iaddr z (.ps z xs) (.int k i) = if 0 ≤ i ∧ i < xs.length then some (.pp (xs.getD i.toNat [])) else none := by simp [AV.iaddr]
theorem iaddra_int {n z : Nat} {x : AV} {k : IntKind} {i : Int} : AV.iaddra n z x (.int k i) = if 0 ≤ i ∧ i < n then AV.faddr (i.toNat * z) x else none := rfl
theorem idxs_str {t : List UInt8} {k : IntKind} {i : Int} : AV.idxs (.str t) (.int k i) = if 0 ≤ i ∧ i < t.length then some (.int .u8 (t.getD i.toNat 0).toNat) else none := rfl
theorem idxa_one {n z : Nat} {cs : List AV} {k : IntKind} {i : Int} : AV.idxa n z none (.agg cs) (.int k i) = if 0 ≤ i ∧ i < n then cs[i.toNat * z]? else none := rfl
theorem idxa_n {n z m : Nat} {cs : List AV} {k : IntKind} {i : Int} : AV.idxa n z (some m) (.agg cs) (.int k i) = if 0 ≤ i ∧ i < n then (if i.toNat * z + m ≤ cs.length then some (.agg ((cs.drop (i.toNat * z)).take m)) else none) else none := rfl
theorem lenst_str {t : List UInt8} : AV.lenst (.str t) = some (.int .i64 t.length) := rfl
theorem lens_sl {l z lo n : Nat} {t : Bool} : AV.lens (.sl l z lo n t) = some (.int .i64 n) := rfl
theorem lens_es : AV.lens .es = some (.int .i64 0) := rfl
theorem lens_nils : AV.lens .nils = some (.int .i64 0) := rfl
theorem lens_ps {z : Nat} {xs : List (List AV)} : AV.lens (.ps z xs) = some (.int .i64 xs.length) := rfl
theorem cells_agg {cs : List AV} : AV.cells (.agg cs) = cs := rfl
theorem cells_any : AV.cells .any = [] := rfl
theorem cells_int {k : IntKind} {n : Int} : AV.cells (.int k n) = [.int k n] := rfl
theorem cells_bool {b : Bool} : AV.cells (.bool b) = [.bool b] := rfl
theorem cells_str {t : List UInt8} : AV.cells (.str t) = [.str t] := rfl
theorem cells_ptr {l o : Nat} : AV.cells (.ptr l o) = [.ptr l o] := rfl
theorem cells_eptr {l i o : Nat} : AV.cells (.eptr l i o) = [.eptr l i o] := rfl
theorem cells_sl {l z lo n : Nat} {t : Bool} : AV.cells (.sl l z lo n t) = [.sl l z lo n t] := rfl
theorem cells_nils : AV.cells .nils = [.nils] := rfl
theorem cells_nilp : AV.cells .nilp = [.nilp] := rfl
theorem cells_nilf : AV.cells .nilf = [.nilf] := rfl
theorem cells_nilm : AV.cells .nilm = [.nilm] := rfl
theorem cells_nili : AV.cells .nili = [.nili] := rfl
theorem cells_es : AV.cells .es = [.es] := rfl
theorem cells_mp {l : Nat} : AV.cells (.mp l) = [.mp l] := rfl
theorem cells_fn {f : FuncId} {a b : List AV} : AV.cells (.fn f a b) = [.fn f a b] := rfl

def cellsO (o : Option (Option AO)) (off n : Nat) : Option (List AV) :=
  match o with | some (some (.cells vs)) => if off + n ≤ vs.length then some ((vs.drop off).take n) else none | _ => none
theorem cellsO_some {vs : List AV} {off n : Nat} : cellsO (some (some (.cells vs))) off n = if off + n ≤ vs.length then some ((vs.drop off).take n) else none := rfl
def rowO (o : Option (List AV)) (off n : Nat) : Option (List AV) := match o with | some e => if off + n ≤ e.length then some ((e.drop off).take n) else none | none => none
theorem rowO_some {e : List AV} {off n : Nat} : rowO (some e) off n = if off + n ≤ e.length then some ((e.drop off).take n) else none := rfl
def arrO (o : Option (Option AO)) (i off n : Nat) : Option (List AV) := match o with | some (some (.arr es)) => rowO es[i]? off n | _ => none
theorem arrO_some {es : List (List AV)} {i off n : Nat} : arrO (some (some (.arr es))) i off n = rowO es[i]? off n := rfl
theorem rdN_ptr {l off n : Nat} : rdN A (.ptr l off) n = cellsO A[l]? off n := by
  unfold rdN cellsO; rfl
theorem rdN_eptr {l i off n : Nat} : rdN A (.eptr l i off) n = arrO A[l]? i off n := by
  simp only [rdN, arrO]
  cases A[l]? with
  | none => rfl
  | some o => cases o with
    | none => rfl
    | some o => cases o <;> first | rfl | (rename_i es; simp only [rowO]; cases es[i]? <;> rfl)
theorem rdN_pp {cs : List AV} {n : Nat} : rdN A (.pp cs) n = if n ≤ cs.length then some (cs.take n) else none := rfl
def load1 (o : Option (List AV)) : Option AV := match o with | some [v] => some v | _ => none
def loadN (o : Option (List AV)) : Option AV := match o with | some vs => some (.agg vs) | none => none
theorem load1_some {v : AV} : load1 (some [v]) = some v := rfl
theorem loadN_some {vs : List AV} : loadN (some vs) = some (.agg vs) := rfl
theorem aload_one {x : AV} : aload A none x = load1 (rdN A x 1) := rfl
theorem aload_n {n : Nat} {x : AV} : aload A (some n) x = loadN (rdN A x n) := rfl
theorem load1_ite {c : Prop} [Decidable c] {a : List AV} : load1 (if c then some a else none) = if c then load1 (some a) else none := by split <;> rfl
theorem loadN_ite {c : Prop} [Decidable c] {a : List AV} : loadN (if c then some a else none) = if c then some (.agg a) else none := by split <;> rfl

def wrC (A : AHeap) (l off : Nat) (ns : List AV) (o : Option (Option AO)) : Option AHeap :=
  match o with | some (some (.cells vs)) => if off + ns.length ≤ vs.length then (if ns.all AV.one then some (A.set l (some (.cells (wrt vs off ns)))) else none) else none | _ => none
theorem wrC_some {l off : Nat} {ns vs : List AV} : wrC A l off ns (some (some (.cells vs))) = if off + ns.length ≤ vs.length ∧ ns.all AV.one = true then some (A.set l (some (.cells (wrt vs off ns)))) else none := by
  simp only [wrC]
  by_cases h : off + ns.length ≤ vs.length <;> by_cases h2 : ns.all AV.one = true <;> simp [h, h2]
def wrR (A : AHeap) (l i off : Nat) (ns : List AV) (es : List (List AV)) (o : Option (List AV)) : Option AHeap :=
  match o with | some e => if off + ns.length ≤ e.length then (if ns.all AV.one then some (A.set l (some (.arr (es.set i (wrt e off ns))))) else none) else none | none => none
theorem wrR_some {l i off : Nat} {ns e : List AV} {es : List (List AV)} : wrR A l i off ns es (some e) = if off + ns.length ≤ e.length ∧ ns.all AV.one = true then some (A.set l (some (.arr (es.set i (wrt e off ns))))) else none := by
  simp only [wrR]
  by_cases h : off + ns.length ≤ e.length <;> by_cases h2 : ns.all AV.one = true <;> simp [h, h2]
def wrE (A : AHeap) (l i off : Nat) (ns : List AV) (o : Option (Option AO)) : Option AHeap := match o with | some (some (.arr es)) => wrR A l i off ns es es[i]? | _ => none
theorem wrE_some {l i off : Nat} {ns : List AV} {es : List (List AV)} : wrE A l i off ns (some (some (.arr es))) = wrR A l i off ns es es[i]? := rfl
theorem wrN_ptr {l off : Nat} {ns : List AV} : wrN A (.ptr l off) ns = wrC A l off ns A[l]? := by
  unfold wrN wrC; rfl
theorem wrN_eptr {l i off : Nat} {ns : List AV} : wrN A (.eptr l i off) ns = wrE A l i off ns A[l]? := by
  simp only [wrN, wrE]
  cases A[l]? with
  | none => rfl
  | some o => cases o with
    | none => rfl
    | some o => cases o <;> first | rfl | (rename_i es; simp only [wrR]; cases es[i]? <;> rfl)
theorem wrt_nil {vs : List AV} {o : Nat} : wrt vs o [] = vs := rfl
theorem wrt_cons {vs ns : List AV} {o : Nat} {n : AV} : wrt vs o (n :: ns) = wrt (vs.set o n) (o + 1) ns := rfl
theorem one_int {k : IntKind} {n : Int} : AV.one (.int k n) = true := rfl
theorem one_bool {b : Bool} : AV.one (.bool b) = true := rfl
theorem one_str {t : List UInt8} : AV.one (.str t) = true := rfl
theorem one_ptr {l o : Nat} : AV.one (.ptr l o) = true := rfl
theorem one_eptr {l i o : Nat} : AV.one (.eptr l i o) = true := rfl
theorem one_sl {l z lo n : Nat} {t : Bool} : AV.one (.sl l z lo n t) = true := rfl
theorem one_nils : AV.one .nils = true := rfl
theorem one_nilp : AV.one .nilp = true := rfl
theorem one_nilf : AV.one .nilf = true := rfl
theorem one_nilm : AV.one .nilm = true := rfl
theorem one_nili : AV.one .nili = true := rfl
theorem one_es : AV.one .es = true := rfl
theorem one_mp {l : Nat} : AV.one (.mp l) = true := rfl
theorem one_fn {f : FuncId} {a b : List AV} : AV.one (.fn f a b) = true := rfl

def atO {α : Type} (o : Option (Option AO)) (r : Option α) : Option α := match o with | some none => r | _ => none
theorem atO_some {α : Type} {r : Option α} : atO (some none) r = r := rfl
theorem anew_eq {p : Nat} {v : AV} {o : AO} : anew A p v o = atO A[p]? (some (v, A.set p (some o))) := by
  unfold anew atO; rfl
theorem abslice_eq {p z : Nat} {vs : List (List AV)} : abslice A p z vs = atO A[p]? (if vs.all (fun e => e.length == z) = true then some (.sl p z 0 vs.length true, A.set p (some (.arr vs))) else none) := by
  unfold abslice atO; rfl
theorem amksl_eq {p z b : Nat} {zs : List AV} {k k' : IntKind} {n c : Int} : amksl A p z b zs (.int k n) (.int k' c) = atO A[p]? (if 0 ≤ n ∧ n = c ∧ n * b ≤ 140737488355328 then some (.sl p z 0 n.toNat true, A.set p (some (.arr (List.replicate n.toNat zs)))) else none) := by
  unfold amksl atO; rfl
def elemsO (o : Option (Option AO)) (z z' lo n : Nat) : Option (List (List AV)) := match o with | some (some (.arr es)) => if z' = z ∧ lo + n ≤ es.length then some ((es.drop lo).take n) else none | _ => none
theorem elemsO_some {z lo n : Nat} {es : List (List AV)} : elemsO (some (some (.arr es))) z z lo n = if lo + n ≤ es.length then some ((es.drop lo).take n) else none := by simp [elemsO]
theorem elems_full {z n : Nat} {es : List (List AV)} (h : es.length = n) : elemsO (some (some (.arr es))) z z 0 n = some es := by subst h; simp [elemsO]
theorem elemsOf_sl {l z z' lo n : Nat} {t : Bool} : elemsOf A z (.sl l z' lo n t) = elemsO A[l]? z z' lo n := by
  unfold elemsOf elemsO; rfl
theorem elemsOf_nils {z : Nat} : elemsOf A z .nils = some [] := rfl
theorem elemsOf_es {z : Nat} : elemsOf A z .es = some [] := rfl
theorem elemsOf_ps {z : Nat} {xs : List (List AV)} : elemsOf A z (.ps z xs) = some xs := by simp [elemsOf]
theorem rowsOk_nil {z : Nat} : rowsOk z [] = true := rfl
theorem rowsOk_cons {z : Nat} {e : List AV} {xs : List (List AV)} : rowsOk z (e :: xs) = ((e.length == z && e.all AV.one) && rowsOk z xs) := rfl

/-- Appended to none. -/
theorem app_nils {p z b : Nat} {x : List AV} {xs : List (List AV)} : aapp A p z b .nils (x :: xs) = atO A[p]? (if (x :: xs).length * b ≤ 140737488355328 then some (.sl p z 0 (x :: xs).length false, A.set p (some (.arr (x :: xs)))) else none) := by
  unfold aapp atO; rfl
theorem app_nils0 {p z b : Nat} : aapp A p z b .nils [] = some (.nils, A) := rfl
theorem app_nilsR {p z b : Nat} {L : List (List AV)} (h : 0 < L.length) : aapp A p z b .nils L = atO A[p]? (if L.length * b ≤ 140737488355328 then some (.sl p z 0 L.length false, A.set p (some (.arr L))) else none) := by
  cases L with
  | nil => simp at h
  | cons x xs => exact app_nils
theorem ren_int {f : Nat → Option Nat} {k : IntKind} {n : Int} : AV.ren f (.int k n) = .int k n := rfl
theorem ren_bool {f : Nat → Option Nat} {b : Bool} : AV.ren f (.bool b) = .bool b := rfl
theorem ren_str {f : Nat → Option Nat} {t : List UInt8} : AV.ren f (.str t) = .str t := rfl
theorem ren_nils {f : Nat → Option Nat} : AV.ren f .nils = .nils := rfl
theorem ren_nilp {f : Nat → Option Nat} : AV.ren f .nilp = .nilp := rfl
theorem ren_nilm {f : Nat → Option Nat} : AV.ren f .nilm = .nilm := rfl
theorem ren_nilf {f : Nat → Option Nat} : AV.ren f .nilf = .nilf := rfl
theorem ren_nili {f : Nat → Option Nat} : AV.ren f .nili = .nili := rfl
theorem ren_es {f : Nat → Option Nat} : AV.ren f .es = .es := rfl
theorem ren_any {f : Nat → Option Nat} : AV.ren f .any = .any := rfl
def renTo (o : Option Nat) (F : Nat → AV) : AV := match o with | some l => F l | none => .any
theorem renTo_some {l : Nat} {F : Nat → AV} : renTo (some l) F = F l := rfl
theorem renTo_none {F : Nat → AV} : renTo none F = .any := rfl
theorem ren_ptr {f : Nat → Option Nat} {l o : Nat} : AV.ren f (.ptr l o) = renTo (f l) fun l => .ptr l o := by simp only [AV.ren, renTo]; cases f l <;> rfl
theorem ren_eptr {f : Nat → Option Nat} {l i o : Nat} : AV.ren f (.eptr l i o) = renTo (f l) fun l => .eptr l i o := by simp only [AV.ren, renTo]; cases f l <;> rfl
theorem ren_sl {f : Nat → Option Nat} {l z lo n : Nat} {t : Bool} : AV.ren f (.sl l z lo n t) = renTo (f l) fun l => .sl l z lo n t := by simp only [AV.ren, renTo]; cases f l <;> rfl
theorem ren_mp {f : Nat → Option Nat} {l : Nat} : AV.ren f (.mp l) = renTo (f l) .mp := by simp only [AV.ren, renTo]; cases f l <;> rfl
theorem ren_fn {f : Nat → Option Nat} {g : FuncId} {a b : List AV} : AV.ren f (.fn g a b) = .fn g (a.map (AV.ren f)) (b.map (AV.ren f)) := by simp only [AV.ren, renL_eq]
theorem ren_agg {f : Nat → Option Nat} {cs : List AV} : AV.ren f (.agg cs) = .agg (cs.map (AV.ren f)) := by simp only [AV.ren, renL_eq]
theorem ren_tup {f : Nat → Option Nat} {cs : List AV} : AV.ren f (.tup cs) = .tup (cs.map (AV.ren f)) := by simp only [AV.ren, renL_eq]
theorem aoren_cells {f : Nat → Option Nat} {cs : List AV} : AO.ren f (.cells cs) = .cells (cs.map (AV.ren f)) := rfl
theorem aoren_arr {f : Nat → Option Nat} {es : List (List AV)} : AO.ren f (.arr es) = .arr (es.map fun e => e.map (AV.ren f)) := rfl
theorem aoren_dead {f : Nat → Option Nat} : AO.ren f .dead = .dead := rfl
theorem aoren_nil {f : Nat → Option Nat} : AO.ren f (.arr []) = .arr [] := rfl
theorem rn_place {js : List Nat} {top j : Nat} : rn (place js top) j = some (if j < js.length then js.getD j 0 else top + (j - js.length)) := rfl
theorem putAll_nil {g : Nat → Option Nat} {B A : AHeap} : putAll g B [] A = B ++ A.map fun o => o.map (AO.ren g) := by simp only [putAll]
theorem putAll_cons {g : Nat → Option Nat} {B A : AHeap} {j : Nat} {js : List Nat} {o : Option AO} : putAll g B (j :: js) (o :: A) = putAll g (B.set j (o.map (AO.ren g))) js A := by simp only [putAll]
theorem foldA_eq {n : Nat} {ks : List Nat} : foldAo n (some ks) A = (A.take n ++ ks.map fun k => (A[k]?).join).map fun o => o.map (AO.ren (fnew n ks)) := rfl
theorem foldR_eq {n : Nat} {ks : List Nat} : foldRo n (some ks) ρ = ρ.map (AV.ren (fnew n ks)) := rfl
theorem foldV_eq {n : Nat} {ks : List Nat} {v : AV} : foldVo n (some ks) v = AV.ren (fnew n ks) v := rfl
def idxTo (n0 : Nat) (o : Option Nat) : Option Nat := match o with | some i => some (n0 + i) | none => none
theorem fnew_eq {n0 : Nat} {ks : List Nat} {l : Nat} : fnew n0 ks l = if l < n0 then some l else idxTo n0 (ks.idxOf? l) := by
  unfold fnew idxTo
  split <;> first | rfl | (cases ks.idxOf? l <;> rfl)
theorem idxTo_some {n0 i : Nat} : idxTo n0 (some i) = some (n0 + i) := rfl
theorem idxTo_none {n0 : Nat} : idxTo n0 none = none := rfl
theorem idxOf_nil {l : Nat} : ([] : List Nat).idxOf? l = none := rfl
theorem idxOf_cons {k l : Nat} {ks : List Nat} : (k :: ks).idxOf? l = if k = l then some 0 else (ks.idxOf? l).map (· + 1) := by
  rw [List.idxOf?_cons]
  by_cases h : k = l <;> simp [h]
theorem join_some {o : Option AO} : (some o).join = o := by cases o <;> rfl
theorem app_es {p z b : Nat} {x : List AV} {xs : List (List AV)} : aapp A p z b .es (x :: xs) = atO A[p]? (if (x :: xs).length * b ≤ 140737488355328 then some (.sl p z 0 (x :: xs).length false, A.set p (some (.arr (x :: xs)))) else none) := by
  unfold aapp atO; rfl
theorem app_es0 {p z b : Nat} : aapp A p z b .es [] = some (.es, A) := rfl
/-- The old place is given up. -/
def appF (A : AHeap) (l p z b lo n : Nat) (xs : List (List AV)) (o o' : Option (Option AO)) : Option (AV × AHeap) :=
  match o with
  | some (some (.arr es)) => atO o' (if lo + n ≤ es.length ∧ (n + xs.length) * b ≤ 140737488355328 then some (.sl p z 0 (n + xs.length) false, (A.set l (some .dead)).set p (some (.arr ((es.drop lo).take n ++ xs)))) else none)
  | _ => none
theorem appF_some {l p z b lo n : Nat} {xs es : List (List AV)} : appF A l p z b lo n xs (some (some (.arr es))) (some none) = (if lo + n ≤ es.length ∧ (n + xs.length) * b ≤ 140737488355328 then some (.sl p z 0 (n + xs.length) false, (A.set l (some .dead)).set p (some (.arr ((es.drop lo).take n ++ xs)))) else none) := rfl
theorem appF_full {l p z b n : Nat} {xs es : List (List AV)} (h : es.length = n) : appF A l p z b 0 n xs (some (some (.arr es))) (some none) = (if (n + xs.length) * b ≤ 140737488355328 then some (.sl p z 0 (n + xs.length) false, (A.set l (some .dead)).set p (some (.arr (es ++ xs)))) else none) := by
  subst h; rw [appF_some]; simp
theorem app_slF {l p z b lo n : Nat} {xs : List (List AV)} : aapp A p z b (.sl l z lo n false) xs = appF A l p z b lo n xs A[l]? A[p]? := by
  unfold aapp appF
  simp only []
  cases A[l]? with
  | none => rfl
  | some o => cases o with
    | none => rfl
    | some o => cases o <;> first | rfl | (cases A[p]? with
      | none => rfl
      | some q => cases q <;> simp [atO])
/-- The old place stays. -/
def appT (A : AHeap) (l p z b lo n : Nat) (x : List AV) (xs : List (List AV)) (o o' : Option (Option AO)) : Option (AV × AHeap) :=
  match o with
  | some (some (.arr es)) => atO o' (if lo + n ≤ es.length ∧ (n + (x :: xs).length) * b ≤ 140737488355328 then some (.sl p z 0 (n + (x :: xs).length) false, A.set p (some (.arr ((es.drop lo).take n ++ x :: xs)))) else none)
  | _ => none
theorem appT_some {l p z b lo n : Nat} {x : List AV} {xs es : List (List AV)} : appT A l p z b lo n x xs (some (some (.arr es))) (some none) = (if lo + n ≤ es.length ∧ (n + (x :: xs).length) * b ≤ 140737488355328 then some (.sl p z 0 (n + (x :: xs).length) false, A.set p (some (.arr ((es.drop lo).take n ++ x :: xs)))) else none) := rfl
theorem app_slT {l p z b lo n : Nat} {x : List AV} {xs : List (List AV)} : aapp A p z b (.sl l z lo n true) (x :: xs) = appT A l p z b lo n x xs A[l]? A[p]? := by
  unfold aapp appT
  simp only []
  cases A[l]? with
  | none => rfl
  | some o => cases o with
    | none => rfl
    | some o => cases o <;> first | rfl | (cases A[p]? with
      | none => rfl
      | some q => cases q <;> simp [atO])
/-- Appended to a row that shows nothing and has no room. -/
def appE (A : AHeap) (p z b lo : Nat) (L : List (List AV)) (o o' : Option (Option AO)) : Option (AV × AHeap) :=
  match o with
  | some (some (.arr es)) => atO o' (if lo ≤ es.length ∧ L.length * b ≤ 140737488355328 then some (.sl p z 0 L.length false, A.set p (some (.arr L))) else none)
  | _ => none
theorem appE_some {p z b lo : Nat} {L es : List (List AV)} : appE A p z b lo L (some (some (.arr es))) (some none) = (if lo ≤ es.length ∧ L.length * b ≤ 140737488355328 then some (.sl p z 0 L.length false, A.set p (some (.arr L))) else none) := rfl
theorem app_slE {l p z b lo : Nat} {L : List (List AV)} (h : 0 < L.length) : aapp A p z b (.sl l z lo 0 true) L = appE A p z b lo L A[l]? A[p]? := by
  cases L with
  | nil => simp at h
  | cons x xs =>
    rw [app_slT]
    unfold appT appE
    cases A[l]? with
    | none => rfl
    | some o => cases o with
      | none => rfl
      | some o => cases o <;> first | rfl | simp
theorem app_slT0 {l p z b lo n : Nat} : aapp A p z b (.sl l z lo n true) [] = appF A l p z b lo n [] A[l]? A[p]? := by
  unfold aapp appF
  simp only []
  cases A[l]? with
  | none => rfl
  | some o => cases o with
    | none => rfl
    | some o => cases o <;> first | rfl | (cases A[p]? with
      | none => rfl
      | some q => cases q <;> simp [atO])

def rvO (v : AV) (o : Option (List AV)) : Option (List AV) := match o with | some vs => some (v :: vs) | none => none
theorem rvO_some {v : AV} {vs : List AV} : rvO v (some vs) = some (v :: vs) := rfl
def rvL (v : Option AV) (o : Option (List AV)) : Option (List AV) := match v with | some v => rvO v o | none => none
theorem rvL_some {v : AV} {o : Option (List AV)} : rvL (some v) o = rvO v o := rfl
theorem rvs_nil : rvs ρ A [] = some [] := rfl
theorem rvs_t {i : Nat} {rs : List RV} : rvs ρ A (.t i :: rs) = rvO (ρ.getD i .any) (rvs ρ A rs) := by
  show (match rvs ρ A rs with | some vs => _ | none => none) = _
  unfold rvO; rfl
theorem rvs_cell {i : Nat} {n : Option Nat} {rs : List RV} : rvs ρ A (.cell i n :: rs) = rvL (aload A n (ρ.getD i .any)) (rvs ρ A rs) := by
  simp only [rvs]
  cases aload A n (ρ.getD i .any) <;> cases rvs ρ A rs <;> rfl
theorem rtup_1 {v : AV} : rtup [v] = v := rfl
theorem rtup_0 : rtup [] = .tup [] := rfl
theorem rtup_2 {a b : AV} {vs : List AV} : rtup (a :: b :: vs) = .tup (a :: b :: vs) := rfl
theorem more_eq {m : Nat} : A.more m = A ++ List.replicate m none := rfl
theorem waits_eq {ms : List Nat} {i j : Nat} : waits ms i j = decide ((ms.getD j 0) / 2 ^ i % 2 = 1) := by unfold waits; rw [Nat.testBit_eq_decide_div_mod_eq]
end

/-! ### Guarded operations that need no cases -/
section
variable {P : Program} {p0 n0 : Nat} {ρ : List AV} {A : AHeap} {K : List AV → AHeap → Prop} {s : Nat} {pre : List Nat} {g : Option (Nat × Bool)}
/-- v, if c; else what an operation that was not wanted leaves. -/
def selV (c : Bool) (v : AV) : AV := bif c then v else .tup []
theorem selV_t {v : AV} : selV true v = v := rfl
theorem selV_f {v : AV} : selV false v = .tup [] := rfl
theorem bne_f {b : Bool} : (b != false) = b := by cases b <;> rfl
theorem bne_t {b : Bool} : (b != true) = !b := by cases b <;> rfl
theorem pick_or {b x : Bool} : pickO (.bool b) (.bool true) (selV (!b) (.bool x)) = some (.bool (b || x)) := by cases b <;> rfl
theorem pick_and {b x : Bool} : pickO (.bool b) (selV b (.bool x)) (.bool false) = some (.bool (b && x)) := by cases b <;> rfl
theorem pick_orN {b x : Bool} : pickO (.bool (!b)) (.bool true) (selV b (.bool x)) = some (.bool (!b || x)) := by cases b <;> rfl
def valO (ρ : List AV) (A : AHeap) (op : IOp) : Option AV := match nstep ρ op with | some v => some v | none => rstep ρ A op
theorem val_awp {op : IOp} {v : AV} {d : Option Nat} (h : valO ρ A op = some v) (hk : K (aput ρ d v) A) : awpOp P p0 ⟨d, op, g, s, pre⟩ ρ A K := by
  have hs : ∀ p, astep ρ A p op = some (v, A) := by
    intro p
    unfold valO at h
    unfold astep
    cases hn : nstep ρ op with
    | some w => rw [hn] at h; cases h; rfl
    | none => rw [hn] at h; rw [show rstep ρ A op = some v from h]
  cases op <;> first | (unfold awpOp; simp only [hs]; exact hk) | (exfalso; unfold valO at h; exact absurd h (by simp [nstep, rstep]))
theorem awpGd_nst {op : IOp} {b : Bool} {v : AV} {d : Option Nat} (hv : b = true → ∃ w, valO ρ A op = some w ∧ w = v) (hk : K (aput ρ d (selV b v)) A) :
    awpGd true (.bool b) (awpOp P p0 ⟨d, op, g, s, pre⟩ ρ A K) (K (aput ρ d (.tup [])) A) := by
  refine ⟨fun h => ?_, fun h => ?_⟩
  · obtain ⟨w, h1, rfl⟩ := hv h
    rw [h] at hk
    exact val_awp h1 hk
  · rw [show b = false from h] at hk; exact hk
theorem awpGd_nsf {op : IOp} {b : Bool} {v : AV} {d : Option Nat} (hv : b = false → ∃ w, valO ρ A op = some w ∧ w = v) (hk : K (aput ρ d (selV (!b) v)) A) :
    awpGd false (.bool b) (awpOp P p0 ⟨d, op, g, s, pre⟩ ρ A K) (K (aput ρ d (.tup [])) A) := by
  refine ⟨fun h => ?_, fun h => ?_⟩
  · obtain ⟨w, h1, rfl⟩ := hv h
    rw [h] at hk
    exact val_awp h1 hk
  · rw [show b = true from h] at hk; exact hk
/-- The guard itself was guarded. -/
theorem awpGd_sel {c x : Bool} {w : Bool} {X Y : Prop} : awpGd w (selV c (.bool x)) X Y = awpGd true (.bool (c && (x == w))) X Y := by
  cases c <;> cases x <;> cases w <;> simp [selV, awpGd]
theorem awpGd_selt {c x : Bool} {X Y : Prop} : awpGd true (selV c (.bool x)) X Y = awpGd true (.bool (c && x)) X Y := by
  cases c <;> cases x <;> simp [selV, awpGd]
theorem awpGd_self {c x : Bool} {X Y : Prop} : awpGd false (selV c (.bool x)) X Y = awpGd true (.bool (c && !x)) X Y := by
  cases c <;> cases x <;> simp [selV, awpGd]
theorem guardO_selt {c x : Bool} {o : Option AV} : guardO true (selV c (.bool x)) o = guardO true (.bool (c && x)) o := by
  cases c <;> cases x <;> simp [selV, guardO]
theorem guardO_self {c x : Bool} {o : Option AV} : guardO false (selV c (.bool x)) o = guardO true (.bool (c && !x)) o := by
  cases c <;> cases x <;> simp [selV, guardO]
theorem guardO_st {b : Bool} {v : AV} : guardO true (.bool b) (some v) = some (selV b v) := by cases b <;> rfl
theorem guardO_sf {b : Bool} {v : AV} : guardO false (.bool b) (some v) = some (selV (!b) v) := by cases b <;> rfl
theorem guardO_sel {c x w : Bool} {o : Option AV} : guardO w (selV c (.bool x)) o = guardO true (.bool (c && (x == w))) o := by
  cases c <;> cases x <;> cases w <;> simp [selV, guardO]
theorem gO_t {b : Bool} {v : AV} {o : Option AV} {F : AV → Prop} (hv : b = true → ∃ w, o = some w ∧ w = v) (hk : F (selV b v)) : orF (guardO true (.bool b) o) F := by
  cases b
  · exact ⟨_, rfl, hk⟩
  · obtain ⟨w, h, rfl⟩ := hv rfl; exact ⟨_, h, hk⟩
theorem gO_f {b : Bool} {v : AV} {o : Option AV} {F : AV → Prop} (hv : b = false → ∃ w, o = some w ∧ w = v) (hk : F (selV (!b) v)) : orF (guardO false (.bool b) o) F := by
  cases b
  · obtain ⟨w, h, rfl⟩ := hv rfl; exact ⟨_, h, hk⟩
  · exact ⟨_, rfl, hk⟩
theorem gO_cases {b w : Bool} {o : Option AV} {F : AV → Prop} (h1 : b = w → orF o F) (h2 : b = !w → F (.tup [])) : orF (guardO w (.bool b) o) F := by
  cases b <;> cases w
  · exact h1 rfl
  · exact ⟨_, rfl, h2 rfl⟩
  · exact ⟨_, rfl, h2 rfl⟩
  · exact h1 rfl
theorem guardO_tt {o : Option AV} : guardO true (.bool true) o = o := rfl
theorem guardO_tf {o : Option AV} : guardO true (.bool false) o = some (.tup []) := rfl
theorem guardO_ft {o : Option AV} : guardO false (.bool true) o = some (.tup []) := rfl
theorem guardO_ff {o : Option AV} : guardO false (.bool false) o = o := rfl
theorem chkA_f {b c : Bool} {o : Option AV} {v : AV} {R : Prop} (h0 : c = !b) (h : b = false → o = some v) (hr : R) : guardO false (.bool b) o = some (selV c v) ∧ R := by
  subst h0
  refine ⟨?_, hr⟩
  cases b
  · exact h rfl
  · rfl
theorem chkA_t {b c : Bool} {o : Option AV} {v : AV} {R : Prop} (h0 : c = b) (h : b = true → o = some v) (hr : R) : guardO true (.bool b) o = some (selV c v) ∧ R := by
  subst h0
  refine ⟨?_, hr⟩
  cases c
  · rfl
  · exact h rfl
theorem awpGd_pct {f : FuncId} {args : List AV} {v : AV} {b : Bool} {fo : Opd} {xs : List Opd} {d : Option Nat} (h : PCall P f args v) (ha : b = true → fo.get ρ = .fn f [] [] ∧ xs.map (·.get ρ) = args) (h1 : AV.flatL args = true) (h2 : AV.flat v = true)
    (hk : K (aput ρ d (selV b v)) A) : awpGd true (.bool b) (awpOp P p0 ⟨d, .call fo xs, g, s, pre⟩ ρ A K) (K (aput ρ d (.tup [])) A) := by
  refine ⟨fun hb => ?_, fun hb => ?_⟩
  · obtain ⟨e1, e2⟩ := ha hb
    rw [hb] at hk
    show ACallV P (fo.get ρ) (xs.map (·.get ρ)) A _
    rw [e1, e2]
    show ACall P f ([] ++ args ++ []) A _
    rw [List.nil_append, List.append_nil]
    exact h.use h1 h2 hk
  · rw [show b = false from hb] at hk; exact hk
theorem awpGd_pcf {f : FuncId} {args : List AV} {v : AV} {b : Bool} {fo : Opd} {xs : List Opd} {d : Option Nat} (h : PCall P f args v) (ha : b = false → fo.get ρ = .fn f [] [] ∧ xs.map (·.get ρ) = args) (h1 : AV.flatL args = true) (h2 : AV.flat v = true)
    (hk : K (aput ρ d (selV (!b) v)) A) : awpGd false (.bool b) (awpOp P p0 ⟨d, .call fo xs, g, s, pre⟩ ρ A K) (K (aput ρ d (.tup [])) A) := by
  refine ⟨fun hb => ?_, fun hb => ?_⟩
  · obtain ⟨e1, e2⟩ := ha hb
    rw [hb] at hk
    show ACallV P (fo.get ρ) (xs.map (·.get ρ)) A _
    rw [e1, e2]
    show ACall P f ([] ++ args ++ []) A _
    rw [List.nil_append, List.append_nil]
    exact h.use h1 h2 hk
  · rw [show b = true from hb] at hk; exact hk
theorem val_mv {x : Opd} : valO ρ A (.mv x) = some (x.get ρ) := rfl
theorem val_pick {c x y : Opd} : valO ρ A (.pick c x y) = pickO (c.get ρ) (x.get ρ) (y.get ρ) := by
  have : nstep ρ (.pick c x y) = pickO (c.get ρ) (x.get ρ) (y.get ρ) := rfl
  unfold valO; rw [this]; cases pickO (c.get ρ) (x.get ρ) (y.get ρ) <;> rfl
theorem val_bin {o : BinOp} {x y : Opd} : valO ρ A (.bin o x y) = AV.bin o (x.get ρ) (y.get ρ) := by
  have : nstep ρ (.bin o x y) = AV.bin o (x.get ρ) (y.get ρ) := rfl
  unfold valO; rw [this]; cases AV.bin o (x.get ρ) (y.get ρ) <;> rfl
theorem val_un {o : UnOp} {x : Opd} : valO ρ A (.un o x) = AV.unop o (x.get ρ) := by
  have : nstep ρ (.un o x) = AV.unop o (x.get ρ) := rfl
  unfold valO; rw [this]; cases AV.unop o (x.get ρ) <;> rfl
theorem val_eqv {n : Bool} {e : EK} {x y : Opd} : valO ρ A (.eqv n e x y) = (AV.eqv e (x.get ρ) (y.get ρ)).map fun r => .bool (r != n) := by
  unfold valO; simp only [nstep]; cases AV.eqv e (x.get ρ) (y.get ρ) <;> rfl
theorem val_cvi {k : IntKind} {x : Opd} : valO ρ A (.cvi k x) = cviO k (x.get ρ) := by
  have : nstep ρ (.cvi k x) = cviO k (x.get ρ) := rfl
  unfold valO; rw [this]; cases cviO k (x.get ρ) <;> rfl
theorem val_cvs {x : Opd} : valO ρ A (.cvs x) = cvsO (x.get ρ) := by
  have : nstep ρ (.cvs x) = cvsO (x.get ρ) := rfl
  unfold valO; rw [this]; cases cvsO (x.get ρ) <;> rfl
theorem val_faddr {o : Nat} {x : Opd} : valO ρ A (.faddr o x) = AV.faddr o (x.get ρ) := by
  have : nstep ρ (.faddr o x) = AV.faddr o (x.get ρ) := rfl
  unfold valO; rw [this]; cases AV.faddr o (x.get ρ) <;> rfl
theorem val_fld {o : Nat} {n : Option Nat} {x : Opd} : valO ρ A (.fld o n x) = AV.fld o n (x.get ρ) := by
  have : nstep ρ (.fld o n x) = AV.fld o n (x.get ρ) := rfl
  unfold valO; rw [this]; cases AV.fld o n (x.get ρ) <;> rfl
theorem val_iaddr {z : Nat} {x i : Opd} : valO ρ A (.iaddr z x i) = AV.iaddr z (x.get ρ) (i.get ρ) := by
  have : nstep ρ (.iaddr z x i) = AV.iaddr z (x.get ρ) (i.get ρ) := rfl
  unfold valO; rw [this]; cases AV.iaddr z (x.get ρ) (i.get ρ) <;> rfl
theorem val_iaddra {l z : Nat} {x i : Opd} : valO ρ A (.iaddra l z x i) = AV.iaddra l z (x.get ρ) (i.get ρ) := by
  have : nstep ρ (.iaddra l z x i) = AV.iaddra l z (x.get ρ) (i.get ρ) := rfl
  unfold valO; rw [this]; cases AV.iaddra l z (x.get ρ) (i.get ρ) <;> rfl
theorem val_idxs {x i : Opd} : valO ρ A (.idxs x i) = AV.idxs (x.get ρ) (i.get ρ) := by
  have : nstep ρ (.idxs x i) = AV.idxs (x.get ρ) (i.get ρ) := rfl
  unfold valO; rw [this]; cases AV.idxs (x.get ρ) (i.get ρ) <;> rfl
theorem val_idxa {l z : Nat} {n : Option Nat} {x i : Opd} : valO ρ A (.idxa l z n x i) = AV.idxa l z n (x.get ρ) (i.get ρ) := by
  have : nstep ρ (.idxa l z n x i) = AV.idxa l z n (x.get ρ) (i.get ρ) := rfl
  unfold valO; rw [this]; cases AV.idxa l z n (x.get ρ) (i.get ρ) <;> rfl
theorem val_ext {i : Nat} {x : Opd} : valO ρ A (.ext i x) = extO i (x.get ρ) := by
  have : nstep ρ (.ext i x) = extO i (x.get ρ) := rfl
  unfold valO; rw [this]; cases extO i (x.get ρ) <;> rfl
theorem val_lenst {x : Opd} : valO ρ A (.lenst x) = AV.lenst (x.get ρ) := by
  have : nstep ρ (.lenst x) = AV.lenst (x.get ρ) := rfl
  unfold valO; rw [this]; cases AV.lenst (x.get ρ) <;> rfl
theorem val_lens {x : Opd} : valO ρ A (.lens x) = AV.lens (x.get ρ) := by
  have : nstep ρ (.lens x) = AV.lens (x.get ρ) := rfl
  unfold valO; rw [this]; cases AV.lens (x.get ρ) <;> rfl
theorem val_lenc {n : Nat} : valO ρ A (.lenc n) = some (.int .i64 n) := rfl
theorem val_mn {xs : List Opd} : valO ρ A (.mn xs) = mnO (xs.map (·.get ρ)) := by
  have : nstep ρ (.mn xs) = mnO (xs.map (·.get ρ)) := rfl
  unfold valO; rw [this]; cases mnO (xs.map (·.get ρ)) <;> rfl
theorem val_mx {xs : List Opd} : valO ρ A (.mx xs) = mxO (xs.map (·.get ρ)) := by
  have : nstep ρ (.mx xs) = mxO (xs.map (·.get ρ)) := rfl
  unfold valO; rw [this]; cases mxO (xs.map (·.get ρ)) <;> rfl
theorem val_nilck {x : Opd} : valO ρ A (.nilck x) = nilckO (x.get ρ) := by
  have : nstep ρ (.nilck x) = nilckO (x.get ρ) := rfl
  unfold valO; rw [this]; cases nilckO (x.get ρ) <;> rfl
theorem val_load {n : Option Nat} {x : Opd} : valO ρ A (.load n x) = aload A n (x.get ρ) := rfl
theorem val_lookup {lk : LK} {z : AV} {ok : Bool} {m k : Opd} : valO ρ A (.lookup lk z ok m k) = alookup A lk z ok (m.get ρ) (k.get ρ) := rfl
theorem val_lenm {x : Opd} : valO ρ A (.lenm x) = alenm A (x.get ρ) := rfl
theorem val_mkif {t : TypeId} {x : Opd} : valO ρ A (.mkif t x) = some (.ifc t (x.get ρ)) := rfl
theorem val_mkfn {f : FuncId} {a b : List Opd} : valO ρ A (.mkfn f a b) = some (.fn f (a.map (·.get ρ)) (b.map (·.get ρ))) := rfl
theorem val_build {z : List AV} {ps : List (Nat × Nat × Opd)} : valO ρ A (.build z ps) = (bfill z (bparts ρ ps)).map .agg := by
  unfold valO; simp only [nstep, bparts_eq]; cases bfill z (bparts ρ ps) <;> rfl
theorem val_slcs {x : Opd} {lo hi : Option Opd} : valO ρ A (.slcs x lo hi) = AV.slcs (x.get ρ) (lo.map (·.get ρ)) (hi.map (·.get ρ)) := by
  have : nstep ρ (.slcs x lo hi) = AV.slcs (x.get ρ) (lo.map (·.get ρ)) (hi.map (·.get ρ)) := rfl
  unfold valO; rw [this]; cases AV.slcs (x.get ρ) (lo.map (·.get ρ)) (hi.map (·.get ρ)) <;> rfl
theorem val_slc {z : Nat} {x : Opd} {lo hi m : Option Opd} : valO ρ A (.slc z x lo hi m) = AV.slc z (x.get ρ) (lo.map (·.get ρ)) (hi.map (·.get ρ)) (m.map (·.get ρ)) := by
  have : nstep ρ (.slc z x lo hi m) = AV.slc z (x.get ρ) (lo.map (·.get ρ)) (hi.map (·.get ρ)) (m.map (·.get ρ)) := rfl
  unfold valO; rw [this]; cases AV.slc z (x.get ρ) (lo.map (·.get ρ)) (hi.map (·.get ρ)) (m.map (·.get ρ)) <;> rfl
end
attribute [go_sem ↓] aw_skip aw_region aw_regionD retP_normal cntQ_exit cntQ_goto cntQ_ret cntQ_normal retP_ret aw_seq aw_cond aw_block aw_exit aw_ret aw_label aw_goto seqQ_normal seqQ_exit seqQ_goto seqQ_ret blockQ_normal blockQ_exit blockQ_goto blockQ_ret retQ_normal retQ_ret awpG_none awpG_some wp_mv wx_build wp_bin wp_eqv wp_un wp_mkfn wp_slcs wp_slc wp_faddr wp_fld wp_iaddr wp_iaddra wp_idxs wp_idxa wp_lenst wp_lens wp_lenc wp_mkif wp_load wp_lookup wp_lenm wp_alloc wp_box wp_bslice wp_mkmap wp_mksl wp_store wp_mset wp_del wp_clr wp_clrs wp_app wp_cpy wp_call callV_fn wx_pick wx_nilck wx_cvi wx_cvs wx_ext wx_mn wx_mx
attribute [go_sem] awpOrd_nil awpOrd_cons guardO_tup yld_load yld_loadG yld_lookup yld_lookupG yld_lenm yld_lenmG chks_nil chks_cons awpIf_t awpIf_f awpOps_nil awpOps_cons awpGd_tt awpGd_tf awpGd_ft awpGd_ff awpGd_tup orF_some orF_none orF_iteN orF_map get_t get_c aput_some aput_none mask_nil mask_cons pickO_t pickO_f bfill_nil bfill_cons nilckO_ptr nilckO_eptr nilckO_pp nilckO_fn cviO_int cvsO_str extO_tup mnO_2 mxO_2 bin_int bin_str binI_add binI_sub binI_mul binI_quo binI_rem binI_and binI_or binI_xor binI_andNot binI_shl binI_shr binI_eql binI_neq binI_lss binI_leq binI_gtr binI_geq binS_add binS_eql binS_neq eqv_bool eqv_ptr eqv_slice eqv_map eqv_func eqv_struct nilP_nilp nilP_ptr nilP_eptr nilP_pp nilS_nils nilS_sl nilS_es nilM_nilm nilM_mp nilF_nilf nilF_fn eqNil_tt eqNil_tf eqNil_ft eqL_nil eqL_int eqL_bool eqL_str omap_some omap_none un_neg un_xor un_not faddr_ptr faddr_eptr faddr_pp fld_one fld_n iaddr_sl iaddr_ps iaddra_int idxs_str idxa_one idxa_n lenst_str lens_sl lens_es lens_nils lens_ps cells_agg cells_any cells_int cells_bool cells_str cells_ptr cells_eptr cells_sl cells_nils cells_nilp cells_nilf cells_nilm cells_nili cells_es cells_mp cells_fn cellsO_some rowO_some arrO_some rdN_ptr rdN_eptr rdN_pp load1_some loadN_some aload_one aload_n load1_ite loadN_ite wrC_some wrR_some wrE_some wrN_ptr wrN_eptr wrt_nil wrt_cons one_int one_bool one_str one_ptr one_eptr one_sl one_nils one_nilp one_nilf one_nilm one_nili one_es one_mp one_fn atO_some anew_eq abslice_eq amksl_eq elemsOf_sl elemsOf_nils elemsOf_es elemsOf_ps rowsOk_nil rowsOk_cons app_nils app_nils0 app_es app_es0 app_slF appT_some app_slT app_slT0 rvO_some rvL_some rvs_nil rvs_t rvs_cell rtup_1 rtup_0 rtup_2 more_eq waits_eq ev_eq bparts_nil bparts_cons ordS_some ordC_read ordC_make ordC_eff ordP_mv ordP_pick ordP_build ordP_nilck ordP_bin ordP_eqv ordP_un ordP_cvi ordP_cvs ordP_mkfn ordP_slcs ordP_slc ordP_faddr ordP_fld ordP_iaddr ordP_iaddra ordP_idxs ordP_idxa ordP_ext ordP_lenst ordP_lens ordP_lenc ordP_mn ordP_mx ordP_mkif cls_mv cls_pick cls_alloc cls_box cls_build cls_bslice cls_load cls_store cls_nilck cls_bin cls_eqv cls_un cls_cvi cls_cvs cls_mkfn cls_mkmap cls_mksl cls_slcs cls_slc cls_faddr cls_fld cls_iaddr cls_iaddra cls_idxs cls_idxa cls_lookup cls_mset cls_ext cls_lenst cls_lens cls_lenc cls_lenm cls_app cls_cpy cls_mn cls_mx cls_del cls_clr cls_clrs cls_mkif cls_call bparts_eq app_nilsR ren_int ren_bool ren_str ren_nils ren_nilp ren_nilm ren_nilf ren_nili ren_es ren_any renTo_some renTo_none ren_ptr ren_eptr ren_sl ren_mp ren_fn ren_agg ren_tup aoren_cells aoren_dead aoren_nil rn_place putAll_nil putAll_cons foldA_eq foldR_eq foldV_eq fnew_eq idxTo_some idxTo_none idxOf_nil idxOf_cons join_some
attribute [go_sem] Int.cast_ofNat_Int List.foldl_cons List.foldl_nil List.set_cons_zero List.set_cons_succ List.getD_cons_zero List.getD_cons_succ List.getElem?_cons_zero List.getElem?_cons_succ List.replicate_succ List.replicate_zero List.append_nil List.cons_append List.nil_append List.length_cons List.length_nil List.map_cons List.map_nil List.drop_zero List.drop_succ_cons List.take_succ_cons List.take_zero List.all_cons List.all_nil Nat.zero_add Nat.add_zero Bool.and_true Bool.true_and Bool.not_true Bool.not_false true_and and_true cond_true cond_false true_implies false_implies Bool.true_eq_false Bool.false_eq_true false_and and_false AV.bool.injEq AV.int.injEq decide_true decide_false Option.some.injEq exists_eq_left' true_or or_true or_false false_or implies_true beq_self_eq_true IntWalk.i64_in IntWalk.u8_in IntWalk.u32_in IntWalk.u64_in not_true_eq_false not_false_eq_true
attribute [go_sem] selV_t selV_f pick_or pick_and pick_orN awpGd_selt awpGd_self guardO_st guardO_sf guardO_selt guardO_self guardO_tt guardO_tf guardO_ft guardO_ff val_mv val_pick val_bin val_un val_eqv val_cvi val_cvs val_faddr val_fld val_iaddr val_iaddra val_idxs val_idxa val_ext val_lenst val_lens val_lenc val_mn val_mx val_nilck val_load val_lookup val_lenm val_mkif val_mkfn val_build val_slcs val_slc Bool.not_not
attribute [go_sem high] elems_full appF_full app_slE
attribute [go_sem] appE_some app_nilsR elemsO_some appF_some
attribute [go_sem] bne_f bne_t

attribute [go_sem] Nat.reduceAdd Nat.reduceSub Nat.reduceLeDiff Nat.reduceLT reduceIte reduceCtorEq Nat.reducePow Nat.reduceDiv Nat.reduceMod Nat.reduceEqDiff
theorem dis {p : Prop} (h : p := by first | omega | with_unfolding_all rfl | (simp only [rows_length, List.length_append, List.length_cons, List.length_nil, List.length_replicate, List.length_set, Nat.zero_add]; done) | (simp only [rows_length, List.length_append, List.length_cons, List.length_nil, List.length_replicate, List.length_set, List.length_map, List.length_drop, List.length_take]; omega) | fail) : p := h
class Nrm (p : Prop) (q : outParam Prop) : Prop where
  h : p → q
theorem nrm {p q : Prop} [k : Nrm p q] (h : p) : q := k.h h
instance (priority := low) {p : Prop} : Nrm p p := ⟨id⟩
instance {p : Prop} [Decidable p] : Nrm (decide p = true) p := ⟨of_decide_eq_true⟩
instance {p : Prop} [Decidable p] : Nrm (decide p = false) (¬ p) := ⟨of_decide_eq_false⟩
instance {b : Bool} {q : Prop} [k : Nrm (b = false) q] : Nrm ((!b) = true) q := ⟨fun h => k.h (by simpa using h)⟩
instance {b : Bool} {q : Prop} [k : Nrm (b = true) q] : Nrm ((!b) = false) q := ⟨fun h => k.h (by simpa using h)⟩
end Go.SB
end

/- Framework, part Sd: numbering anew behind the frame rule. -/
section
set_option linter.unusedVariables false
set_option linter.unusedSimpArgs false
namespace Go.SB

mutual
theorem AV.ren_rn (f : Nat → Option Nat) (h : Nat → Nat) : ∀ (v : AV), AV.ren f (AV.ren (rn h) v) = AV.ren (fun l => f (h l)) v
  | .int _ _ | .bool _ | .str _ | .nilp | .nils | .nilm | .nilf | .nili | .es | .raw _ | .any => rfl
  | .ptr l o => rfl
  | .eptr l i o => rfl
  | .sl l z lo n t => rfl
  | .mp l => rfl
  | .fn g a b => by simp only [AV.ren, AV.renL_rn f h a, AV.renL_rn f h b]
  | .ifc t x => by simp only [AV.ren, AV.ren_rn f h x]
  | .agg cs => by simp only [AV.ren, AV.renL_rn f h cs]
  | .tup cs => by simp only [AV.ren, AV.renL_rn f h cs]
  | .pp cs => by simp only [AV.ren, AV.renL_rn f h cs]
  | .ps z xs => by simp only [AV.ren, AV.renLL_rn f h xs]
theorem AV.renL_rn (f : Nat → Option Nat) (h : Nat → Nat) : ∀ (vs : List AV), AV.renL f (AV.renL (rn h) vs) = AV.renL (fun l => f (h l)) vs
  | [] => rfl
  | v :: vs => by simp only [AV.renL, AV.ren_rn f h v, AV.renL_rn f h vs]
theorem AV.renLL_rn (f : Nat → Option Nat) (h : Nat → Nat) : ∀ (vs : List (List AV)), AV.renLL f (AV.renLL (rn h) vs) = AV.renLL (fun l => f (h l)) vs
  | [] => rfl
  | v :: vs => by simp only [AV.renLL, AV.renL_rn f h v, AV.renLL_rn f h vs]
end
theorem AO.ren_rn (f : Nat → Option Nat) (h : Nat → Nat) (o : AO) : AO.ren f (AO.ren (rn h) o) = AO.ren (fun l => f (h l)) o := by
  cases o with
  | cells vs => simp only [AO.ren, List.map_map]; congr 1; exact List.map_congr_left fun v _ => AV.ren_rn f h v
  | arr es => simp only [AO.ren, List.map_map]; congr 1; exact List.map_congr_left fun e _ => by simp only [Function.comp, List.map_map]; exact List.map_congr_left fun v _ => AV.ren_rn f h v
  | map es => simp only [AO.ren, List.map_map]; congr 1; exact List.map_congr_left fun e _ => by simp only [Function.comp, AV.ren_rn]
  | opq R => rfl
  | dead => rfl

theorem idxOf_map {h : Nat → Nat} (hi : ∀ a b, h a = h b → a = b) (k : Nat) : ∀ (ks : List Nat), (ks.map h).idxOf? (h k) = ks.idxOf? k
  | [] => rfl
  | x :: xs => by
    rw [List.map_cons, idxOf_cons, idxOf_cons, idxOf_map hi k xs]
    by_cases e : x = k
    · rw [if_pos e, if_pos (by rw [e])]
    · rw [if_neg e, if_neg (fun h => e (hi _ _ h))]
theorem okKeep_iff {ks : List Nat} : okKeep 0 ks = true ↔ ks.Nodup := by
  refine ⟨fun h => (okKeep_spec h).1, ?_⟩
  induction ks with
  | nil => intro _; rfl
  | cons k ks ih =>
    intro h
    obtain ⟨h1, h2⟩ := List.nodup_cons.1 h
    simp [okKeep, ih h2, h1]
/-- What was kept of the small heap can be kept of the great one. -/
theorem fold_frame {js ks : List Nat} {A B : AHeap} (hnd : js.Nodup) (hlt : ∀ j ∈ js, j < B.length) (hlen : js.length ≤ A.length) :
    foldA 0 (ks.map (place js B.length)) (putAll (rn (place js B.length)) B js A) = foldA 0 ks A := by
  have hinj : ∀ a b, place js B.length a = place js B.length b → a = b := fun a b h => place_inj hnd hlt h
  unfold foldA
  simp only [List.take_zero, List.nil_append, List.map_map]
  refine List.map_congr_left fun k _ => ?_
  simp only [Function.comp]
  have hget : (putAll (rn (place js B.length)) B js A)[place js B.length k]? = (A[k]?).map fun o => o.map (AO.ren (rn (place js B.length))) := by
    rw [putAll_get _ js B A hnd hlt hlen]
    by_cases hk : k < js.length
    · have hp : place js B.length k = js[k] := by unfold place; rw [if_pos hk]; simp [List.getD, hk]
      rw [hp, if_pos (hlt _ (List.getElem_mem hk))]
      have this : js.idxOf? js[k] = some k := by
        have hup := unplace_place (top := B.length) hnd hlt k
        rw [hp] at hup
        unfold unplace at hup
        rwa [if_pos (hlt _ (List.getElem_mem hk))] at hup
      rw [this]
    · have hp : place js B.length k = B.length + (k - js.length) := by unfold place; rw [if_neg hk]
      rw [hp, if_neg (by omega)]
      congr 2
      omega
  rw [hget]
  cases A[k]? with
  | none => rfl
  | some o =>
    cases o with
    | none => rfl
    | some o =>
      simp only [Option.map_some, Option.join_some]
      rw [AO.ren_rn]
      congr 2
      funext l
      unfold fnew
      simp only [Nat.not_lt_zero, if_false]
      rw [idxOf_map hinj]
end Go.SB
end
