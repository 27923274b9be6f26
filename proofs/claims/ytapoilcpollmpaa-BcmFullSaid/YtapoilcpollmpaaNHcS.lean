/- HcS, put together. Conditions: none. -/
import Derived.Test.YtapoilcpollmpaaNHcF
import Derived.Test.YtapoilcpollmpaaMD
/- Framework, part HcS: compact code, stepped through by 'simp'. -/
section
set_option linter.unusedVariables false
set_option linter.unusedSimpArgs false
namespace Go.SB

/-! ### Less is asked behind -/
section
variable {P : Program} {p0 n0 : Nat}
theorem hRq_mono {ρ : List AV} {A : AHeap} {X Y : Prop} (h : X → Y) : ∀ {es : List HE}, hRq ρ A es X → hRq ρ A es Y
  | [], q => h q
  | e :: es, ⟨v, hv, q⟩ => ⟨v, hv, hRq_mono h q⟩
theorem hCk_mono {ρ : List AV} {A : AHeap} {X Y : Prop} (h : X → Y) : ∀ {es : List (HE × Nat)}, hCk ρ A es X → hCk ρ A es Y
  | [], q => h q
  | (e, j) :: es, ⟨hv, q⟩ => ⟨hv, hCk_mono h q⟩
theorem hAs_mono {ρ : List AV} {A : AHeap} {K K' : List AV → Prop} (h : ∀ ρ, K ρ → K' ρ) : ∀ {as : List (Nat × HE)} {ρ1 : List AV}, hAs ρ A as ρ1 K → hAs ρ A as ρ1 K'
  | [], _, q => h _ q
  | (j, e) :: as, _, ⟨v, hv, q⟩ => ⟨v, hv, hAs_mono h q⟩
theorem hEfO_mono {f : Option HF} {ρ ρ1 : List AV} {A : AHeap} {K K' : List AV → AHeap → Prop} (h : ∀ ρ A, K ρ A → K' ρ A) (q : hEfO P p0 f ρ ρ1 A K) : hEfO P p0 f ρ ρ1 A K' := by
  cases f with
  | none => exact h _ _ q
  | some f =>
    simp only [hEfO, hEf] at q ⊢
    split at q
    · obtain ⟨vs, h1, h2⟩ := q
      exact ⟨vs, h1, hOp_mono h2 fun r A' => hCk_mono (h _ _)⟩
    · obtain ⟨g, h1, h2⟩ := q
      refine ⟨g, h1, ?_⟩
      unfold awpGd at h2 ⊢
      split at h2
      · exact ⟨fun e => (h2.1 e).elim fun vs hh => ⟨vs, hh.1, hOp_mono hh.2 fun r A' => hCk_mono (h _ _)⟩, fun e => hCk_mono (h _ _) (h2.2 e)⟩
      · exact hCk_mono (h _ _) h2
      · exact h2.elim
theorem hSs_mono {K K' : List AV → AHeap → Prop} (h : ∀ ρ A, K ρ A → K' ρ A) : ∀ {ss : List HS} {ρ : List AV} {A : AHeap}, hSs P p0 ss ρ A K → hSs P p0 ss ρ A K'
  | [], _, _, q => h _ _ q
  | s :: ss, _, _, q => hRq_mono (hAs_mono fun _ => hEfO_mono fun _ _ => hSs_mono h) q
theorem seqQ_mono {N N' : List AV → AHeap → Prop} {Q Q' : IExit → List AV → AHeap → Prop} (hn : ∀ ρ A, N ρ A → N' ρ A) (hq : ∀ e ρ A, Q e ρ A → Q' e ρ A) (e : IExit) (ρ : List AV) (A : AHeap) (h : seqQ N Q e ρ A) : seqQ N' Q' e ρ A := by
  cases e with
  | normal => exact hn _ _ h
  | _ => exact hq _ _ _ h
theorem hwp_mono : ∀ (c : HC) {ρ : List AV} {A : AHeap} {Q Q' : IExit → List AV → AHeap → Prop}, hwp P n0 c ρ A Q → (∀ e ρ A, Q e ρ A → Q' e ρ A) → hwp P n0 c ρ A Q'
  | .skip, ρ, A, Q, Q', h, hq => hq _ _ _ h
  | .reg m ss kill, ρ, A, Q, Q', h, hq => hSs_mono (fun _ _ => hq _ _ _) h
  | .seq x y, ρ, A, Q, Q', h, hq => hwp_mono x h (seqQ_mono (fun _ _ h => hwp_mono y h hq) hq)
  | .cond c kill x y, ρ, A, Q, Q', h, hq => by
    obtain ⟨v, hv, h⟩ := h
    refine ⟨v, hv, ?_⟩
    unfold awpIf at h ⊢
    split at h
    · exact ⟨fun e => hwp_mono x (h.1 e) hq, fun e => hwp_mono y (h.2 e) hq⟩
    · exact h.elim
  | .block id x, ρ, A, Q, Q', h, hq => hwp_mono x h fun e ρ A h => by
    cases e with
    | exit i =>
      simp only [blockQ] at h ⊢
      split
      · rename_i e; rw [if_pos e] at h; exact hq _ _ _ h
      · rename_i e; rw [if_neg e] at h; exact hq _ _ _ h
    | _ => exact hq _ _ _ h
  | .loop kill x, ρ, A, Q, Q', h, hq => by
    obtain ⟨I, h0, hs⟩ := h
    refine ⟨I, h0, fun i ρ A hI => hwp_mono x (hs i ρ A hI) fun e ρ A h => ?_⟩
    cases e with
    | normal => exact h
    | _ => exact hq _ _ _ h
  | .exit id, ρ, A, Q, Q', h, hq => hq _ _ _ h
  | .ret, ρ, A, Q, Q', h, hq => hq _ _ _ h
  | .label l, ρ, A, Q, Q', h, hq => hq _ _ _ h
  | .goto l, ρ, A, Q, Q', h, hq => hq _ _ _ h
  | .scope l kill x r, ρ, A, Q, Q', h, hq => by
    obtain ⟨J, h0, hs⟩ := h
    refine ⟨J, hwp_mono x h0 fun e ρ A h => ?_, fun i ρ A hI => hwp_mono r (hs i ρ A hI) fun e ρ A h => ?_⟩
    · cases e with
      | goto l' => exact h
      | _ => exact hq _ _ _ h
    · cases e with
      | goto l' => exact h
      | _ => exact hq _ _ _ h
end

abbrev Xv (i : Nat) : HE := .v i
abbrev Xi (n : Int) : HE := .c (.int .i64 n)
abbrev Xc (a : AV) : HE := .c a
abbrev Xand (x y : HE) : HE := .i x y (.c (.bool false))
abbrev Xor (x y : HE) : HE := .i x (.c (.bool true)) y
abbrev Xb (o : BinOp) (x y : HE) : HE := .o (.bin o (.t 0) (.t 1)) [x, y]
abbrev Xk (o : BinOp) (x : HE) (n : Int) : HE := .o (.bin o (.t 0) (.c (.int .i64 n))) [x]
abbrev Xl (x : HE) : HE := .o (.load none (.t 0)) [x]
abbrev Xln (n : Nat) (x : HE) : HE := .o (.load (some n) (.t 0)) [x]
abbrev Xa (n : Nat) (x : HE) : HE := .o (.faddr n (.t 0)) [x]
abbrev Xf (n : Nat) (x : HE) : HE := Xl (Xa n x)
abbrev Xx (n : Nat) (x y : HE) : HE := .o (.iaddr n (.t 0) (.t 1)) [x, y]
abbrev Xlen (x : HE) : HE := .o (.lens (.t 0)) [x]
abbrev Xls (x : HE) : HE := .o (.lenst (.t 0)) [x]
abbrev Xg (n : Nat) (x : HE) : HE := .o (.fld n none (.t 0)) [x]
abbrev Xgn (n m : Nat) (x : HE) : HE := .o (.fld n (some m) (.t 0)) [x]
abbrev Xe (i : Nat) (x : HE) : HE := .o (.ext i (.t 0)) [x]
abbrev Xnot (x : HE) : HE := .o (.un .not (.t 0)) [x]
abbrev Xcv (k : IntKind) (x : HE) : HE := .o (.cvi k (.t 0)) [x]
abbrev Xsx (x y : HE) : HE := .o (.idxs (.t 0) (.t 1)) [x, y]
abbrev Xn (x : HE) : HE := .o (.nilck (.t 0)) [x]
abbrev Xnil (x : HE) : HE := .o (.eqv false .ptr (.t 0) (.c .nilp)) [x]
abbrev Xset (as : List (Nat × HE)) : HS := ⟨as, [], none⟩
/-- An effect, and what is set ahead of it. -/
abbrev Xeff (as : List (Nat × HE)) (d : Option Nat) (slot : Nat) (op : IOp) (xs : List HE) : HS := ⟨as, [], some ⟨d, none, slot, op, xs, []⟩⟩
abbrev Xcall (as : List (Nat × HE)) (d : Option Nat) (f : Nat) (xs : List HE) (os : List Opd) : HS := ⟨as, [], some ⟨d, none, 0, .call (.c (.fn f [] [])) os, xs, []⟩⟩

section
variable {P : Program} {p0 n0 : Nat} {ρ ρ1 : List AV} {A : AHeap} {K : List AV → AHeap → Prop} {KK : List AV → Prop} {Q : IExit → List AV → AHeap → Prop} {d : Option Nat} {s : Nat} {x y c : HE} {a b v : AV}

def HW (P : Program) (n0 : Nat) (hc : HC) (ρ : List AV) (A : AHeap) (Q : IExit → List AV → AHeap → Prop) (_ : Dep Q Unit := ()) : Prop := hwp P n0 hc ρ A Q
def HSS (P : Program) (p0 : Nat) (ss : List HS) (ρ : List AV) (A : AHeap) (K : List AV → AHeap → Prop) (_ : Dep K Unit := ()) : Prop := hSs P p0 ss ρ A K
def HRQ (ρ : List AV) (A : AHeap) (es : List HE) (X : Prop) (_ : Dep X Unit := ()) : Prop := hRq ρ A es X
def HAS (ρ : List AV) (A : AHeap) (as : List (Nat × HE)) (ρ1 : List AV) (K : List AV → Prop) (_ : Dep K Unit := ()) : Prop := hAs ρ A as ρ1 K
def HEO (P : Program) (p0 : Nat) (f : Option HF) (ρ ρ1 : List AV) (A : AHeap) (K : List AV → AHeap → Prop) (_ : Dep K Unit := ()) : Prop := hEfO P p0 f ρ ρ1 A K
def HOP (P : Program) (p : Nat) (op : IOp) (vs : List AV) (A : AHeap) (K : AV → AHeap → Prop) (_ : Dep K Unit := ()) : Prop := hOp P p op vs A K
def HCK (ρ : List AV) (A : AHeap) (es : List (HE × Nat)) (X : Prop) (_ : Dep X Unit := ()) : Prop := hCk ρ A es X

theorem hw_skip : HW P n0 .skip ρ A Q = Q .normal ρ A := rfl
theorem hw_reg {m : Nat} {ss : List HS} {kill : List Nat} : HW P n0 (.reg m ss kill) ρ A Q = HSS P A.length ss ρ (A.more m) fun ρ' A' => Q .normal (mask kill ρ') A' := rfl
theorem hw_seq {x y : HC} : HW P n0 (.seq x y) ρ A Q = HW P n0 x ρ A (seqQ (fun ρ' A' => HW P n0 y ρ' A' Q) Q) := rfl
theorem hw_cond {kill : List Nat} {x y : HC} : HW P n0 (.cond c kill x y) ρ A Q = orF (hev ρ A c) fun v => awpIf v (HW P n0 x (mask kill ρ) A Q) (HW P n0 y (mask kill ρ) A Q) := rfl
theorem hw_block {id : Nat} {x : HC} : HW P n0 (.block id x) ρ A Q = HW P n0 x ρ A (blockQ id Q) := rfl
theorem hw_exit {id : Nat} : HW P n0 (.exit id) ρ A Q = Q (.exit id) ρ A := rfl
theorem hw_ret : HW P n0 .ret ρ A Q = Q .ret ρ A := rfl
theorem hw_label {l : Nat} : HW P n0 (.label l) ρ A Q = Q .normal ρ A := rfl
theorem hw_goto {l : Nat} : HW P n0 (.goto l) ρ A Q = Q (.goto l) ρ A := rfl
theorem hss_nil : HSS P p0 [] ρ A K = K ρ A := rfl
theorem hss_cons {as : List (Nat × HE)} {rq : List HE} {ef : Option HF} {ss : List HS} : HSS P p0 (⟨as, rq, ef⟩ :: ss) ρ A K = HRQ ρ A rq (HAS ρ A as ρ fun ρ1 => HEO P p0 ef ρ ρ1 A fun ρ' A' => HSS P p0 ss ρ' A' K) := rfl
theorem hrq_nil {X : Prop} : HRQ ρ A [] X = X := rfl
theorem hrq_cons {e : HE} {es : List HE} {X : Prop} : HRQ ρ A (e :: es) X = orF (hev ρ A e) fun _ => HRQ ρ A es X := rfl
theorem has_nil : HAS ρ A [] ρ1 KK = KK ρ1 := rfl
theorem has_cons {j : Nat} {e : HE} {as : List (Nat × HE)} : HAS ρ A ((j, e) :: as) ρ1 KK = orF (hev ρ A e) fun v => HAS ρ A as (ρ1.set j v) KK := rfl
theorem heo_none : HEO P p0 none ρ ρ1 A K = K ρ1 A := rfl
theorem heo_some {op : IOp} {xs : List HE} {ck : List (HE × Nat)} : HEO P p0 (some ⟨d, none, s, op, xs, ck⟩) ρ ρ1 A K = orF (hevL ρ A xs) fun vs => HOP P (p0 + s) op vs A fun r A' => HCK (aput ρ1 d r) A' ck (K (aput ρ1 d r) A') := rfl
theorem heo_gd {w : Bool} {op : IOp} {xs : List HE} {ck : List (HE × Nat)} : HEO P p0 (some ⟨d, some (c, w), s, op, xs, ck⟩) ρ ρ1 A K = orF (hev ρ A c) fun g => awpGd w g (orF (hevL ρ A xs) fun vs => HOP P (p0 + s) op vs A fun r A' => HCK (aput ρ1 d r) A' ck (K (aput ρ1 d r) A')) (HCK (aput ρ1 d (.tup [])) A ck (K (aput ρ1 d (.tup [])) A)) := rfl
theorem hck_nil {X : Prop} : HCK ρ A [] X = X := rfl
theorem hck_cons {e : HE} {j : Nat} {es : List (HE × Nat)} {X : Prop} : HCK ρ A ((e, j) :: es) X = (hev ρ A e = some (ρ.getD j .any) ∧ HCK ρ A es X) := rfl

/-! ### Expressions -/
theorem hev_v {i : Nat} : hev ρ A (.v i) = some (ρ.getD i .any) := by simp only [hev]
theorem hev_c : hev ρ A (.c a) = some a := by simp only [hev]
def vO (A : AHeap) (op : IOp) : Option (List AV) → Option AV | some vs => vstep vs A op | none => none
theorem vO_some {op : IOp} {vs : List AV} : vO A op (some vs) = vstep vs A op := rfl
theorem hev_o {op : IOp} {xs : List HE} : hev ρ A (.o op xs) = vO A op (hevL ρ A xs) := by
  simp only [hev, vO]; cases hevL ρ A xs <;> rfl
def consO : Option AV → Option (List AV) → Option (List AV) | some v, some vs => some (v :: vs) | _, _ => none
theorem consO_some {vs : List AV} : consO (some v) (some vs) = some (v :: vs) := rfl
theorem hevL_nil : hevL ρ A [] = some [] := by simp only [hevL]
theorem hevL_cons {xs : List HE} : hevL ρ A (x :: xs) = consO (hev ρ A x) (hevL ρ A xs) := by
  simp only [hevL, consO]
  cases hev ρ A x <;> cases hevL ρ A xs <;> rfl
/-- Asked for only where the guard holds. -/
def gdO (c : Option AV) (w : Bool) (x : Option AV) : Option AV := match c with | some (.bool b) => if b = w then x else some (.tup []) | some (.tup _) => some (.tup []) | _ => none
theorem hev_g {w : Bool} : hev ρ A (.g c w x) = gdO (hev ρ A c) w (hev ρ A x) := by
  simp only [hev, gdO]
  cases hev ρ A c with
  | none => rfl
  | some v => cases v <;> rfl
theorem gdO_bool {b w : Bool} {x : Option AV} : gdO (some (.bool b)) w x = if b = w then x else some (.tup []) := rfl
theorem gdO_tt {x : Option AV} : gdO (some (.bool true)) true x = x := rfl
theorem gdO_tf {x : Option AV} : gdO (some (.bool true)) false x = some (.tup []) := rfl
theorem gdO_ft {x : Option AV} : gdO (some (.bool false)) true x = some (.tup []) := rfl
theorem gdO_ff {x : Option AV} : gdO (some (.bool false)) false x = x := rfl
theorem gdO_tup {vs : List AV} {w : Bool} {x : Option AV} : gdO (some (.tup vs)) w x = some (.tup []) := rfl
def iO (c x y : Option AV) : Option AV := match c with | some (.bool true) => x | some (.bool false) => y | _ => none
theorem hev_i : hev ρ A (.i c x y) = iO (hev ρ A c) (hev ρ A x) (hev ρ A y) := by
  simp only [hev, iO]
  cases hev ρ A c with
  | none => rfl
  | some v => cases v <;> first | rfl | (rename_i b; cases b <;> rfl)
theorem iO_t {x y : Option AV} : iO (some (.bool true)) x y = x := rfl
theorem iO_f {x y : Option AV} : iO (some (.bool false)) x y = y := rfl
theorem iO_and {p q : Bool} : iO (some (.bool p)) (some (.bool q)) (some (.bool false)) = some (.bool (p && q)) := by cases p <;> rfl
theorem iO_or {p q : Bool} : iO (some (.bool p)) (some (.bool true)) (some (.bool q)) = some (.bool (p || q)) := by cases p <;> rfl
theorem iO_same {p : Bool} {u : Option AV} : iO (some (.bool p)) u u = u := by cases p <;> rfl
/-- Where a part cannot be said without the condition: both ways. -/
theorem orF_iO {p : Bool} {x y : Option AV} {F : AV → Prop} : orF (iO (some (.bool p)) x y) F = ((p = true → orF x F) ∧ (p = false → orF y F)) := by cases p <;> simp [iO]
theorem orF_dec {p : Prop} [Decidable p] {x y : Option AV} {F : AV → Prop} : orF (iO (some (.bool (decide p))) x y) F = ((p → orF x F) ∧ (¬ p → orF y F)) := by
  rw [orF_iO]; by_cases h : p <;> simp [h]

def bin2 (o : BinOp) : Option AV → Option AV → Option AV | some a, some b => AV.bin o a b | _, _ => none
theorem bin2_some {o : BinOp} : bin2 o (some a) (some b) = AV.bin o a b := rfl
theorem hev_b {o : BinOp} : hev ρ A (.o (.bin o (.t 0) (.t 1)) [x, y]) = bin2 o (hev ρ A x) (hev ρ A y) := by
  rw [hev_o, hevL_cons, hevL_cons, hevL_nil]
  cases hev ρ A x <;> cases hev ρ A y <;> first | rfl | (rename_i u w; show vstep [u, w] A _ = AV.bin o u w; unfold vstep; simp only [nstep, Opd.get, List.getD_cons_zero, List.getD_cons_succ, rstep]; cases AV.bin o u w <;> rfl)
theorem hev_k {o : BinOp} : hev ρ A (.o (.bin o (.t 0) (.c b)) [x]) = bin2 o (hev ρ A x) (some b) := by
  rw [hev_o, hevL_cons, hevL_nil]
  cases hev ρ A x <;> first | rfl | (rename_i u; show vstep [u] A _ = AV.bin o u b; unfold vstep; simp only [nstep, Opd.get, List.getD_cons_zero, rstep]; cases AV.bin o u b <;> rfl)
def un1 (f : AV → Option AV) : Option AV → Option AV | some a => f a | none => none
theorem un1_some {f : AV → Option AV} : un1 f (some a) = f a := rfl
theorem hev_n1 {op : IOp} {f : AV → Option AV} (h : ∀ u, nstep [u] op = f u) (h2 : ∀ vs, rstep vs A op = none) : hev ρ A (.o op [x]) = un1 f (hev ρ A x) := by
  rw [hev_o, hevL_cons, hevL_nil]
  cases hev ρ A x with
  | none => rfl
  | some u => show vstep [u] A op = f u; unfold vstep; rw [h, h2]; cases f u <;> rfl
theorem hev_n2 {op : IOp} {f : AV → AV → Option AV} (h : ∀ u w, nstep [u, w] op = f u w) (h2 : ∀ vs, rstep vs A op = none) : hev ρ A (.o op [x, y]) = (match hev ρ A x, hev ρ A y with | some u, some w => f u w | _, _ => none) := by
  rw [hev_o, hevL_cons, hevL_cons, hevL_nil]
  cases hev ρ A x <;> cases hev ρ A y <;> first | rfl | (rename_i u w; show vstep [u, w] A op = f u w; unfold vstep; rw [h, h2]; cases f u w <;> rfl)
def bi2 (f : AV → AV → Option AV) : Option AV → Option AV → Option AV | some a, some b => f a b | _, _ => none
theorem bi2_some {f : AV → AV → Option AV} : bi2 f (some a) (some b) = f a b := rfl
theorem hev_a {n : Nat} : hev ρ A (.o (.faddr n (.t 0)) [x]) = un1 (AV.faddr n) (hev ρ A x) := hev_n1 (fun _ => rfl) (fun _ => rfl)
theorem hev_x {n : Nat} : hev ρ A (.o (.iaddr n (.t 0) (.t 1)) [x, y]) = bi2 (AV.iaddr n) (hev ρ A x) (hev ρ A y) := (hev_n2 (fun _ _ => rfl) (fun _ => rfl)).trans (by unfold bi2; cases hev ρ A x <;> cases hev ρ A y <;> rfl)
theorem hev_xk {n : Nat} : hev ρ A (.o (.iaddr n (.t 0) (.c b)) [x]) = un1 (fun u => AV.iaddr n u b) (hev ρ A x) := hev_n1 (fun _ => rfl) (fun _ => rfl)
theorem hev_len : hev ρ A (.o (.lens (.t 0)) [x]) = un1 AV.lens (hev ρ A x) := hev_n1 (fun _ => rfl) (fun _ => rfl)
theorem hev_ls : hev ρ A (.o (.lenst (.t 0)) [x]) = un1 AV.lenst (hev ρ A x) := hev_n1 (fun _ => rfl) (fun _ => rfl)
theorem hev_fld {n : Nat} {m : Option Nat} : hev ρ A (.o (.fld n m (.t 0)) [x]) = un1 (AV.fld n m) (hev ρ A x) := hev_n1 (fun _ => rfl) (fun _ => rfl)
theorem hev_ext {i : Nat} : hev ρ A (.o (.ext i (.t 0)) [x]) = un1 (extO i) (hev ρ A x) := hev_n1 (fun _ => rfl) (fun _ => rfl)
theorem hev_un {o : UnOp} : hev ρ A (.o (.un o (.t 0)) [x]) = un1 (AV.unop o) (hev ρ A x) := hev_n1 (fun _ => rfl) (fun _ => rfl)
theorem hev_cv {k : IntKind} : hev ρ A (.o (.cvi k (.t 0)) [x]) = un1 (cviO k) (hev ρ A x) := hev_n1 (fun _ => rfl) (fun _ => rfl)
theorem hev_cvs : hev ρ A (.o (.cvs (.t 0)) [x]) = un1 cvsO (hev ρ A x) := hev_n1 (fun _ => rfl) (fun _ => rfl)
theorem hev_sx : hev ρ A (.o (.idxs (.t 0) (.t 1)) [x, y]) = bi2 AV.idxs (hev ρ A x) (hev ρ A y) := (hev_n2 (fun _ _ => rfl) (fun _ => rfl)).trans (by unfold bi2; cases hev ρ A x <;> cases hev ρ A y <;> rfl)
theorem hev_sxk : hev ρ A (.o (.idxs (.t 0) (.c b)) [x]) = un1 (fun u => AV.idxs u b) (hev ρ A x) := hev_n1 (fun _ => rfl) (fun _ => rfl)
theorem hev_n : hev ρ A (.o (.nilck (.t 0)) [x]) = un1 nilckO (hev ρ A x) := hev_n1 (fun _ => rfl) (fun _ => rfl)
def eqvO (n : Bool) (e : EK) (a b : AV) : Option AV := match AV.eqv e a b with | some r => some (.bool (r != n)) | none => none
def eqvR (n : Bool) : Option Bool → Option AV | some r => some (.bool (r != n)) | none => none
theorem eqvR_some {n r : Bool} : eqvR n (some r) = some (.bool (r != n)) := rfl
theorem eqvO_eq {n : Bool} {e : EK} : eqvO n e a b = eqvR n (AV.eqv e a b) := by unfold eqvO eqvR; cases AV.eqv e a b <;> rfl
theorem hev_eqv {n : Bool} {e : EK} : hev ρ A (.o (.eqv n e (.t 0) (.t 1)) [x, y]) = bi2 (eqvO n e) (hev ρ A x) (hev ρ A y) := (hev_n2 (fun _ _ => rfl) (fun _ => rfl)).trans (by unfold bi2; cases hev ρ A x <;> cases hev ρ A y <;> rfl)
theorem hev_eqvk {n : Bool} {e : EK} : hev ρ A (.o (.eqv n e (.t 0) (.c b)) [x]) = un1 (fun u => eqvO n e u b) (hev ρ A x) := hev_n1 (fun _ => rfl) (fun _ => rfl)
/-- A load. -/
def cell1 : Option (Option AO) → Nat → Option AV | some (some (.cells vs)), off => vs[off]? | _, _ => none
theorem cell1_some {vs : List AV} {off : Nat} : cell1 (some (some (.cells vs))) off = vs[off]? := rfl
def rowAt : Option (List AV) → Nat → Option AV | some e, off => e[off]? | none, _ => none
theorem rowAt_some {e : List AV} {off : Nat} : rowAt (some e) off = e[off]? := rfl
def row1 : Option (Option AO) → Nat → Nat → Option AV | some (some (.arr es)), i, off => rowAt es[i]? off | _, _, _ => none
theorem row1_some {es : List (List AV)} {i off : Nat} : row1 (some (some (.arr es))) i off = rowAt es[i]? off := rfl
theorem one_at {vs : List AV} {off : Nat} : load1 (if off + 1 ≤ vs.length then some ((vs.drop off).take 1) else none) = vs[off]? := by
  by_cases h : off + 1 ≤ vs.length
  · rw [if_pos h, List.drop_eq_getElem_cons (by omega), List.getElem?_eq_getElem (by omega)]; rfl
  · rw [if_neg h, List.getElem?_eq_none (by omega)]; rfl
theorem aload_ptr {l off : Nat} : aload A none (.ptr l off) = cell1 A[l]? off := by
  rw [aload_one, rdN_ptr]
  cases A[l]? with
  | none => rfl
  | some o => cases o with
    | none => rfl
    | some o => cases o <;> first | exact one_at | rfl
theorem aload_eptr {l i off : Nat} : aload A none (.eptr l i off) = row1 A[l]? i off := by
  rw [aload_one, rdN_eptr]
  cases A[l]? with
  | none => rfl
  | some o => cases o with
    | none => rfl
    | some o => cases o <;> first | rfl | (rename_i es; simp only [arrO, row1, rowO, rowAt]; cases es[i]? <;> first | rfl | exact one_at)
theorem aload_pp {cs : List AV} : aload A none (.pp cs) = cs.head? := by
  rw [aload_one, rdN_pp]
  cases cs <;> simp [load1]
theorem hev_l {n : Option Nat} : hev ρ A (.o (.load n (.t 0)) [x]) = un1 (aload A n) (hev ρ A x) := by
  rw [hev_o, hevL_cons, hevL_nil]
  cases hev ρ A x with
  | none => rfl
  | some u => show vstep [u] A (.load n (.t 0)) = aload A n u; rfl

/-! ### The other operations -/
variable {vs : List AV} {p q r : Opd}
theorem vs_pick : vstep vs A (.pick p q r) = pickO (p.get vs) (q.get vs) (r.get vs) := by
  unfold vstep; simp only [nstep, rstep, pickO]; cases p.get vs <;> rfl
theorem vs_build {z : List AV} {ps : List (Nat × Nat × Opd)} : vstep vs A (.build z ps) = (bfill z (bparts vs ps)).map .agg := by
  unfold vstep; simp only [nstep, rstep, ← bparts_eq]
  cases bfill z _ <;> rfl
theorem vs_bin {o : BinOp} : vstep vs A (.bin o p q) = AV.bin o (p.get vs) (q.get vs) := by unfold vstep; simp only [nstep, rstep]; cases AV.bin o (p.get vs) (q.get vs) <;> rfl
theorem vs_eqv {n : Bool} {e : EK} : vstep vs A (.eqv n e p q) = eqvR n (AV.eqv e (p.get vs) (q.get vs)) := by unfold vstep; simp only [nstep, rstep, eqvR]; cases AV.eqv e (p.get vs) (q.get vs) <;> rfl
theorem vs_un {o : UnOp} : vstep vs A (.un o p) = AV.unop o (p.get vs) := by unfold vstep; simp only [nstep, rstep]; cases AV.unop o (p.get vs) <;> rfl
theorem vs_cvi {k : IntKind} : vstep vs A (.cvi k p) = cviO k (p.get vs) := by unfold vstep; simp only [nstep, rstep, cviO]; cases p.get vs <;> rfl
theorem vs_mkfn {f : FuncId} {as bs : List Opd} : vstep vs A (.mkfn f as bs) = some (.fn f (as.map (·.get vs)) (bs.map (·.get vs))) := rfl
theorem vs_slcs {lo hi : Option Opd} : vstep vs A (.slcs p lo hi) = AV.slcs (p.get vs) (lo.map (·.get vs)) (hi.map (·.get vs)) := by unfold vstep; simp only [nstep, rstep]; cases AV.slcs (p.get vs) (lo.map (·.get vs)) (hi.map (·.get vs)) <;> rfl
theorem vs_slc {z : Nat} {lo hi mx : Option Opd} : vstep vs A (.slc z p lo hi mx) = AV.slc z (p.get vs) (lo.map (·.get vs)) (hi.map (·.get vs)) (mx.map (·.get vs)) := by unfold vstep; simp only [nstep, rstep]; cases AV.slc z (p.get vs) (lo.map (·.get vs)) (hi.map (·.get vs)) (mx.map (·.get vs)) <;> rfl
theorem vs_faddr {n : Nat} : vstep vs A (.faddr n p) = AV.faddr n (p.get vs) := by unfold vstep; simp only [nstep, rstep]; cases AV.faddr n (p.get vs) <;> rfl
theorem vs_fld {n : Nat} {m : Option Nat} : vstep vs A (.fld n m p) = AV.fld n m (p.get vs) := by unfold vstep; simp only [nstep, rstep]; cases AV.fld n m (p.get vs) <;> rfl
theorem vs_iaddr {n : Nat} : vstep vs A (.iaddr n p q) = AV.iaddr n (p.get vs) (q.get vs) := by unfold vstep; simp only [nstep, rstep]; cases AV.iaddr n (p.get vs) (q.get vs) <;> rfl
theorem vs_iaddra {l n : Nat} : vstep vs A (.iaddra l n p q) = AV.iaddra l n (p.get vs) (q.get vs) := by unfold vstep; simp only [nstep, rstep]; cases AV.iaddra l n (p.get vs) (q.get vs) <;> rfl
theorem vs_idxs : vstep vs A (.idxs p q) = AV.idxs (p.get vs) (q.get vs) := by unfold vstep; simp only [nstep, rstep]; cases AV.idxs (p.get vs) (q.get vs) <;> rfl
theorem vs_idxa {l n : Nat} {m : Option Nat} : vstep vs A (.idxa l n m p q) = AV.idxa l n m (p.get vs) (q.get vs) := by unfold vstep; simp only [nstep, rstep]; cases AV.idxa l n m (p.get vs) (q.get vs) <;> rfl
theorem vs_ext {i : Nat} : vstep vs A (.ext i p) = extO i (p.get vs) := by unfold vstep; simp only [nstep, rstep]; cases p.get vs <;> simp only [extO] <;> (try rfl) <;> (rename_i us; cases us[i]? <;> rfl)
theorem vs_lenst : vstep vs A (.lenst p) = AV.lenst (p.get vs) := by unfold vstep; simp only [nstep, rstep]; cases AV.lenst (p.get vs) <;> rfl
theorem vs_lens : vstep vs A (.lens p) = AV.lens (p.get vs) := by unfold vstep; simp only [nstep, rstep]; cases AV.lens (p.get vs) <;> rfl
theorem vs_lenc {n : Nat} : vstep vs A (.lenc n) = some (.int .i64 n) := rfl
theorem vs_mn {xs : List Opd} : vstep vs A (.mn xs) = mnO (xs.map (·.get vs)) := by unfold vstep; simp only [nstep, rstep, mnO]; cases xs.map (·.get vs) with | nil => rfl | cons x r => simp only []; cases foldO AV.mn2 x r <;> rfl
theorem vs_mx {xs : List Opd} : vstep vs A (.mx xs) = mxO (xs.map (·.get vs)) := by unfold vstep; simp only [nstep, rstep, mxO]; cases xs.map (·.get vs) with | nil => rfl | cons x r => simp only []; cases foldO AV.mx2 x r <;> rfl
theorem vs_mkif {t : TypeId} : vstep vs A (.mkif t p) = some (.ifc t (p.get vs)) := rfl
theorem vs_nilck : vstep vs A (.nilck p) = nilckO (p.get vs) := by unfold vstep; simp only [nstep, rstep, nilckO]; cases p.get vs <;> rfl
theorem vs_cvs : vstep vs A (.cvs p) = cvsO (p.get vs) := by unfold vstep; simp only [nstep, rstep, cvsO]; cases p.get vs <;> rfl
theorem vs_load {n : Option Nat} : vstep vs A (.load n p) = aload A n (p.get vs) := rfl
theorem vs_lookup {lk : LK} {z : AV} {ok : Bool} : vstep vs A (.lookup lk z ok p q) = alookup A lk z ok (p.get vs) (q.get vs) := rfl
theorem vs_lenm : vstep vs A (.lenm p) = alenm A (p.get vs) := rfl

variable {H : AV → AHeap → Prop} {pp : Nat}
theorem hop_w {op : IOp} (h1 : ∀ ρ, nstep ρ op = none) (h2 : ∀ ρ A, rstep ρ A op = none) (h3 : ∀ f xs, op ≠ .call f xs) : HOP P pp op vs A H = orF (wstep vs A pp op) fun x => H x.1 x.2 := by
  refine Eq.trans ?_ (astep_w (io := op) (F := fun v A' => H v A') h1 h2)
  cases op <;> first | rfl | exact absurd rfl (h3 _ _)
theorem hop_alloc {z : List AV} : HOP P pp (.alloc z) vs A H = orF (anew A pp (.ptr pp 0) (.cells z)) fun x => H x.1 x.2 := hop_w (fun _ => rfl) (fun _ _ => rfl) (fun _ _ h => by cases h)
theorem hop_box : HOP P pp (.box p) vs A H = orF (anew A pp (.ptr pp 0) (.cells (p.get vs).cells)) fun x => H x.1 x.2 := hop_w (fun _ => rfl) (fun _ _ => rfl) (fun _ _ h => by cases h)
theorem hop_bslice {sz : Nat} {es : List Opd} : HOP P pp (.bslice sz es) vs A H = orF (abslice A pp sz (es.map fun x => (x.get vs).cells)) fun x => H x.1 x.2 := hop_w (fun _ => rfl) (fun _ _ => rfl) (fun _ _ h => by cases h)
theorem hop_mkmap : HOP P pp .mkmap vs A H = orF (anew A pp (.mp pp) (.map [])) fun x => H x.1 x.2 := hop_w (fun _ => rfl) (fun _ _ => rfl) (fun _ _ h => by cases h)
theorem hop_mksl {sz bytes : Nat} {z : List AV} : HOP P pp (.mksl sz bytes z p q) vs A H = orF (amksl A pp sz bytes z (p.get vs) (q.get vs)) fun x => H x.1 x.2 := hop_w (fun _ => rfl) (fun _ _ => rfl) (fun _ _ h => by cases h)
theorem hop_store {n : Nat} : HOP P pp (.store n p q) vs A H = ((q.get vs).cells.length = n ∧ orF (wrN A (p.get vs) (q.get vs).cells) fun A' => H .any A') := by
  refine (hop_w (fun _ => rfl) (fun _ _ => rfl) (fun _ _ h => by cases h)).trans ?_
  simp only [wstep]
  by_cases h : (q.get vs).cells.length = n <;> simp [h, orF_none, withAny_or]
theorem hop_mset {lk : LK} : HOP P pp (.mset lk p q r) vs A H = orF (amset A lk (p.get vs) (q.get vs) (r.get vs)) fun A' => H .any A' := (hop_w (fun _ => rfl) (fun _ _ => rfl) (fun _ _ h => by cases h)).trans withAny_or
theorem hop_del {lk : LK} : HOP P pp (.del lk p q) vs A H = orF (amdel A lk (p.get vs) (q.get vs)) fun A' => H .any A' := (hop_w (fun _ => rfl) (fun _ _ => rfl) (fun _ _ h => by cases h)).trans withAny_or
theorem hop_clr : HOP P pp (.clr p) vs A H = orF (amclr A (p.get vs)) fun A' => H .any A' := (hop_w (fun _ => rfl) (fun _ _ => rfl) (fun _ _ h => by cases h)).trans withAny_or
theorem hop_clrs {sz : Nat} {z : List AV} : HOP P pp (.clrs sz z p) vs A H = orF (aclrs A sz z (p.get vs)) fun A' => H .any A' := (hop_w (fun _ => rfl) (fun _ _ => rfl) (fun _ _ h => by cases h)).trans withAny_or
theorem hop_app {sz bytes : Nat} : HOP P pp (.app sz bytes p q) vs A H = orF (elemsOf A sz (q.get vs)) fun xs => rowsOk sz xs = true ∧ orF (aapp A pp sz bytes (p.get vs) xs) fun x => H x.1 x.2 := by
  refine (hop_w (fun _ => rfl) (fun _ _ => rfl) (fun _ _ h => by cases h)).trans ?_
  simp only [wstep]
  cases h : elemsOf A sz (q.get vs) with
  | none => simp [orF]
  | some xs => simp only [orF_some]; by_cases h : rowsOk sz xs <;> simp [h, orF_none]
theorem hop_cpy {sz : Nat} : HOP P pp (.cpy sz p q) vs A H = orF (elemsOf A sz (q.get vs)) fun xs => rowsOk sz xs = true ∧ orF (acpy A sz (p.get vs) xs) fun x => H x.1 x.2 := by
  refine (hop_w (fun _ => rfl) (fun _ _ => rfl) (fun _ _ h => by cases h)).trans ?_
  simp only [wstep]
  cases h : elemsOf A sz (q.get vs) with
  | none => simp [orF]
  | some xs => simp only [orF_some]; by_cases h : rowsOk sz xs <;> simp [h, orF_none]
theorem hop_call {xs : List Opd} : HOP P pp (.call p xs) vs A H = ACV P (p.get vs) (xs.map (·.get vs)) A H := rfl

/-! ### Functions and loops -/
theorem acallH {f : FuncId} {V : List Nat} {hc : HC} {rs : List RV} (h : HFn P f V hc rs) {args : List AV} {A : AHeap} {K : AV → AHeap → Prop} (hw : HW P A.length hc (V.map fun t => args.getD t .any) A (retQ A.length rs K)) : ACall P f args A K := h args A A K (.refl A) (hwp_mono hc hw retV_of)
/-- The heap being seen as another one, at the beginning and at the end. -/
theorem acallV {f : FuncId} {V : List Nat} {hc : HC} {rs : List RV} (h : HFn P f V hc rs) {args : List AV} {A A1 : AHeap} {K : AV → AHeap → Prop} (hv : Vw A A1) (hw : HW P A.length hc (V.map fun t => args.getD t .any) A1 (retV A.length rs K)) : ACall P f args A K := h args A A1 K hv hw
theorem retV_normal {rs : List RV} {K : AV → AHeap → Prop} : retV n0 rs K .normal ρ A = orF (rvs ρ A rs) fun vs => ∃ A2, Vw A A2 ∧ ∃ ks, okKeepO n0 ks = true ∧ K (foldVo n0 ks (rtup vs)) (foldAo n0 ks A2) := by
  simp only [retV]; cases rvs ρ A rs <;> simp [orF]
theorem retV_ret {rs : List RV} {K : AV → AHeap → Prop} : retV n0 rs K .ret ρ A = orF (rvs ρ A rs) fun vs => ∃ A2, Vw A A2 ∧ ∃ ks, okKeepO n0 ks = true ∧ K (foldVo n0 ks (rtup vs)) (foldAo n0 ks A2) := by
  simp only [retV]; cases rvs ρ A rs <;> simp [orF]
theorem pcallH {f : FuncId} {V : List Nat} {hc : HC} {rs : List RV} (h : HFn P f V hc rs) {args : List AV} {v : AV} (hv : AV.flat v = true) (hw : HW P 0 hc (V.map fun t => args.getD t .any) [] (retP rs v)) : PCall P f args v := by
  refine h args [] [] _ (.refl _) (hwp_mono hc hw fun e ρ A hq => retV_of _ _ _ ?_)
  unfold retP at hq
  have fin : (orF (rvs ρ A rs) fun vs => rtup vs = v) → retQ 0 rs (fun r A => r = v ∧ A = []) .normal ρ A := by
    rintro ⟨vs, h1, h2⟩
    simp only [retQ, h1, h2]
    exact ⟨some [], rfl, AV.ren_flat _ hv, rfl⟩
  cases e with
  | normal => exact fin hq
  | ret => exact fin hq
  | _ => exact hq.elim
theorem hw_loopN {kill : List Nat} {x : HC} (n : Nat) (I : Nat → List AV → AHeap → Prop) (nl : List (Nat × Nat)) (hok : nlOk nl (mask kill ρ) = true) (h0 : ∃ ks, okKeepO n0 ks = true ∧ I 0 (foldRo n0 ks (nlR nl A.length (mask kill ρ))) (foldAo n0 ks (A ++ nlA nl)))
    (hs : ∀ i ρ A, i ≤ n → I i ρ A → HW P n0 x ρ A (cntQ n0 kill n i I Q)) : HW P n0 (.loop kill x) ρ A Q := by
  refine ⟨fun j ρ A => j ≤ n ∧ I (n - j) ρ A, ?_, ?_⟩
  · obtain ⟨ks, h1, h2⟩ := h0
    exact ⟨n, nl, ks, hok, h1, Nat.le_refl _, by rw [Nat.sub_self]; exact h2⟩
  · rintro j ρ' A' ⟨hj, hI⟩
    refine hwp_mono x (hs (n - j) ρ' A' (Nat.sub_le _ _) hI) fun e ρ2 A2 hq => ?_
    cases e with
    | normal =>
      obtain ⟨h1, ks, h2, h3⟩ := hq
      exact ⟨j - 1, by omega, ks, h2, by omega, by rw [show n - (j - 1) = n - j + 1 by omega]; exact h3⟩
    | _ => exact hq
theorem hw_loop {kill : List Nat} {x : HC} (n : Nat) (I : Nat → List AV → AHeap → Prop) (h0 : ∃ ks, okKeepO n0 ks = true ∧ I 0 (foldRo n0 ks (mask kill ρ)) (foldAo n0 ks A))
    (hs : ∀ i ρ A, i ≤ n → I i ρ A → HW P n0 x ρ A (cntQ n0 kill n i I Q)) : HW P n0 (.loop kill x) ρ A Q :=
  hw_loopN n I [] rfl (by simpa [nlR, nlA] using h0) hs
end
attribute [go_sem ↓] retV_normal retV_ret hw_skip hw_reg hw_seq hw_cond hw_block hw_exit hw_ret hw_label hw_goto hss_nil hss_cons hrq_nil hrq_cons has_nil has_cons heo_none heo_some heo_gd hck_nil hck_cons hev_v hev_c hev_o hevL_nil hevL_cons hev_g hev_i
attribute [go_sem ↓ high] hev_b hev_k hev_a hev_x hev_xk hev_len hev_ls hev_fld hev_ext hev_un hev_cv hev_cvs hev_sx hev_sxk hev_n hev_eqv hev_eqvk hev_l
attribute [go_sem] vO_some consO_some gdO_tt gdO_tf gdO_ft gdO_ff gdO_tup iO_t iO_f iO_and iO_or iO_same bin2_some un1_some bi2_some eqvO_eq eqvR_some cell1_some rowAt_some row1_some vs_pick vs_build vs_bin vs_eqv vs_un vs_cvi vs_mkfn vs_slcs vs_slc vs_faddr vs_fld vs_iaddr vs_iaddra vs_idxs vs_idxa vs_ext vs_lenst vs_lens vs_lenc vs_mn vs_mx vs_mkif vs_nilck vs_cvs vs_load vs_lookup vs_lenm
  hop_alloc hop_box hop_bslice hop_mkmap hop_mksl hop_store hop_mset hop_del hop_clr hop_clrs hop_app hop_cpy hop_call
attribute [go_sem high] aload_ptr aload_eptr
end Go.SB
end
