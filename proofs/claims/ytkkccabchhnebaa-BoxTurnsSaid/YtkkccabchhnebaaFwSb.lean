/- Framework, part Sb: values without addresses, calls that make nothing, loops that count. Conditions: none. -/
import Derived.Test.YtkkccabchhnebaaFwSa
set_option linter.unusedVariables false
set_option linter.unusedSimpArgs false
namespace Go.SB

mutual
/-- No address is in it. -/
def AV.flat : AV → Bool
  | .ptr _ _ | .eptr _ _ _ | .sl _ _ _ _ _ | .mp _ => false
  | .fn _ a b => AV.flatL a && AV.flatL b
  | .ifc _ x => AV.flat x
  | .agg cs => AV.flatL cs
  | .tup vs => AV.flatL vs
  | .pp cs => AV.flatL cs
  | .ps _ xs => AV.flatLL xs
  | _ => true
def AV.flatL : List AV → Bool
  | [] => true
  | v :: vs => AV.flat v && AV.flatL vs
def AV.flatLL : List (List AV) → Bool
  | [] => true
  | v :: vs => AV.flatL v && AV.flatLL vs
end

mutual
theorem AV.ren_flat (g : Nat → Option Nat) : ∀ {v : AV}, AV.flat v = true → AV.ren g v = v
  | .int _ _, _ | .bool _, _ | .str _, _ | .nilp, _ | .nils, _ | .nilm, _ | .nilf, _ | .nili, _ | .es, _ | .raw _, _ | .any, _ => rfl
  | .ptr _ _, h | .eptr _ _ _, h | .sl _ _ _ _ _, h | .mp _, h => by simp [AV.flat] at h
  | .fn f a b, h => by
    simp only [AV.flat, Bool.and_eq_true] at h
    simp only [AV.ren, AV.renL_flat g h.1, AV.renL_flat g h.2]
  | .ifc _ x, h => by simp only [AV.flat] at h; simp only [AV.ren, AV.ren_flat g h]
  | .agg cs, h | .tup cs, h | .pp cs, h => by simp only [AV.flat] at h; simp only [AV.ren, AV.renL_flat g h]
  | .ps sz xs, h => by simp only [AV.flat] at h; simp only [AV.ren, AV.renLL_flat g h]
theorem AV.renL_flat (g : Nat → Option Nat) : ∀ {vs : List AV}, AV.flatL vs = true → AV.renL g vs = vs
  | [], _ => rfl
  | v :: vs, h => by
    simp only [AV.flatL, Bool.and_eq_true] at h
    simp only [AV.renL, AV.ren_flat g h.1, AV.renL_flat g h.2]
theorem AV.renLL_flat (g : Nat → Option Nat) : ∀ {vs : List (List AV)}, AV.flatLL vs = true → AV.renLL g vs = vs
  | [], _ => rfl
  | v :: vs, h => by
    simp only [AV.flatLL, Bool.and_eq_true] at h
    simp only [AV.renLL, AV.renL_flat g h.1, AV.renLL_flat g h.2]
end

theorem renMap_flat (g : Nat → Option Nat) {vs : List AV} (h : AV.flatL vs = true) : vs.map (AV.ren g) = vs := by rw [← renL_eq, AV.renL_flat g h]

/-- Rows that are made alike, of values without addresses. -/
def rows {α : Type} (f : α → List AV) (xs : List α) : List (List AV) := xs.map f

theorem rows_ren {α : Type} {f : α → List AV} (hf : ∀ x, AV.flatL (f x) = true) (g : Nat → Option Nat) (xs : List α) : AO.ren g (.arr (rows f xs)) = .arr (rows f xs) := by
  simp only [AO.ren, rows, List.map_map]
  congr 1
  exact List.map_congr_left fun x _ => renMap_flat g (hf x)
theorem rows_length {α : Type} {f : α → List AV} {xs : List α} : (rows f xs).length = xs.length := by simp [rows]
theorem rows_get {α : Type} {f : α → List AV} {xs : List α} {i : Nat} : (rows f xs)[i]? = (xs[i]?).map f := by simp [rows]
theorem rows_getD {α : Type} {f : α → List AV} {xs : List α} {i : Nat} {x : α} (h : xs[i]? = some x) : (rows f xs)[i]? = some (f x) := by simp [rows, h]
theorem rows_set {α : Type} {f : α → List AV} {xs : List α} {i : Nat} {x : α} : (rows f xs).set i (f x) = rows f (xs.set i x) := by simp [rows, List.map_set]
theorem rows_append {α : Type} {f : α → List AV} {xs ys : List α} : rows f xs ++ rows f ys = rows f (xs ++ ys) := by simp [rows]
theorem rows_drop {α : Type} {f : α → List AV} {xs : List α} {n : Nat} : (rows f xs).drop n = rows f (xs.drop n) := by simp [rows, List.map_drop]
theorem rows_take {α : Type} {f : α → List AV} {xs : List α} {n : Nat} : (rows f xs).take n = rows f (xs.take n) := by simp [rows, List.map_take]
theorem rows_nil {α : Type} {f : α → List AV} : rows f [] = [] := rfl
theorem rows_cons {α : Type} {f : α → List AV} {x : α} {xs : List α} : f x :: rows f xs = rows f (x :: xs) := rfl
theorem rows_replicate {α : Type} {f : α → List AV} {x : α} {n : Nat} : List.replicate n (f x) = rows f (List.replicate n x) := by simp [rows]
theorem rows_ok {α : Type} {f : α → List AV} {xs : List α} {sz : Nat} (hf : ∀ x, (f x).length = sz ∧ (f x).all AV.one = true) : rowsOk sz (rows f xs) = true := by
  simp only [rowsOk, rows, List.all_map, List.all_eq_true]
  intro x _
  simp [(hf x).1, (hf x).2]

/-- Whole numbers. -/
def rows1 (xs : List Int) : List AV := xs.map fun x => .int .i64 x

section
variable {P : Program}

/-- **A call that makes nothing, wherever it is called.** -/
theorem ACall.flat {f : FuncId} {args : List AV} {v : AV} {B : AHeap} {K : AV → AHeap → Prop} (h : ACall P f args [] fun r A => r = v ∧ A = []) (ha : AV.flatL args = true) (hv : AV.flat v = true) (hk : K v B) : ACall P f args B K := by
  have h1 := ACall.frame h (B := B) (js := []) ⟨rfl, by simp, by simp, by simp⟩
  rw [renMap_flat _ ha] at h1
  refine h1.mono ?_
  rintro r B' ⟨r0, A0, ⟨rfl, rfl⟩, rfl, rfl⟩
  rw [AV.ren_flat _ hv]
  simpa [putAll] using hk

/-- A call that answers v, and makes nothing. -/
def PCall (P : Program) (f : FuncId) (args : List AV) (v : AV) : Prop := ACall P f args [] fun r A => r = v ∧ A = []

theorem PCall.use {f : FuncId} {args : List AV} {v : AV} {B : AHeap} {K : AV → AHeap → Prop} (h : PCall P f args v) (ha : AV.flatL args = true) (hv : AV.flat v = true) (hk : K v B) : ACall P f args B K := ACall.flat h ha hv hk

theorem PCall.ac {f : FuncId} {args : List AV} {v : AV} {B : AHeap} {K : AV → AHeap → Prop} (h : PCall P f args v) (ha : AV.flatL args = true) (hv : AV.flat v = true) (hk : K v B) : AC P f args B K := ACall.flat h ha hv hk

/-- The function ends with v. -/
def retP (rs : List RV) (v : AV) (e : IExit) (ρ : List AV) (A : AHeap) : Prop :=
  match e with
  | .normal | .ret => orF (rvs ρ A rs) fun vs => rtup vs = v
  | _ => False
theorem retP_normal {rs : List RV} {v : AV} {ρ : List AV} {A : AHeap} : retP rs v .normal ρ A = orF (ev (rvs ρ A rs)) fun vs => rtup vs = v := rfl
theorem retP_ret {rs : List RV} {v : AV} {ρ : List AV} {A : AHeap} : retP rs v .ret ρ A = orF (ev (rvs ρ A rs)) fun vs => rtup vs = v := rfl

def standsL (g : Nat → Option Nat) (B : AHeap) : List Nat → AHeap → Prop
  | [], [] => True
  | j :: js, o :: A => B[j]? = some (o.map (AO.ren g)) ∧ standsL g B js A
  | _, _ => False

theorem standsL_spec {g : Nat → Option Nat} {B : AHeap} : ∀ {js : List Nat} {A : AHeap}, standsL g B js A → js.length = A.length ∧ ∀ (i j : Nat) (o : Option AO), js[i]? = some j → A[i]? = some o → B[j]? = some (o.map (AO.ren g))
  | [], [], _ => ⟨rfl, by simp⟩
  | [], _ :: _, h => h.elim
  | _ :: _, [], h => h.elim
  | j :: js, o :: A, h => by
    obtain ⟨h1, h2⟩ := standsL_spec h.2
    refine ⟨by simp [h1], fun i k o' hi ho => ?_⟩
    cases i with
    | zero => simp at hi ho; subst hi; subst ho; exact h.1
    | succ i => exact h2 i k o' (by simpa using hi) (by simpa using ho)

/-- **The frame rule, ready for use.** -/
theorem ACall.at' {f : FuncId} {args : List AV} {A : AHeap} {K0 K : AV → AHeap → Prop} (h : ACall P f args A K0) (js : List Nat) {B : AHeap} {args' : List AV} (hnd : js.Nodup) (hlt : js.all (fun j => decide (j < B.length)) = true)
    (hst : standsL (rn (place js B.length)) B js A) (hargs : args' = args.map (AV.ren (rn (place js B.length))))
    (hk : ∀ r A', K0 r A' → K (AV.ren (rn (place js B.length)) r) (putAll (rn (place js B.length)) B js A')) : ACall P f args' B K := by
  obtain ⟨h1, h2⟩ := standsL_spec hst
  subst hargs
  refine (ACall.frame h ⟨h1, hnd, fun j hj => by simpa using List.all_eq_true.1 hlt j hj, h2⟩).mono ?_
  rintro r B' ⟨r0, A0, hK, rfl, rfl⟩
  exact hk _ _ hK

theorem awpOrd_mono {p0 : Nat} {ios : List IOper} {anc : Nat → Nat → Bool} {K K' : List AV → AHeap → Prop} (hk : ∀ ρ A, K ρ A → K' ρ A) : ∀ (c : List Nat) (R : Chk) (ρ : List AV) (A : AHeap), awpOrd P p0 ios anc K c R ρ A → awpOrd P p0 ios anc K' c R ρ A
  | [], R, ρ, A, h => hk _ _ h
  | i :: c, R, ρ, A, h => by
    unfold awpOrd at h ⊢
    cases hi : ios[i]? with
    | none => rw [hi] at h; exact h.elim
    | some x =>
      rw [hi] at h
      simp only [] at h ⊢
      cases hc : x.op.cls <;> rw [hc] at h <;> simp only [] at h ⊢
      case pure =>
        cases hy : yld x ρ A with
        | none => rw [hy] at h; exact h.elim
        | some v => rw [hy] at h; exact awpOrd_mono hk c _ _ _ h
      case read =>
        cases hy : yld x ρ A with
        | none => rw [hy] at h; exact h.elim
        | some v => rw [hy] at h; exact awpOrd_mono hk c _ _ _ h
      case make => exact awpG_mono h fun ρ A h => awpOrd_mono hk c _ _ _ h
      case eff => exact awpG_mono h fun ρ A h => ⟨h.1, awpOrd_mono hk c _ _ _ h.2⟩

theorem awp_mono {n0 : Nat} : ∀ (ic : IC) {ρ : List AV} {A : AHeap} {Q Q' : IExit → List AV → AHeap → Prop}, awp P n0 ic ρ A Q → (∀ e ρ A, Q e ρ A → Q' e ρ A) → awp P n0 ic ρ A Q'
  | .skip, _, _, _, _, h, hq => hq _ _ _ h
  | .region _ _ _, _, _, _, _, h, hq => awpOps_mono (fun _ _ h => hq _ _ _ h) _ _ _ h
  | .regionD _ _ _ _ _, _, _, _, _, h, hq => awpOrd_mono (fun _ _ h => hq _ _ _ h) _ _ _ _ h
  | .seq x y, _, _, _, _, h, hq => awp_mono x (Q := seqQ _ _) h fun e ρ A h => by
      cases e with
      | normal => exact awp_mono y h hq
      | exit _ => exact hq _ _ _ h
      | goto _ => exact hq _ _ _ h
      | ret => exact hq _ _ _ h
  | .cond c kill x y, _, _, _, _, h, hq => by
      rw [show awp P n0 (.cond c kill x y) _ _ _ = _ from aw_cond] at h ⊢
      simp only [AW, ev_eq] at h ⊢
      unfold awpIf at h ⊢
      split at h
      · exact ⟨fun e => awp_mono x (h.1 e) hq, fun e => awp_mono y (h.2 e) hq⟩
      · exact h.elim
  | .block id x, _, _, _, _, h, hq => awp_mono x (Q := blockQ id _) h fun e ρ A h => by
      cases e with
      | normal => exact hq _ _ _ h
      | exit i =>
        rw [blockQ_exit] at h ⊢
        split at h
        · rename_i e; rw [if_pos e]; exact hq _ _ _ h
        · rename_i e; rw [if_neg e]; exact hq _ _ _ h
      | goto _ => exact hq _ _ _ h
      | ret => exact hq _ _ _ h
  | .loop kill x, _, _, _, _, h, hq => by
      obtain ⟨I, h0, h1⟩ := h
      refine ⟨I, h0, fun i ρ A hI => awp_mono x (h1 i ρ A hI) fun e ρ A h => ?_⟩
      cases e with
      | normal => exact h
      | exit _ => exact hq _ _ _ h
      | goto _ => exact hq _ _ _ h
      | ret => exact hq _ _ _ h
  | .exit _, _, _, _, _, h, hq => hq _ _ _ h
  | .ret, _, _, _, _, h, hq => hq _ _ _ h
  | .label _, _, _, _, _, h, hq => hq _ _ _ h
  | .goto _, _, _, _, _, h, hq => hq _ _ _ h
  | .scope l kill x r, _, _, _, _, h, hq => by
      obtain ⟨J, h0, h1⟩ := h
      refine ⟨J, awp_mono x h0 fun e ρ A h => ?_, fun i ρ A hI => awp_mono r (h1 i ρ A hI) fun e ρ A h => ?_⟩
      · cases e with
        | goto _ => exact h
        | normal => exact hq _ _ _ h
        | exit _ => exact hq _ _ _ h
        | ret => exact hq _ _ _ h
      · cases e with
        | goto _ => exact h
        | normal => exact hq _ _ _ h
        | exit _ => exact hq _ _ _ h
        | ret => exact hq _ _ _ h

theorem acallW {P : Program} (hm : P.follows .mixedOrders = true) {f : FuncId} {ic : IC} {rs : List RV} {n : Nat} (h : FnOk P f ic rs n) {args : List AV} {A : AHeap} {K : AV → AHeap → Prop}
    (hw : AW P A.length ic (args ++ List.replicate (n - args.length) .any) A (retQ A.length rs K)) : ACall P f args A K := acall_of hm h hw

theorem pcall_of {f : FuncId} {ic : IC} {rs : List RV} {n : Nat} {args : List AV} {v : AV} (hm : P.follows .mixedOrders = true) (h : FnOk P f ic rs n) (hv : AV.flat v = true)
    (hw : AW P 0 ic (args ++ List.replicate (n - args.length) .any) [] (retP rs v)) : PCall P f args v := by
  refine acall_of hm h (awp_mono ic hw ?_)
  intro e ρ A h
  have key : orF (rvs ρ A rs) (fun vs => rtup vs = v) → orF (rvs ρ A rs) fun vs => ∃ ks, okKeepO 0 ks = true ∧ foldVo 0 ks (rtup vs) = v ∧ foldAo 0 ks A = [] := by
    rintro ⟨vs, h1, h2⟩
    exact ⟨vs, h1, some [], rfl, by rw [h2]; exact AV.ren_flat _ hv, rfl⟩
  cases e with
  | normal => rw [List.length_nil, retQ_normal]; exact key h
  | ret => rw [List.length_nil, retQ_ret]; exact key h
  | exit _ => exact h.elim
  | goto _ => exact h.elim

/-- A round of a loop that counts. -/
def cntQ (n0 : Nat) (kill : List Nat) (n i : Nat) (I : Nat → List AV → AHeap → Prop) (Q : IExit → List AV → AHeap → Prop) (e : IExit) (ρ : List AV) (A : AHeap) : Prop :=
  match e with
  | .normal => i < n ∧ ∃ ks, okKeepO n0 ks = true ∧ I (i + 1) (foldRo n0 ks (mask kill ρ)) (foldAo n0 ks A)
  | e => Q e ρ A

theorem cntQ_exit {n0 : Nat} {kill : List Nat} {n i k : Nat} {I : Nat → List AV → AHeap → Prop} {Q : IExit → List AV → AHeap → Prop} {ρ : List AV} {A : AHeap} : cntQ n0 kill n i I Q (.exit k) ρ A = Q (.exit k) ρ A := rfl
theorem cntQ_goto {n0 : Nat} {kill : List Nat} {n i k : Nat} {I : Nat → List AV → AHeap → Prop} {Q : IExit → List AV → AHeap → Prop} {ρ : List AV} {A : AHeap} : cntQ n0 kill n i I Q (.goto k) ρ A = Q (.goto k) ρ A := rfl
theorem cntQ_ret {n0 : Nat} {kill : List Nat} {n i : Nat} {I : Nat → List AV → AHeap → Prop} {Q : IExit → List AV → AHeap → Prop} {ρ : List AV} {A : AHeap} : cntQ n0 kill n i I Q .ret ρ A = Q .ret ρ A := rfl
theorem cntQ_normal {n0 : Nat} {kill : List Nat} {n i : Nat} {I : Nat → List AV → AHeap → Prop} {Q : IExit → List AV → AHeap → Prop} {ρ : List AV} {A : AHeap} : cntQ n0 kill n i I Q .normal ρ A = (i < n ∧ ∃ ks, okKeepO n0 ks = true ∧ I (i + 1) (foldRo n0 ks (mask kill ρ)) (foldAo n0 ks A)) := rfl

theorem aw_loop {n0 : Nat} {kill : List Nat} {x : IC} {ρ : List AV} {A : AHeap} {Q : IExit → List AV → AHeap → Prop} (n : Nat) (I : Nat → List AV → AHeap → Prop)
    (h0 : ∃ ks, okKeepO n0 ks = true ∧ I 0 (foldRo n0 ks (mask kill ρ)) (foldAo n0 ks A))
    (hs : ∀ i ρ A, i ≤ n → I i ρ A → AW P n0 x ρ A (cntQ n0 kill n i I Q)) : AW P n0 (.loop kill x) ρ A Q := by
  show ∃ I : Nat → List AV → AHeap → Prop, _
  refine ⟨fun m ρ A => ∃ i, i ≤ n ∧ m = n - i ∧ I i ρ A, ?_, ?_⟩
  · obtain ⟨ks, hk, h⟩ := h0
    exact ⟨n, ks, hk, 0, Nat.zero_le _, rfl, h⟩
  · rintro m ρ' A' ⟨i, hi, rfl, hI⟩
    refine awp_mono x (hs i ρ' A' hi hI) ?_
    intro e ρ2 A2 h
    cases e with
    | normal =>
      obtain ⟨hlt, ks, hk, h⟩ := h
      exact ⟨n - (i + 1), by omega, ks, hk, i + 1, by omega, rfl, h⟩
    | exit _ => exact h
    | goto _ => exact h
    | ret => exact h
end
end Go.SB
