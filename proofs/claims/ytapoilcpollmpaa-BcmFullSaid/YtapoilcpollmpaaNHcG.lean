/- HcG, put together. Conditions: none. -/
import Derived.Test.YtapoilcpollmpaaNHcS
/- Framework, part HcG: a test that is set and asked at once is asked at once. -/
section
set_option linter.unusedVariables false
set_option linter.unusedSimpArgs false
namespace Go.SB

/-- Set, and asked: asked. -/
def joinC (n : Nat) : HC → HC → HC
  | .reg 0 [⟨[(j, e)], [], none⟩] [], .cond (.v k) [l] x y => bif j == k && j == l && Nat.blt j n then .cond e [j] x y else .seq (.reg 0 [⟨[(j, e)], [], none⟩] []) (.cond (.v k) [l] x y)
  | .reg 0 [⟨[(j, e)], [], none⟩] [], .seq (.cond (.v k) [l] x y) z => bif j == k && j == l && Nat.blt j n then .seq (.cond e [j] x y) z else .seq (.reg 0 [⟨[(j, e)], [], none⟩] []) (.seq (.cond (.v k) [l] x y) z)
  | a, b => .seq a b

def hopt (n : Nat) : HC → HC
  | .seq a b => joinC n (hopt n a) (hopt n b)
  | .cond c kill x y => .cond c kill (hopt n x) (hopt n y)
  | .block id x => .block id (hopt n x)
  | .loop kill x => .loop kill (hopt n x)
  | .scope l kill x r => .scope l kill (hopt n x) (hopt n r)
  | c => c

section
variable {P : Program} {n0 p0 n : Nat} {ρ : List AV} {A : AHeap} {Q : IExit → List AV → AHeap → Prop}

theorem hAs_len {K : List AV → Prop} {ρ : List AV} {A : AHeap} : ∀ {as : List (Nat × HE)} {ρ1 : List AV}, hAs ρ A as ρ1 K → hAs ρ A as ρ1 fun ρ2 => ρ2.length = ρ1.length ∧ K ρ2
  | [], _, q => ⟨rfl, q⟩
  | (j, e) :: as, ρ1, ⟨v, hv, q⟩ => ⟨v, hv, hAs_mono (fun ρ2 h => ⟨by simpa using h.1, h.2⟩) (hAs_len q)⟩
theorem hEfO_len {f : Option HF} {ρ ρ1 : List AV} {K : List AV → AHeap → Prop} (q : hEfO P p0 f ρ ρ1 A K) : hEfO P p0 f ρ ρ1 A fun ρ2 A2 => ρ2.length = ρ1.length ∧ K ρ2 A2 := by
  cases f with
  | none => exact ⟨rfl, q⟩
  | some f =>
    simp only [hEfO, hEf] at q ⊢
    split at q
    · obtain ⟨vs, h1, h2⟩ := q
      exact ⟨vs, h1, hOp_mono h2 fun r A' => hCk_mono fun h => ⟨aput_length, h⟩⟩
    · obtain ⟨g, h1, h2⟩ := q
      refine ⟨g, h1, ?_⟩
      unfold awpGd at h2 ⊢
      split at h2
      · exact ⟨fun e => (h2.1 e).elim fun vs hh => ⟨vs, hh.1, hOp_mono hh.2 fun r A' => hCk_mono fun h => ⟨aput_length, h⟩⟩, fun e => hCk_mono (fun h => ⟨aput_length, h⟩) (h2.2 e)⟩
      · exact hCk_mono (fun h => ⟨aput_length, h⟩) h2
      · exact h2.elim
theorem hSs_len {K : List AV → AHeap → Prop} : ∀ {ss : List HS} {ρ : List AV} {A : AHeap}, hSs P p0 ss ρ A K → hSs P p0 ss ρ A fun ρ2 A2 => ρ2.length = ρ.length ∧ K ρ2 A2
  | [], _, _, q => ⟨rfl, q⟩
  | s :: ss, ρ, A, q => hRq_mono (fun q => hAs_mono (fun ρ1 h => hEfO_mono (fun ρ2 A2 h2 => hSs_mono (fun ρ3 A3 h3 => ⟨h3.1.trans (h2.1.trans h.1), h3.2⟩) (hSs_len h2.2)) (hEfO_len h.2)) (hAs_len q)) q
def lenQ (n : Nat) (Q : IExit → List AV → AHeap → Prop) (e : IExit) (ρ : List AV) (A : AHeap) : Prop := ρ.length = n ∧ Q e ρ A

theorem hwp_len : ∀ (c : HC) {ρ : List AV} {A : AHeap} {Q : IExit → List AV → AHeap → Prop}, ρ.length = n → hwp P n0 c ρ A Q → hwp P n0 c ρ A (lenQ n Q)
  | .skip, ρ, A, Q, hl, h => ⟨hl, h⟩
  | .reg m ss kill, ρ, A, Q, hl, h => hSs_mono (fun ρ2 A2 h2 => ⟨by rw [mask_len]; exact h2.1.trans hl, h2.2⟩) (hSs_len h)
  | .seq x y, ρ, A, Q, hl, h => hwp_mono x (hwp_len x hl h) fun e ρ2 A2 h2 => by
    cases e with
    | normal => exact hwp_len y h2.1 h2.2
    | _ => exact ⟨h2.1, h2.2⟩
  | .cond c kill x y, ρ, A, Q, hl, h => by
    obtain ⟨v, hv, h⟩ := h
    refine ⟨v, hv, ?_⟩
    unfold awpIf at h ⊢
    split at h
    · exact ⟨fun e => hwp_len x (by rw [mask_len]; exact hl) (h.1 e), fun e => hwp_len y (by rw [mask_len]; exact hl) (h.2 e)⟩
    · exact h.elim
  | .block id x, ρ, A, Q, hl, h => hwp_mono x (hwp_len x hl h) fun e ρ2 A2 h2 => by
    cases e with
    | exit i =>
      obtain ⟨q1, q2⟩ := h2
      simp only [blockQ] at q2 ⊢
      split
      · rename_i e; rw [if_pos e] at q2; exact ⟨q1, q2⟩
      · rename_i e; rw [if_neg e] at q2; exact ⟨q1, q2⟩
    | _ => exact ⟨h2.1, h2.2⟩
  | .loop kill x, ρ, A, Q, hl, h => by
    obtain ⟨I, ⟨i, nl, ks, hn, hk, h0⟩, hs⟩ := h
    refine ⟨fun i ρ A => ρ.length = n ∧ I i ρ A, ⟨i, nl, ks, hn, hk, by rw [foldRo_len, nlR_len, mask_len]; exact hl, h0⟩, fun i ρ2 A2 hI => hwp_mono x (hwp_len x hI.1 (hs i ρ2 A2 hI.2)) fun e ρ3 A3 h3 => ?_⟩
    cases e with
    | normal =>
      obtain ⟨q1, j, hj, ks, hk, q2⟩ := h3
      exact ⟨j, hj, ks, hk, by rw [foldRo_len, mask_len]; exact q1, q2⟩
    | _ => exact ⟨h3.1, h3.2⟩
  | .exit id, ρ, A, Q, hl, h => ⟨hl, h⟩
  | .ret, ρ, A, Q, hl, h => ⟨hl, h⟩
  | .label l, ρ, A, Q, hl, h => ⟨hl, h⟩
  | .goto l, ρ, A, Q, hl, h => ⟨hl, h⟩
  | .scope l kill x r, ρ, A, Q, hl, h => by
    obtain ⟨J, h0, hs⟩ := h
    refine ⟨fun i ρ A => ρ.length = n ∧ J i ρ A, hwp_mono x (hwp_len x hl h0) fun e ρ2 A2 h2 => ?_, fun i ρ2 A2 hI => hwp_mono r (hwp_len r hI.1 (hs i ρ2 A2 hI.2)) fun e ρ3 A3 h3 => ?_⟩
    · cases e with
      | goto l' =>
        obtain ⟨q1, e1, i, ks, hk, q2⟩ := h2
        exact ⟨e1, i, ks, hk, by rw [foldRo_len, mask_len]; exact q1, q2⟩
      | _ => exact ⟨h2.1, h2.2⟩
    · cases e with
      | goto l' =>
        obtain ⟨q1, e1, j, hj, ks, hk, q2⟩ := h3
        exact ⟨e1, j, hj, ks, hk, by rw [foldRo_len, mask_len]; exact q1, q2⟩
      | _ => exact ⟨h3.1, h3.2⟩

theorem more0 : A.more 0 = A := by simp [AHeap.more]
theorem mask1 {j : Nat} {v : AV} : mask [j] (ρ.set j v) = mask [j] ρ := by
  show (ρ.set j v).set j .any = ρ.set j .any
  rw [List.set_set]
theorem join_one {j : Nat} {e : HE} {x y : HC} (hj : j < ρ.length) (h : hwp P n0 (.cond e [j] x y) ρ A Q) : hwp P n0 (.seq (.reg 0 [⟨[(j, e)], [], none⟩] []) (.cond (.v j) [j] x y)) ρ A Q := by
  obtain ⟨v, hv, h⟩ := h
  refine ⟨v, by rw [more0]; exact hv, ?_⟩
  show hwp P n0 (.cond (.v j) [j] x y) (ρ.set j v) (A.more 0) Q
  rw [more0]
  refine ⟨v, by simp only [hev, getD_set_self hj], ?_⟩
  rw [mask1]; exact h
theorem join_two {j : Nat} {e : HE} {x y z : HC} (hj : j < ρ.length) (h : hwp P n0 (.seq (.cond e [j] x y) z) ρ A Q) : hwp P n0 (.seq (.reg 0 [⟨[(j, e)], [], none⟩] []) (.seq (.cond (.v j) [j] x y) z)) ρ A Q := by
  have := join_one (Q := seqQ (fun ρ' A' => hwp P n0 z ρ' A' Q) Q) hj h
  exact this
theorem join_ok : ∀ (a b : HC), ρ.length = n → hwp P n0 (joinC n a b) ρ A Q → hwp P n0 (.seq a b) ρ A Q := by
  intro a b hl h
  unfold joinC at h
  split at h
  · rename_i j e k l x y
    cases hc : (j == k && j == l && Nat.blt j n) with
    | false => rw [hc] at h; exact h
    | true =>
      rw [hc] at h
      simp only [Bool.and_eq_true, beq_iff_eq] at hc
      obtain ⟨⟨rfl, rfl⟩, h3⟩ := hc
      exact join_one (by rw [hl]; simpa [Nat.blt_eq] using h3) h
  · rename_i j e k l x y z
    cases hc : (j == k && j == l && Nat.blt j n) with
    | false => rw [hc] at h; exact h
    | true =>
      rw [hc] at h
      simp only [Bool.and_eq_true, beq_iff_eq] at hc
      obtain ⟨⟨rfl, rfl⟩, h3⟩ := hc
      exact join_two (by rw [hl]; simpa [Nat.blt_eq] using h3) h
  · exact h

theorem hopt_ok : ∀ (c : HC) {ρ : List AV} {A : AHeap} {Q : IExit → List AV → AHeap → Prop}, ρ.length = n → hwp P n0 (hopt n c) ρ A Q → hwp P n0 c ρ A Q
  | .skip, ρ, A, Q, hl, h => h
  | .reg m ss kill, ρ, A, Q, hl, h => h
  | .seq x y, ρ, A, Q, hl, h => by
    have h1 := join_ok _ _ hl h
    have h2 := hwp_len (hopt n x) hl h1
    refine hopt_ok x hl (hwp_mono (hopt n x) h2 fun e ρ2 A2 h3 => ?_)
    cases e with
    | normal => exact hopt_ok y h3.1 h3.2
    | _ => exact h3.2
  | .cond c kill x y, ρ, A, Q, hl, h => by
    obtain ⟨v, hv, h⟩ := h
    refine ⟨v, hv, ?_⟩
    unfold awpIf at h ⊢
    split at h
    · exact ⟨fun e => hopt_ok x (by rw [mask_len]; exact hl) (h.1 e), fun e => hopt_ok y (by rw [mask_len]; exact hl) (h.2 e)⟩
    · exact h.elim
  | .block id x, ρ, A, Q, hl, h => hopt_ok x hl h
  | .loop kill x, ρ, A, Q, hl, h => by
    obtain ⟨I, ⟨i, nl, ks, hn, hk, h0⟩, hs⟩ := h
    refine ⟨fun i ρ A => ρ.length = n ∧ I i ρ A, ⟨i, nl, ks, hn, hk, by rw [foldRo_len, nlR_len, mask_len]; exact hl, h0⟩, fun i ρ2 A2 hI => hopt_ok x hI.1 (hwp_mono _ (hwp_len _ hI.1 (hs i ρ2 A2 hI.2)) fun e ρ3 A3 h3 => ?_)⟩
    cases e with
    | normal =>
      obtain ⟨q1, j, hj, ks, hk, q2⟩ := h3
      exact ⟨j, hj, ks, hk, by rw [foldRo_len, mask_len]; exact q1, q2⟩
    | _ => exact h3.2
  | .exit id, ρ, A, Q, hl, h => h
  | .ret, ρ, A, Q, hl, h => h
  | .label l, ρ, A, Q, hl, h => h
  | .goto l, ρ, A, Q, hl, h => h
  | .scope l kill x r, ρ, A, Q, hl, h => by
    obtain ⟨J, h0, hs⟩ := h
    refine ⟨fun i ρ A => ρ.length = n ∧ J i ρ A, hopt_ok x hl (hwp_mono _ (hwp_len _ hl h0) fun e ρ2 A2 h2 => ?_), fun i ρ2 A2 hI => hopt_ok r hI.1 (hwp_mono _ (hwp_len _ hI.1 (hs i ρ2 A2 hI.2)) fun e ρ3 A3 h3 => ?_)⟩
    · cases e with
      | goto l' =>
        obtain ⟨q1, e1, i, ks, hk, q2⟩ := h2
        exact ⟨e1, i, ks, hk, by rw [foldRo_len, mask_len]; exact q1, q2⟩
      | _ => exact h2.2
    · cases e with
      | goto l' =>
        obtain ⟨q1, e1, j, hj, ks, hk, q2⟩ := h3
        exact ⟨e1, j, hj, ks, hk, by rw [foldRo_len, mask_len]; exact q1, q2⟩
      | _ => exact h3.2

theorem hfn_opt (hm : P.follows .mixedOrders = true) {f : FuncId} {fn : Func} {hs : List (List Nat)} {V : List Nat} {hc : HC} {rs : List RV} (hf : P.funcs[f]? = some fn) (h : ((decFn P fn hs V).map fun x => (hopt V.length x.1, x.2)) = some (hc, rs)) : HFn P f V hc rs := by
  cases hd : decFn P fn hs V with
  | none => rw [hd] at h; cases h
  | some x =>
    rw [hd] at h
    cases h
    intro args A A1 K hv hw
    exact hfn_of hm hf hd args A A1 K hv (hopt_ok x.1 (by simp) hw)
end
end Go.SB
end
