/- QfC, put together. Conditions: none. -/
import Derived.Test.YtapoilcpollmpaaNQfB
/- match and ref05: does a filter let a frame through. -/
section
namespace Go.Proofs.Ytapoilcpollmpaa
open Go.SB
attribute [local irreducible] HW HSS HAS HRQ HEO HOP HCK
set_option maxRecDepth 100000
set_option maxHeartbeats 4000000
set_option linter.unusedSimpArgs false
set_option pp.deepTerms.threshold 6

theorem right_R (f : Fr) (h : rightR f = true) : (0 ≤ f.fl ∧ f.fl ≤ 63) ∧ 0 ≤ f.id ∧ f.id ≤ 536870911 := by
  unfold rightR at h
  simp only [] at h
  split at h
  · cases h
  · omega
theorem has_eq (f : Fr) (h : rightR f = true) : hasR f.fl 1 = hasI f.fl 1 ∧ hasR f.fl 2 = hasI f.fl 2 ∧ hasR f.fl 4 = hasI f.fl 4 := by
  obtain ⟨h1, _⟩ := right_R f h
  obtain ⟨k, hk⟩ : ∃ k : Nat, f.fl = k := ⟨f.fl.toNat, by omega⟩
  have := flags_tab ⟨k, by omega⟩
  rw [hk]
  exact ⟨this.1, this.2.1, this.2.2.1⟩
def wordV (f : Fr) : Int := f.id + (if hasI f.fl 1 then 2147483648 else 0) + (if hasI f.fl 2 then 1073741824 else 0)
theorem wordV_b (f : Fr) (h : rightR f = true) : 0 ≤ wordV f ∧ wordV f < 4294967296 := by
  obtain ⟨_, h1⟩ := right_R f h
  unfold wordV
  split <;> split <;> omega
theorem u32_or1 (n : Nat) (h : n < 2147483648) : ibits .or .u32 (n : Int) 2147483648 = ((n + 2147483648 : Nat) : Int) := by
  rw [show (2147483648 : Int) = ((2147483648 : Nat) : Int) from rfl, or_u32 n 2147483648 (by omega) (by decide), Nat.or_comm]
  have := Nat.two_pow_add_eq_or_of_lt (show n < 2 ^ 31 from h) 1
  rw [Nat.mul_one] at this
  rw [show 2147483648 = 2 ^ 31 from rfl, ← this, Nat.add_comm]
theorem u32_or2 (n : Nat) (h : n < 1073741824) (e : Nat) (he : e ≤ 1) : ibits .or .u32 ((n + 2147483648 * e : Nat) : Int) 1073741824 = ((n + 2147483648 * e + 1073741824 : Nat) : Int) := by
  rw [show (1073741824 : Int) = ((1073741824 : Nat) : Int) from rfl, or_u32 _ 1073741824 (by omega) (by decide)]
  have h1 := Nat.two_pow_add_eq_or_of_lt (show n < 2 ^ 31 by omega) e
  have h2 := Nat.two_pow_add_eq_or_of_lt (show n < 2 ^ 30 from h) 1
  have h3 := Nat.two_pow_add_eq_or_of_lt (show 1073741824 + n < 2 ^ 31 by omega) e
  congr 1
  rw [show n + 2147483648 * e = 2 ^ 31 * e + n by omega, h1, Nat.or_assoc, Nat.or_comm n, show 1073741824 = 2 ^ 30 * 1 from rfl, ← h2, ← h3]
  omega
theorem FWord_ok (f : Fr) (h : rightR f = true) (h4 : hasI f.fl 4 = false) : PCall Try.prog f_frame_Word [.agg f.av] (.int .u32 (wordV f)) := by
  refine pcallI ok_frame_Word ?_
  have hR := Right_ok f
  rw [(right_eq f).1.2 h] at hR
  obtain ⟨_, hid⟩ := right_R f h
  obtain ⟨n, hn⟩ : ∃ n : Nat, f.id = n := ⟨f.id.toNat, by omega⟩
  have hw : IntKind.wrap .u32 f.id = f.id := u32_in (by omega)
  have o1 : ibits .or .u32 f.id 2147483648 = f.id + 2147483648 := by rw [hn, u32_or1 n (by omega)]; omega
  have o2 : ibits .or .u32 f.id 1073741824 = f.id + 1073741824 := by
    have := u32_or2 n (by omega) 0 (by omega)
    rw [Nat.mul_zero, Nat.add_zero] at this
    rw [hn, this]; omega
  have o3 : ibits .or .u32 (f.id + 2147483648) 1073741824 = f.id + 2147483648 + 1073741824 := by
    have := u32_or2 n (by omega) 1 (by omega)
    rw [Nat.mul_one] at this
    rw [hn, show (n : Int) + 2147483648 = ((n + 2147483648 : Nat) : Int) by omega, this]; omega
  have a1 := has_ok f 1
  have a2 := has_ok f 2
  have a4 := has_ok f 4
  rw [h4] at a4
  unfold wordV
  generalize hasI f.fl 1 = b1 at a1
  generalize hasI f.fl 2 = b2 at a2
  cases b1 <;> cases b2
  all_goals
    have hr := trivial
    try simp -dsimp -implicitDefEqProofs (maxSteps := 1000000) (disch := first | exact dis | fail) only [hc_frame_Word, Fr.av, hw, o1, o2, o3, go_sem]
    repeat' ((first | (with_reducible refine PCall.aci hR ?_) | (with_reducible refine PCall.aci a1 ?_) | (with_reducible refine PCall.aci a2 ?_) | (with_reducible refine PCall.aci a4 ?_) | (with_reducible first | refine w_if ?_ ?_ | refine w_gt ?_ ?_ | refine w_gf ?_ ?_ | refine w_io ?_ ?_ | refine w_gdt ?_ ?_ | refine w_gdf ?_ ?_ | refine w_ite ?_ ?_) <;> intro h <;> (try rw [h]) <;> replace hr := And.intro h hr <;> replace h := nrm h <;> try (first | (exfalso; omega) | exact (bx h (by assumption)).elim | exact (bx (by assumption) h).elim) | ((with_reducible refine And.intro ?_ ?_); (focus omega))) <;> try simp -dsimp -implicitDefEqProofs (maxSteps := 1000000) (disch := first | exact dis | fail) only [Fr.av, hw, o1, o2, o3, go_sem])
    all_goals skip
theorem RWord_ok (f : Fr) (h : rightR f = true) (h4 : hasI f.fl 4 = false) : PCall Try.prog f_ref02_Word [.agg f.av] (.int .u32 (wordV f)) := by
  refine pcallI ok_ref02_Word ?_
  have hR := RRight_ok f
  rw [h] at hR
  obtain ⟨_, hid⟩ := right_R f h
  obtain ⟨e1, e2, e4⟩ := has_eq f h
  have hw : IntKind.wrap .u32 f.id = f.id := u32_in (by omega)
  have w1 : IntKind.wrap .u32 (f.id + 2147483648) = f.id + 2147483648 := u32_in (by omega)
  have w2 : IntKind.wrap .u32 (f.id + 1073741824) = f.id + 1073741824 := u32_in (by omega)
  have w3 : IntKind.wrap .u32 (f.id + 2147483648 + 1073741824) = f.id + 2147483648 + 1073741824 := u32_in (by omega)
  have a1 := Has_ok f 1 (by decide)
  have a2 := Has_ok f 2 (by decide)
  have a4 := Has_ok f 4 (by decide)
  rw [e4, h4] at a4
  rw [e1] at a1
  rw [e2] at a2
  clear e1 e2
  unfold wordV
  generalize hasI f.fl 1 = b1 at a1
  generalize hasI f.fl 2 = b2 at a2
  cases b1 <;> cases b2
  all_goals
    have hr := trivial
    try simp -dsimp -implicitDefEqProofs (maxSteps := 1000000) (disch := first | exact dis | fail) only [hc_ref02_Word, Fr.av, hw, w1, w2, w3, go_sem]
    repeat' ((first | (with_reducible refine PCall.aci hR ?_) | (with_reducible refine PCall.aci a1 ?_) | (with_reducible refine PCall.aci a2 ?_) | (with_reducible refine PCall.aci a4 ?_) | (with_reducible first | refine w_if ?_ ?_ | refine w_gt ?_ ?_ | refine w_gf ?_ ?_ | refine w_io ?_ ?_ | refine w_gdt ?_ ?_ | refine w_gdf ?_ ?_ | refine w_ite ?_ ?_) <;> intro h <;> (try rw [h]) <;> replace hr := And.intro h hr <;> replace h := nrm h <;> try (first | (exfalso; omega) | exact (bx h (by assumption)).elim | exact (bx (by assumption) h).elim) | ((with_reducible refine And.intro ?_ ?_); (focus omega))) <;> try simp -dsimp -implicitDefEqProofs (maxSteps := 1000000) (disch := first | exact dis | fail) only [Fr.av, hw, w1, w2, w3, go_sem])
    all_goals skip
def matchB (x : Fi) (f : Fr) : Bool := rightR f && !hasI f.fl 4 && hitI x (wordV f)
theorem Match_ok (x : Fi) (f : Fr) : PCall Try.prog f_match_Match [.agg x.av, .agg f.av] (.bool (matchB x f)) := by
  refine pcallI ok_match_Match ?_
  have hR := Right_ok f
  have hI : ∀ b, hasI f.fl 4 = b → (ibits .and .i64 f.fl 4 = 0 ↔ b = false) := fun b hb => by rw [← hb]; simp [hasI]
  unfold matchB
  by_cases h : rightR f = true
  · rw [(right_eq f).1.2 h] at hR
    have h1 := Hit_ok x (wordV f)
    by_cases h4 : hasI f.fl 4 = false
    · have h2 := FWord_ok f h h4
      have h5 := (hI _ h4).2 rfl
      rw [h, h4]
      have hr := trivial
      try simp -dsimp -implicitDefEqProofs (maxSteps := 1000000) (disch := first | exact dis | fail) only [hc_match_Match, Fr.av, Fi.av, h5, go_sem]
      repeat' ((first | (with_reducible refine PCall.aci hR ?_) | (with_reducible refine PCall.aci h1 ?_) | (with_reducible refine PCall.aci h2 ?_) | (with_reducible first | refine w_if ?_ ?_ | refine w_gt ?_ ?_ | refine w_gf ?_ ?_ | refine w_io ?_ ?_ | refine w_gdt ?_ ?_ | refine w_gdf ?_ ?_ | refine w_ite ?_ ?_) <;> intro h <;> (try rw [h]) <;> replace hr := And.intro h hr <;> replace h := nrm h <;> try (first | (exfalso; omega) | exact (bx h (by assumption)).elim | exact (bx (by assumption) h).elim) | ((with_reducible refine And.intro ?_ ?_); (focus omega))) <;> try simp -dsimp -implicitDefEqProofs (maxSteps := 1000000) (disch := first | exact dis | fail) only [Fr.av, Fi.av, h5, go_sem])
      all_goals skip
    · have h4 : hasI f.fl 4 = true := by simpa using h4
      have h5 : ¬ ibits .and .i64 f.fl 4 = 0 := fun h => by have := (hI _ h4).1 h; cases this
      rw [h, h4]
      have hr := trivial
      try simp -dsimp -implicitDefEqProofs (maxSteps := 1000000) (disch := first | exact dis | fail) only [hc_match_Match, Fr.av, Fi.av, h5, go_sem]
      repeat' ((first | (with_reducible refine PCall.aci hR ?_) | (with_reducible refine PCall.aci h1 ?_) | (with_reducible first | refine w_if ?_ ?_ | refine w_gt ?_ ?_ | refine w_gf ?_ ?_ | refine w_io ?_ ?_ | refine w_gdt ?_ ?_ | refine w_gdf ?_ ?_ | refine w_ite ?_ ?_) <;> intro h <;> (try rw [h]) <;> replace hr := And.intro h hr <;> replace h := nrm h <;> try (first | (exfalso; omega) | exact (bx h (by assumption)).elim | exact (bx (by assumption) h).elim) | ((with_reducible refine And.intro ?_ ?_); (focus omega))) <;> try simp -dsimp -implicitDefEqProofs (maxSteps := 1000000) (disch := first | exact dis | fail) only [Fr.av, Fi.av, h5, go_sem])
      all_goals skip
  · have h : rightR f = false := by simpa using h
    have hne : rightI f ≠ 0 := fun h' => by rw [(right_eq f).1.1 h'] at h; cases h
    rw [(right_eq f).2 hne] at hR
    rw [h]
    have hr := trivial
    try simp -dsimp -implicitDefEqProofs (maxSteps := 1000000) (disch := first | exact dis | fail) only [hc_match_Match, Fr.av, Fi.av, go_sem]
    repeat' ((first | (with_reducible refine PCall.aci hR ?_) | (with_reducible first | refine w_if ?_ ?_ | refine w_gt ?_ ?_ | refine w_gf ?_ ?_ | refine w_io ?_ ?_ | refine w_gdt ?_ ?_ | refine w_gdf ?_ ?_ | refine w_ite ?_ ?_) <;> intro h <;> (try rw [h]) <;> replace hr := And.intro h hr <;> replace h := nrm h <;> try (first | (exfalso; omega) | exact (bx h (by assumption)).elim | exact (bx (by assumption) h).elim) | ((with_reducible refine And.intro ?_ ?_); (focus omega))) <;> try simp -dsimp -implicitDefEqProofs (maxSteps := 1000000) (disch := first | exact dis | fail) only [Fr.av, Fi.av, go_sem])
    all_goals skip
theorem RMatch_ok (x : Fi) (hx : FiOk x) (f : Fr) : PCall Try.prog f_ref05_Match [.agg x.av, .agg f.av] (.bool (matchB x f)) := by
  refine pcallI ok_ref05_Match ?_
  have hR := RRight_ok f
  have a4 := Has_ok f 4 (by decide)
  unfold matchB
  by_cases h : rightR f = true
  · rw [h] at hR
    rw [(has_eq f h).2.2] at a4
    have h1 := RHit_ok x hx (wordV f) (wordV_b f h)
    rw [← hit_eq x hx (wordV f) (wordV_b f h)] at h1
    by_cases h4 : hasI f.fl 4 = false
    · have h2 := RWord_ok f h h4
      rw [h4] at a4
      rw [h, h4]
      have hr := trivial
      try simp -dsimp -implicitDefEqProofs (maxSteps := 1000000) (disch := first | exact dis | fail) only [hc_ref05_Match, Fr.av, Fi.av, go_sem]
      repeat' ((first | (with_reducible refine PCall.aci hR ?_) | (with_reducible refine PCall.aci a4 ?_) | (with_reducible refine PCall.aci h1 ?_) | (with_reducible refine PCall.aci h2 ?_) | (with_reducible first | refine w_if ?_ ?_ | refine w_gt ?_ ?_ | refine w_gf ?_ ?_ | refine w_io ?_ ?_ | refine w_gdt ?_ ?_ | refine w_gdf ?_ ?_ | refine w_ite ?_ ?_) <;> intro h <;> (try rw [h]) <;> replace hr := And.intro h hr <;> replace h := nrm h <;> try (first | (exfalso; omega) | exact (bx h (by assumption)).elim | exact (bx (by assumption) h).elim) | ((with_reducible refine And.intro ?_ ?_); (focus omega))) <;> try simp -dsimp -implicitDefEqProofs (maxSteps := 1000000) (disch := first | exact dis | fail) only [Fr.av, Fi.av, go_sem])
      all_goals skip
    · have h4 : hasI f.fl 4 = true := by simpa using h4
      rw [h4] at a4
      rw [h, h4]
      have hr := trivial
      try simp -dsimp -implicitDefEqProofs (maxSteps := 1000000) (disch := first | exact dis | fail) only [hc_ref05_Match, Fr.av, Fi.av, go_sem]
      repeat' ((first | (with_reducible refine PCall.aci hR ?_) | (with_reducible refine PCall.aci a4 ?_) | (with_reducible refine PCall.aci h1 ?_) | (with_reducible first | refine w_if ?_ ?_ | refine w_gt ?_ ?_ | refine w_gf ?_ ?_ | refine w_io ?_ ?_ | refine w_gdt ?_ ?_ | refine w_gdf ?_ ?_ | refine w_ite ?_ ?_) <;> intro h <;> (try rw [h]) <;> replace hr := And.intro h hr <;> replace h := nrm h <;> try (first | (exfalso; omega) | exact (bx h (by assumption)).elim | exact (bx (by assumption) h).elim) | ((with_reducible refine And.intro ?_ ?_); (focus omega))) <;> try simp -dsimp -implicitDefEqProofs (maxSteps := 1000000) (disch := first | exact dis | fail) only [Fr.av, Fi.av, go_sem])
      all_goals skip
  · have h : rightR f = false := by simpa using h
    rw [h] at hR
    rw [h]
    have hr := trivial
    try simp -dsimp -implicitDefEqProofs (maxSteps := 1000000) (disch := first | exact dis | fail) only [hc_ref05_Match, Fr.av, Fi.av, go_sem]
    repeat' ((first | (with_reducible refine PCall.aci hR ?_) | (with_reducible first | refine w_if ?_ ?_ | refine w_gt ?_ ?_ | refine w_gf ?_ ?_ | refine w_io ?_ ?_ | refine w_gdt ?_ ?_ | refine w_gdf ?_ ?_ | refine w_ite ?_ ?_) <;> intro h <;> (try rw [h]) <;> replace hr := And.intro h hr <;> replace h := nrm h <;> try (first | (exfalso; omega) | exact (bx h (by assumption)).elim | exact (bx (by assumption) h).elim) | ((with_reducible refine And.intro ?_ ?_); (focus omega))) <;> try simp -dsimp -implicitDefEqProofs (maxSteps := 1000000) (disch := first | exact dis | fail) only [Fr.av, Fi.av, go_sem])
    all_goals skip
end Go.Proofs.Ytapoilcpollmpaa
end
