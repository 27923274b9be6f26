/- QfB, put together. Conditions: none. -/
import Derived.Test.YtapoilcpollmpaaNQfA
/- match and ref05: filters. -/
section
namespace Go.Proofs.Ytapoilcpollmpaa
open Go.SB
attribute [local irreducible] HW HSS HAS HRQ HEO HOP HCK
set_option maxRecDepth 100000
set_option maxHeartbeats 4000000
set_option linter.unusedSimpArgs false
set_option pp.deepTerms.threshold 6

/-- A filter. -/
structure Fi where
  id : Int
  mask : Int
  inv : Bool
abbrev Fi.av (f : Fi) : List AV := [.int .u32 f.id, .int .u32 f.mask, .bool f.inv]
def fiv (f : Fi) : List AV := f.av
theorem fiv_eq (f : Fi) : fiv f = f.av := rfl
instance : Flt fiv := ⟨fun _ => rfl⟩
instance : RowF fiv 3 := ⟨fun _ => ⟨rfl, rfl⟩⟩
structure FiOk (f : Fi) : Prop where
  id : 0 ≤ f.id ∧ f.id < 4294967296
  mask : 0 ≤ f.mask ∧ f.mask < 4294967296
def hitI (f : Fi) (w : Int) : Bool := decide (ibits .and .u32 (ibits .xor .u32 w f.id) f.mask = 0) != f.inv
theorem Hit_ok (f : Fi) (w : Int) : PCall Try.prog f_match_Hit [.agg f.av, .int .u32 w] (.bool (hitI f w)) := by
  refine pcallI ok_match_Hit ?_
  have hr := trivial
  try simp -dsimp -implicitDefEqProofs (maxSteps := 1000000) (disch := first | exact dis | fail) only [hc_match_Hit, Fi.av, go_sem]
  repeat' ((first | (with_reducible first | refine w_if ?_ ?_ | refine w_gt ?_ ?_ | refine w_gf ?_ ?_ | refine w_io ?_ ?_ | refine w_gdt ?_ ?_ | refine w_gdf ?_ ?_ | refine w_ite ?_ ?_) <;> intro h <;> (try rw [h]) <;> replace hr := And.intro h hr <;> replace h := nrm h <;> try (first | (exfalso; omega) | exact (bx h (by assumption)).elim | exact (bx (by assumption) h).elim) | ((with_reducible refine And.intro ?_ ?_); (focus omega))) <;> try simp -dsimp -implicitDefEqProofs (maxSteps := 1000000) (disch := first | exact dis | fail) only [Fi.av, go_sem])
  unfold hitI
  cases f.inv <;> simp [bne]
def halfU (n : Int) : Nat → Int
  | 0 => n
  | k + 1 => (halfU n k).tdiv 2
theorem halfU_eq (n : Int) (h0 : 0 ≤ n) (h1 : n < 4294967296) : ∀ k, halfU n k = n / 2 ^ k ∧ 0 ≤ halfU n k ∧ halfU n k < 4294967296
  | 0 => by simp [halfU]; omega
  | k + 1 => by
    obtain ⟨a, b, c⟩ := halfU_eq n h0 h1 k
    have e : halfU n (k + 1) = halfU n k / 2 := by
      show (halfU n k).tdiv 2 = _
      rw [Int.tdiv_eq_ediv_of_nonneg b]
    refine ⟨?_, ?_, ?_⟩
    · rw [e, a, Int.ediv_ediv_of_nonneg (Int.le_of_lt (Int.pow_pos (by decide))), Int.pow_succ]
    · rw [e]; omega
    · rw [e]; omega
theorem u32_in {x : Int} (h : 0 ≤ x ∧ x < 4294967296) : IntKind.wrap .u32 x = x := by
  show x % (2 ^ 32 : Int) = x
  omega
def bitU (n : Int) (i : Nat) : Bool := decide ((halfU n i).tmod 2 = 1)
theorem Rbit_ok (n : Int) (hn : 0 ≤ n ∧ n < 4294967296) (i : Nat) (hi : i ≤ 64) : PCall Try.prog f_ref05_bit [.int .u32 n, .int .i64 i] (.bool (bitU n i)) := by
  refine pcallI ok_ref05_bit ?_
  have hr := trivial
  try simp -dsimp -implicitDefEqProofs (maxSteps := 1000000) (disch := first | exact dis | fail) only [hc_ref05_bit, go_sem]
  repeat' ((first | (with_reducible first | refine w_if ?_ ?_ | refine w_gt ?_ ?_ | refine w_gf ?_ ?_ | refine w_io ?_ ?_ | refine w_gdt ?_ ?_ | refine w_gdf ?_ ?_ | refine w_ite ?_ ?_) <;> intro h <;> (try rw [h]) <;> replace hr := And.intro h hr <;> replace h := nrm h <;> try (first | (exfalso; omega) | exact (bx h (by assumption)).elim | exact (bx (by assumption) h).elim) | ((with_reducible refine And.intro ?_ ?_); (focus omega))) <;> try simp -dsimp -implicitDefEqProofs (maxSteps := 1000000) (disch := first | exact dis | fail) only [go_sem])
  refine hw_loop i (fun k ρ A => ρ = rg 5 [(0, .int .u32 (halfU n k)), (1, .int .i64 i), (3, .int .i64 k)] ∧ A = []) ⟨none, rfl, rfl, rfl⟩ ?_
  rintro k ρ A hk ⟨rfl, rfl⟩
  obtain ⟨_, hb0, hb1⟩ := halfU_eq n hn.1 hn.2 k
  by_cases hlt : k < i
  · have hw : IntKind.wrap .u32 ((halfU n k).tdiv 2) = halfU n (k + 1) := by
      obtain ⟨_, h1, h2⟩ := halfU_eq n hn.1 hn.2 (k + 1)
      exact u32_in ⟨h1, h2⟩
    have hr := trivial
    try simp -dsimp -implicitDefEqProofs (maxSteps := 1000000) (disch := first | exact dis | fail) only [hc_ref05_bit_b1, hw, go_sem]
    repeat' ((first | (with_reducible first | refine w_if ?_ ?_ | refine w_gt ?_ ?_ | refine w_gf ?_ ?_ | refine w_io ?_ ?_ | refine w_gdt ?_ ?_ | refine w_gdf ?_ ?_ | refine w_ite ?_ ?_) <;> intro h <;> (try rw [h]) <;> replace hr := And.intro h hr <;> replace h := nrm h <;> try (first | (exfalso; omega) | exact (bx h (by assumption)).elim | exact (bx (by assumption) h).elim) | ((with_reducible refine And.intro ?_ ?_); (focus omega))) <;> try simp -dsimp -implicitDefEqProofs (maxSteps := 1000000) (disch := first | exact dis | fail) only [hw, go_sem])
    exact ⟨none, rfl, rfl, rfl⟩
  · obtain rfl : k = i := by omega
    have hr := trivial
    try simp -dsimp -implicitDefEqProofs (maxSteps := 1000000) (disch := first | exact dis | fail) only [hc_ref05_bit_b1, bitU, go_sem]
    repeat' ((first | (with_reducible first | refine w_if ?_ ?_ | refine w_gt ?_ ?_ | refine w_gf ?_ ?_ | refine w_io ?_ ?_ | refine w_gdt ?_ ?_ | refine w_gdf ?_ ?_ | refine w_ite ?_ ?_) <;> intro h <;> (try rw [h]) <;> replace hr := And.intro h hr <;> replace h := nrm h <;> try (first | (exfalso; omega) | exact (bx h (by assumption)).elim | exact (bx (by assumption) h).elim) | ((with_reducible refine And.intro ?_ ?_); (focus omega))) <;> try simp -dsimp -implicitDefEqProofs (maxSteps := 1000000) (disch := first | exact dis | fail) only [bitU, go_sem])
def badU (f : Fi) (w : Int) (i : Nat) : Bool := bitU f.mask i && (bitU f.id i != bitU w i)
def sameU (f : Fi) (w : Int) : Nat → Bool
  | 0 => true
  | i + 1 => sameU f w i && !badU f w i
theorem RHit_ok (f : Fi) (hf : FiOk f) (w : Int) (hw : 0 ≤ w ∧ w < 4294967296) : PCall Try.prog f_ref05_Hit [.agg f.av, .int .u32 w] (.bool (sameU f w 32 != f.inv)) := by
  refine pcallI ok_ref05_Hit ?_
  have hr := trivial
  try simp -dsimp -implicitDefEqProofs (maxSteps := 1000000) (disch := first | exact dis | fail) only [hc_ref05_Hit, Fi.av, go_sem]
  repeat' ((first | (with_reducible first | refine w_if ?_ ?_ | refine w_gt ?_ ?_ | refine w_gf ?_ ?_ | refine w_io ?_ ?_ | refine w_gdt ?_ ?_ | refine w_gdf ?_ ?_ | refine w_ite ?_ ?_) <;> intro h <;> (try rw [h]) <;> replace hr := And.intro h hr <;> replace h := nrm h <;> try (first | (exfalso; omega) | exact (bx h (by assumption)).elim | exact (bx (by assumption) h).elim) | ((with_reducible refine And.intro ?_ ?_); (focus omega))) <;> try simp -dsimp -implicitDefEqProofs (maxSteps := 1000000) (disch := first | exact dis | fail) only [Fi.av, go_sem])
  refine hw_loop 32 (fun i ρ A => ρ = rg 12 [(1, .int .u32 w), (2, .ptr 0 0), (4, .bool (sameU f w i)), (5, .int .i64 i)] ∧ A = [some (.cells f.av)]) ⟨none, rfl, rfl, rfl⟩ ?_
  rintro i ρ A hi ⟨rfl, rfl⟩
  by_cases hlt : i < 32
  · have h1 := Rbit_ok f.mask hf.mask i (by omega)
    have h2 := Rbit_ok f.id hf.id i (by omega)
    have h3 := Rbit_ok w hw i (by omega)
    have hst : sameU f w (i + 1) = (sameU f w i && !badU f w i) := rfl
    unfold badU at hst
    generalize bitU f.mask i = a at h1 hst
    generalize bitU f.id i = b at h2 hst
    generalize bitU w i = c at h3 hst
    cases a <;> cases b <;> cases c
    all_goals
      have hr := trivial
      try simp -dsimp -implicitDefEqProofs (maxSteps := 1000000) (disch := first | exact dis | fail) only [hc_ref05_Hit_b1, Fi.av, go_sem]
      repeat' ((first | (with_reducible refine PCall.aci h1 ?_) | (with_reducible refine PCall.aci h2 ?_) | (with_reducible refine PCall.aci h3 ?_) | (with_reducible first | refine w_if ?_ ?_ | refine w_gt ?_ ?_ | refine w_gf ?_ ?_ | refine w_io ?_ ?_ | refine w_gdt ?_ ?_ | refine w_gdf ?_ ?_ | refine w_ite ?_ ?_) <;> intro h <;> (try rw [h]) <;> replace hr := And.intro h hr <;> replace h := nrm h <;> try (first | (exfalso; omega) | exact (bx h (by assumption)).elim | exact (bx (by assumption) h).elim) | ((with_reducible refine And.intro ?_ ?_); (focus omega))) <;> try simp -dsimp -implicitDefEqProofs (maxSteps := 1000000) (disch := first | exact dis | fail) only [Fi.av, go_sem])
      all_goals exact ⟨none, rfl, by first | (exfalso; revert h; decide) | simp [foldRo, hst], rfl⟩
  · obtain rfl : i = 32 := by omega
    have hr := trivial
    try simp -dsimp -implicitDefEqProofs (maxSteps := 1000000) (disch := first | exact dis | fail) only [hc_ref05_Hit_b1, Fi.av, go_sem]
    repeat' ((first | (with_reducible first | refine w_if ?_ ?_ | refine w_gt ?_ ?_ | refine w_gf ?_ ?_ | refine w_io ?_ ?_ | refine w_gdt ?_ ?_ | refine w_gdf ?_ ?_ | refine w_ite ?_ ?_) <;> intro h <;> (try rw [h]) <;> replace hr := And.intro h hr <;> replace h := nrm h <;> try (first | (exfalso; omega) | exact (bx h (by assumption)).elim | exact (bx (by assumption) h).elim) | ((with_reducible refine And.intro ?_ ?_); (focus omega))) <;> try simp -dsimp -implicitDefEqProofs (maxSteps := 1000000) (disch := first | exact dis | fail) only [Fi.av, go_sem])
    cases f.inv <;> simp [bne]
theorem ofInt_nat32 (n : Nat) : (BitVec.ofInt 32 (n : Int)).toNat = n % 4294967296 := by
  rw [BitVec.toNat_ofInt]
  show ((n : Int) % (2 ^ 32 : Nat)).toNat = _
  omega
theorem xor_u32 (a b : Nat) (ha : a < 4294967296) (hb : b < 4294967296) : ibits .xor .u32 (a : Int) (b : Int) = ((a ^^^ b : Nat) : Int) ∧ a ^^^ b < 4294967296 := by
  have hl : a ^^^ b < 2 ^ 32 := Nat.xor_lt_two_pow ha hb
  refine ⟨?_, hl⟩
  show IntKind.wrap .u32 ((BitVec.ofInt 32 (a : Int) ^^^ BitVec.ofInt 32 (b : Int)).toNat : Int) = _
  rw [BitVec.toNat_xor, ofInt_nat32, ofInt_nat32, Nat.mod_eq_of_lt ha, Nat.mod_eq_of_lt hb]
  exact u32_in (by omega)
theorem and_u32 (a b : Nat) (ha : a < 4294967296) (hb : b < 4294967296) : ibits .and .u32 (a : Int) (b : Int) = ((a &&& b : Nat) : Int) := by
  have hl : a &&& b < 2 ^ 32 := Nat.and_lt_two_pow a hb
  show IntKind.wrap .u32 ((BitVec.ofInt 32 (a : Int) &&& BitVec.ofInt 32 (b : Int)).toNat : Int) = _
  rw [BitVec.toNat_and, ofInt_nat32, ofInt_nat32, Nat.mod_eq_of_lt ha, Nat.mod_eq_of_lt hb]
  exact u32_in (by omega)
theorem or_u32 (a b : Nat) (ha : a < 4294967296) (hb : b < 4294967296) : ibits .or .u32 (a : Int) (b : Int) = ((a ||| b : Nat) : Int) := by
  have hl : a ||| b < 2 ^ 32 := Nat.or_lt_two_pow ha hb
  show IntKind.wrap .u32 ((BitVec.ofInt 32 (a : Int) ||| BitVec.ofInt 32 (b : Int)).toNat : Int) = _
  rw [BitVec.toNat_or, ofInt_nat32, ofInt_nat32, Nat.mod_eq_of_lt ha, Nat.mod_eq_of_lt hb]
  exact u32_in (by omega)
theorem bitU_nat (n : Nat) (hn : n < 4294967296) (i : Nat) : bitU (n : Int) i = n.testBit i := by
  obtain ⟨h1, h2, _⟩ := halfU_eq (n : Int) (by omega) (by omega) i
  unfold bitU
  rw [Nat.testBit_eq_decide_div_mod_eq, Int.tmod_eq_emod_of_nonneg h2, h1]
  have e : ((n : Int) / 2 ^ i) = ((n / 2 ^ i : Nat) : Int) := by simp
  rw [e]
  by_cases h : n / 2 ^ i % 2 = 1
  · rw [decide_eq_true h, decide_eq_true (by omega)]
  · rw [decide_eq_false h, decide_eq_false (by omega)]
theorem same_iff (f : Fi) (w : Int) : ∀ n, sameU f w n = true ↔ ∀ i, i < n → badU f w i = false
  | 0 => by simp [sameU]
  | n + 1 => by
    unfold sameU
    rw [Bool.and_eq_true, same_iff f w n]
    constructor
    · rintro ⟨h1, h2⟩ i hi
      rcases Nat.lt_or_ge i n with h | h
      · exact h1 i h
      · obtain rfl : i = n := by omega
        simpa using h2
    · intro h
      exact ⟨fun i hi => h i (by omega), by simpa using h n (by omega)⟩
theorem hit_eq (f : Fi) (hf : FiOk f) (w : Int) (hw : 0 ≤ w ∧ w < 4294967296) : hitI f w = (sameU f w 32 != f.inv) := by
  obtain ⟨a, ha⟩ : ∃ a : Nat, f.id = a := ⟨f.id.toNat, by have := hf.id; omega⟩
  obtain ⟨m, hm⟩ : ∃ m : Nat, f.mask = m := ⟨f.mask.toNat, by have := hf.mask; omega⟩
  obtain ⟨v, hv⟩ : ∃ v : Nat, w = v := ⟨w.toNat, by omega⟩
  have h1 := hf.id
  have h2 := hf.mask
  unfold hitI
  congr 1
  rw [ha, hm, hv, (xor_u32 v a (by omega) (by omega)).1, and_u32 _ m (xor_u32 v a (by omega) (by omega)).2 (by omega)]
  rw [Bool.eq_iff_iff, decide_eq_true_iff, same_iff]
  have e0 : (((v ^^^ a) &&& m : Nat) : Int) = 0 ↔ (v ^^^ a) &&& m = 0 := by omega
  rw [e0]
  have hb : ∀ i, badU f v i = (m.testBit i && (a.testBit i != v.testBit i)) := fun i => by
    unfold badU
    rw [ha, hm, bitU_nat m (by omega), bitU_nat a (by omega), bitU_nat v (by omega)]
  constructor
  · intro h i _
    have := congrArg (fun n => n.testBit i) h
    simp only [Nat.testBit_and, Nat.testBit_xor, Nat.zero_testBit] at this
    rw [hb]
    revert this
    cases m.testBit i <;> cases a.testBit i <;> cases v.testBit i <;> simp
  · intro h
    refine Nat.eq_of_testBit_eq fun i => ?_
    simp only [Nat.testBit_and, Nat.testBit_xor, Nat.zero_testBit]
    rcases Nat.lt_or_ge i 32 with hi | hi
    · have := h i hi
      rw [hb] at this
      revert this
      cases m.testBit i <;> cases a.testBit i <;> cases v.testBit i <;> simp
    · rw [Nat.testBit_lt_two_pow (x := m) (i := i) (Nat.lt_of_lt_of_le (show m < 2 ^ 32 by omega) (Nat.pow_le_pow_right (by decide) hi)), Bool.and_false]
end Go.Proofs.Ytapoilcpollmpaa
end
