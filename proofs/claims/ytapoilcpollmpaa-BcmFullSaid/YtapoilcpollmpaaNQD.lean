/- QD, put together. Conditions: none. -/
import Derived.Test.YtapoilcpollmpaaNQC
/- frame's key is ref02's: the plain law. -/
section
namespace Go.Proofs.Ytapoilcpollmpaa
open Go.SB
attribute [local irreducible] HW HSS HAS HRQ HEO HOP HCK
set_option maxRecDepth 100000
set_option maxHeartbeats 4000000
set_option linter.unusedSimpArgs false
set_option pp.deepTerms.threshold 6

theorem flags_tab : ∀ k : Fin 64, hasR (k.val : Int) 1 = hasI (k.val : Int) 1 ∧ hasR (k.val : Int) 2 = hasI (k.val : Int) 2 ∧ hasR (k.val : Int) 4 = hasI (k.val : Int) 4 ∧ hasR (k.val : Int) 8 = hasI (k.val : Int) 8 ∧
    hasR (k.val : Int) 16 = hasI (k.val : Int) 16 ∧ hasR (k.val : Int) 32 = hasI (k.val : Int) 32 ∧ hasI (k.val : Int) 48 = (hasI (k.val : Int) 16 || hasI (k.val : Int) 32) ∧ hasI (k.val : Int) 5 = (hasI (k.val : Int) 1 || hasI (k.val : Int) 4) ∧
    (decide ((k.val : Int) = 4)) = (hasI (k.val : Int) 4 && !hasI (k.val : Int) 1 && !hasI (k.val : Int) 2 && !hasI (k.val : Int) 8 && !hasI (k.val : Int) 16 && !hasI (k.val : Int) 32) := by decide +kernel

theorem codeAt_some {n : Int} : ∀ {l : List Int} {i j : Nat}, codeAt n l i = some j → n ∈ l
  | [], _, _, h => by simp [codeAt] at h
  | x :: xs, i, j, h => by
    unfold codeAt at h
    by_cases e : x = n
    · simp [e]
    · rw [if_neg e] at h; exact List.mem_cons_of_mem _ (codeAt_some h)
theorem codeI_R (n : Int) : (codeI n = true → 0 ≤ n ∧ n ≤ 64 ∧ 0 ≤ codeR n) ∧ (codeI n = false → codeR n = -1) := by
  unfold codeI codeR
  cases h : codeAt n szL 0 with
  | none => simp
  | some i =>
    have := codeAt_some h
    simp only [szL, List.mem_cons, List.not_mem_nil, or_false] at this
    refine ⟨fun _ => ⟨by omega, by omega, by simp⟩, by simp⟩

theorem right_eq (f : Fr) : (rightI f = 0 ↔ rightR f = true) ∧ (rightI f ≠ 0 → rightI f = 4) := by
  refine ⟨?_, by unfold rightI; split <;> simp⟩
  by_cases h0 : f.fl < 0 ∨ f.fl > 63
  · have h1 : flagsI f.fl = false := by unfold flagsI; rw [if_pos h0]
    have h2 : rightR f = false := by
      unfold rightR
      simp only []
      rw [if_pos (by omega)]
    simp [rightI, h1, h2]
  · obtain ⟨k, hk, hk64⟩ : ∃ k : Nat, f.fl = k ∧ k < 64 := ⟨f.fl.toNat, by omega, by omega⟩
    obtain ⟨t1, t2, t3, t4, t5, t6, t7, t8, t9⟩ := flags_tab ⟨k, hk64⟩
    simp only [] at t1 t2 t3 t4 t5 t6 t7 t8 t9
    rw [← hk] at t1 t2 t3 t4 t5 t6 t7 t8 t9
    obtain ⟨c1, c2⟩ := codeI_R f.len
    unfold rightI rightR flagsI mostI longI
    simp only [t1, t2, t3, t4, t5, t6, t7, t8, t9, if_neg h0]
    have ha : ¬ f.fl < 0 := by omega
    have hb : ¬ f.fl > 63 := by omega
    have hd : f.data = [] ↔ (f.data.length : Int) = 0 := by simp
    generalize hasI f.fl 1 = e1
    generalize hasI f.fl 2 = e2
    generalize hasI f.fl 4 = e4
    generalize hasI f.fl 8 = e8
    generalize hasI f.fl 16 = e16
    generalize hasI f.fl 32 = e32
    have c3 : codeI f.len = true → ¬ (codeR f.len < 0) := fun h => by have := (c1 h).2.2; omega
    have c4 : codeI f.len = false → codeR f.len < 0 := fun h => by have := c2 h; omega
    cases e4 <;> cases e8 <;> cases e2 <;> cases e1 <;> cases e16 <;> cases e32 <;> cases hc : codeI f.len <;> simp_all <;> first | omega | grind

theorem ofInt_nat (n : Nat) : (BitVec.ofInt 64 (n : Int)).toNat = n % 18446744073709551616 := by
  rw [BitVec.toNat_ofInt]
  show ((n : Int) % (2 ^ 64 : Nat)).toNat = _
  omega
theorem or_nat (a y k : Nat) (hy : y < 2 ^ k) (hb : 2 ^ k * a + y < 4611686018427387904) : ibits .or .i64 ((2 ^ k * a : Nat) : Int) (y : Int) = ((2 ^ k * a + y : Nat) : Int) := by
  show IntKind.wrap .i64 ((BitVec.ofInt 64 ((2 ^ k * a : Nat) : Int) ||| BitVec.ofInt 64 (y : Int)).toNat : Int) = _
  rw [BitVec.toNat_or, ofInt_nat, ofInt_nat, Nat.mod_eq_of_lt (by omega), Nat.mod_eq_of_lt (by omega), ← Nat.two_pow_add_eq_or_of_lt hy]
  exact IntWalk.i64_in _ (by omega)
theorem and_nat (n : Nat) (hb : n < 4611686018427387904) : ibits .and .i64 (n : Int) 262143 = ((n % 262144 : Nat) : Int) := by
  show IntKind.wrap .i64 ((BitVec.ofInt 64 (n : Int) &&& BitVec.ofInt 64 ((262143 : Nat) : Int)).toNat : Int) = _
  rw [BitVec.toNat_and, ofInt_nat, ofInt_nat, Nat.mod_eq_of_lt (by omega)]
  rw [show (262143 % 18446744073709551616 : Nat) = 2 ^ 18 - 1 by decide, Nat.and_two_pow_sub_one_eq_mod]
  exact IntWalk.i64_in _ (by omega)
theorem halved_eq (n : Int) (h0 : 0 ≤ n) (h1 : n < 4611686018427387904) : ∀ k, halved n k = n / 2 ^ k ∧ 0 ≤ halved n k ∧ halved n k < 4611686018427387904
  | 0 => by simp [halved]; omega
  | k + 1 => by
    obtain ⟨a, b, c⟩ := halved_eq n h0 h1 k
    have e : (halved n k).tdiv 2 = halved n k / 2 := Int.tdiv_eq_ediv_of_nonneg b
    have w : halved n (k + 1) = halved n k / 2 := by
      show IntKind.wrap .i64 _ = _
      rw [e]
      exact IntWalk.i64_in _ (by omega)
    refine ⟨?_, by omega, by omega⟩
    rw [w, a, Int.ediv_ediv_of_nonneg (Int.pow_nonneg (by decide)), Int.pow_succ]
theorem mod_two (n p : Int) (hp : 0 < p) : n % (p * 2) = p * (n / p % 2) + n % p := by
  have h1 := Int.mul_ediv_add_emod n p
  have h2 := Int.mul_ediv_add_emod (n / p) 2
  have h3 := Int.emod_nonneg n (show p ≠ 0 by omega)
  have h4 := Int.emod_lt_of_pos n hp
  have e : n = (p * (n / p % 2) + n % p) + (p * 2) * (n / p / 2) := by
    have : p * (n / p) = p * 2 * (n / p / 2) + p * (n / p % 2) := by
      rw [Int.mul_assoc, ← Int.mul_add, h2]
    omega
  have h5 : n / p % 2 = 0 ∨ n / p % 2 = 1 := by omega
  have h6 : 0 ≤ p * (n / p % 2) + n % p ∧ p * (n / p % 2) + n % p < p * 2 := by
    rcases h5 with h | h <;> rw [h] <;> omega
  calc n % (p * 2) = ((p * (n / p % 2) + n % p) + (p * 2) * (n / p / 2)) % (p * 2) := by rw [← e]
    _ = (p * (n / p % 2) + n % p) % (p * 2) := Int.add_mul_emod_self_left _ _ _
    _ = _ := Int.emod_eq_of_lt h6.1 h6.2
abbrev vf : Int → Bool → Int := fun n b => 2 * n + (if b then 1 else 0)
theorem fold_bits (n : Int) (h0 : 0 ≤ n) (h1 : n < 4611686018427387904) : ∀ (k : Nat) (a : Int), (bitsB n k).foldl vf a = a * 2 ^ k + n % 2 ^ k
  | 0, a => by simp [bitsB]
  | k + 1, a => by
    obtain ⟨e, b, c⟩ := halved_eq n h0 h1 k
    rw [bitsB, List.foldl_cons, fold_bits n h0 h1 k]
    have hm : (halved n k).tmod 2 = n / 2 ^ k % 2 := by rw [Int.tmod_eq_emod_of_nonneg b, e]
    have hp : (2 : Int) ^ (k + 1) = 2 ^ k * 2 := Int.pow_succ _ _
    have hq : n % 2 ^ (k + 1) = 2 ^ k * (n / 2 ^ k % 2) + n % 2 ^ k := by
      rw [hp]; exact mod_two _ _ (Int.pow_pos (by decide))
    rw [hq, hm, hp]
    have h2 : n / 2 ^ k % 2 = 0 ∨ n / 2 ^ k % 2 = 1 := by omega
    have h3 : vf a (decide (n / 2 ^ k % 2 = 1)) = 2 * a + n / 2 ^ k % 2 := by
      rcases h2 with h | h <;> simp [vf, h]
    rw [h3, Int.add_mul, Int.mul_comm (2 ^ k) (n / 2 ^ k % 2), ← Int.mul_assoc a, Int.mul_comm (a * 2 ^ k) 2, ← Int.mul_assoc 2, Int.add_assoc]

theorem shl_nat (x k : Nat) (hb : 2 ^ k * x < 4611686018427387904) : shlI (x : Int) k = ((2 ^ k * x : Nat) : Int) := by
  show IntKind.wrap .i64 ((x : Int) * 2 ^ k) = _
  have : ((x : Int) * 2 ^ k) = ((2 ^ k * x : Nat) : Int) := by push_cast; rw [Int.mul_comm]
  rw [this]
  exact IntWalk.i64_in _ (by omega)
theorem step_or (x y k : Nat) (hy : y < 2 ^ k) (hb : 2 ^ k * x + y < 4611686018427387904) : orI (shlI (x : Int) k) (y : Int) = ((2 ^ k * x + y : Nat) : Int) := by
  rw [shl_nat x k (by omega)]
  exact or_nat x y k hy hb
def bN (b : Bool) : Nat := if b then 1 else 0
theorem bN_le (b : Bool) : bN b < 2 ^ 1 := by cases b <;> decide
theorem bitI_eq (fl m : Int) : bitI fl m = (bN (hasI fl m) : Int) := by unfold bitI bN; split <;> rfl
theorem vf_eq (a : Int) (b : Bool) : vf a b = 2 * a + bN b := by cases b <;> rfl
theorem key_eq (f : Fr) : keyI f = keyR f := by
  obtain ⟨hr, _⟩ := right_eq f
  unfold keyI keyR
  by_cases hR : rightR f = true
  · have h0 := hr.2 hR
    have hR' := hR
    unfold rightR at hR'
    simp only [] at hR'
    by_cases hg : f.fl < 0 ∨ f.fl > 63 ∨ f.id < 0 ∨ f.id > 536870911
    · rw [if_pos hg] at hR'; cases hR'
    rw [if_neg hg] at hR'
    obtain ⟨k, hk, hk64⟩ : ∃ k : Nat, f.fl = k ∧ k < 64 := ⟨f.fl.toNat, by omega, by omega⟩
    obtain ⟨t1, t2, t3, t4, t5, t6, t7, t8, t9⟩ := flags_tab ⟨k, hk64⟩
    simp only [] at t1 t2 t3 t4 t5 t6 t7 t8 t9
    rw [← hk] at t1 t2 t3 t4 t5 t6 t7 t8 t9
    have hid : f.id > 2047 → hasR f.fl 1 = false → hasR f.fl 4 = false → False := by
      intro a b c
      rw [b, c] at hR'
      simp [a] at hR'
    rw [t3] at hid ⊢
    by_cases he : hasI f.fl 4 = true
    · rw [if_pos (.inr he), if_pos (.inr he)]
    · rw [if_neg (show ¬ (rightI f ≠ 0 ∨ hasI f.fl 4 = true) by simp [h0, he]), if_neg (show ¬ (rightR f = false ∨ hasI f.fl 4 = true) by simp [hR, he])]
      have he' : hasI f.fl 4 = false := by simpa using he
      obtain ⟨n, hn, hnb⟩ : ∃ n : Nat, f.id = n ∧ n ≤ 536870911 := ⟨f.id.toNat, by omega, by omega⟩
      rw [t1] at hid
      unfold valB keyBitsR
      rw [t1, t2, t4]
      have hb2 := bN_le (hasI f.fl 2)
      have hb8 := bN_le (hasI f.fl 8)
      by_cases hx : hasI f.fl 1 = true
      · rw [if_pos hx, if_pos hx]
        have hw : IntKind.wrap .i64 (f.id.tdiv 262144) = f.id / 262144 := by
          rw [Int.tdiv_eq_ediv_of_nonneg (by omega)]; exact IntWalk.i64_in _ (by omega)
        have hm : f.id.tmod 262144 = f.id % 262144 := Int.tmod_eq_emod_of_nonneg (by omega)
        have hf : f.id.fdiv 262144 = ((n / 262144 : Nat) : Int) := by rw [hn, Int.fdiv_eq_ediv_of_nonneg _ (by decide)]; rfl
        rw [hw, hm]
        simp only [List.foldl_append, fold_bits _ (show 0 ≤ f.id / 262144 by omega) (by omega), fold_bits _ (show 0 ≤ f.id % 262144 by omega) (by omega), List.foldl_cons, List.foldl_nil]
        rw [hf, hn, and_nat n (by omega), bitI_eq, bitI_eq, show (3 : Int) = ((3 : Nat) : Int) from rfl, step_or _ 3 2 (by decide) (by omega), step_or _ _ 18 (by omega) (by omega), step_or _ _ 1 hb2 (by omega), step_or _ _ 1 hb8 (by omega)]
        generalize hasI f.fl 2 = c2 at *
        generalize hasI f.fl 8 = c8 at *
        have e2 : (if c2 = true then (1 : Int) else 0) = bN c2 := by cases c2 <;> rfl
        have e8 : (if c8 = true then (1 : Int) else 0) = bN c8 := by cases c8 <;> rfl
        simp only [e2, e8, if_true]
        omega
      · have hx' : hasI f.fl 1 = false := by simpa using hx
        rw [if_neg hx, if_neg hx]
        have hid' : n ≤ 2047 := by
          rcases Nat.lt_or_ge 2047 n with h | h
          · exact (hid (by omega) hx' he').elim
          · exact h
        simp only [List.foldl_append, fold_bits _ (show 0 ≤ f.id by omega) (by omega), List.foldl_cons, List.foldl_nil, List.replicate]
        rw [hn, bitI_eq, bitI_eq, shl_nat _ 1 (by omega), step_or _ _ 2 (by omega) (by omega), shl_nat _ 19 (by omega), step_or _ _ 1 hb8 (by omega)]
        generalize hasI f.fl 2 = c2 at *
        generalize hasI f.fl 8 = c8 at *
        have e2 : (if c2 = true then (1 : Int) else 0) = bN c2 := by cases c2 <;> rfl
        have e8 : (if c8 = true then (1 : Int) else 0) = bN c8 := by cases c8 <;> rfl
        simp only [e2, e8, Bool.false_eq_true, if_false]
        omega
  · have h0 : rightI f ≠ 0 := fun h => hR (hr.1 h)
    have hR' : rightR f = false := by simpa using hR
    rw [if_pos (.inl h0), if_pos (.inl hR')]
end Go.Proofs.Ytapoilcpollmpaa
end
