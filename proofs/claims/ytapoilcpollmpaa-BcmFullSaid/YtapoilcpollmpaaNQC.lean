/- QC, put together. Conditions: none. -/
import Derived.Test.YtapoilcpollmpaaNQB
/- ref02: the key, bit by bit; it is frame's. -/
section
namespace Go.Proofs.Ytapoilcpollmpaa
open Go.SB
attribute [local irreducible] HW HSS HAS HRQ HEO HOP HCK
set_option maxRecDepth 100000
set_option maxHeartbeats 2000000
set_option linter.unusedSimpArgs false
set_option pp.deepTerms.threshold 6

/-- Halved so often. -/
def halved (n : Int) : Nat → Int
  | 0 => n
  | k + 1 => IntKind.wrap .i64 ((halved n k).tdiv 2)
def bitsB (n : Int) : Nat → List Bool
  | 0 => []
  | k + 1 => (decide ((halved n k).tmod 2 = 1)) :: bitsB n k
def beqB (n : Int) : Nat → List Bool
  | 0 => []
  | k + 1 => ((halved n k).tmod 2 == 1) :: beqB n k
theorem beqB_eq (n : Int) : ∀ k, beqB n k = bitsB n k
  | 0 => rfl
  | k + 1 => by
    simp only [beqB, bitsB, beqB_eq n k]
    congr 1
theorem bits11 (n : Int) : ACall Try.prog f_ref02_Bits [.int .i64 n, .int .i64 11] [] fun r A => r = .sl 0 1 0 11 false ∧ A = [some (.arr (rows b1 (bitsB n 11)))] := by
  rw [← beqB_eq]; exact acall_ev tabOk_QIa (by kernel_rfl)
theorem bits18 (n : Int) : ACall Try.prog f_ref02_Bits [.int .i64 n, .int .i64 18] [] fun r A => r = .sl 0 1 0 18 false ∧ A = [some (.arr (rows b1 (bitsB n 18)))] := by
  rw [← beqB_eq]; exact acall_ev tabOk_QIa (by kernel_rfl)
theorem bitsB_length (n : Int) : ∀ k, (bitsB n k).length = k
  | 0 => rfl
  | k + 1 => by simp [bitsB, bitsB_length n k]

def keyBitsR (f : Fr) : List Bool :=
  (if hasR f.fl 1 then bitsB (IntKind.wrap .i64 (f.id.tdiv 262144)) 11 ++ [true, true] ++ bitsB (f.id.tmod 262144) 18 ++ [hasR f.fl 2]
   else bitsB f.id 11 ++ [hasR f.fl 2, false] ++ List.replicate 19 false) ++ [hasR f.fl 8]
theorem b1_snoc {xs : List Bool} {b : Bool} : rows b1 xs ++ [[.bool b]] = rows b1 (xs ++ [b]) := by simp [rows, b1]
theorem b1_snoc2 {xs : List Bool} {b c : Bool} : rows b1 xs ++ [[.bool b], [.bool c]] = rows b1 (xs ++ [b, c]) := by simp [rows, b1]
theorem b1_ok {xs : List Bool} : rowsOk 1 (rows b1 xs) = true := rows_ok fun _ => ⟨rfl, rfl⟩
theorem rowsb1 {xs : List Bool} : rows b1 xs = xs.map fun b => [.bool b] := rfl
theorem KeyBits_ok (f : Fr) : ACall Try.prog f_ref02_KeyBits [.agg f.av] [] fun r A => r = .sl 0 1 0 33 false ∧ A = [some (.arr (rows b1 (keyBitsR f)))] := by
  refine acallH ok_ref02_KeyBits ?_
  have hr := trivial
  try simp -dsimp -implicitDefEqProofs (maxSteps := 1000000) (disch := first | exact dis | fail) only [hc_ref02_KeyBits, Fr.av, rowsb1, bitsB, elemsO_some, appF_some, aoren_arr, List.length_cons, go_sem]
  repeat' ((first | (with_reducible refine PCall.aci (Has_ok f _ (by decide)) ?_) | (refine (bits11 _).at' [] (by simp) rfl trivial rfl ?_; (rintro r A ⟨rfl, rfl⟩)) | (refine (bits18 _).at' [] (by simp) rfl trivial rfl ?_; (rintro r A ⟨rfl, rfl⟩)) | (with_reducible first | refine w_if ?_ ?_ | refine w_gt ?_ ?_ | refine w_gf ?_ ?_ | refine w_io ?_ ?_ | refine w_gdt ?_ ?_ | refine w_gdf ?_ ?_ | refine w_ite ?_ ?_) <;> intro h <;> (try rw [h]) <;> replace hr := And.intro h hr <;> replace h := nrm h <;> try (first | (exfalso; omega) | exact (bx h (by assumption)).elim | exact (bx (by assumption) h).elim) | ((with_reducible refine And.intro ?_ ?_); (focus omega))) <;> try simp -dsimp -implicitDefEqProofs (maxSteps := 1000000) (disch := first | exact dis | fail) only [Fr.av, rowsb1, bitsB, elemsO_some, appF_some, aoren_arr, List.length_cons, go_sem])
  · refine ⟨some [10], rfl, rfl, ?_⟩
    unfold keyBitsR
    rw [if_pos (by assumption)]
    rfl
  · have hl : ∀ i, (rows b1 (bitsB f.id 11 ++ [hasR f.fl 2, false] ++ List.replicate i false)).length = 13 + i := fun i => by simp [rows, bitsB_length]; omega
    have hs : ∀ i, rows b1 (bitsB f.id 11 ++ [hasR f.fl 2, false] ++ List.replicate i false) ++ [[.bool false]] = rows b1 (bitsB f.id 11 ++ [hasR f.fl 2, false] ++ List.replicate (i + 1) false) := fun i => by
      rw [List.replicate_succ', ← List.append_assoc]; exact b1_snoc
    refine hw_loop 19 (fun i ρ A => ρ = rg 34 [(1, .ptr 0 0), (3, .sl 1 1 0 (13 + i) false), (4, .int .i64 i)] ∧ A = [some (.cells f.av), some (.arr (rows b1 (bitsB f.id 11 ++ [hasR f.fl 2, false] ++ List.replicate i false)))]) ⟨some [0, 4], rfl, rfl, rfl⟩ ?_
    rintro i ρ A hi ⟨rfl, rfl⟩
    rcases Nat.lt_or_ge i 19 with hlt | hge
    · skip
      have hr := trivial
      try simp -dsimp -implicitDefEqProofs (maxSteps := 1000000) (disch := first | exact dis | fail) only [hc_ref02_KeyBits_b1, Fr.av, (appF_full (hl i)), hs, go_sem]
      repeat' ((first | (with_reducible first | refine w_if ?_ ?_ | refine w_gt ?_ ?_ | refine w_gf ?_ ?_ | refine w_io ?_ ?_ | refine w_gdt ?_ ?_ | refine w_gdf ?_ ?_ | refine w_ite ?_ ?_) <;> intro h <;> (try rw [h]) <;> replace hr := And.intro h hr <;> replace h := nrm h <;> try (first | (exfalso; omega) | exact (bx h (by assumption)).elim | exact (bx (by assumption) h).elim) | ((with_reducible refine And.intro ?_ ?_); (focus omega))) <;> try simp -dsimp -implicitDefEqProofs (maxSteps := 1000000) (disch := first | exact dis | fail) only [Fr.av, (appF_full (hl i)), hs, go_sem])
      exact ⟨some [0, 3], rfl, by simp only [foldR_eq, go_sem, Nat.reduceLT, reduceIte, Nat.reduceEqDiff]; rfl, by simp only [foldA_eq, go_sem, b1_ren, Nat.reduceLT, reduceIte, Nat.reduceEqDiff]⟩
    · skip
      have hr := trivial
      try simp -dsimp -implicitDefEqProofs (maxSteps := 1000000) (disch := first | exact dis | fail) only [hc_ref02_KeyBits_b1, Fr.av, (appF_full (hl i)), go_sem]
      repeat' ((first | (with_reducible refine PCall.aci (Has_ok f _ (by decide)) ?_) | (with_reducible first | refine w_if ?_ ?_ | refine w_gt ?_ ?_ | refine w_gf ?_ ?_ | refine w_io ?_ ?_ | refine w_gdt ?_ ?_ | refine w_gdf ?_ ?_ | refine w_ite ?_ ?_) <;> intro h <;> (try rw [h]) <;> replace hr := And.intro h hr <;> replace h := nrm h <;> try (first | (exfalso; omega) | exact (bx h (by assumption)).elim | exact (bx (by assumption) h).elim) | ((with_reducible refine And.intro ?_ ?_); (focus omega))) <;> try simp -dsimp -implicitDefEqProofs (maxSteps := 1000000) (disch := first | exact dis | fail) only [Fr.av, (appF_full (hl i)), go_sem])
      obtain rfl : i = 19 := by omega
      refine ⟨some [3], rfl, rfl, ?_⟩
      unfold keyBitsR
      rw [if_neg (by rw [‹hasR f.fl 1 = false›]; decide)]
      rfl
/-- The number that bits make. -/
def valB (bs : List Bool) : Int := bs.foldl (fun n b => 2 * n + (if b then 1 else 0)) 0
def keyR (f : Fr) : Int := if rightR f = false ∨ hasR f.fl 4 = true then -1 else valB (keyBitsR f)
theorem keyBitsR_length (f : Fr) : (keyBitsR f).length = 33 := by
  unfold keyBitsR
  split <;> simp [bitsB_length]
theorem valB_lt : ∀ (bs : List Bool), 0 ≤ valB bs ∧ valB bs < 2 ^ bs.length := by
  have key : ∀ (bs : List Bool) (n : Int) (k : Nat), 0 ≤ n → n < 2 ^ k → 0 ≤ bs.foldl (fun n b => 2 * n + (if b then 1 else 0)) n ∧ bs.foldl (fun n b => 2 * n + (if b then 1 else 0)) n < 2 ^ (k + bs.length) := by
    intro bs
    induction bs with
    | nil => intro n k h1 h2; exact ⟨h1, h2⟩
    | cons b bs ih =>
      intro n k h1 h2
      rw [List.length_cons, show k + (bs.length + 1) = k + 1 + bs.length by omega, List.foldl_cons]
      have h3 : (2 : Int) ^ (k + 1) = 2 * 2 ^ k := by rw [Int.pow_succ, Int.mul_comm]
      have := ih (2 * n + (if b then 1 else 0)) (k + 1) (by split <;> omega) (by rw [h3]; split <;> omega)
      exact this
  intro bs
  simpa [valB] using key bs 0 0 (by decide) (by decide)
theorem valB_take {bs : List Bool} {i : Nat} {b : Bool} (h : bs[i]? = some b) : valB (bs.take (i + 1)) = 2 * valB (bs.take i) + (if b then 1 else 0) := by
  rw [List.take_add_one, h]
  simp [valB]
theorem RKey_ok (f : Fr) : PCall Try.prog f_ref02_Key [.agg f.av] (.int .i64 (keyR f)) := by
  refine pcallH ok_ref02_Key rfl ?_
  have hr := trivial
  try simp -dsimp -implicitDefEqProofs (maxSteps := 1000000) (disch := first | exact dis | fail) only [hc_ref02_Key, Fr.av, rows_ren b1_flat, go_sem]
  repeat' ((first | (with_reducible refine PCall.aci (RRight_ok f) ?_) | (with_reducible refine PCall.aci (Has_ok f _ (by decide)) ?_) | (refine (KeyBits_ok f).at' [] (by simp) rfl trivial rfl ?_; (rintro r A ⟨rfl, rfl⟩)) | (with_reducible first | refine w_if ?_ ?_ | refine w_gt ?_ ?_ | refine w_gf ?_ ?_ | refine w_io ?_ ?_ | refine w_gdt ?_ ?_ | refine w_gdf ?_ ?_ | refine w_ite ?_ ?_) <;> intro h <;> (try rw [h]) <;> replace hr := And.intro h hr <;> replace h := nrm h <;> try (first | (exfalso; omega) | exact (bx h (by assumption)).elim | exact (bx (by assumption) h).elim) | ((with_reducible refine And.intro ?_ ?_); (focus omega))) <;> try simp -dsimp -implicitDefEqProofs (maxSteps := 1000000) (disch := first | exact dis | fail) only [Fr.av, rows_ren b1_flat, go_sem])
  · simp_all [keyR]
  · rename_i hr
    have hv := valB_lt
    have hlen := keyBitsR_length f
    refine hw_loop 33 (fun i ρ A => ρ = rg 13 [(3, .int .i64 (valB ((keyBitsR f).take i))), (4, .sl 1 1 0 33 false), (5, .int .i64 i)] ∧ A = [some (.cells f.av), some (.arr (rows b1 (keyBitsR f)))]) ⟨none, rfl, rfl, rfl⟩ ?_
    rintro i ρ A hi ⟨rfl, rfl⟩
    have hvi := valB_lt ((keyBitsR f).take i)
    rw [show ((keyBitsR f).take i).length = i by rw [List.length_take, hlen]; omega] at hvi
    have h33 : (2 : Int) ^ i ≤ 2 ^ 33 := by
      have := Nat.pow_le_pow_right (show 0 < 2 by decide) hi
      exact_mod_cast this
    have h33' : valB ((keyBitsR f).take i) < 8589934592 := by omega
    rcases Nat.lt_or_ge i 33 with hlt | hge
    · have hx : (keyBitsR f)[i]? = some (keyBitsR f)[i] := List.getElem?_eq_getElem (by omega)
      have ht := valB_take hx
      have hr := trivial
      try simp -dsimp -implicitDefEqProofs (maxSteps := 1000000) (disch := first | exact dis | fail) only [hc_ref02_Key_b1, Fr.av, rows_get, hx, Int.toNat_natCast, b1, go_sem]
      repeat' ((first | (with_reducible first | refine w_if ?_ ?_ | refine w_gt ?_ ?_ | refine w_gf ?_ ?_ | refine w_io ?_ ?_ | refine w_gdt ?_ ?_ | refine w_gdf ?_ ?_ | refine w_ite ?_ ?_) <;> intro h <;> (try rw [h]) <;> replace hr := And.intro h hr <;> replace h := nrm h <;> try (first | (exfalso; omega) | exact (bx h (by assumption)).elim | exact (bx (by assumption) h).elim) | ((with_reducible refine And.intro ?_ ?_); (focus omega))) <;> try simp -dsimp -implicitDefEqProofs (maxSteps := 1000000) (disch := first | exact dis | fail) only [Fr.av, rows_get, hx, Int.toNat_natCast, b1, go_sem])
      all_goals refine ⟨none, rfl, ?_, rfl⟩
      all_goals simp_all [foldRo]
    · have hfull : (keyBitsR f).take i = keyBitsR f := List.take_of_length_le (by omega)
      rw [hfull]
      have hr := trivial
      try simp -dsimp -implicitDefEqProofs (maxSteps := 1000000) (disch := first | exact dis | fail) only [hc_ref02_Key_b1, Fr.av, go_sem]
      repeat' ((first | (with_reducible first | refine w_if ?_ ?_ | refine w_gt ?_ ?_ | refine w_gf ?_ ?_ | refine w_io ?_ ?_ | refine w_gdt ?_ ?_ | refine w_gdf ?_ ?_ | refine w_ite ?_ ?_) <;> intro h <;> (try rw [h]) <;> replace hr := And.intro h hr <;> replace h := nrm h <;> try (first | (exfalso; omega) | exact (bx h (by assumption)).elim | exact (bx (by assumption) h).elim) | ((with_reducible refine And.intro ?_ ?_); (focus omega))) <;> try simp -dsimp -implicitDefEqProofs (maxSteps := 1000000) (disch := first | exact dis | fail) only [Fr.av, go_sem])
      simp_all [keyR]
  · simp_all [keyR]
end Go.Proofs.Ytapoilcpollmpaa
end
