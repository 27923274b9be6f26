/- QcC, put together. Conditions: none. -/
import Derived.Test.YtkkccabchhnebaaNQcB
/- cyc and ref22: a job's times. -/
section
namespace Go.Proofs.Ytkkccabchhnebaa
open Go.SB
attribute [local irreducible] HW HSS HAS HRQ HEO HOP HCK
set_option maxRecDepth 100000
set_option maxHeartbeats 4000000
set_option linter.unusedSimpArgs false
set_option pp.deepTerms.threshold 6

instance : Flt i1 := ⟨i1_flat⟩
instance : RowF i1 1 := ⟨fun _ => ⟨rfl, rfl⟩⟩
/-- A row of numbers that was appended to, or none. -/
def lsV (l : Nat) (xs : List Int) : AV := if xs = [] then .nils else .sl l 1 0 xs.length false
def lsA (xs : List Int) : AHeap := if xs = [] then [] else [some (.arr (rows i1 xs))]
theorem ls_nil {l : Nat} : lsV l [] = .nils ∧ lsA [] = [] := ⟨rfl, rfl⟩
theorem ls_cons {l : Nat} {xs : List Int} (h : xs ≠ []) : lsV l xs = .sl l 1 0 xs.length false ∧ lsA xs = [some (.arr (rows i1 xs))] := ⟨if_neg h, if_neg h⟩
theorem i1_snoc {xs : List Int} {x : Int} : rows i1 xs ++ [[.int .i64 x]] = rows i1 (xs ++ [x]) := by simp [rows, i1]
theorem i1_one {x : Int} : [[AV.int .i64 x]] = rows i1 [x] := rfl

def incJ (j : Jb) (i : Nat) : Int := if (i : Int) < j.n then j.first else j.second
def D (j : Jb) (start : Int) (i : Nat) : Int := start + j.first * (min (i : Int) j.n) + j.second * (max ((i : Int) - j.n) 0)
theorem D_step (j : Jb) (start : Int) (i : Nat) : D j start (i + 1) = D j start i + incJ j i := by
  unfold D incJ
  by_cases h : (i : Int) < j.n
  · rw [if_pos h, show min ((i + 1 : Nat) : Int) j.n = min (i : Int) j.n + 1 by omega, show max (((i + 1 : Nat) : Int) - j.n) 0 = max ((i : Int) - j.n) 0 by omega, Int.mul_add]
    omega
  · rw [if_neg h, show min ((i + 1 : Nat) : Int) j.n = min (i : Int) j.n by omega, show max (((i + 1 : Nat) : Int) - j.n) 0 = max ((i : Int) - j.n) 0 + 1 by omega, Int.mul_add]
    omega
theorem D_le {j : Jb} (hj : JOk j) {start : Int} (hs : 0 ≤ start ∧ start ≤ 1099511627776) {i : Nat} (hi : i ≤ 1000) : 0 ≤ D j start i ∧ D j start i ≤ 1152921504606846976 := by
  have hn := hj.n
  have h1 := mul_le40 hj.f (n := min (i : Int) j.n) (by omega)
  have h2 := mul_le40 hj.s (n := max ((i : Int) - j.n) 0) (by omega)
  unfold D; omega
theorem tm_eq {j : Jb} (hj : JOk j) (start : Int) (i : Nat) : tmAt j start (i + 1) = if 0 < incJ j i then D j start (i + 1) else -1 := by
  have hf := hj.f
  have hs := hj.s
  have hn := hj.n
  unfold tmAt incJ D
  by_cases h : (i : Int) < j.n
  · have h1 : 0 < j.first := by unfold Jb.n at h; split at h <;> omega
    rw [if_pos (by omega), if_pos h, if_pos h1, show min ((i + 1 : Nat) : Int) j.n = ((i + 1 : Nat) : Int) by omega, show max (((i + 1 : Nat) : Int) - j.n) 0 = 0 by omega]
    simp
  · rw [if_neg (by omega), if_neg h, show min ((i + 1 : Nat) : Int) j.n = j.n by omega, show max (((i + 1 : Nat) : Int) - j.n) 0 = ((i + 1 : Nat) : Int) - j.n by omega]
    by_cases h2 : j.second = 0
    · simp [h2]
    · rw [if_neg h2, if_pos (by omega)]
def goT (j : Jb) (start e : Int) : Nat → Nat → List Int
  | 0, _ => []
  | f + 1, k => if tmAt j start k < 0 ∨ e < tmAt j start k then [] else tmAt j start k :: goT j start e f (k + 1)
def times (j : Jb) (start e : Int) : List Int := goT j start e 1000 1

theorem RTimes_ok (j : Jb) (hj : JOk j) (start e : Int) (he : jobE j = 0) (hs : 0 ≤ start ∧ start ≤ 1099511627776) : ACall Try.prog f_ref22_Times [.agg j.av, .int .i64 start, .int .i64 e] [] fun r A => r = lsV 0 (times j start e) ∧ A = lsA (times j start e) := by
  refine acallH ok_ref22_Times ?_
  have hct : cntB start = true := by simp [cntB, hs]
  have hr := trivial
  simp -dsimp -implicitDefEqProofs (maxSteps := 1000000) (disch := first | exact dis | fail) only [hc_ref22_Times, Jb.av, he, hct, go_sem]
  repeat' ((first | (with_reducible refine PCall.aci (RJRight_ok j) ?_) | (with_reducible refine PCall.aci (rcount_ok start) ?_) | (with_reducible first | refine w_if ?_ ?_ | refine w_gt ?_ ?_ | refine w_gf ?_ ?_ | refine w_io ?_ ?_ | refine w_gdt ?_ ?_ | refine w_gdf ?_ ?_ | refine w_ite ?_ ?_) <;> intro h <;> (try rw [h]) <;> replace hr := And.intro h hr <;> replace h := nrm h <;> try (first | (exfalso; omega) | exact (bx h (by assumption)).elim | exact (bx (by assumption) h).elim) | ((with_reducible refine And.intro ?_ ?_); (focus omega))) <;> try simp -dsimp -implicitDefEqProofs (maxSteps := 1000000) (disch := first | exact dis | fail) only [Jb.av, he, hct, go_sem])
  refine hw_loop 1000 (fun i ρ A => ∃ out : List Int, out.length = i ∧ out ++ goT j start e (1000 - i) (i + 1) = times j start e ∧ ρ = rg 18 [(1, .int .i64 start), (2, .int .i64 e), (3, .ptr 0 0), (5, lsV 1 out), (6, .int .i64 ((i + 1 : Nat) : Int))] ∧ A = [some (.cells j.av)] ++ lsA out) ⟨none, rfl, [], rfl, rfl, rfl, rfl⟩ ?_
  rintro i ρ A hi ⟨out, hl, hg, rfl, rfl⟩
  by_cases hlt : i < 1000
  · rw [show 1000 - i = (1000 - (i + 1)) + 1 by omega] at hg
    unfold goT at hg
    have hA := At_ok j hj start hs (i + 1) (by omega)
    generalize tmAt j start (i + 1) = t at hA hg
    by_cases hout : out = []
    · subst hout
      rw [(ls_nil (l := 1)).1, (ls_nil (l := 1)).2]
      have hr := trivial
      simp -dsimp -implicitDefEqProofs (maxSteps := 1000000) (disch := first | exact dis | fail) only [hc_ref22_Times_b1, Jb.av, i1_one, go_sem]
      repeat' ((first | (with_reducible refine PCall.aci hA ?_) | (with_reducible first | refine w_if ?_ ?_ | refine w_gt ?_ ?_ | refine w_gf ?_ ?_ | refine w_io ?_ ?_ | refine w_gdt ?_ ?_ | refine w_gdf ?_ ?_ | refine w_ite ?_ ?_) <;> intro h <;> (try rw [h]) <;> replace hr := And.intro h hr <;> replace h := nrm h <;> try (first | (exfalso; omega) | exact (bx h (by assumption)).elim | exact (bx (by assumption) h).elim) | ((with_reducible refine And.intro ?_ ?_); (focus omega))) <;> try simp -dsimp -implicitDefEqProofs (maxSteps := 1000000) (disch := first | exact dis | fail) only [Jb.av, i1_one, go_sem])
      · rw [if_pos ‹_›] at hg
        refine ⟨some [], rfl, ?_⟩
        rw [← hg]
        exact ⟨rfl, rfl⟩
      · rw [if_neg (by omega)] at hg
        refine ⟨some [0, 2], rfl, [t], by simp [← hl], by rw [← hg]; rfl, ?_, ?_⟩
        · simp only [foldR_eq, go_sem, ← hl]; rfl
        · simp only [foldA_eq, go_sem, Jb.av]; rfl
    · rw [(ls_cons (l := 1) hout).1, (ls_cons (l := 1) hout).2]
      have hr := trivial
      simp -dsimp -implicitDefEqProofs (maxSteps := 1000000) (disch := first | exact dis | fail) only [hc_ref22_Times_b1, Jb.av, i1_snoc, appF_full (show (rows i1 out).length = out.length from rows_length), go_sem]
      repeat' ((first | (with_reducible refine PCall.aci hA ?_) | (with_reducible first | refine w_if ?_ ?_ | refine w_gt ?_ ?_ | refine w_gf ?_ ?_ | refine w_io ?_ ?_ | refine w_gdt ?_ ?_ | refine w_gdf ?_ ?_ | refine w_ite ?_ ?_) <;> intro h <;> (try rw [h]) <;> replace hr := And.intro h hr <;> replace h := nrm h <;> try (first | (exfalso; omega) | exact (bx h (by assumption)).elim | exact (bx (by assumption) h).elim) | ((with_reducible refine And.intro ?_ ?_); (focus omega))) <;> try simp -dsimp -implicitDefEqProofs (maxSteps := 1000000) (disch := first | exact dis | fail) only [Jb.av, i1_snoc, appF_full (show (rows i1 out).length = out.length from rows_length), go_sem])
      · rw [if_pos ‹_›, List.append_nil] at hg
        refine ⟨some [1], rfl, ?_⟩
        rw [← hg, (ls_cons (l := 0) hout).1, (ls_cons (l := 0) hout).2]
        simp only [foldA_eq, foldV_eq, go_sem, and_self]
      · rw [if_neg (by omega)] at hg
        refine ⟨some [0, 3], rfl, out ++ [t], by simp [hl], by rw [← hg]; simp, ?_, ?_⟩
        · rw [(ls_cons (l := 1) (by simp)).1]
          simp only [foldR_eq, go_sem, List.length_append]; rfl
        · rw [(ls_cons (l := 1) (by simp)).2]
          simp only [foldA_eq, go_sem, Jb.av]
  · obtain rfl : i = 1000 := by omega
    have hr := trivial
    simp -dsimp -implicitDefEqProofs (maxSteps := 1000000) (disch := first | exact dis | fail) only [hc_ref22_Times_b1, Jb.av, go_sem]
    repeat' ((first | (with_reducible first | refine w_if ?_ ?_ | refine w_gt ?_ ?_ | refine w_gf ?_ ?_ | refine w_io ?_ ?_ | refine w_gdt ?_ ?_ | refine w_gdf ?_ ?_ | refine w_ite ?_ ?_) <;> intro h <;> (try rw [h]) <;> replace hr := And.intro h hr <;> replace h := nrm h <;> try (first | (exfalso; omega) | exact (bx h (by assumption)).elim | exact (bx (by assumption) h).elim) | ((with_reducible refine And.intro ?_ ?_); (focus omega))) <;> try simp -dsimp -implicitDefEqProofs (maxSteps := 1000000) (disch := first | exact dis | fail) only [Jb.av, go_sem])
    simp only [Nat.sub_self, goT, List.append_nil] at hg
    subst hg
    by_cases hout : times j start e = []
    · rw [hout, (ls_nil (l := 1)).1, (ls_nil (l := 1)).2]
      exact ⟨some [], rfl, rfl, rfl⟩
    · rw [(ls_cons (l := 1) hout).1, (ls_cons (l := 1) hout).2, (ls_cons (l := 0) hout).1]
      refine ⟨some [1], rfl, ?_⟩
      simp only [foldA_eq, foldV_eq, go_sem, and_self]
theorem RTimesE_ok (j : Jb) (start e : Int) (h : cntB start = false ∨ jobE j ≠ 0) : PCall Try.prog f_ref22_Times [.agg j.av, .int .i64 start, .int .i64 e] .nils := by
  refine pcallI ok_ref22_Times ?_
  have hr := trivial
  simp -dsimp -implicitDefEqProofs (maxSteps := 1000000) (disch := first | exact dis | fail) only [hc_ref22_Times, Jb.av, go_sem]
  repeat' ((first | (with_reducible refine PCall.aci (RJRight_ok j) ?_) | (with_reducible refine PCall.aci (rcount_ok start) ?_) | (with_reducible first | refine w_if ?_ ?_ | refine w_gt ?_ ?_ | refine w_gf ?_ ?_ | refine w_io ?_ ?_ | refine w_gdt ?_ ?_ | refine w_gdf ?_ ?_ | refine w_ite ?_ ?_) <;> intro h <;> (try rw [h]) <;> replace hr := And.intro h hr <;> replace h := nrm h <;> try (first | (exfalso; omega) | exact (bx h (by assumption)).elim | exact (bx (by assumption) h).elim) | ((with_reducible refine And.intro ?_ ?_); (focus omega))) <;> try simp -dsimp -implicitDefEqProofs (maxSteps := 1000000) (disch := first | exact dis | fail) only [Jb.av, go_sem])
  all_goals simp_all
end Go.Proofs.Ytkkccabchhnebaa
end
