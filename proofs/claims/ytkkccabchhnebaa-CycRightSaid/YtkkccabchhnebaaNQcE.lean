/- QcE, put together. Conditions: none. -/
import Derived.Test.YtkkccabchhnebaaNQcD
/- CycRight: the law's call. -/
section
namespace Go.Proofs.Ytkkccabchhnebaa
open Go.SB
attribute [local irreducible] HW HSS HAS HRQ HEO HOP HCK
set_option maxRecDepth 100000
set_option maxHeartbeats 4000000
set_option linter.unusedSimpArgs false
set_option pp.deepTerms.threshold 6

theorem Ints_ok (xs : List Int) (hn : xs.length ≤ 1000) : ACall Try.prog f_ref09_Ints [.sl 0 1 0 xs.length false, .sl 1 1 0 xs.length false] [some (.arr (rows i1 xs)), some (.arr (rows i1 xs))] fun r A => r = .bool true ∧ A = [some (.arr (rows i1 xs)), some (.arr (rows i1 xs))] := by
  refine acallH ok_ref09_Ints ?_
  have hr := trivial
  simp -dsimp -implicitDefEqProofs (maxSteps := 1000000) (disch := first | exact dis | fail) only [hc_ref09_Ints, go_sem]
  repeat' ((first | (with_reducible first | refine w_if ?_ ?_ | refine w_gt ?_ ?_ | refine w_gf ?_ ?_ | refine w_io ?_ ?_ | refine w_gdt ?_ ?_ | refine w_gdf ?_ ?_ | refine w_ite ?_ ?_) <;> intro h <;> (try rw [h]) <;> replace hr := And.intro h hr <;> replace h := nrm h <;> try (first | (exfalso; omega) | exact (bx h (by assumption)).elim | exact (bx (by assumption) h).elim) | ((with_reducible refine And.intro ?_ ?_); (focus omega))) <;> try simp -dsimp -implicitDefEqProofs (maxSteps := 1000000) (disch := first | exact dis | fail) only [go_sem])
  refine hw_loop xs.length (fun i ρ A => ρ = rg 7 [(0, .sl 0 1 0 xs.length false), (1, .sl 1 1 0 xs.length false), (3, .int .i64 i)] ∧ A = [some (.arr (rows i1 xs)), some (.arr (rows i1 xs))]) ⟨none, rfl, rfl, rfl⟩ ?_
  rintro i ρ A hi ⟨rfl, rfl⟩
  by_cases hlt : i < xs.length
  · have hx : xs[i]? = some xs[i] := List.getElem?_eq_getElem hlt
    generalize xs[i] = x at hx
    have hr := trivial
    simp -dsimp -implicitDefEqProofs (maxSteps := 1000000) (disch := first | exact dis | fail) only [hc_ref09_Ints_b1, Int.toNat_natCast, rows_get, hx, i1, go_sem]
    repeat' ((first | (with_reducible first | refine w_if ?_ ?_ | refine w_gt ?_ ?_ | refine w_gf ?_ ?_ | refine w_io ?_ ?_ | refine w_gdt ?_ ?_ | refine w_gdf ?_ ?_ | refine w_ite ?_ ?_) <;> intro h <;> (try rw [h]) <;> replace hr := And.intro h hr <;> replace h := nrm h <;> try (first | (exfalso; omega) | exact (bx h (by assumption)).elim | exact (bx (by assumption) h).elim) | ((with_reducible refine And.intro ?_ ?_); (focus omega))) <;> try simp -dsimp -implicitDefEqProofs (maxSteps := 1000000) (disch := first | exact dis | fail) only [Int.toNat_natCast, rows_get, hx, i1, go_sem])
    exact ⟨none, rfl, rfl, rfl⟩
  · obtain rfl : i = xs.length := by omega
    have hr := trivial
    simp -dsimp -implicitDefEqProofs (maxSteps := 1000000) (disch := first | exact dis | fail) only [hc_ref09_Ints_b1, go_sem]
    repeat' ((first | (with_reducible first | refine w_if ?_ ?_ | refine w_gt ?_ ?_ | refine w_gf ?_ ?_ | refine w_io ?_ ?_ | refine w_gdt ?_ ?_ | refine w_gdf ?_ ?_ | refine w_ite ?_ ?_) <;> intro h <;> (try rw [h]) <;> replace hr := And.intro h hr <;> replace h := nrm h <;> try (first | (exfalso; omega) | exact (bx h (by assumption)).elim | exact (bx (by assumption) h).elim) | ((with_reducible refine And.intro ?_ ?_); (focus omega))) <;> try simp -dsimp -implicitDefEqProofs (maxSteps := 1000000) (disch := first | exact dis | fail) only [go_sem])
    exact ⟨none, rfl, rfl, rfl⟩
theorem Ints0_ok : PCall Try.prog f_ref09_Ints [.nils, .nils] (.bool true) := pcall_ev tabOk_QIc (by kernel_rfl)
theorem alive_ok : PCall Try.prog f_law22_alive [] (.bool true) := pcall_ev tabOk_QIc (by kernel_rfl)

theorem goT_len (j : Jb) (start e : Int) : ∀ f k, (goT j start e f k).length ≤ f
  | 0, _ => by simp [goT]
  | f + 1, k => by
    unfold goT; split
    · simp
    · have := goT_len j start e f (k + 1); simp; omega
theorem jok {j : Jb} (hs : smallB j = true) (h : jobE j = 0) : JOk j := by
  simp only [smallB, Bool.and_eq_true, decide_eq_true_eq] at hs
  unfold jobE at h
  split at h
  · omega
  · split at h
    · omega
    · rename_i h1 h2
      have hc : ∀ n, ¬ cntB n = false → 0 ≤ n ∧ n ≤ 1099511627776 := fun n hn => by simpa [cntB] using hn
      have hl : ¬ j.frs.length = 0 := fun h => h2 (.inl h)
      have := hc j.count fun h => h2 (.inr (.inl h))
      exact ⟨by omega, hc _ fun h => h2 (.inr (.inr (.inl h))), hc _ fun h => h2 (.inr (.inr (.inr h))), by omega⟩
theorem CycRight_call (j : Jb) (start e : Int) : ACall Try.prog f_law22_CycRight [.agg j.av, .int .i64 start, .int .i64 e] [] fun r _ => r = .bool true := by
  refine acallH ok_law22_CycRight ?_
  by_cases hsm : smallB j = true
  · by_cases hgood : cntB start = true ∧ jobE j = 0
    · obtain ⟨hct, he⟩ := hgood
      have hj := jok hsm he
      have hs : 0 ≤ start ∧ start ≤ 1099511627776 := by simpa [cntB] using hct
      have hNew := New_ok j hj he start hs
      have hJob := Job_ok (newC j start) hj
      have hnj : (newC j start).j = j := rfl
      have hl := hj.l
      have hr := trivial
      simp -dsimp -implicitDefEqProofs (maxSteps := 1000000) (disch := first | exact dis | fail) only [hc_law22_CycRight, Jb.av, hsm, he, CH, hnj, go_sem]
      repeat' ((first | (with_reducible refine PCall.aci (Small_ok j) ?_) | ((with_reducible refine ACall.atE (hNew) [] ?_ ?_ ?_ ?_ ?_); (focus decide); (focus rfl); (focus (simp -dsimp -implicitDefEqProofs (maxSteps := 1000000) (disch := first | exact dis | fail) only [standsL, Jb.av, hsm, he, CH, hnj, go_sem]; done)); (focus (first | rfl | (simp -dsimp -implicitDefEqProofs (maxSteps := 1000000) (disch := first | exact dis | fail) only [Jb.av, hsm, he, CH, hnj, go_sem]; done)))) | (with_reducible refine PCall.aci (RJRight_ok j) ?_) | (with_reducible refine PCall.aci (JRight_ok j) ?_) | (with_reducible first | refine w_if ?_ ?_ | refine w_gt ?_ ?_ | refine w_gf ?_ ?_ | refine w_io ?_ ?_ | refine w_gdt ?_ ?_ | refine w_gdf ?_ ?_ | refine w_ite ?_ ?_) <;> intro h <;> (try rw [h]) <;> replace hr := And.intro h hr <;> replace h := nrm h <;> try (first | (exfalso; omega) | exact (bx h (by assumption)).elim | exact (bx (by assumption) h).elim) | ((with_reducible refine And.intro ?_ ?_); (focus omega))) <;> try simp -dsimp -implicitDefEqProofs (maxSteps := 1000000) (disch := first | exact dis | fail) only [Jb.av, hsm, he, CH, hnj, go_sem])
      · refine hJob.at' [1, 2, 3, 4] (by decide) rfl (by simp only [standsL, CH, hnj, go_sem]) (by simp only [CH, hnj, go_sem]) ?_
        rintro r A ⟨rfl, rfl⟩
        have hT := Times_ok j hj he start e hs
        have hR := RTimes_ok j hj start e he hs
        have alive := alive_ok
        have hS := Same_ok j.frs (by omega) false 0 rfl
        have hlen : (times j start e).length ≤ 1000 := goT_len j start e 1000 1
        generalize times j start e = xs at hT hR hlen
        by_cases ht : xs = []
        · subst ht
          rw [(ls_nil (l := 0)).1, (ls_nil (l := 0)).2] at hT hR
          have hr := trivial
          simp -dsimp -implicitDefEqProofs (maxSteps := 1000000) (disch := first | exact dis | fail) only [CH, hnj, Jb.av, go_sem]
          repeat' ((first | ((with_reducible refine ACall.atE (hS) [6] ?_ ?_ ?_ ?_ ?_); (focus decide); (focus rfl); (focus (simp -dsimp -implicitDefEqProofs (maxSteps := 1000000) (disch := first | exact dis | fail) only [standsL, CH, hnj, Jb.av, go_sem]; done)); (focus (first | rfl | (simp -dsimp -implicitDefEqProofs (maxSteps := 1000000) (disch := first | exact dis | fail) only [CH, hnj, Jb.av, go_sem]; done)))) | ((with_reducible refine ACall.atE (hT) [] ?_ ?_ ?_ ?_ ?_); (focus decide); (focus rfl); (focus (simp -dsimp -implicitDefEqProofs (maxSteps := 1000000) (disch := first | exact dis | fail) only [standsL, CH, hnj, Jb.av, go_sem]; done)); (focus (first | rfl | (simp -dsimp -implicitDefEqProofs (maxSteps := 1000000) (disch := first | exact dis | fail) only [CH, hnj, Jb.av, go_sem]; done)))) | ((with_reducible refine ACall.atE (hR) [] ?_ ?_ ?_ ?_ ?_); (focus decide); (focus rfl); (focus (simp -dsimp -implicitDefEqProofs (maxSteps := 1000000) (disch := first | exact dis | fail) only [standsL, CH, hnj, Jb.av, go_sem]; done)); (focus (first | rfl | (simp -dsimp -implicitDefEqProofs (maxSteps := 1000000) (disch := first | exact dis | fail) only [CH, hnj, Jb.av, go_sem]; done)))) | (with_reducible refine PCall.aci Ints0_ok ?_) | (with_reducible refine PCall.aci alive ?_) | (with_reducible first | refine w_if ?_ ?_ | refine w_gt ?_ ?_ | refine w_gf ?_ ?_ | refine w_io ?_ ?_ | refine w_gdt ?_ ?_ | refine w_gdf ?_ ?_ | refine w_ite ?_ ?_) <;> intro h <;> (try rw [h]) <;> replace hr := And.intro h hr <;> replace h := nrm h <;> try (first | (exfalso; omega) | exact (bx h (by assumption)).elim | exact (bx (by assumption) h).elim) | ((with_reducible refine And.intro ?_ ?_); (focus omega))) <;> try simp -dsimp -implicitDefEqProofs (maxSteps := 1000000) (disch := first | exact dis | fail) only [CH, hnj, Jb.av, go_sem])
          exact ⟨none, rfl, rfl⟩
        · rw [(ls_cons (l := 0) ht).1, (ls_cons (l := 0) ht).2] at hT hR
          have hr := trivial
          simp -dsimp -implicitDefEqProofs (maxSteps := 1000000) (disch := first | exact dis | fail) only [CH, hnj, Jb.av, go_sem]
          repeat' ((first | ((with_reducible refine ACall.atE (hS) [6] ?_ ?_ ?_ ?_ ?_); (focus decide); (focus rfl); (focus (simp -dsimp -implicitDefEqProofs (maxSteps := 1000000) (disch := first | exact dis | fail) only [standsL, CH, hnj, Jb.av, go_sem]; done)); (focus (first | rfl | (simp -dsimp -implicitDefEqProofs (maxSteps := 1000000) (disch := first | exact dis | fail) only [CH, hnj, Jb.av, go_sem]; done)))) | ((with_reducible refine ACall.atE (hT) [] ?_ ?_ ?_ ?_ ?_); (focus decide); (focus rfl); (focus (simp -dsimp -implicitDefEqProofs (maxSteps := 1000000) (disch := first | exact dis | fail) only [standsL, CH, hnj, Jb.av, go_sem]; done)); (focus (first | rfl | (simp -dsimp -implicitDefEqProofs (maxSteps := 1000000) (disch := first | exact dis | fail) only [CH, hnj, Jb.av, go_sem]; done)))) | ((with_reducible refine ACall.atE (hR) [] ?_ ?_ ?_ ?_ ?_); (focus decide); (focus rfl); (focus (simp -dsimp -implicitDefEqProofs (maxSteps := 1000000) (disch := first | exact dis | fail) only [standsL, CH, hnj, Jb.av, go_sem]; done)); (focus (first | rfl | (simp -dsimp -implicitDefEqProofs (maxSteps := 1000000) (disch := first | exact dis | fail) only [CH, hnj, Jb.av, go_sem]; done)))) | ((with_reducible refine ACall.atE (Ints_ok xs hlen) [7, 8] ?_ ?_ ?_ ?_ ?_); (focus decide); (focus rfl); (focus (simp -dsimp -implicitDefEqProofs (maxSteps := 1000000) (disch := first | exact dis | fail) only [standsL, CH, hnj, Jb.av, go_sem]; done)); (focus (first | rfl | (simp -dsimp -implicitDefEqProofs (maxSteps := 1000000) (disch := first | exact dis | fail) only [CH, hnj, Jb.av, go_sem]; done)))) | (with_reducible refine PCall.aci alive ?_) | (with_reducible first | refine w_if ?_ ?_ | refine w_gt ?_ ?_ | refine w_gf ?_ ?_ | refine w_io ?_ ?_ | refine w_gdt ?_ ?_ | refine w_gdf ?_ ?_ | refine w_ite ?_ ?_) <;> intro h <;> (try rw [h]) <;> replace hr := And.intro h hr <;> replace h := nrm h <;> try (first | (exfalso; omega) | exact (bx h (by assumption)).elim | exact (bx (by assumption) h).elim) | ((with_reducible refine And.intro ?_ ?_); (focus omega))) <;> try simp -dsimp -implicitDefEqProofs (maxSteps := 1000000) (disch := first | exact dis | fail) only [CH, hnj, Jb.av, go_sem])
          exact ⟨none, rfl, rfl⟩
    · have alive := alive_ok
      by_cases hct : cntB start = true
      · have hne : jobE j ≠ 0 := fun h' => hgood ⟨hct, h'⟩
        have hs : 0 ≤ start ∧ start ≤ 1099511627776 := by simpa [cntB] using hct
        have hN := NewE_ok j start (.inr hne)
        rw [if_pos hct] at hN
        have hr := trivial
        simp -dsimp -implicitDefEqProofs (maxSteps := 1000000) (disch := first | exact dis | fail) only [hc_law22_CycRight, Jb.av, hsm, hne, ne_eq, not_false_eq_true, go_sem]
        repeat' ((first | (with_reducible refine PCall.aci (Small_ok j) ?_) | (with_reducible refine PCall.aci hN ?_) | (with_reducible refine PCall.aci (RJRight_ok j) ?_) | (with_reducible refine PCall.aci (JRight_ok j) ?_) | (with_reducible refine PCall.aci (TimesE_ok j start e (.inr hne)) ?_) | (with_reducible refine PCall.aci (RTimesE_ok j start e (.inr hne)) ?_) | (with_reducible refine PCall.aci Ints0_ok ?_) | (with_reducible refine PCall.aci alive ?_) | (with_reducible first | refine w_if ?_ ?_ | refine w_gt ?_ ?_ | refine w_gf ?_ ?_ | refine w_io ?_ ?_ | refine w_gdt ?_ ?_ | refine w_gdf ?_ ?_ | refine w_ite ?_ ?_) <;> intro h <;> (try rw [h]) <;> replace hr := And.intro h hr <;> replace h := nrm h <;> try (first | (exfalso; omega) | exact (bx h (by assumption)).elim | exact (bx (by assumption) h).elim) | ((with_reducible refine And.intro ?_ ?_); (focus omega))) <;> try simp -dsimp -implicitDefEqProofs (maxSteps := 1000000) (disch := first | exact dis | fail) only [Jb.av, hsm, hne, ne_eq, not_false_eq_true, go_sem])
        exact ⟨none, rfl, rfl⟩
      · have hct : cntB start = false := by simpa using hct
        have hs : start < 0 ∨ 1099511627776 < start := by simp [cntB] at hct; omega
        have hN := NewE_ok j start (.inl hct)
        rw [if_neg (by simp [hct])] at hN
        have hr := trivial
        simp -dsimp -implicitDefEqProofs (maxSteps := 1000000) (disch := first | exact dis | fail) only [hc_law22_CycRight, Jb.av, hsm, show ((2 : Int) = 0) = False by simp, not_false_eq_true, go_sem]
        repeat' ((first | (with_reducible refine PCall.aci (Small_ok j) ?_) | (with_reducible refine PCall.aci hN ?_) | (with_reducible refine PCall.aci (RJRight_ok j) ?_) | (with_reducible refine PCall.aci (JRight_ok j) ?_) | (with_reducible refine PCall.aci (TimesE_ok j start e (.inl hct)) ?_) | (with_reducible refine PCall.aci (RTimesE_ok j start e (.inl hct)) ?_) | (with_reducible refine PCall.aci Ints0_ok ?_) | (with_reducible refine PCall.aci alive ?_) | (with_reducible first | refine w_if ?_ ?_ | refine w_gt ?_ ?_ | refine w_gf ?_ ?_ | refine w_io ?_ ?_ | refine w_gdt ?_ ?_ | refine w_gdf ?_ ?_ | refine w_ite ?_ ?_) <;> intro h <;> (try rw [h]) <;> replace hr := And.intro h hr <;> replace h := nrm h <;> try (first | (exfalso; omega) | exact (bx h (by assumption)).elim | exact (bx (by assumption) h).elim) | ((with_reducible refine And.intro ?_ ?_); (focus omega))) <;> try simp -dsimp -implicitDefEqProofs (maxSteps := 1000000) (disch := first | exact dis | fail) only [Jb.av, hsm, show ((2 : Int) = 0) = False by simp, not_false_eq_true, go_sem])
        exact ⟨none, rfl, rfl⟩
  · have hsm : smallB j = false := by simpa using hsm
    have hr := trivial
    simp -dsimp -implicitDefEqProofs (maxSteps := 1000000) (disch := first | exact dis | fail) only [hc_law22_CycRight, Jb.av, hsm, go_sem]
    repeat' ((first | (with_reducible refine PCall.aci (Small_ok j) ?_) | (with_reducible refine PCall.aci alive_ok ?_) | (with_reducible first | refine w_if ?_ ?_ | refine w_gt ?_ ?_ | refine w_gf ?_ ?_ | refine w_io ?_ ?_ | refine w_gdt ?_ ?_ | refine w_gdf ?_ ?_ | refine w_ite ?_ ?_) <;> intro h <;> (try rw [h]) <;> replace hr := And.intro h hr <;> replace h := nrm h <;> try (first | (exfalso; omega) | exact (bx h (by assumption)).elim | exact (bx (by assumption) h).elim) | ((with_reducible refine And.intro ?_ ?_); (focus omega))) <;> try simp -dsimp -implicitDefEqProofs (maxSteps := 1000000) (disch := first | exact dis | fail) only [Jb.av, hsm, go_sem])
    exact ⟨none, rfl, rfl⟩
end Go.Proofs.Ytkkccabchhnebaa
end
