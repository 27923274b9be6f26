/- QcB, put together. Conditions: none. -/
import Derived.Test.YtkkccabchhnebaaNQcA
/- cyc: a job that was begun. -/
section
namespace Go.Proofs.Ytkkccabchhnebaa
open Go.SB
attribute [local irreducible] HW HSS HAS HRQ HEO HOP HCK
set_option maxRecDepth 100000
set_option maxHeartbeats 4000000
set_option linter.unusedSimpArgs false
set_option pp.deepTerms.threshold 6

/-- How many come at first. -/
def Jb.n (j : Jb) : Int := if 0 < j.first then j.count else 0
/-- The k-th time; -1: there is none. -/
def tmAt (j : Jb) (start : Int) (k : Nat) : Int := if (k : Int) ≤ j.n then start + j.first * k else if j.second = 0 then -1 else start + j.first * j.n + j.second * (k - j.n)
structure JOk (j : Jb) : Prop where
  c : 0 ≤ j.count ∧ j.count ≤ 200
  f : 0 ≤ j.first ∧ j.first ≤ 1099511627776
  s : 0 ≤ j.second ∧ j.second ≤ 1099511627776
  l : 0 < j.frs.length ∧ j.frs.length ≤ 256
theorem JOk.n {j : Jb} (h : JOk j) : 0 ≤ j.n ∧ j.n ≤ 200 := by
  have := h.c
  unfold Jb.n; split <;> omega
theorem mul_le40 {a : Int} {n : Int} (ha : 0 ≤ a ∧ a ≤ 1099511627776) (hn : 0 ≤ n ∧ n ≤ 1000) : 0 ≤ a * n ∧ a * n ≤ 1099511627776000 := by
  have h1 : 0 ≤ a * n := Int.mul_nonneg ha.1 hn.1
  have h2 : a * n ≤ 1099511627776 * n := Int.mul_le_mul_of_nonneg_right ha.2 hn.1
  omega
theorem At_ok (j : Jb) (hj : JOk j) (start : Int) (hs : 0 ≤ start ∧ start ≤ 1099511627776) (k : Nat) (hk : k ≤ 1000) : PCall Try.prog f_ref22_At [.agg j.av, .int .i64 start, .int .i64 k] (.int .i64 (tmAt j start k)) := by
  refine pcallI ok_ref22_At ?_
  have hc := hj.c
  have hf := hj.f
  have hsd := hj.s
  have hn := hj.n
  obtain ⟨n, hnn⟩ : ∃ n : Nat, j.n = n := ⟨j.n.toNat, by omega⟩
  have m1 := mul_le40 hf (n := (n : Int)) (by omega)
  have e1 : (if 0 < j.first then j.count else 0) = (n : Int) := hnn
  by_cases h1 : 0 < j.first
  · have hcn : j.count = n := by rw [if_pos h1] at e1; exact e1
    by_cases h2 : k ≤ n
    · have hr := trivial
      simp -dsimp -implicitDefEqProofs (maxSteps := 1000000) (disch := first | exact dis | fail) only [hc_ref22_At, Jb.av, h1, hcn, go_sem]
      repeat' ((first | (with_reducible refine PCall.aci (far_ok start j.first k (by omega) hf hk) ?_) | (with_reducible first | refine w_if ?_ ?_ | refine w_gt ?_ ?_ | refine w_gf ?_ ?_ | refine w_io ?_ ?_ | refine w_gdt ?_ ?_ | refine w_gdf ?_ ?_ | refine w_ite ?_ ?_) <;> intro h <;> (try rw [h]) <;> replace hr := And.intro h hr <;> replace h := nrm h <;> try (first | (exfalso; omega) | exact (bx h (by assumption)).elim | exact (bx (by assumption) h).elim) | ((with_reducible refine And.intro ?_ ?_); (focus omega))) <;> try simp -dsimp -implicitDefEqProofs (maxSteps := 1000000) (disch := first | exact dis | fail) only [Jb.av, h1, hcn, go_sem])
      simp only [tmAt, hnn]; rw [if_pos (by omega)]
    · obtain ⟨m, hm⟩ : ∃ m : Nat, k = n + m := ⟨k - n, by omega⟩
      have hmn : ((n + m : Nat) : Int) - n = m := by omega
      subst hm
      by_cases h0 : n = 0
      · subst h0
        have hr := trivial
        simp -dsimp -implicitDefEqProofs (maxSteps := 1000000) (disch := first | exact dis | fail) only [hc_ref22_At, Jb.av, h1, hcn, hmn, Int.sub_zero, go_sem]
        repeat' ((first | (with_reducible refine PCall.aci (far_ok start j.first 0 (by omega) hf (by omega)) ?_) | (with_reducible refine PCall.aci (far_ok start j.second m (by omega) hsd (by omega)) ?_) | (with_reducible first | refine w_if ?_ ?_ | refine w_gt ?_ ?_ | refine w_gf ?_ ?_ | refine w_io ?_ ?_ | refine w_gdt ?_ ?_ | refine w_gdf ?_ ?_ | refine w_ite ?_ ?_) <;> intro h <;> (try rw [h]) <;> replace hr := And.intro h hr <;> replace h := nrm h <;> try (first | (exfalso; omega) | exact (bx h (by assumption)).elim | exact (bx (by assumption) h).elim) | ((with_reducible refine And.intro ?_ ?_); (focus omega))) <;> try simp -dsimp -implicitDefEqProofs (maxSteps := 1000000) (disch := first | exact dis | fail) only [Jb.av, h1, hcn, hmn, Int.sub_zero, go_sem])
        all_goals simp only [tmAt, hnn]; rw [if_neg (by omega)]
        all_goals (first | (rw [if_pos (by omega)]; done) | (simp_all; done) | skip)
      · have hr := trivial
        simp -dsimp -implicitDefEqProofs (maxSteps := 1000000) (disch := first | exact dis | fail) only [hc_ref22_At, Jb.av, h1, hcn, hmn, go_sem]
        repeat' ((first | (with_reducible refine PCall.aci (far_ok start j.first n (by omega) hf (by omega)) ?_) | (with_reducible refine PCall.aci (far_ok (start + j.first * n) j.second m (by omega) hsd (by omega)) ?_) | (with_reducible first | refine w_if ?_ ?_ | refine w_gt ?_ ?_ | refine w_gf ?_ ?_ | refine w_io ?_ ?_ | refine w_gdt ?_ ?_ | refine w_gdf ?_ ?_ | refine w_ite ?_ ?_) <;> intro h <;> (try rw [h]) <;> replace hr := And.intro h hr <;> replace h := nrm h <;> try (first | (exfalso; omega) | exact (bx h (by assumption)).elim | exact (bx (by assumption) h).elim) | ((with_reducible refine And.intro ?_ ?_); (focus omega))) <;> try simp -dsimp -implicitDefEqProofs (maxSteps := 1000000) (disch := first | exact dis | fail) only [Jb.av, h1, hcn, hmn, go_sem])
        all_goals simp only [tmAt, hnn]; rw [if_neg (by omega)]
        all_goals (first | (rw [if_pos (by omega)]; done) | (simp_all; done) | skip)
  · have hcn : n = 0 := by rw [if_neg h1] at e1; omega
    subst hcn
    by_cases h2 : k = 0
    · subst h2
      have hr := trivial
      simp -dsimp -implicitDefEqProofs (maxSteps := 1000000) (disch := first | exact dis | fail) only [hc_ref22_At, Jb.av, h1, go_sem]
      repeat' ((first | (with_reducible refine PCall.aci (far_ok start j.first 0 (by omega) hf (by omega)) ?_) | (with_reducible first | refine w_if ?_ ?_ | refine w_gt ?_ ?_ | refine w_gf ?_ ?_ | refine w_io ?_ ?_ | refine w_gdt ?_ ?_ | refine w_gdf ?_ ?_ | refine w_ite ?_ ?_) <;> intro h <;> (try rw [h]) <;> replace hr := And.intro h hr <;> replace h := nrm h <;> try (first | (exfalso; omega) | exact (bx h (by assumption)).elim | exact (bx (by assumption) h).elim) | ((with_reducible refine And.intro ?_ ?_); (focus omega))) <;> try simp -dsimp -implicitDefEqProofs (maxSteps := 1000000) (disch := first | exact dis | fail) only [Jb.av, h1, go_sem])
      simp [tmAt, hnn]
    · have hr := trivial
      simp -dsimp -implicitDefEqProofs (maxSteps := 1000000) (disch := first | exact dis | fail) only [hc_ref22_At, Jb.av, h1, Int.sub_zero, go_sem]
      repeat' ((first | (with_reducible refine PCall.aci (far_ok start j.first 0 (by omega) hf (by omega)) ?_) | (with_reducible refine PCall.aci (far_ok start j.second k (by omega) hsd (by omega)) ?_) | (with_reducible first | refine w_if ?_ ?_ | refine w_gt ?_ ?_ | refine w_gf ?_ ?_ | refine w_io ?_ ?_ | refine w_gdt ?_ ?_ | refine w_gdf ?_ ?_ | refine w_ite ?_ ?_) <;> intro h <;> (try rw [h]) <;> replace hr := And.intro h hr <;> replace h := nrm h <;> try (first | (exfalso; omega) | exact (bx h (by assumption)).elim | exact (bx (by assumption) h).elim) | ((with_reducible refine And.intro ?_ ?_); (focus omega))) <;> try simp -dsimp -implicitDefEqProofs (maxSteps := 1000000) (disch := first | exact dis | fail) only [Jb.av, h1, Int.sub_zero, go_sem])
      all_goals simp only [tmAt, hnn]; rw [if_neg (by omega)]
      all_goals (first | (rw [if_pos (by omega)]; done) | (simp_all; done) | skip)
instance : RowF frv 4 := ⟨fun _ => ⟨rfl, rfl⟩⟩
theorem Clone_ok (fs : List Fr) (hn : 0 < fs.length ∧ fs.length ≤ 1000) : ACall Try.prog f_slices_Clone_of_Frame [.ps 4 (rows frv fs)] [] fun r A => r = .sl 0 4 0 fs.length false ∧ A = [some (.arr (rows frv fs))] := by
  refine acallH ok_slices_Clone_of_Frame ?_
  have hr := trivial
  simp -dsimp -implicitDefEqProofs (maxSteps := 1000000) (disch := first | exact dis | fail) only [hc_slices_Clone_of_Frame, eqv_slice, go_sem]
  repeat' ((first | (with_reducible first | refine w_if ?_ ?_ | refine w_gt ?_ ?_ | refine w_gf ?_ ?_ | refine w_io ?_ ?_ | refine w_gdt ?_ ?_ | refine w_gdf ?_ ?_ | refine w_ite ?_ ?_) <;> intro h <;> (try rw [h]) <;> replace hr := And.intro h hr <;> replace h := nrm h <;> try (first | (exfalso; omega) | exact (bx h (by assumption)).elim | exact (bx (by assumption) h).elim) | ((with_reducible refine And.intro ?_ ?_); (focus omega))) <;> try simp -dsimp -implicitDefEqProofs (maxSteps := 1000000) (disch := first | exact dis | fail) only [eqv_slice, go_sem])
  exact ⟨some [1], rfl, rfl, by simp only [foldA_eq, go_sem]⟩
theorem CloneS_ok (fs : List Fr) (tt : Bool) (hn : 0 < fs.length ∧ fs.length ≤ 1000) : ACall Try.prog f_slices_Clone_of_Frame [.sl 0 4 0 fs.length tt] [some (.arr (rows frv fs))] fun r A => r = .sl 1 4 0 fs.length false ∧ A = [some (.arr (rows frv fs)), some (.arr (rows frv fs))] := by
  refine acallH ok_slices_Clone_of_Frame ?_
  have hr := trivial
  simp -dsimp -implicitDefEqProofs (maxSteps := 1000000) (disch := first | exact dis | fail) only [hc_slices_Clone_of_Frame, eqv_slice, go_sem]
  repeat' ((first | (with_reducible first | refine w_if ?_ ?_ | refine w_gt ?_ ?_ | refine w_gf ?_ ?_ | refine w_io ?_ ?_ | refine w_gdt ?_ ?_ | refine w_gdf ?_ ?_ | refine w_ite ?_ ?_) <;> intro h <;> (try rw [h]) <;> replace hr := And.intro h hr <;> replace h := nrm h <;> try (first | (exfalso; omega) | exact (bx h (by assumption)).elim | exact (bx (by assumption) h).elim) | ((with_reducible refine And.intro ?_ ?_); (focus omega))) <;> try simp -dsimp -implicitDefEqProofs (maxSteps := 1000000) (disch := first | exact dis | fail) only [eqv_slice, go_sem])
  exact ⟨some [2], rfl, rfl, by simp only [foldA_eq, go_sem]⟩
theorem turns_ok (fs : List Fr) : ACall Try.prog f_cyc_turns [.sl 0 4 0 fs.length false] [some (.arr (rows frv fs))] fun r A => r = .fn f_cyc_turns_1 [] [.ptr 1 0, .ptr 2 0] ∧ A = [some (.arr (rows frv fs)), some (.cells [.sl 0 4 0 fs.length false]), some (.cells [.int .i64 0])] := by
  refine acallH ok_cyc_turns ?_
  have hr := trivial
  simp -dsimp -implicitDefEqProofs (maxSteps := 1000000) (disch := first | exact dis | fail) only [hc_cyc_turns, go_sem]
  repeat' ((first | (with_reducible first | refine w_if ?_ ?_ | refine w_gt ?_ ?_ | refine w_gf ?_ ?_ | refine w_io ?_ ?_ | refine w_gdt ?_ ?_ | refine w_gdf ?_ ?_ | refine w_ite ?_ ?_) <;> intro h <;> (try rw [h]) <;> replace hr := And.intro h hr <;> replace h := nrm h <;> try (first | (exfalso; omega) | exact (bx h (by assumption)).elim | exact (bx (by assumption) h).elim) | ((with_reducible refine And.intro ?_ ?_); (focus omega))) <;> try simp -dsimp -implicitDefEqProofs (maxSteps := 1000000) (disch := first | exact dis | fail) only [go_sem])
  exact ⟨none, rfl, rfl, rfl⟩
/-- A job that was begun. -/
structure Cy where
  j : Jb
  left : Int
  due : Int
  set : Bool
  at' : Int
def CH (c : Cy) : AHeap := [some (.cells [.int .i64 c.j.id, .int .i64 c.j.count, .int .i64 c.j.first, .int .i64 c.j.second, .sl 1 4 0 c.j.frs.length false, .bool c.j.now, .bool c.j.tell, .fn f_cyc_turns_1 [] [.ptr 2 0, .ptr 3 0], .bool false, .int .i64 c.left, .int .i64 c.due, .bool c.set]),
  some (.arr (rows frv c.j.frs)), some (.cells [.sl 1 4 0 c.j.frs.length false]), some (.cells [.int .i64 c.at'])]
def planC (c : Cy) (t : Int) : Cy := { c with due := t + (if 0 < c.left then c.j.first else c.j.second), set := decide (0 < (if 0 < c.left then c.j.first else c.j.second)) }
theorem plan_ok (c : Cy) (hj : JOk c.j) (t : Int) (ht : 0 ≤ t ∧ t ≤ 2305843009213693952) : ACall Try.prog f_cyc_Cyc_plan [.ptr 0 0, .int .i64 t] (CH c) fun r A => r = .tup [] ∧ A = CH (planC c t) := by
  refine acallH ok_cyc_Cyc_plan ?_
  have hf := hj.f
  have hs := hj.s
  have hr := trivial
  simp -dsimp -implicitDefEqProofs (maxSteps := 1000000) (disch := first | exact dis | fail) only [hc_cyc_Cyc_plan, CH, go_sem]
  repeat' ((first | (with_reducible first | refine w_if ?_ ?_ | refine w_gt ?_ ?_ | refine w_gf ?_ ?_ | refine w_io ?_ ?_ | refine w_gdt ?_ ?_ | refine w_gdf ?_ ?_ | refine w_ite ?_ ?_) <;> intro h <;> (try rw [h]) <;> replace hr := And.intro h hr <;> replace h := nrm h <;> try (first | (exfalso; omega) | exact (bx h (by assumption)).elim | exact (bx (by assumption) h).elim) | ((with_reducible refine And.intro ?_ ?_); (focus omega))) <;> try simp -dsimp -implicitDefEqProofs (maxSteps := 1000000) (disch := first | exact dis | fail) only [CH, go_sem])
  all_goals refine ⟨none, rfl, rfl, ?_⟩
  · simp_all [CH, planC, foldAn]
  · have hc : ¬ 0 < c.left := by omega
    simp [CH, planC, foldAn, hc]
theorem turns1_ok (c : Cy) (hj : JOk c.j) (ha : 0 ≤ c.at' ∧ c.at' < c.j.frs.length) : ACall Try.prog f_cyc_turns_1 [.ptr 2 0, .ptr 3 0] (CH c) fun r A => r = .agg (c.j.frs.getD c.at'.toNat ⟨0, 0, 0, []⟩).av ∧ A = CH { c with at' := (c.at' + 1).tmod c.j.frs.length } := by
  refine acallH ok_cyc_turns_1 ?_
  have hl := hj.l
  have hx : c.j.frs[c.at'.toNat]? = some (c.j.frs.getD c.at'.toNat ⟨0, 0, 0, []⟩) := by
    rw [List.getD, List.getElem?_eq_getElem (by omega)]; rfl
  generalize c.j.frs.getD c.at'.toNat ⟨0, 0, 0, []⟩ = f at hx
  have hr := trivial
  simp -dsimp -implicitDefEqProofs (maxSteps := 1000000) (disch := first | exact dis | fail) only [hc_cyc_turns_1, CH, rows_get, hx, frv_eq, Fr.av, ne_eq, go_sem]
  repeat' ((first | (with_reducible first | refine w_if ?_ ?_ | refine w_gt ?_ ?_ | refine w_gf ?_ ?_ | refine w_io ?_ ?_ | refine w_gdt ?_ ?_ | refine w_gdf ?_ ?_ | refine w_ite ?_ ?_) <;> intro h <;> (try rw [h]) <;> replace hr := And.intro h hr <;> replace h := nrm h <;> try (first | (exfalso; omega) | exact (bx h (by assumption)).elim | exact (bx (by assumption) h).elim) | ((with_reducible refine And.intro ?_ ?_); (focus omega))) <;> try simp -dsimp -implicitDefEqProofs (maxSteps := 1000000) (disch := first | exact dis | fail) only [CH, rows_get, hx, frv_eq, Fr.av, ne_eq, go_sem])
  exact ⟨some [], rfl, rfl, by simp only [foldA_eq, go_sem]⟩
def newC (j : Jb) (start : Int) : Cy := planC ⟨j, j.n, 0, false, 0⟩ start
theorem New_ok (j : Jb) (hj : JOk j) (he : jobE j = 0) (start : Int) (hs : 0 ≤ start ∧ start ≤ 1099511627776) : ACall Try.prog f_cyc_New [.agg j.av, .int .i64 start] [] fun r A => r = .tup [.ptr 0 0, .int .i64 0] ∧ A = CH (newC j start) := by
  refine acallH ok_cyc_New ?_
  have hl := hj.l
  have hct : cntB start = true := by simp [cntB, hs]
  have hr := trivial
  simp -dsimp -implicitDefEqProofs (maxSteps := 1000000) (disch := first | exact dis | fail) only [hc_cyc_New, Jb.av, hct, he, CH, go_sem]
  repeat' ((first | (with_reducible refine PCall.aci (count_ok start) ?_) | (with_reducible refine PCall.aci (JRight_ok j) ?_) | ((with_reducible refine ACall.atE (Clone_ok j.frs ⟨hl.1, by omega⟩) [] ?_ ?_ ?_ ?_ ?_); (focus decide); (focus rfl); (focus (simp -dsimp -implicitDefEqProofs (maxSteps := 1000000) (disch := first | exact dis | fail) only [standsL, Jb.av, hct, he, CH, go_sem]; done)); (focus (first | rfl | (simp -dsimp -implicitDefEqProofs (maxSteps := 1000000) (disch := first | exact dis | fail) only [Jb.av, hct, he, CH, go_sem]; done)))) | ((with_reducible refine ACall.atE (turns_ok j.frs) [1] ?_ ?_ ?_ ?_ ?_); (focus decide); (focus rfl); (focus (simp -dsimp -implicitDefEqProofs (maxSteps := 1000000) (disch := first | exact dis | fail) only [standsL, Jb.av, hct, he, CH, go_sem]; done)); (focus (first | rfl | (simp -dsimp -implicitDefEqProofs (maxSteps := 1000000) (disch := first | exact dis | fail) only [Jb.av, hct, he, CH, go_sem]; done)))) | ((with_reducible refine ACall.atE (plan_ok ⟨j, j.count, 0, false, 0⟩ hj start (by omega)) [2, 1, 3, 4] ?_ ?_ ?_ ?_ ?_); (focus decide); (focus rfl); (focus (simp -dsimp -implicitDefEqProofs (maxSteps := 1000000) (disch := first | exact dis | fail) only [standsL, Jb.av, hct, he, CH, go_sem]; done)); (focus (first | rfl | (simp -dsimp -implicitDefEqProofs (maxSteps := 1000000) (disch := first | exact dis | fail) only [Jb.av, hct, he, CH, go_sem]; done)))) | ((with_reducible refine ACall.atE (plan_ok ⟨j, 0, 0, false, 0⟩ hj start (by omega)) [2, 1, 3, 4] ?_ ?_ ?_ ?_ ?_); (focus decide); (focus rfl); (focus (simp -dsimp -implicitDefEqProofs (maxSteps := 1000000) (disch := first | exact dis | fail) only [standsL, Jb.av, hct, he, CH, go_sem]; done)); (focus (first | rfl | (simp -dsimp -implicitDefEqProofs (maxSteps := 1000000) (disch := first | exact dis | fail) only [Jb.av, hct, he, CH, go_sem]; done)))) | (with_reducible first | refine w_if ?_ ?_ | refine w_gt ?_ ?_ | refine w_gf ?_ ?_ | refine w_io ?_ ?_ | refine w_gdt ?_ ?_ | refine w_gdf ?_ ?_ | refine w_ite ?_ ?_) <;> intro h <;> (try rw [h]) <;> replace hr := And.intro h hr <;> replace h := nrm h <;> try (first | (exfalso; omega) | exact (bx h (by assumption)).elim | exact (bx (by assumption) h).elim) | ((with_reducible refine And.intro ?_ ?_); (focus omega))) <;> try simp -dsimp -implicitDefEqProofs (maxSteps := 1000000) (disch := first | exact dis | fail) only [Jb.av, hct, he, CH, go_sem])
  · have e : j.n = j.count := if_pos ‹_›
    refine ⟨some [2, 1, 3, 4], rfl, rfl, ?_⟩
    simp only [foldA_eq, newC, e, planC, CH, go_sem]
  · have e : j.n = 0 := if_neg ‹_›
    refine ⟨some [2, 1, 3, 4], rfl, rfl, ?_⟩
    simp only [foldA_eq, newC, e, planC, CH, go_sem]
theorem NewE_ok (j : Jb) (start : Int) (h : cntB start = false ∨ jobE j ≠ 0) : PCall Try.prog f_cyc_New [.agg j.av, .int .i64 start] (.tup [.nilp, .int .i64 (if cntB start then jobE j else 2)]) := by
  refine pcallI ok_cyc_New ?_
  by_cases hct : cntB start = true
  · have he : jobE j ≠ 0 := by simpa [hct] using h
    have hr := trivial
    simp -dsimp -implicitDefEqProofs (maxSteps := 1000000) (disch := first | exact dis | fail) only [hc_cyc_New, Jb.av, hct, he, ne_eq, go_sem]
    repeat' ((first | (with_reducible refine PCall.aci (count_ok start) ?_) | (with_reducible refine PCall.aci (JRight_ok j) ?_) | (with_reducible first | refine w_if ?_ ?_ | refine w_gt ?_ ?_ | refine w_gf ?_ ?_ | refine w_io ?_ ?_ | refine w_gdt ?_ ?_ | refine w_gdf ?_ ?_ | refine w_ite ?_ ?_) <;> intro h <;> (try rw [h]) <;> replace hr := And.intro h hr <;> replace h := nrm h <;> try (first | (exfalso; omega) | exact (bx h (by assumption)).elim | exact (bx (by assumption) h).elim) | ((with_reducible refine And.intro ?_ ?_); (focus omega))) <;> try simp -dsimp -implicitDefEqProofs (maxSteps := 1000000) (disch := first | exact dis | fail) only [Jb.av, hct, he, ne_eq, go_sem])
  · have hct : cntB start = false := by simpa using hct
    have hr := trivial
    simp -dsimp -implicitDefEqProofs (maxSteps := 1000000) (disch := first | exact dis | fail) only [hc_cyc_New, Jb.av, hct, Bool.false_eq_true, go_sem]
    repeat' ((first | (with_reducible refine PCall.aci (count_ok start) ?_) | (with_reducible first | refine w_if ?_ ?_ | refine w_gt ?_ ?_ | refine w_gf ?_ ?_ | refine w_io ?_ ?_ | refine w_gdt ?_ ?_ | refine w_gdf ?_ ?_ | refine w_ite ?_ ?_) <;> intro h <;> (try rw [h]) <;> replace hr := And.intro h hr <;> replace h := nrm h <;> try (first | (exfalso; omega) | exact (bx h (by assumption)).elim | exact (bx (by assumption) h).elim) | ((with_reducible refine And.intro ?_ ?_); (focus omega))) <;> try simp -dsimp -implicitDefEqProofs (maxSteps := 1000000) (disch := first | exact dis | fail) only [Jb.av, hct, Bool.false_eq_true, go_sem])
/-- The job again. -/
theorem Job_ok (c : Cy) (hj : JOk c.j) : ACall Try.prog f_cyc_Cyc_Job [.ptr 0 0] (CH c) fun r A => r = .agg [.int .i64 c.j.id, .int .i64 c.j.count, .int .i64 c.j.first, .int .i64 c.j.second, .sl 4 4 0 c.j.frs.length false, .bool c.j.now, .bool c.j.tell] ∧ A = CH c ++ [some (.arr (rows frv c.j.frs))] := by
  refine acallH ok_cyc_Cyc_Job ?_
  have hl := hj.l
  have hr := trivial
  simp -dsimp -implicitDefEqProofs (maxSteps := 1000000) (disch := first | exact dis | fail) only [hc_cyc_Cyc_Job, CH, eqv_ptr, go_sem]
  repeat' ((first | ((with_reducible refine ACall.atE (CloneS_ok c.j.frs false ⟨hl.1, by omega⟩) [1] ?_ ?_ ?_ ?_ ?_); (focus decide); (focus rfl); (focus (simp -dsimp -implicitDefEqProofs (maxSteps := 1000000) (disch := first | exact dis | fail) only [standsL, CH, eqv_ptr, go_sem]; done)); (focus (first | rfl | (simp -dsimp -implicitDefEqProofs (maxSteps := 1000000) (disch := first | exact dis | fail) only [CH, eqv_ptr, go_sem]; done)))) | (with_reducible first | refine w_if ?_ ?_ | refine w_gt ?_ ?_ | refine w_gf ?_ ?_ | refine w_io ?_ ?_ | refine w_gdt ?_ ?_ | refine w_gdf ?_ ?_ | refine w_ite ?_ ?_) <;> intro h <;> (try rw [h]) <;> replace hr := And.intro h hr <;> replace h := nrm h <;> try (first | (exfalso; omega) | exact (bx h (by assumption)).elim | exact (bx (by assumption) h).elim) | ((with_reducible refine And.intro ?_ ?_); (focus omega))) <;> try simp -dsimp -implicitDefEqProofs (maxSteps := 1000000) (disch := first | exact dis | fail) only [CH, eqv_ptr, go_sem])
  refine ⟨some [6], rfl, rfl, ?_⟩
  simp only [foldA_eq, CH, go_sem]
theorem Due_ok (c : Cy) : ACall Try.prog f_cyc_Cyc_Due [.ptr 0 0] (CH c) fun r A => r = .tup [.int .i64 (if c.set then c.due else 0), .bool c.set] ∧ A = CH c := by
  refine acallH ok_cyc_Cyc_Due ?_
  have hr := trivial
  simp -dsimp -implicitDefEqProofs (maxSteps := 1000000) (disch := first | exact dis | fail) only [hc_cyc_Cyc_Due, CH, eqv_ptr, go_sem]
  repeat' ((first | (with_reducible first | refine w_if ?_ ?_ | refine w_gt ?_ ?_ | refine w_gf ?_ ?_ | refine w_io ?_ ?_ | refine w_gdt ?_ ?_ | refine w_gdf ?_ ?_ | refine w_ite ?_ ?_) <;> intro h <;> (try rw [h]) <;> replace hr := And.intro h hr <;> replace h := nrm h <;> try (first | (exfalso; omega) | exact (bx h (by assumption)).elim | exact (bx (by assumption) h).elim) | ((with_reducible refine And.intro ?_ ?_); (focus omega))) <;> try simp -dsimp -implicitDefEqProofs (maxSteps := 1000000) (disch := first | exact dis | fail) only [CH, eqv_ptr, go_sem])
  all_goals refine ⟨none, rfl, ?_, rfl⟩
  all_goals simp_all [foldVn]
/-- What is due is done. -/
def tickC (c : Cy) : Cy := let c1 := planC { c with left := if 0 < c.left then c.left - 1 else c.left } c.due; { c1 with at' := (c.at' + 1).tmod c.j.frs.length }
theorem Tick_ok (c : Cy) (hj : JOk c.j) (hset : c.set = true) (hd : 0 ≤ c.due ∧ c.due ≤ 2305843009213693951) (hl : 0 ≤ c.left ∧ c.left ≤ 200) (ha : 0 ≤ c.at' ∧ c.at' < c.j.frs.length) : ACall Try.prog f_cyc_Cyc_Tick [.ptr 0 0, .int .i64 c.due] (CH c) fun _ A => A = CH (tickC c) := by
  refine acallH ok_cyc_Cyc_Tick ?_
  have hm : min c.due 2305843009213693952 = c.due := by omega
  have h1t := turns1_ok (planC { c with left := c.left - 1 } c.due) hj ha
  have h2t := turns1_ok (planC c c.due) hj ha
  by_cases h0 : 0 < c.left
  · have hr := trivial
    simp -dsimp -implicitDefEqProofs (maxSteps := 1000000) (disch := first | exact dis | fail) only [hc_cyc_Cyc_Tick, CH, eqv_ptr, hset, hm, h0, planC, go_sem]
    repeat' ((first | ((with_reducible refine ACall.atE (plan_ok { c with left := c.left - 1 } hj c.due (by omega)) [0, 1, 2, 3] ?_ ?_ ?_ ?_ ?_); (focus decide); (focus rfl); (focus (simp -dsimp -implicitDefEqProofs (maxSteps := 1000000) (disch := first | exact dis | fail) only [standsL, CH, eqv_ptr, hset, hm, h0, planC, go_sem]; done)); (focus (first | rfl | (simp -dsimp -implicitDefEqProofs (maxSteps := 1000000) (disch := first | exact dis | fail) only [CH, eqv_ptr, hset, hm, h0, planC, go_sem]; done)))) | ((with_reducible refine ACall.atE (h1t) [0, 1, 2, 3] ?_ ?_ ?_ ?_ ?_); (focus decide); (focus rfl); (focus (simp -dsimp -implicitDefEqProofs (maxSteps := 1000000) (disch := first | exact dis | fail) only [standsL, CH, eqv_ptr, hset, hm, h0, planC, go_sem]; done)); (focus (first | rfl | (simp -dsimp -implicitDefEqProofs (maxSteps := 1000000) (disch := first | exact dis | fail) only [CH, eqv_ptr, hset, hm, h0, planC, go_sem]; done)))) | (with_reducible first | refine w_if ?_ ?_ | refine w_gt ?_ ?_ | refine w_gf ?_ ?_ | refine w_io ?_ ?_ | refine w_gdt ?_ ?_ | refine w_gdf ?_ ?_ | refine w_ite ?_ ?_) <;> intro h <;> (try rw [h]) <;> replace hr := And.intro h hr <;> replace h := nrm h <;> try (first | (exfalso; omega) | exact (bx h (by assumption)).elim | exact (bx (by assumption) h).elim) | ((with_reducible refine And.intro ?_ ?_); (focus omega))) <;> try simp -dsimp -implicitDefEqProofs (maxSteps := 1000000) (disch := first | exact dis | fail) only [CH, eqv_ptr, hset, hm, h0, planC, go_sem])
    all_goals refine ⟨some [], rfl, ?_⟩
    all_goals simp only [foldA_eq, CH, go_sem, tickC, planC, if_pos h0]
  · have hr := trivial
    simp -dsimp -implicitDefEqProofs (maxSteps := 1000000) (disch := first | exact dis | fail) only [hc_cyc_Cyc_Tick, CH, eqv_ptr, hset, hm, h0, planC, go_sem]
    repeat' ((first | ((with_reducible refine ACall.atE (plan_ok c hj c.due (by omega)) [0, 1, 2, 3] ?_ ?_ ?_ ?_ ?_); (focus decide); (focus rfl); (focus (simp -dsimp -implicitDefEqProofs (maxSteps := 1000000) (disch := first | exact dis | fail) only [standsL, CH, eqv_ptr, hset, hm, h0, planC, go_sem]; done)); (focus (first | rfl | (simp -dsimp -implicitDefEqProofs (maxSteps := 1000000) (disch := first | exact dis | fail) only [CH, eqv_ptr, hset, hm, h0, planC, go_sem]; done)))) | ((with_reducible refine ACall.atE (h2t) [0, 1, 2, 3] ?_ ?_ ?_ ?_ ?_); (focus decide); (focus rfl); (focus (simp -dsimp -implicitDefEqProofs (maxSteps := 1000000) (disch := first | exact dis | fail) only [standsL, CH, eqv_ptr, hset, hm, h0, planC, go_sem]; done)); (focus (first | rfl | (simp -dsimp -implicitDefEqProofs (maxSteps := 1000000) (disch := first | exact dis | fail) only [CH, eqv_ptr, hset, hm, h0, planC, go_sem]; done)))) | (with_reducible first | refine w_if ?_ ?_ | refine w_gt ?_ ?_ | refine w_gf ?_ ?_ | refine w_io ?_ ?_ | refine w_gdt ?_ ?_ | refine w_gdf ?_ ?_ | refine w_ite ?_ ?_) <;> intro h <;> (try rw [h]) <;> replace hr := And.intro h hr <;> replace h := nrm h <;> try (first | (exfalso; omega) | exact (bx h (by assumption)).elim | exact (bx (by assumption) h).elim) | ((with_reducible refine And.intro ?_ ?_); (focus omega))) <;> try simp -dsimp -implicitDefEqProofs (maxSteps := 1000000) (disch := first | exact dis | fail) only [CH, eqv_ptr, hset, hm, h0, planC, go_sem])
    all_goals refine ⟨some [], rfl, ?_⟩
    all_goals simp only [foldA_eq, CH, go_sem, tickC, planC, if_neg h0]
end Go.Proofs.Ytkkccabchhnebaa
end
