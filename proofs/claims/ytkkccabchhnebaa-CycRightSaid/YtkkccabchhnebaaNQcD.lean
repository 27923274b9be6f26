/- QcD, put together. Conditions: none. -/
import Derived.Test.YtkkccabchhnebaaNQcC
/- cyc.Times. -/
section
namespace Go.Proofs.Ytkkccabchhnebaa
open Go.SB
attribute [local irreducible] HW HSS HAS HRQ HEO HOP HCK
set_option maxRecDepth 100000
set_option maxHeartbeats 4000000
set_option linter.unusedSimpArgs false
set_option pp.deepTerms.threshold 6

/-- The job, so many times having come. -/
def cyI (j : Jb) (start : Int) (i : Nat) (at' : Int) : Cy := ⟨j, max (j.n - i) 0, D j start (i + 1), decide (0 < incJ j i), at'⟩
theorem cyI_0 (j : Jb) (hj : JOk j) (start : Int) : newC j start = cyI j start 0 0 := by
  have hn := hj.n
  have h := D_step j start 0
  have h0 : D j start 0 = start := by
    unfold D; rw [show min ((0 : Nat) : Int) j.n = 0 by omega, show max (((0 : Nat) : Int) - j.n) 0 = 0 by omega]; simp
  rw [h0] at h
  unfold newC planC cyI
  rw [h]
  have e : max (j.n - ((0 : Nat) : Int)) 0 = j.n := by omega
  rw [e]
  unfold incJ
  simp
theorem cyI_step (j : Jb) (hj : JOk j) (start : Int) (i : Nat) (at' : Int) : tickC (cyI j start i at') = cyI j start (i + 1) ((at' + 1).tmod j.frs.length) := by
  have hn := hj.n
  have h := D_step j start (i + 1)
  have e : (if 0 < max (j.n - (i : Int)) 0 then max (j.n - (i : Int)) 0 - 1 else max (j.n - (i : Int)) 0) = max (j.n - ((i + 1 : Nat) : Int)) 0 := by split <;> omega
  unfold tickC planC cyI
  simp only [e, h]
  have e2 : (if 0 < max (j.n - ((i + 1 : Nat) : Int)) 0 then j.first else j.second) = incJ j (i + 1) := by
    unfold incJ
    by_cases h3 : ((i + 1 : Nat) : Int) < j.n
    · rw [if_pos h3, if_pos (by omega)]
    · rw [if_neg h3, if_neg (by omega)]
  rw [e2]
/-- What stands behind so many times. -/
def TmI (j : Jb) (start e : Int) (i : Nat) (ρ : List AV) (A : AHeap) : Prop := ∃ (out : List Int) (at' : Int), i ≤ 1000 ∧ 0 ≤ at' ∧ at' < j.frs.length ∧ out.length = i ∧ out ++ goT j start e (1000 - i) (i + 1) = times j start e ∧ ρ = rg 17 [(2, .int .i64 e), (5, lsV 4 out), (6, .ptr 0 0)] ∧ A = CH (cyI j start i at') ++ lsA out
theorem Times_s (j : Jb) (hj : JOk j) (start e : Int) (hs : 0 ≤ start ∧ start ≤ 1099511627776) (i : Nat) (ρ : List AV) (A : AHeap) (h : TmI j start e i ρ A) (Q : IExit → List AV → AHeap → Prop)
    (hret : ∀ ρ A c, ρ.getD 4 .any = lsV 4 (times j start e) → A = CH c ++ lsA (times j start e) → Q .ret ρ A)
    (hgoto : ∀ ρ A, i < 1000 → (∃ ks, okKeepO 0 ks = true ∧ TmI j start e (i + 1) (foldRo 0 ks (mask [0, 1, 3, 4, 7, 8, 9, 10, 11, 12, 13, 14, 15, 16] ρ)) (foldAo 0 ks A)) → Q (.goto 0) ρ A) : HW Try.prog 0 hc_cyc_Times_s0 ρ A Q := by
  obtain ⟨out, at', hi, ha0, ha1, hlen, heq, rfl, rfl⟩ := h
  have htm := tm_eq hj start i
  have hset : (cyI j start i at').set = decide (0 < incJ j i) := rfl
  have hdue : (cyI j start i at').due = D j start (i + 1) := rfl
  have hend : (i = 1000 ∨ tmAt j start (i + 1) < 0 ∨ e < tmAt j start (i + 1)) → out = times j start e := fun h => by
    rw [← heq]
    by_cases h1 : i = 1000
    · subst h1; simp [goT]
    · rw [show 1000 - i = (1000 - (i + 1)) + 1 by omega, goT, if_pos (by omega), List.append_nil]
  by_cases hin : 0 < incJ j i
  · rw [if_pos hin] at htm
    have hTick : i < 1000 → ACall Try.prog f_cyc_Cyc_Tick [.ptr 0 0, .int .i64 (D j start (i + 1))] (CH (cyI j start i at')) fun _ A => A = CH (cyI j start (i + 1) ((at' + 1).tmod j.frs.length)) := fun h => by
      have hb := D_le hj hs (i := i + 1) (by omega)
      have hn := hj.n
      rw [← cyI_step j hj]
      exact Tick_ok (cyI j start i at') hj (by rw [hset]; simpa using hin) (by rw [hdue]; omega) (by unfold cyI; simp only []; omega) ⟨ha0, ha1⟩
    have hgo : i < 1000 → ¬ e < D j start (i + 1) → out ++ [D j start (i + 1)] ++ goT j start e (1000 - (i + 1)) (i + 1 + 1) = times j start e := fun h h' => by
      have hb := D_le hj hs (i := i + 1) (by omega)
      rw [← heq, show 1000 - i = (1000 - (i + 1)) + 1 by omega, goT, if_neg (by omega), htm, List.append_assoc]; rfl
    have hat : 0 ≤ (at' + 1).tmod j.frs.length ∧ (at' + 1).tmod j.frs.length < j.frs.length := by
      have hl := hj.l
      rw [Int.tmod_eq_emod_of_nonneg (by omega)]
      exact ⟨Int.emod_nonneg _ (by omega), Int.emod_lt_of_pos _ (by omega)⟩
    by_cases hout : out = []
    · subst hout
      have hi0 : 0 = i := hlen
      rw [(ls_nil (l := 4)).1, (ls_nil (l := 4)).2]
      have hr := trivial
      simp -dsimp -implicitDefEqProofs (maxSteps := 1000000) (disch := first | exact dis | fail) only [hc_cyc_Times_s0, CH, hset, hdue, hin, i1_one, go_sem]
      repeat' ((first | ((with_reducible refine ACall.atE (Due_ok (cyI j start i at')) [0, 1, 2, 3] ?_ ?_ ?_ ?_ ?_); (focus decide); (focus rfl); (focus (simp -dsimp -implicitDefEqProofs (maxSteps := 1000000) (disch := first | exact dis | fail) only [standsL, CH, hset, hdue, hin, i1_one, go_sem]; done)); (focus (first | rfl | (simp -dsimp -implicitDefEqProofs (maxSteps := 1000000) (disch := first | exact dis | fail) only [CH, hset, hdue, hin, i1_one, go_sem]; done)))) | (with_reducible first | refine w_if ?_ ?_ | refine w_gt ?_ ?_ | refine w_gf ?_ ?_ | refine w_io ?_ ?_ | refine w_gdt ?_ ?_ | refine w_gdf ?_ ?_ | refine w_ite ?_ ?_) <;> intro h <;> (try rw [h]) <;> replace hr := And.intro h hr <;> replace h := nrm h <;> try (first | (exfalso; omega) | exact (bx h (by assumption)).elim | exact (bx (by assumption) h).elim) | ((with_reducible refine And.intro ?_ ?_); (focus omega))) <;> try simp -dsimp -implicitDefEqProofs (maxSteps := 1000000) (disch := first | exact dis | fail) only [CH, hset, hdue, hin, i1_one, go_sem])
      · refine hret _ _ (cyI j start i at') ?_ ?_
        · rw [← hend (by omega)]; rfl
        · rw [← hend (by omega)]; simp only [CH, hset, hdue, hin]; rfl
      · refine (hTick (by omega)).at' [0, 1, 2, 3] (by decide) rfl (by simp only [standsL, CH, hset, hdue, hin, go_sem]) (by simp only [CH, go_sem]) ?_
        rintro r A rfl
        simp only [CH, go_sem]
        refine hgoto _ _ (by omega) ⟨some [0, 1, 2, 3, 5], rfl, [D j start (i + 1)], _, by omega, hat.1, hat.2, ?_, ?_, ?_, ?_⟩
        · simp [← hlen]
        · exact hgo (by omega) (by omega)
        · simp only [foldR_eq, go_sem]; rfl
        · simp only [foldA_eq, go_sem, CH]; rfl
    · rw [(ls_cons (l := 4) hout).1, (ls_cons (l := 4) hout).2]
      have hr := trivial
      simp -dsimp -implicitDefEqProofs (maxSteps := 1000000) (disch := first | exact dis | fail) only [hc_cyc_Times_s0, CH, hset, hdue, hin, i1_snoc, appF_full (show (rows i1 out).length = out.length from rows_length), go_sem]
      repeat' ((first | ((with_reducible refine ACall.atE (Due_ok (cyI j start i at')) [0, 1, 2, 3] ?_ ?_ ?_ ?_ ?_); (focus decide); (focus rfl); (focus (simp -dsimp -implicitDefEqProofs (maxSteps := 1000000) (disch := first | exact dis | fail) only [standsL, CH, hset, hdue, hin, i1_snoc, appF_full (show (rows i1 out).length = out.length from rows_length), go_sem]; done)); (focus (first | rfl | (simp -dsimp -implicitDefEqProofs (maxSteps := 1000000) (disch := first | exact dis | fail) only [CH, hset, hdue, hin, i1_snoc, appF_full (show (rows i1 out).length = out.length from rows_length), go_sem]; done)))) | (with_reducible first | refine w_if ?_ ?_ | refine w_gt ?_ ?_ | refine w_gf ?_ ?_ | refine w_io ?_ ?_ | refine w_gdt ?_ ?_ | refine w_gdf ?_ ?_ | refine w_ite ?_ ?_) <;> intro h <;> (try rw [h]) <;> replace hr := And.intro h hr <;> replace h := nrm h <;> try (first | (exfalso; omega) | exact (bx h (by assumption)).elim | exact (bx (by assumption) h).elim) | ((with_reducible refine And.intro ?_ ?_); (focus omega))) <;> try simp -dsimp -implicitDefEqProofs (maxSteps := 1000000) (disch := first | exact dis | fail) only [CH, hset, hdue, hin, i1_snoc, appF_full (show (rows i1 out).length = out.length from rows_length), go_sem])
      · refine hret _ _ (cyI j start i at') ?_ ?_
        · rw [← hend (by omega), (ls_cons (l := 4) hout).1]; rfl
        · rw [← hend (by omega), (ls_cons (l := 4) hout).2]; simp only [CH, hset, hdue, hin]; rfl
      · refine (hTick (by omega)).at' [0, 1, 2, 3] (by decide) rfl (by simp only [standsL, CH, hset, hdue, hin, go_sem]) (by simp only [CH, go_sem]) ?_
        rintro r A rfl
        simp only [CH, go_sem]
        refine hgoto _ _ (by omega) ⟨some [0, 1, 2, 3, 6], rfl, out ++ [D j start (i + 1)], _, by omega, hat.1, hat.2, ?_, ?_, ?_, ?_⟩
        · simp [← hlen]
        · exact hgo (by omega) (by omega)
        · simp only [foldR_eq, go_sem, (ls_cons (l := 4) (show out ++ [D j start (i + 1)] ≠ [] by simp)).1, List.length_append, hlen]
        · simp only [foldA_eq, go_sem, CH, (ls_cons (l := 4) (show out ++ [D j start (i + 1)] ≠ [] by simp)).2]
  · rw [if_neg hin] at htm
    have ho := hend (by omega)
    by_cases hout : out = []
    · subst hout
      have hi0 : 0 = i := hlen
      rw [(ls_nil (l := 4)).1, (ls_nil (l := 4)).2]
      have hr := trivial
      simp -dsimp -implicitDefEqProofs (maxSteps := 1000000) (disch := first | exact dis | fail) only [hc_cyc_Times_s0, CH, hset, hdue, hin, go_sem]
      repeat' ((first | ((with_reducible refine ACall.atE (Due_ok (cyI j start i at')) [0, 1, 2, 3] ?_ ?_ ?_ ?_ ?_); (focus decide); (focus rfl); (focus (simp -dsimp -implicitDefEqProofs (maxSteps := 1000000) (disch := first | exact dis | fail) only [standsL, CH, hset, hdue, hin, go_sem]; done)); (focus (first | rfl | (simp -dsimp -implicitDefEqProofs (maxSteps := 1000000) (disch := first | exact dis | fail) only [CH, hset, hdue, hin, go_sem]; done)))) | (with_reducible first | refine w_if ?_ ?_ | refine w_gt ?_ ?_ | refine w_gf ?_ ?_ | refine w_io ?_ ?_ | refine w_gdt ?_ ?_ | refine w_gdf ?_ ?_ | refine w_ite ?_ ?_) <;> intro h <;> (try rw [h]) <;> replace hr := And.intro h hr <;> replace h := nrm h <;> try (first | (exfalso; omega) | exact (bx h (by assumption)).elim | exact (bx (by assumption) h).elim) | ((with_reducible refine And.intro ?_ ?_); (focus omega))) <;> try simp -dsimp -implicitDefEqProofs (maxSteps := 1000000) (disch := first | exact dis | fail) only [CH, hset, hdue, hin, go_sem])
      refine hret _ _ (cyI j start i at') ?_ ?_
      · rw [← ho]; rfl
      · rw [← ho]; simp only [CH, hset, hdue, hin]; rfl
    · rw [(ls_cons (l := 4) hout).1, (ls_cons (l := 4) hout).2]
      have hr := trivial
      simp -dsimp -implicitDefEqProofs (maxSteps := 1000000) (disch := first | exact dis | fail) only [hc_cyc_Times_s0, CH, hset, hdue, hin, go_sem]
      repeat' ((first | ((with_reducible refine ACall.atE (Due_ok (cyI j start i at')) [0, 1, 2, 3] ?_ ?_ ?_ ?_ ?_); (focus decide); (focus rfl); (focus (simp -dsimp -implicitDefEqProofs (maxSteps := 1000000) (disch := first | exact dis | fail) only [standsL, CH, hset, hdue, hin, go_sem]; done)); (focus (first | rfl | (simp -dsimp -implicitDefEqProofs (maxSteps := 1000000) (disch := first | exact dis | fail) only [CH, hset, hdue, hin, go_sem]; done)))) | (with_reducible first | refine w_if ?_ ?_ | refine w_gt ?_ ?_ | refine w_gf ?_ ?_ | refine w_io ?_ ?_ | refine w_gdt ?_ ?_ | refine w_gdf ?_ ?_ | refine w_ite ?_ ?_) <;> intro h <;> (try rw [h]) <;> replace hr := And.intro h hr <;> replace h := nrm h <;> try (first | (exfalso; omega) | exact (bx h (by assumption)).elim | exact (bx (by assumption) h).elim) | ((with_reducible refine And.intro ?_ ?_); (focus omega))) <;> try simp -dsimp -implicitDefEqProofs (maxSteps := 1000000) (disch := first | exact dis | fail) only [CH, hset, hdue, hin, go_sem])
      refine hret _ _ (cyI j start i at') ?_ ?_
      · rw [← ho, (ls_cons (l := 4) hout).1]; rfl
      · rw [← ho, (ls_cons (l := 4) hout).2]; simp only [CH, hset, hdue, hin]; rfl
theorem TimesE_ok (j : Jb) (start e : Int) (h : cntB start = false ∨ jobE j ≠ 0) : PCall Try.prog f_cyc_Times [.agg j.av, .int .i64 start, .int .i64 e] .nils := by
  refine pcallI ok_cyc_Times ?_
  have hN := NewE_ok j start h
  have hw : ¬ (if cntB start then jobE j else 2) = 0 := by
    cases hc : cntB start
    · simp
    · simp only [hc, if_true]; rcases h with h | h
      · rw [hc] at h; cases h
      · exact h
  generalize (if cntB start then jobE j else 2) = w at hN hw
  have hr := trivial
  simp -dsimp -implicitDefEqProofs (maxSteps := 1000000) (disch := first | exact dis | fail) only [hc_cyc_Times, Jb.av, go_sem]
  repeat' ((first | (with_reducible first | refine w_if ?_ ?_ | refine w_gt ?_ ?_ | refine w_gf ?_ ?_ | refine w_io ?_ ?_ | refine w_gdt ?_ ?_ | refine w_gdf ?_ ?_ | refine w_ite ?_ ?_) <;> intro h <;> (try rw [h]) <;> replace hr := And.intro h hr <;> replace h := nrm h <;> try (first | (exfalso; omega) | exact (bx h (by assumption)).elim | exact (bx (by assumption) h).elim) | ((with_reducible refine And.intro ?_ ?_); (focus omega))) <;> try simp -dsimp -implicitDefEqProofs (maxSteps := 1000000) (disch := first | exact dis | fail) only [Jb.av, go_sem])
  refine hw_scope 0 (fun _ _ _ => False) ?_ (fun _ _ _ _ h => h.elim)
  have hr := trivial
  simp -dsimp -implicitDefEqProofs (maxSteps := 1000000) (disch := first | exact dis | fail) only [hc_cyc_Times, Jb.av, hw, ne_eq, go_sem]
  repeat' ((first | (with_reducible refine PCall.aci hN ?_) | (with_reducible first | refine w_if ?_ ?_ | refine w_gt ?_ ?_ | refine w_gf ?_ ?_ | refine w_io ?_ ?_ | refine w_gdt ?_ ?_ | refine w_gdf ?_ ?_ | refine w_ite ?_ ?_) <;> intro h <;> (try rw [h]) <;> replace hr := And.intro h hr <;> replace h := nrm h <;> try (first | (exfalso; omega) | exact (bx h (by assumption)).elim | exact (bx (by assumption) h).elim) | ((with_reducible refine And.intro ?_ ?_); (focus omega))) <;> try simp -dsimp -implicitDefEqProofs (maxSteps := 1000000) (disch := first | exact dis | fail) only [Jb.av, hw, ne_eq, go_sem])
theorem Times_ok (j : Jb) (hj : JOk j) (he : jobE j = 0) (start e : Int) (hs : 0 ≤ start ∧ start ≤ 1099511627776) : ACall Try.prog f_cyc_Times [.agg j.av, .int .i64 start, .int .i64 e] [] fun r A => r = lsV 0 (times j start e) ∧ A = lsA (times j start e) := by
  refine acallH ok_cyc_Times ?_
  have hNew := New_ok j hj he start hs
  rw [cyI_0 j hj] at hNew
  have htm : tmAt j start 1 = if 0 < incJ j 0 then D j start 1 else -1 := tm_eq hj start 0
  have hset : (cyI j start 0 0).set = decide (0 < incJ j 0) := rfl
  have hdue : (cyI j start 0 0).due = D j start 1 := rfl
  have hr := trivial
  simp -dsimp -implicitDefEqProofs (maxSteps := 1000000) (disch := first | exact dis | fail) only [hc_cyc_Times, Jb.av, go_sem]
  repeat' ((first | (with_reducible first | refine w_if ?_ ?_ | refine w_gt ?_ ?_ | refine w_gf ?_ ?_ | refine w_io ?_ ?_ | refine w_gdt ?_ ?_ | refine w_gdf ?_ ?_ | refine w_ite ?_ ?_) <;> intro h <;> (try rw [h]) <;> replace hr := And.intro h hr <;> replace h := nrm h <;> try (first | (exfalso; omega) | exact (bx h (by assumption)).elim | exact (bx (by assumption) h).elim) | ((with_reducible refine And.intro ?_ ?_); (focus omega))) <;> try simp -dsimp -implicitDefEqProofs (maxSteps := 1000000) (disch := first | exact dis | fail) only [Jb.av, go_sem])
  refine hw_scope 1000 (fun i ρ A => TmI j start e (i + 1) ρ A) ?_ ?_
  · have hr := trivial
    simp -dsimp -implicitDefEqProofs (maxSteps := 1000000) (disch := first | exact dis | fail) only [hc_cyc_Times, Jb.av, CH, hset, hdue, go_sem]
    repeat' ((first | ((with_reducible refine ACall.atE (hNew) [] ?_ ?_ ?_ ?_ ?_); (focus decide); (focus rfl); (focus (simp -dsimp -implicitDefEqProofs (maxSteps := 1000000) (disch := first | exact dis | fail) only [standsL, Jb.av, CH, hset, hdue, go_sem]; done)); (focus (first | rfl | (simp -dsimp -implicitDefEqProofs (maxSteps := 1000000) (disch := first | exact dis | fail) only [Jb.av, CH, hset, hdue, go_sem]; done)))) | (with_reducible first | refine w_if ?_ ?_ | refine w_gt ?_ ?_ | refine w_gf ?_ ?_ | refine w_io ?_ ?_ | refine w_gdt ?_ ?_ | refine w_gdf ?_ ?_ | refine w_ite ?_ ?_) <;> intro h <;> (try rw [h]) <;> replace hr := And.intro h hr <;> replace h := nrm h <;> try (first | (exfalso; omega) | exact (bx h (by assumption)).elim | exact (bx (by assumption) h).elim) | ((with_reducible refine And.intro ?_ ?_); (focus omega))) <;> try simp -dsimp -implicitDefEqProofs (maxSteps := 1000000) (disch := first | exact dis | fail) only [Jb.av, CH, hset, hdue, go_sem])
    have hn := hj.n
    have hl := hj.l
    have hb := D_le hj hs (i := 1) (by omega)
    have hT : times j start e = goT j start e (999 + 1) 1 := rfl
    by_cases hin : 0 < incJ j 0
    · rw [if_pos hin] at htm
      have hTick := Tick_ok (cyI j start 0 0) hj (by rw [hset]; simpa using hin) (by rw [hdue]; omega) (by unfold cyI; simp only []; omega) ⟨Int.le_refl 0, by unfold cyI; simp only []; omega⟩
      rw [cyI_step j hj, hdue] at hTick
      have hr := trivial
      simp -dsimp -implicitDefEqProofs (maxSteps := 1000000) (disch := first | exact dis | fail) only [hc_cyc_Times_s0, CH, hset, hdue, hin, i1_one, go_sem]
      repeat' ((first | ((with_reducible refine ACall.atE (Due_ok (cyI j start 0 0)) [1, 2, 3, 4] ?_ ?_ ?_ ?_ ?_); (focus decide); (focus rfl); (focus (simp -dsimp -implicitDefEqProofs (maxSteps := 1000000) (disch := first | exact dis | fail) only [standsL, CH, hset, hdue, hin, i1_one, go_sem]; done)); (focus (first | rfl | (simp -dsimp -implicitDefEqProofs (maxSteps := 1000000) (disch := first | exact dis | fail) only [CH, hset, hdue, hin, i1_one, go_sem]; done)))) | (with_reducible first | refine w_if ?_ ?_ | refine w_gt ?_ ?_ | refine w_gf ?_ ?_ | refine w_io ?_ ?_ | refine w_gdt ?_ ?_ | refine w_gdf ?_ ?_ | refine w_ite ?_ ?_) <;> intro h <;> (try rw [h]) <;> replace hr := And.intro h hr <;> replace h := nrm h <;> try (first | (exfalso; omega) | exact (bx h (by assumption)).elim | exact (bx (by assumption) h).elim) | ((with_reducible refine And.intro ?_ ?_); (focus omega))) <;> try simp -dsimp -implicitDefEqProofs (maxSteps := 1000000) (disch := first | exact dis | fail) only [CH, hset, hdue, hin, i1_one, go_sem])
      · have e : times j start e = [] := by rw [hT, goT, if_pos (by omega)]
        rw [e]
        exact ⟨some [], rfl, rfl, rfl⟩
      · refine hTick.at' [1, 2, 3, 4] (by decide) rfl (by simp only [standsL, CH, hset, hdue, hin, go_sem]) (by simp only [CH, go_sem]) ?_
        rintro r A rfl
        simp only [CH, go_sem]
        refine ⟨some [1, 2, 3, 4, 6], rfl, [D j start 1], (0 + 1 : Int).tmod j.frs.length, by omega, ?_, ?_, rfl, ?_, ?_, ?_⟩
        · rw [Int.tmod_eq_emod_of_nonneg (by decide)]; exact Int.emod_nonneg _ (by omega)
        · rw [Int.tmod_eq_emod_of_nonneg (by decide)]; exact Int.emod_lt_of_pos _ (by omega)
        · have e2 : goT j start e (999 + 1) 1 = D j start 1 :: goT j start e 999 2 := by rw [goT, if_neg (by omega), htm]
          rw [hT, e2]; rfl
        · simp only [foldR_eq, go_sem]; rfl
        · simp only [foldA_eq, go_sem, CH]; rfl
    · rw [if_neg hin] at htm
      have hr := trivial
      simp -dsimp -implicitDefEqProofs (maxSteps := 1000000) (disch := first | exact dis | fail) only [hc_cyc_Times_s0, CH, hset, hdue, hin, i1_one, go_sem]
      repeat' ((first | ((with_reducible refine ACall.atE (Due_ok (cyI j start 0 0)) [1, 2, 3, 4] ?_ ?_ ?_ ?_ ?_); (focus decide); (focus rfl); (focus (simp -dsimp -implicitDefEqProofs (maxSteps := 1000000) (disch := first | exact dis | fail) only [standsL, CH, hset, hdue, hin, i1_one, go_sem]; done)); (focus (first | rfl | (simp -dsimp -implicitDefEqProofs (maxSteps := 1000000) (disch := first | exact dis | fail) only [CH, hset, hdue, hin, i1_one, go_sem]; done)))) | (with_reducible first | refine w_if ?_ ?_ | refine w_gt ?_ ?_ | refine w_gf ?_ ?_ | refine w_io ?_ ?_ | refine w_gdt ?_ ?_ | refine w_gdf ?_ ?_ | refine w_ite ?_ ?_) <;> intro h <;> (try rw [h]) <;> replace hr := And.intro h hr <;> replace h := nrm h <;> try (first | (exfalso; omega) | exact (bx h (by assumption)).elim | exact (bx (by assumption) h).elim) | ((with_reducible refine And.intro ?_ ?_); (focus omega))) <;> try simp -dsimp -implicitDefEqProofs (maxSteps := 1000000) (disch := first | exact dis | fail) only [CH, hset, hdue, hin, i1_one, go_sem])
      have e : times j start e = [] := by rw [hT, goT, if_pos (by omega)]
      rw [e]
      exact ⟨some [], rfl, rfl, rfl⟩
  · intro i ρ A hi hT
    have hr := trivial
    simp -dsimp -implicitDefEqProofs (maxSteps := 1000000) (disch := first | exact dis | fail) only [hc_cyc_Times, go_sem]
    repeat' ((first | (with_reducible first | refine w_if ?_ ?_ | refine w_gt ?_ ?_ | refine w_gf ?_ ?_ | refine w_io ?_ ?_ | refine w_gdt ?_ ?_ | refine w_gdf ?_ ?_ | refine w_ite ?_ ?_) <;> intro h <;> (try rw [h]) <;> replace hr := And.intro h hr <;> replace h := nrm h <;> try (first | (exfalso; omega) | exact (bx h (by assumption)).elim | exact (bx (by assumption) h).elim) | ((with_reducible refine And.intro ?_ ?_); (focus omega))) <;> try simp -dsimp -implicitDefEqProofs (maxSteps := 1000000) (disch := first | exact dis | fail) only [go_sem])
    refine Times_s j hj start e hs (i + 1) ρ A hT _ ?_ ?_
    · rintro ρ A c h1 rfl
      simp only [jumpQ, retQ, rvs, h1]
      by_cases ht : times j start e = []
      · rw [ht]
        exact ⟨some [], rfl, rfl, rfl⟩
      · rw [(ls_cons (l := 4) ht).1, (ls_cons (l := 4) ht).2, (ls_cons (l := 0) ht).1]
        exact ⟨some [4], rfl, rfl, by simp only [foldA_eq, go_sem, CH]⟩
    · rintro ρ A h1 ⟨ks, h2, h3⟩
      exact ⟨rfl, by omega, ks, h2, h3⟩
end Go.Proofs.Ytkkccabchhnebaa
end
