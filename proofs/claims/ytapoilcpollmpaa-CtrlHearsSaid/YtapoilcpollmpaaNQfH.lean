/- QfH, put together. Conditions: none. -/
import Derived.Test.YtapoilcpollmpaaNQfG
/- CtrlHears: the loops. -/
section
namespace Go.Proofs.Ytapoilcpollmpaa
open Go.SB
attribute [local irreducible] HW HSS HAS HRQ HEO HOP HCK
set_option maxRecDepth 100000
set_option maxHeartbeats 400000
set_option linter.unusedSimpArgs false
set_option pp.deepTerms.threshold 6
attribute [local go_sem high] own_ren

/-- Fetching ahead of a frame. -/
theorem L2 (cf : Cf) (fs : List Fr) (f : Fr) (n : Nat) (hn : n ≤ 3) (i : Nat) (hi : i < 200) (c : Ct) (inn out : List Fr) (th : Int) (hI : CInv cf i c inn out th) (Q : IExit → List AV → AHeap → Prop)
    (hq : ∀ c out, CInv cf i c inn out th → ∀ ρ, ρ = rg 63 [(2, .int .i64 n), (3, .ptr 0 0), (7, .ptr 1 0), (8, .sl 5 4 0 inn.length false), (9, .sl 6 4 0 out.length false), (10, .int .i64 th), (11, .ptr 7 0), (20, .ps 4 (rows frv fs)), (21, .int .i64 fs.length), (22, .int .i64 i), (25, .int .i64 n), (26, .int .i64 n)] →
      Q (.exit 4) ρ (HH cf c inn out ++ [some (.cells f.av)])) :
    HW Try.prog 0 hc_law14_CtrlHears_l2 (rg 63 [(2, .int .i64 n), (3, .ptr 0 0), (7, .ptr 1 0), (8, .sl 5 4 0 inn.length false), (9, .sl 6 4 0 out.length false), (10, .int .i64 th), (11, .ptr 7 0), (20, .ps 4 (rows frv fs)), (21, .int .i64 fs.length), (22, .int .i64 i), (25, .int .i64 n), (26, .int .i64 0)]) (HH cf c inn out ++ [some (.cells f.av)]) Q := by
  unfold hc_law14_CtrlHears_l2
  refine hw_loop n (fun k ρ A => ∃ c out, CInv cf i c inn out th ∧ ρ = rg 63 [(2, .int .i64 n), (3, .ptr 0 0), (7, .ptr 1 0), (8, .sl 5 4 0 inn.length false), (9, .sl 6 4 0 out.length false), (10, .int .i64 th), (11, .ptr 7 0), (20, .ps 4 (rows frv fs)), (21, .int .i64 fs.length), (22, .int .i64 i), (25, .int .i64 n), (26, .int .i64 k)] ∧ A = HH cf c inn out ++ [some (.cells f.av)]) ⟨none, rfl, c, out, hI, by simp only [go_sem], rfl⟩ ?_
  rintro k ρ A hk ⟨c, out, hI, rfl, rfl⟩
  by_cases hlt : k < n
  · have hF := cFetch_ok c hI.ok
    have hN := hI.fetch
    obtain ⟨_, holen⟩ := hI.olen
    by_cases h0 : c.rg.many = 0
    · rw [if_pos h0] at hF
      rw [outF, if_pos h0] at hN
      have hr := trivial
      try simp -dsimp -implicitDefEqProofs (maxSteps := 1000000) (disch := first | exact dis | fail) only [hc_law14_CtrlHears_b2, HH, Ct.A, Fr.av, go_sem]
      repeat' ((first | ((with_reducible refine ACall.atE (hF) [1, 2, 3, 4] ?_ ?_ ?_ ?_ ?_); (focus decide); (focus rfl); (focus (simp -dsimp -implicitDefEqProofs (maxSteps := 1000000) (disch := first | exact dis | fail) only [standsL, HH, Ct.A, Fr.av, go_sem]; done)); (focus (first | rfl | (simp -dsimp -implicitDefEqProofs (maxSteps := 1000000) (disch := first | exact dis | fail) only [HH, Ct.A, Fr.av, go_sem]; done)))) | (with_reducible first | refine w_if ?_ ?_ | refine w_gt ?_ ?_ | refine w_gf ?_ ?_ | refine w_io ?_ ?_ | refine w_gdt ?_ ?_ | refine w_gdf ?_ ?_ | refine w_ite ?_ ?_) <;> intro h <;> (try rw [h]) <;> replace hr := And.intro h hr <;> replace h := nrm h <;> try (first | (exfalso; omega) | exact (bx h (by assumption)).elim | exact (bx (by assumption) h).elim) | ((with_reducible refine And.intro ?_ ?_); (focus omega))) <;> try simp -dsimp -implicitDefEqProofs (maxSteps := 1000000) (disch := first | exact dis | fail) only [HH, Ct.A, Fr.av, go_sem])
      refine ⟨some [0, 1, 2, 3, 4, 5, 6, 7], rfl, fetched c, out, hN, ?_, ?_⟩
      · simp only [foldR_eq, go_sem]; rfl
      · simp only [foldA_eq, go_sem, fetched]
    · rw [if_neg h0] at hF
      rw [outF, if_neg h0] at hN
      generalize c.rg.first = g at hF hN
      have hr := trivial
      try simp -dsimp -implicitDefEqProofs (maxSteps := 1000000) (disch := first | exact dis | fail) only [hc_law14_CtrlHears_b2, HH, Ct.A, Fr.av, frv_snoc, appF_full (show (rows frv out).length = out.length from rows_length), go_sem]
      repeat' ((first | ((with_reducible refine ACall.atE (hF) [1, 2, 3, 4] ?_ ?_ ?_ ?_ ?_); (focus decide); (focus rfl); (focus (simp -dsimp -implicitDefEqProofs (maxSteps := 1000000) (disch := first | exact dis | fail) only [standsL, HH, Ct.A, Fr.av, frv_snoc, appF_full (show (rows frv out).length = out.length from rows_length), go_sem]; done)); (focus (first | rfl | (simp -dsimp -implicitDefEqProofs (maxSteps := 1000000) (disch := first | exact dis | fail) only [HH, Ct.A, Fr.av, frv_snoc, appF_full (show (rows frv out).length = out.length from rows_length), go_sem]; done)))) | (with_reducible first | refine w_if ?_ ?_ | refine w_gt ?_ ?_ | refine w_gf ?_ ?_ | refine w_io ?_ ?_ | refine w_gdt ?_ ?_ | refine w_gdf ?_ ?_ | refine w_ite ?_ ?_) <;> intro h <;> (try rw [h]) <;> replace hr := And.intro h hr <;> replace h := nrm h <;> try (first | (exfalso; omega) | exact (bx h (by assumption)).elim | exact (bx (by assumption) h).elim) | ((with_reducible refine And.intro ?_ ?_); (focus omega))) <;> try simp -dsimp -implicitDefEqProofs (maxSteps := 1000000) (disch := first | exact dis | fail) only [HH, Ct.A, Fr.av, frv_snoc, appF_full (show (rows frv out).length = out.length from rows_length), go_sem])
      refine ⟨some [0, 1, 2, 3, 4, 5, 10, 7], rfl, fetched c, out ++ [g], hN, ?_, ?_⟩
      · simp only [foldR_eq, go_sem, List.length_append, List.length_singleton]; rfl
      · simp only [foldA_eq, go_sem, fetched]
  · obtain rfl : k = n := by omega
    have hr := trivial
    try simp -dsimp -implicitDefEqProofs (maxSteps := 1000000) (disch := first | exact dis | fail) only [hc_law14_CtrlHears_b2, HH, Ct.A, Fr.av, go_sem]
    repeat' ((first | (with_reducible first | refine w_if ?_ ?_ | refine w_gt ?_ ?_ | refine w_gf ?_ ?_ | refine w_io ?_ ?_ | refine w_gdt ?_ ?_ | refine w_gdf ?_ ?_ | refine w_ite ?_ ?_) <;> intro h <;> (try rw [h]) <;> replace hr := And.intro h hr <;> replace h := nrm h <;> try (first | (exfalso; omega) | exact (bx h (by assumption)).elim | exact (bx (by assumption) h).elim) | ((with_reducible refine And.intro ?_ ?_); (focus omega))) <;> try simp -dsimp -implicitDefEqProofs (maxSteps := 1000000) (disch := first | exact dis | fail) only [HH, Ct.A, Fr.av, go_sem])
    exact hq c out hI _ (by simp only [go_sem])
/-- A frame's round. -/
theorem L3 (cf : Cf) (hacc : cf.acc.length ≤ 50) (hfi : ∀ x, x ∈ cf.acc → FiOk x) (fs : List Fr) (hfs : fs.length ≤ 200) (n : Nat) (hn : n ≤ 3) (c : Ct) (hI : CInv cf 0 c [] [] 0) (v6 : AV) (Q : IExit → List AV → AHeap → Prop)
    (hq : ∀ c inn out th, CInv cf fs.length c inn out th → ∀ ρ, ρ = rg 63 [(2, .int .i64 n), (3, .ptr 0 0), (7, .ptr 1 0), (8, .sl 5 4 0 inn.length false), (9, .sl 6 4 0 out.length false), (10, .int .i64 th), (20, .ps 4 (rows frv fs)), (21, .int .i64 fs.length), (22, .int .i64 fs.length)] → Q (.exit 2) ρ (HH cf c inn out)) :
    HW Try.prog 0 hc_law14_CtrlHears_l3 (rg 63 [(2, .int .i64 n), (3, .ptr 0 0), (6, v6), (7, .ptr 1 0), (8, .nils), (9, .nils), (10, .int .i64 0), (20, .ps 4 (rows frv fs)), (21, .int .i64 fs.length), (22, .int .i64 0)]) ((HH cf c [] []).take 5) Q := by
  unfold hc_law14_CtrlHears_l3
  refine hw_loopN fs.length (fun i ρ A => ∃ c inn out th, CInv cf i c inn out th ∧ ρ = rg 63 [(2, .int .i64 n), (3, .ptr 0 0), (7, .ptr 1 0), (8, .sl 5 4 0 inn.length false), (9, .sl 6 4 0 out.length false), (10, .int .i64 th), (20, .ps 4 (rows frv fs)), (21, .int .i64 fs.length), (22, .int .i64 i)] ∧ A = HH cf c inn out) [(8, 4), (9, 4)] ?_ ⟨none, rfl, c, [], [], 0, hI, ?_, ?_⟩ ?_
  · simp only [nlOk, isNils, go_sem]
  · simp only [nlR, foldRo, HH, List.length_take, go_sem]
  · rfl
  rintro i ρ A hi ⟨c, inn, out, th, hI, rfl, rfl⟩
  by_cases hlt : i < fs.length
  · have hx : fs[i]? = some fs[i] := List.getElem?_eq_getElem hlt
    generalize fs[i] = f at hx
    have hd : (rows frv fs).getD i [] = f.av := by simp [List.getD, rows_get, hx, frv]
    have hr := trivial
    try simp -dsimp -implicitDefEqProofs (maxSteps := 1000000) (disch := first | exact dis | fail) only [hc_law14_CtrlHears_b3, HH, Int.toNat_natCast, hd, Fr.av, go_sem]
    repeat' ((first | (with_reducible first | refine w_if ?_ ?_ | refine w_gt ?_ ?_ | refine w_gf ?_ ?_ | refine w_io ?_ ?_ | refine w_gdt ?_ ?_ | refine w_gdf ?_ ?_ | refine w_ite ?_ ?_) <;> intro h <;> (try rw [h]) <;> replace hr := And.intro h hr <;> replace h := nrm h <;> try (first | (exfalso; omega) | exact (bx h (by assumption)).elim | exact (bx (by assumption) h).elim) | ((with_reducible refine And.intro ?_ ?_); (focus omega))) <;> try simp -dsimp -implicitDefEqProofs (maxSteps := 1000000) (disch := first | exact dis | fail) only [HH, Int.toNat_natCast, hd, Fr.av, go_sem])
    have key := fun Q hq => L2 cf fs f n hn i (by omega) c inn out th hI Q hq
    simp only [HH, Fr.av, go_sem] at key
    refine key _ ?_
    clear key hI
    rintro c out hI ρ rfl
    have hK := RKey_ok f
    have hA := Any_ok cf.acc hfi (by omega) f
    have hH := cHear_ok c (by rw [hI.acc]; omega) hI.ok f
    have hN := hI.hear (by omega) f
    obtain ⟨_, holen⟩ := hI.olen
    have hil := hI.len
    have hth := hI.th
    have hlo := hI.lost
    have hlp := hI.ok.l
    have hL : letsB c.acc f = (decide (0 ≤ keyR f) && (decide (cf.acc.length = 0) || anyB cf.acc f)) := by rw [hI.acc]; rfl
    generalize c.hear f = c' at hH hN
    generalize letsB c.acc f = lb at hH hN hL
    generalize anyB cf.acc f = ab at hA hL
    subst hL
    by_cases hk : 0 ≤ keyR f
    · by_cases hl0 : cf.acc.length = 0
      · simp only [hk, hl0, decide_true, decide_false, Bool.true_or, Bool.true_and, Bool.and_true] at hH hN
        by_cases hm : c.rg.many = c.rg.cells.length
        · simp only [hm, decide_true, decide_false, ne_eq, not_true, and_false, if_false, if_true] at hH hN
          have hr := trivial
          try simp -dsimp -implicitDefEqProofs (maxSteps := 1000000) (disch := first | exact dis | fail) only [Ct.A, Fr.av, Cf.av, hk, hl0, go_sem]
          repeat' ((first | (with_reducible refine PCall.aci hK ?_) | (with_reducible refine PCall.aci hA ?_) | ((with_reducible refine ACall.atE (hH) [1, 2, 3, 4] ?_ ?_ ?_ ?_ ?_); (focus decide); (focus rfl); (focus (simp -dsimp -implicitDefEqProofs (maxSteps := 1000000) (disch := first | exact dis | fail) only [standsL, Ct.A, Fr.av, Cf.av, hk, hl0, go_sem]; done)); (focus (first | rfl | (simp -dsimp -implicitDefEqProofs (maxSteps := 1000000) (disch := first | exact dis | fail) only [Ct.A, Fr.av, Cf.av, hk, hl0, go_sem]; done)))) | (with_reducible first | refine w_if ?_ ?_ | refine w_gt ?_ ?_ | refine w_gf ?_ ?_ | refine w_io ?_ ?_ | refine w_gdt ?_ ?_ | refine w_gdf ?_ ?_ | refine w_ite ?_ ?_) <;> intro h <;> (try rw [h]) <;> replace hr := And.intro h hr <;> replace h := nrm h <;> try (first | (exfalso; omega) | exact (bx h (by assumption)).elim | exact (bx (by assumption) h).elim) | ((with_reducible refine And.intro ?_ ?_); (focus omega))) <;> try simp -dsimp -implicitDefEqProofs (maxSteps := 1000000) (disch := first | exact dis | fail) only [Ct.A, Fr.av, Cf.av, hk, hl0, go_sem])
          refine ⟨some [0, 1, 2, 3, 4, 5, 6], rfl, c', inn, out, th + 1, hN, ?_, ?_⟩
          · simp only [foldR_eq, go_sem]; rfl
          · simp only [foldA_eq, go_sem, HH]
        · simp only [hm, decide_true, decide_false, ne_eq, not_false_eq_true, and_true, if_false, if_true] at hH hN
          have hr := trivial
          try simp -dsimp -implicitDefEqProofs (maxSteps := 1000000) (disch := first | exact dis | fail) only [Ct.A, Fr.av, Cf.av, hk, hl0, frv_snoc, appF_full (show (rows frv inn).length = inn.length from rows_length), go_sem]
          repeat' ((first | (with_reducible refine PCall.aci hK ?_) | (with_reducible refine PCall.aci hA ?_) | ((with_reducible refine ACall.atE (hH) [1, 2, 3, 4] ?_ ?_ ?_ ?_ ?_); (focus decide); (focus rfl); (focus (simp -dsimp -implicitDefEqProofs (maxSteps := 1000000) (disch := first | exact dis | fail) only [standsL, Ct.A, Fr.av, Cf.av, hk, hl0, frv_snoc, appF_full (show (rows frv inn).length = inn.length from rows_length), go_sem]; done)); (focus (first | rfl | (simp -dsimp -implicitDefEqProofs (maxSteps := 1000000) (disch := first | exact dis | fail) only [Ct.A, Fr.av, Cf.av, hk, hl0, frv_snoc, appF_full (show (rows frv inn).length = inn.length from rows_length), go_sem]; done)))) | (with_reducible first | refine w_if ?_ ?_ | refine w_gt ?_ ?_ | refine w_gf ?_ ?_ | refine w_io ?_ ?_ | refine w_gdt ?_ ?_ | refine w_gdf ?_ ?_ | refine w_ite ?_ ?_) <;> intro h <;> (try rw [h]) <;> replace hr := And.intro h hr <;> replace h := nrm h <;> try (first | (exfalso; omega) | exact (bx h (by assumption)).elim | exact (bx (by assumption) h).elim) | ((with_reducible refine And.intro ?_ ?_); (focus omega))) <;> try simp -dsimp -implicitDefEqProofs (maxSteps := 1000000) (disch := first | exact dis | fail) only [Ct.A, Fr.av, Cf.av, hk, hl0, frv_snoc, appF_full (show (rows frv inn).length = inn.length from rows_length), go_sem])
          refine ⟨some [0, 1, 2, 3, 4, 9, 6], rfl, c', inn ++ [f], out, th + 1, hN, ?_, ?_⟩
          · simp only [foldR_eq, go_sem, List.length_append, List.length_singleton]; rfl
          · simp only [foldA_eq, go_sem, HH]
      · cases ab
        · simp only [hk, hl0, decide_true, decide_false, Bool.or_false, Bool.true_and, Bool.and_false] at hH hN
          simp only [Bool.false_and, Bool.false_eq_true, false_and, if_false] at hH hN
          have hr := trivial
          try simp -dsimp -implicitDefEqProofs (maxSteps := 1000000) (disch := first | exact dis | fail) only [Ct.A, Fr.av, Cf.av, hk, hl0, go_sem]
          repeat' ((first | (with_reducible refine PCall.aci hK ?_) | (with_reducible refine PCall.aci hA ?_) | ((with_reducible refine ACall.atE (hH) [1, 2, 3, 4] ?_ ?_ ?_ ?_ ?_); (focus decide); (focus rfl); (focus (simp -dsimp -implicitDefEqProofs (maxSteps := 1000000) (disch := first | exact dis | fail) only [standsL, Ct.A, Fr.av, Cf.av, hk, hl0, go_sem]; done)); (focus (first | rfl | (simp -dsimp -implicitDefEqProofs (maxSteps := 1000000) (disch := first | exact dis | fail) only [Ct.A, Fr.av, Cf.av, hk, hl0, go_sem]; done)))) | (with_reducible first | refine w_if ?_ ?_ | refine w_gt ?_ ?_ | refine w_gf ?_ ?_ | refine w_io ?_ ?_ | refine w_gdt ?_ ?_ | refine w_gdf ?_ ?_ | refine w_ite ?_ ?_) <;> intro h <;> (try rw [h]) <;> replace hr := And.intro h hr <;> replace h := nrm h <;> try (first | (exfalso; omega) | exact (bx h (by assumption)).elim | exact (bx (by assumption) h).elim) | ((with_reducible refine And.intro ?_ ?_); (focus omega))) <;> try simp -dsimp -implicitDefEqProofs (maxSteps := 1000000) (disch := first | exact dis | fail) only [Ct.A, Fr.av, Cf.av, hk, hl0, go_sem])
          refine ⟨some [0, 1, 2, 3, 4, 5, 6], rfl, c', inn, out, th, hN, ?_, ?_⟩
          · simp only [foldR_eq, go_sem]; rfl
          · simp only [foldA_eq, go_sem, HH]
        · simp only [hk, hl0, decide_true, decide_false, Bool.false_or, Bool.true_and, Bool.and_true] at hH hN
          by_cases hm : c.rg.many = c.rg.cells.length
          · simp only [hm, decide_true, decide_false, ne_eq, not_true, and_false, if_false, if_true] at hH hN
            have hr := trivial
            try simp -dsimp -implicitDefEqProofs (maxSteps := 1000000) (disch := first | exact dis | fail) only [Ct.A, Fr.av, Cf.av, hk, hl0, go_sem]
            repeat' ((first | (with_reducible refine PCall.aci hK ?_) | (with_reducible refine PCall.aci hA ?_) | ((with_reducible refine ACall.atE (hH) [1, 2, 3, 4] ?_ ?_ ?_ ?_ ?_); (focus decide); (focus rfl); (focus (simp -dsimp -implicitDefEqProofs (maxSteps := 1000000) (disch := first | exact dis | fail) only [standsL, Ct.A, Fr.av, Cf.av, hk, hl0, go_sem]; done)); (focus (first | rfl | (simp -dsimp -implicitDefEqProofs (maxSteps := 1000000) (disch := first | exact dis | fail) only [Ct.A, Fr.av, Cf.av, hk, hl0, go_sem]; done)))) | (with_reducible first | refine w_if ?_ ?_ | refine w_gt ?_ ?_ | refine w_gf ?_ ?_ | refine w_io ?_ ?_ | refine w_gdt ?_ ?_ | refine w_gdf ?_ ?_ | refine w_ite ?_ ?_) <;> intro h <;> (try rw [h]) <;> replace hr := And.intro h hr <;> replace h := nrm h <;> try (first | (exfalso; omega) | exact (bx h (by assumption)).elim | exact (bx (by assumption) h).elim) | ((with_reducible refine And.intro ?_ ?_); (focus omega))) <;> try simp -dsimp -implicitDefEqProofs (maxSteps := 1000000) (disch := first | exact dis | fail) only [Ct.A, Fr.av, Cf.av, hk, hl0, go_sem])
            refine ⟨some [0, 1, 2, 3, 4, 5, 6], rfl, c', inn, out, th + 1, hN, ?_, ?_⟩
            · simp only [foldR_eq, go_sem]; rfl
            · simp only [foldA_eq, go_sem, HH]
          · simp only [hm, decide_true, decide_false, ne_eq, not_false_eq_true, and_true, if_false, if_true] at hH hN
            have hr := trivial
            try simp -dsimp -implicitDefEqProofs (maxSteps := 1000000) (disch := first | exact dis | fail) only [Ct.A, Fr.av, Cf.av, hk, hl0, frv_snoc, appF_full (show (rows frv inn).length = inn.length from rows_length), go_sem]
            repeat' ((first | (with_reducible refine PCall.aci hK ?_) | (with_reducible refine PCall.aci hA ?_) | ((with_reducible refine ACall.atE (hH) [1, 2, 3, 4] ?_ ?_ ?_ ?_ ?_); (focus decide); (focus rfl); (focus (simp -dsimp -implicitDefEqProofs (maxSteps := 1000000) (disch := first | exact dis | fail) only [standsL, Ct.A, Fr.av, Cf.av, hk, hl0, frv_snoc, appF_full (show (rows frv inn).length = inn.length from rows_length), go_sem]; done)); (focus (first | rfl | (simp -dsimp -implicitDefEqProofs (maxSteps := 1000000) (disch := first | exact dis | fail) only [Ct.A, Fr.av, Cf.av, hk, hl0, frv_snoc, appF_full (show (rows frv inn).length = inn.length from rows_length), go_sem]; done)))) | (with_reducible first | refine w_if ?_ ?_ | refine w_gt ?_ ?_ | refine w_gf ?_ ?_ | refine w_io ?_ ?_ | refine w_gdt ?_ ?_ | refine w_gdf ?_ ?_ | refine w_ite ?_ ?_) <;> intro h <;> (try rw [h]) <;> replace hr := And.intro h hr <;> replace h := nrm h <;> try (first | (exfalso; omega) | exact (bx h (by assumption)).elim | exact (bx (by assumption) h).elim) | ((with_reducible refine And.intro ?_ ?_); (focus omega))) <;> try simp -dsimp -implicitDefEqProofs (maxSteps := 1000000) (disch := first | exact dis | fail) only [Ct.A, Fr.av, Cf.av, hk, hl0, frv_snoc, appF_full (show (rows frv inn).length = inn.length from rows_length), go_sem])
            refine ⟨some [0, 1, 2, 3, 4, 9, 6], rfl, c', inn ++ [f], out, th + 1, hN, ?_, ?_⟩
            · simp only [foldR_eq, go_sem, List.length_append, List.length_singleton]; rfl
            · simp only [foldA_eq, go_sem, HH]
    · simp only [hk, decide_false, Bool.false_and] at hH hN
      simp only [Bool.false_and, Bool.false_eq_true, false_and, if_false] at hH hN
      have hr := trivial
      try simp -dsimp -implicitDefEqProofs (maxSteps := 1000000) (disch := first | exact dis | fail) only [Ct.A, Fr.av, Cf.av, hk, go_sem]
      repeat' ((first | (with_reducible refine PCall.aci hK ?_) | (with_reducible refine PCall.aci hA ?_) | ((with_reducible refine ACall.atE (hH) [1, 2, 3, 4] ?_ ?_ ?_ ?_ ?_); (focus decide); (focus rfl); (focus (simp -dsimp -implicitDefEqProofs (maxSteps := 1000000) (disch := first | exact dis | fail) only [standsL, Ct.A, Fr.av, Cf.av, hk, go_sem]; done)); (focus (first | rfl | (simp -dsimp -implicitDefEqProofs (maxSteps := 1000000) (disch := first | exact dis | fail) only [Ct.A, Fr.av, Cf.av, hk, go_sem]; done)))) | (with_reducible first | refine w_if ?_ ?_ | refine w_gt ?_ ?_ | refine w_gf ?_ ?_ | refine w_io ?_ ?_ | refine w_gdt ?_ ?_ | refine w_gdf ?_ ?_ | refine w_ite ?_ ?_) <;> intro h <;> (try rw [h]) <;> replace hr := And.intro h hr <;> replace h := nrm h <;> try (first | (exfalso; omega) | exact (bx h (by assumption)).elim | exact (bx (by assumption) h).elim) | ((with_reducible refine And.intro ?_ ?_); (focus omega))) <;> try simp -dsimp -implicitDefEqProofs (maxSteps := 1000000) (disch := first | exact dis | fail) only [Ct.A, Fr.av, Cf.av, hk, go_sem])
      refine ⟨some [0, 1, 2, 3, 4, 5, 6], rfl, c', inn, out, th, hN, ?_, ?_⟩
      · simp only [foldR_eq, go_sem]; rfl
      · simp only [foldA_eq, go_sem, HH]
  · obtain rfl : i = fs.length := by omega
    have hr := trivial
    try simp -dsimp -implicitDefEqProofs (maxSteps := 1000000) (disch := first | exact dis | fail) only [hc_law14_CtrlHears_b3, HH, go_sem]
    repeat' ((first | (with_reducible first | refine w_if ?_ ?_ | refine w_gt ?_ ?_ | refine w_gf ?_ ?_ | refine w_io ?_ ?_ | refine w_gdt ?_ ?_ | refine w_gdf ?_ ?_ | refine w_ite ?_ ?_) <;> intro h <;> (try rw [h]) <;> replace hr := And.intro h hr <;> replace h := nrm h <;> try (first | (exfalso; omega) | exact (bx h (by assumption)).elim | exact (bx (by assumption) h).elim) | ((with_reducible refine And.intro ?_ ?_); (focus omega))) <;> try simp -dsimp -implicitDefEqProofs (maxSteps := 1000000) (disch := first | exact dis | fail) only [HH, go_sem])
    exact hq c inn out th hI _ (by simp only [go_sem])
end Go.Proofs.Ytapoilcpollmpaa
end
