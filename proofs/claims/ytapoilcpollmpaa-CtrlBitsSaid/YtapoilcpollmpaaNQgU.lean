/- QgU, put together. Conditions: none. -/
import Derived.Test.YtapoilcpollmpaaNQgRT
/- CtrlBits: the law's call. -/
section
namespace Go.Proofs.Ytapoilcpollmpaa
open Go.SB
attribute [local irreducible] HW HSS HAS HRQ HEO HOP HCK
set_option maxRecDepth 100000
set_option maxHeartbeats 1000000
set_option linter.unusedSimpArgs false
set_option pp.deepTerms.threshold 6
attribute [local go_sem high] own_ren

/-- The heap: the making, both controllers. -/
def LH (cf : Cf) (c : Ct) (r : Rc) : AHeap := [some (.cells cf.av), some (.cells [.ptr 2 0, .ptr 3 0, .sl 4 3 0 c.acc.length false, .int .i64 c.asks]), some (.own c.bx.ov), some (.own c.rg.ov), some (.arr (rows fiv c.acc)),
  some (.cells [.ptr 6 0, .sl 7 4 r.pre.length r.fifo.length false, .int .i64 r.room, .ps 3 (rows fiv r.acc), .int .i64 r.lost, .int .i64 r.asks]), some (.own r.bx.ov), some (.arr (rows frv (r.pre ++ r.fifo)))]
theorem fewB_t {cf : Cf} {l : List OpD} (h : fewB cf l = true) : l.length ≤ 300 ∧ cf.acc.length ≤ 50 := by
  simp only [fewB, Bool.and_eq_true, decide_eq_true_eq] at h
  omega
/-- The calls, one behind the other. -/
theorem B1 (cf : Cf) (hacc : cf.acc.length ≤ 50) (hfi : ∀ x, x ∈ cf.acc → FiOk x) (l : List OpD) (hl : l.length ≤ 300) (c : Ct) (r : Rc) (hC : CR cf 0 c r) (v1 : AV) (Q : IExit → List AV → AHeap → Prop)
    (hq : ∀ c r, ∀ ρ, ρ = rg 26 [(4, .ptr 1 0), (5, .ptr 5 0), (16, .ps 9 (rows oav l)), (17, .int .i64 l.length), (18, .int .i64 l.length)] → Q (.exit 0) ρ (LH cf c r)) :
    HW Try.prog 0 hc_law14_CtrlBits_l1 (rg 26 [(3, v1), (4, .ptr 1 0), (5, .ptr 5 0), (16, .ps 9 (rows oav l)), (17, .int .i64 l.length), (18, .int .i64 0)]) (LH cf c r) Q := by
  unfold hc_law14_CtrlBits_l1
  refine hw_loop l.length (fun i ρ A => ∃ c r, CR cf i c r ∧ ρ = rg 26 [(4, .ptr 1 0), (5, .ptr 5 0), (16, .ps 9 (rows oav l)), (17, .int .i64 l.length), (18, .int .i64 i)] ∧ A = LH cf c r) ⟨none, rfl, c, r, hC, by simp only [foldRn, go_sem], rfl⟩ ?_
  rintro i ρ A hi ⟨c, r, hC, rfl, rfl⟩
  by_cases hlt : i < l.length
  · have hx : l[i]? = some l[i] := List.getElem?_eq_getElem hlt
    generalize l[i] = o at hx
    have hd : (rows oav l).getD i [] = o.av := by simp [List.getD, rows_get, hx, oav]
    have hA := cAsks_ok c
    have hD := do_ok cf hacc hfi i (by omega) o c r hC
    obtain ⟨a0, a1⟩ := hC.ask
    obtain ⟨_, _, b2, b3⟩ := clear_all c.asks o.n hC.ask
    have hr := trivial
    try simp -dsimp -implicitDefEqProofs (maxSteps := 1000000) (disch := first | exact dis | fail) only [hc_law14_CtrlBits_b1, LH, Ct.A, Int.toNat_natCast, hd, OpD.av, go_sem]
    repeat' ((first | ((with_reducible refine ACall.atE (hA) [1, 2, 3, 4] ?_ ?_ ?_ ?_ ?_); (focus decide); (focus rfl); (focus (simp -dsimp -implicitDefEqProofs (maxSteps := 1000000) (disch := first | exact dis | fail) only [standsL, LH, Ct.A, Int.toNat_natCast, hd, OpD.av, go_sem]; done)); (focus (first | rfl | (simp -dsimp -implicitDefEqProofs (maxSteps := 1000000) (disch := first | exact dis | fail) only [LH, Ct.A, Int.toNat_natCast, hd, OpD.av, go_sem]; done)))) | (with_reducible first | refine w_if ?_ ?_ | refine w_gt ?_ ?_ | refine w_gf ?_ ?_ | refine w_io ?_ ?_ | refine w_gdt ?_ ?_ | refine w_gdf ?_ ?_ | refine w_ite ?_ ?_) <;> intro h <;> (try rw [h]) <;> replace hr := And.intro h hr <;> replace h := nrm h <;> try (first | (exfalso; omega) | exact (bx h (by assumption)).elim | exact (bx (by assumption) h).elim) | ((with_reducible refine And.intro ?_ ?_); (focus omega))) <;> try simp -dsimp -implicitDefEqProofs (maxSteps := 1000000) (disch := first | exact dis | fail) only [LH, Ct.A, Int.toNat_natCast, hd, OpD.av, go_sem])
    refine hD.at' [1, 2, 3, 4, 5, 6, 7] (by decide) rfl (by simp only [standsL, DH, go_sem]) rfl ?_
    rintro v A ⟨rfl, c', r', hC', ⟨k5, k0⟩, rfl | ⟨g, rfl⟩⟩
    · have hA' := cAsks_ok c'
      obtain ⟨d0, d1⟩ := hC'.ask
      by_cases hk : o.kind = 5
      · have e5 := k5 hk
        rw [e5] at hA' d0 d1
        have hr := trivial
        try simp -dsimp -implicitDefEqProofs (maxSteps := 1000000) (disch := first | exact dis | fail) only [DH, DH8, Ct.A, OpD.av, hk, e5, b2, b3, go_sem]
        repeat' ((first | ((with_reducible refine ACall.atE (hA') [1, 2, 3, 4] ?_ ?_ ?_ ?_ ?_); (focus decide); (focus rfl); (focus (simp -dsimp -implicitDefEqProofs (maxSteps := 1000000) (disch := first | exact dis | fail) only [standsL, DH, DH8, Ct.A, OpD.av, hk, e5, b2, b3, go_sem]; done)); (focus (first | rfl | (simp -dsimp -implicitDefEqProofs (maxSteps := 1000000) (disch := first | exact dis | fail) only [DH, DH8, Ct.A, OpD.av, hk, e5, b2, b3, go_sem]; done)))) | (with_reducible first | refine w_if ?_ ?_ | refine w_gt ?_ ?_ | refine w_gf ?_ ?_ | refine w_io ?_ ?_ | refine w_gdt ?_ ?_ | refine w_gdf ?_ ?_ | refine w_ite ?_ ?_) <;> intro h <;> (try rw [h]) <;> replace hr := And.intro h hr <;> replace h := nrm h <;> try (first | (exfalso; omega) | exact (bx h (by assumption)).elim | exact (bx (by assumption) h).elim) | ((with_reducible refine And.intro ?_ ?_); (focus omega))) <;> try simp -dsimp -implicitDefEqProofs (maxSteps := 1000000) (disch := first | exact dis | fail) only [DH, DH8, Ct.A, OpD.av, hk, e5, b2, b3, go_sem])
        refine ⟨some [0, 1, 2, 3, 4, 5, 6, 7], rfl, c', r', hC', ?_, ?_⟩
        · simp only [foldR_eq, go_sem]; rfl
        · simp only [foldA_eq, go_sem, LH, e5]
      · have e0 := k0 hk
        have hr := trivial
        try simp -dsimp -implicitDefEqProofs (maxSteps := 1000000) (disch := first | exact dis | fail) only [DH, DH8, Ct.A, OpD.av, hk, e0, go_sem]
        repeat' ((first | ((with_reducible refine ACall.atE (hA') [1, 2, 3, 4] ?_ ?_ ?_ ?_ ?_); (focus decide); (focus rfl); (focus (simp -dsimp -implicitDefEqProofs (maxSteps := 1000000) (disch := first | exact dis | fail) only [standsL, DH, DH8, Ct.A, OpD.av, hk, e0, go_sem]; done)); (focus (first | rfl | (simp -dsimp -implicitDefEqProofs (maxSteps := 1000000) (disch := first | exact dis | fail) only [DH, DH8, Ct.A, OpD.av, hk, e0, go_sem]; done)))) | (with_reducible first | refine w_if ?_ ?_ | refine w_gt ?_ ?_ | refine w_gf ?_ ?_ | refine w_io ?_ ?_ | refine w_gdt ?_ ?_ | refine w_gdf ?_ ?_ | refine w_ite ?_ ?_) <;> intro h <;> (try rw [h]) <;> replace hr := And.intro h hr <;> replace h := nrm h <;> try (first | (exfalso; omega) | exact (bx h (by assumption)).elim | exact (bx (by assumption) h).elim) | ((with_reducible refine And.intro ?_ ?_); (focus omega))) <;> try simp -dsimp -implicitDefEqProofs (maxSteps := 1000000) (disch := first | exact dis | fail) only [DH, DH8, Ct.A, OpD.av, hk, e0, go_sem])
        refine ⟨some [0, 1, 2, 3, 4, 5, 6, 7], rfl, c', r', hC', ?_, ?_⟩
        · simp only [foldR_eq, go_sem]; rfl
        · simp only [foldA_eq, go_sem, LH]
    · have hA' := cAsks_ok c'
      obtain ⟨d0, d1⟩ := hC'.ask
      by_cases hk : o.kind = 5
      · have e5 := k5 hk
        rw [e5] at hA' d0 d1
        have hr := trivial
        try simp -dsimp -implicitDefEqProofs (maxSteps := 1000000) (disch := first | exact dis | fail) only [DH, DH8, Ct.A, OpD.av, hk, e5, b2, b3, go_sem]
        repeat' ((first | ((with_reducible refine ACall.atE (hA') [1, 2, 3, 4] ?_ ?_ ?_ ?_ ?_); (focus decide); (focus rfl); (focus (simp -dsimp -implicitDefEqProofs (maxSteps := 1000000) (disch := first | exact dis | fail) only [standsL, DH, DH8, Ct.A, OpD.av, hk, e5, b2, b3, go_sem]; done)); (focus (first | rfl | (simp -dsimp -implicitDefEqProofs (maxSteps := 1000000) (disch := first | exact dis | fail) only [DH, DH8, Ct.A, OpD.av, hk, e5, b2, b3, go_sem]; done)))) | (with_reducible first | refine w_if ?_ ?_ | refine w_gt ?_ ?_ | refine w_gf ?_ ?_ | refine w_io ?_ ?_ | refine w_gdt ?_ ?_ | refine w_gdf ?_ ?_ | refine w_ite ?_ ?_) <;> intro h <;> (try rw [h]) <;> replace hr := And.intro h hr <;> replace h := nrm h <;> try (first | (exfalso; omega) | exact (bx h (by assumption)).elim | exact (bx (by assumption) h).elim) | ((with_reducible refine And.intro ?_ ?_); (focus omega))) <;> try simp -dsimp -implicitDefEqProofs (maxSteps := 1000000) (disch := first | exact dis | fail) only [DH, DH8, Ct.A, OpD.av, hk, e5, b2, b3, go_sem])
        refine ⟨some [0, 1, 2, 3, 4, 5, 6, 9], rfl, c', r', hC', ?_, ?_⟩
        · simp only [foldR_eq, go_sem]; rfl
        · simp only [foldA_eq, go_sem, LH, e5]
      · have e0 := k0 hk
        have hr := trivial
        try simp -dsimp -implicitDefEqProofs (maxSteps := 1000000) (disch := first | exact dis | fail) only [DH, DH8, Ct.A, OpD.av, hk, e0, go_sem]
        repeat' ((first | ((with_reducible refine ACall.atE (hA') [1, 2, 3, 4] ?_ ?_ ?_ ?_ ?_); (focus decide); (focus rfl); (focus (simp -dsimp -implicitDefEqProofs (maxSteps := 1000000) (disch := first | exact dis | fail) only [standsL, DH, DH8, Ct.A, OpD.av, hk, e0, go_sem]; done)); (focus (first | rfl | (simp -dsimp -implicitDefEqProofs (maxSteps := 1000000) (disch := first | exact dis | fail) only [DH, DH8, Ct.A, OpD.av, hk, e0, go_sem]; done)))) | (with_reducible first | refine w_if ?_ ?_ | refine w_gt ?_ ?_ | refine w_gf ?_ ?_ | refine w_io ?_ ?_ | refine w_gdt ?_ ?_ | refine w_gdf ?_ ?_ | refine w_ite ?_ ?_) <;> intro h <;> (try rw [h]) <;> replace hr := And.intro h hr <;> replace h := nrm h <;> try (first | (exfalso; omega) | exact (bx h (by assumption)).elim | exact (bx (by assumption) h).elim) | ((with_reducible refine And.intro ?_ ?_); (focus omega))) <;> try simp -dsimp -implicitDefEqProofs (maxSteps := 1000000) (disch := first | exact dis | fail) only [DH, DH8, Ct.A, OpD.av, hk, e0, go_sem])
        refine ⟨some [0, 1, 2, 3, 4, 5, 6, 9], rfl, c', r', hC', ?_, ?_⟩
        · simp only [foldR_eq, go_sem]; rfl
        · simp only [foldA_eq, go_sem, LH]
  · obtain rfl : i = l.length := by omega
    have hr := trivial
    try simp -dsimp -implicitDefEqProofs (maxSteps := 1000000) (disch := first | exact dis | fail) only [hc_law14_CtrlBits_b1, LH, go_sem]
    repeat' ((first | (with_reducible first | refine w_if ?_ ?_ | refine w_gt ?_ ?_ | refine w_gf ?_ ?_ | refine w_io ?_ ?_ | refine w_gdt ?_ ?_ | refine w_gdf ?_ ?_ | refine w_ite ?_ ?_) <;> intro h <;> (try rw [h]) <;> replace hr := And.intro h hr <;> replace h := nrm h <;> try (first | (exfalso; omega) | exact (bx h (by assumption)).elim | exact (bx (by assumption) h).elim) | ((with_reducible refine And.intro ?_ ?_); (focus omega))) <;> try simp -dsimp -implicitDefEqProofs (maxSteps := 1000000) (disch := first | exact dis | fail) only [LH, go_sem])
    exact hq c r _ (by simp only [go_sem])
theorem CtrlBits_call (cf : Cf) (hfi : ∀ x, x ∈ cf.acc → FiOk x) (l : List OpD) : ACall Try.prog f_law14_CtrlBits [.agg cf.av, .ps 9 (rows oav l)] [] fun r _ => r = .bool true := by
  refine acallH ok_law14_CtrlBits ?_
  have hF := few_ok cf l
  have alive := alive_ok
  cases hf : fewB cf l with
  | false =>
    rw [hf] at hF
    have hr := trivial
    try simp -dsimp -implicitDefEqProofs (maxSteps := 1000000) (disch := first | exact dis | fail) only [hc_law14_CtrlBits, Cf.av, go_sem]
    repeat' ((first | ((with_reducible refine ACall.atE (hF) [] ?_ ?_ ?_ ?_ ?_); (focus decide); (focus rfl); (focus (simp -dsimp -implicitDefEqProofs (maxSteps := 1000000) (disch := first | exact dis | fail) only [standsL, Cf.av, go_sem]; done)); (focus (first | rfl | (simp -dsimp -implicitDefEqProofs (maxSteps := 1000000) (disch := first | exact dis | fail) only [Cf.av, go_sem]; done)))) | (with_reducible refine PCall.aci alive ?_) | (with_reducible first | refine w_if ?_ ?_ | refine w_gt ?_ ?_ | refine w_gf ?_ ?_ | refine w_io ?_ ?_ | refine w_gdt ?_ ?_ | refine w_gdf ?_ ?_ | refine w_ite ?_ ?_) <;> intro h <;> (try rw [h]) <;> replace hr := And.intro h hr <;> replace h := nrm h <;> try (first | (exfalso; omega) | exact (bx h (by assumption)).elim | exact (bx (by assumption) h).elim) | ((with_reducible refine And.intro ?_ ?_); (focus omega))) <;> try simp -dsimp -implicitDefEqProofs (maxSteps := 1000000) (disch := first | exact dis | fail) only [Cf.av, go_sem])
    exact ⟨none, rfl, rfl⟩
  | true =>
    rw [hf] at hF
    obtain ⟨hl, hacc⟩ := fewB_t hf
    have hN := cNew_ok cf (by omega)
    have hM := rcNew_ok cf
    have hC := CR.new cf
    generalize Ct.new cf = c at hN hC
    generalize Rc.new cf = r at hM hC
    have key := fun v1 Q hq => B1 cf hacc hfi l hl c r hC v1 Q hq
    simp only [LH, Cf.av, go_sem] at key
    have hr := trivial
    try simp -dsimp -implicitDefEqProofs (maxSteps := 1000000) (disch := first | exact dis | fail) only [hc_law14_CtrlBits, Cf.av, Ct.A, Rc.A, Rc.cs, go_sem]
    repeat' ((first | ((with_reducible refine ACall.atE (hF) [] ?_ ?_ ?_ ?_ ?_); (focus decide); (focus rfl); (focus (simp -dsimp -implicitDefEqProofs (maxSteps := 1000000) (disch := first | exact dis | fail) only [standsL, Cf.av, Ct.A, Rc.A, Rc.cs, go_sem]; done)); (focus (first | rfl | (simp -dsimp -implicitDefEqProofs (maxSteps := 1000000) (disch := first | exact dis | fail) only [Cf.av, Ct.A, Rc.A, Rc.cs, go_sem]; done)))) | ((with_reducible refine ACall.atE (hN) [] ?_ ?_ ?_ ?_ ?_); (focus decide); (focus rfl); (focus (simp -dsimp -implicitDefEqProofs (maxSteps := 1000000) (disch := first | exact dis | fail) only [standsL, Cf.av, Ct.A, Rc.A, Rc.cs, go_sem]; done)); (focus (first | rfl | (simp -dsimp -implicitDefEqProofs (maxSteps := 1000000) (disch := first | exact dis | fail) only [Cf.av, Ct.A, Rc.A, Rc.cs, go_sem]; done)))) | ((with_reducible refine ACall.atE (hM) [] ?_ ?_ ?_ ?_ ?_); (focus decide); (focus rfl); (focus (simp -dsimp -implicitDefEqProofs (maxSteps := 1000000) (disch := first | exact dis | fail) only [standsL, Cf.av, Ct.A, Rc.A, Rc.cs, go_sem]; done)); (focus (first | rfl | (simp -dsimp -implicitDefEqProofs (maxSteps := 1000000) (disch := first | exact dis | fail) only [Cf.av, Ct.A, Rc.A, Rc.cs, go_sem]; done)))) | (with_reducible first | refine w_if ?_ ?_ | refine w_gt ?_ ?_ | refine w_gf ?_ ?_ | refine w_io ?_ ?_ | refine w_gdt ?_ ?_ | refine w_gdf ?_ ?_ | refine w_ite ?_ ?_) <;> intro h <;> (try rw [h]) <;> replace hr := And.intro h hr <;> replace h := nrm h <;> try (first | (exfalso; omega) | exact (bx h (by assumption)).elim | exact (bx (by assumption) h).elim) | ((with_reducible refine And.intro ?_ ?_); (focus omega))) <;> try simp -dsimp -implicitDefEqProofs (maxSteps := 1000000) (disch := first | exact dis | fail) only [Cf.av, Ct.A, Rc.A, Rc.cs, go_sem])
    refine key _ _ ?_
    clear key hN hM hC
    rintro c r ρ rfl
    have hr := trivial
    try simp -dsimp -implicitDefEqProofs (maxSteps := 1000000) (disch := first | exact dis | fail) only [LH, go_sem]
    repeat' ((first | (with_reducible refine PCall.aci alive ?_) | (with_reducible first | refine w_if ?_ ?_ | refine w_gt ?_ ?_ | refine w_gf ?_ ?_ | refine w_io ?_ ?_ | refine w_gdt ?_ ?_ | refine w_gdf ?_ ?_ | refine w_ite ?_ ?_) <;> intro h <;> (try rw [h]) <;> replace hr := And.intro h hr <;> replace h := nrm h <;> try (first | (exfalso; omega) | exact (bx h (by assumption)).elim | exact (bx (by assumption) h).elim) | ((with_reducible refine And.intro ?_ ?_); (focus omega))) <;> try simp -dsimp -implicitDefEqProofs (maxSteps := 1000000) (disch := first | exact dis | fail) only [LH, go_sem])
    exact ⟨none, rfl, rfl⟩
end Go.Proofs.Ytapoilcpollmpaa
end
