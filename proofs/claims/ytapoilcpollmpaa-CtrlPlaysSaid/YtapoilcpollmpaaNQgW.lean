/- QgW, put together. Conditions: none. -/
import Derived.Test.YtapoilcpollmpaaNQgRT
/- CtrlPlays: the law's call. -/
section
namespace Go.Proofs.Ytapoilcpollmpaa
open Go.SB
attribute [local irreducible] HW HSS HAS HRQ HEO HOP HCK
set_option maxRecDepth 100000
set_option maxHeartbeats 1000000
set_option linter.unusedSimpArgs false
set_option pp.deepTerms.threshold 6
attribute [local go_sem high] own_ren

theorem fewB_t' {cf : Cf} {l : List OpD} (h : fewB cf l = true) : l.length ≤ 300 ∧ cf.acc.length ≤ 50 := by
  simp only [fewB, Bool.and_eq_true, decide_eq_true_eq] at h
  omega
/-- Both controllers, the document's mailboxes opened. -/
def DHO (c : Ct) (r : Rc) : AHeap := [some (.cells [.ptr 1 0, .ptr 2 0, .sl 3 3 0 c.acc.length false, .int .i64 c.asks]), some (.own c.bx.ov), some (.own c.rg.ov), some (.arr (rows fiv c.acc)),
  some (.cells [.ptr 5 0, .sl 6 4 r.pre.length r.fifo.length false, .int .i64 r.room, .ps 3 (rows fiv r.acc), .int .i64 r.lost, .int .i64 r.asks]), some (r.bx.oc 7), some (.arr (rows frv (r.pre ++ r.fifo)))] ++ r.bx.oa
theorem DHO.shut (c : Ct) (r : Rc) : Vw (DHO c r) (DH c r ++ dead4) := by
  have h := vw_close (l := 5) (A := DHO c r) rfl (.sl (p := 7) rfl (by rw [rows_length]; omega) (by decide) rows_all flatLL_rows rfl (.sl (p := 8) rfl (by rw [rows_length]; omega) (by decide) rows_all flatLL_rows rfl
    (.sl (p := 9) rfl (by rw [rows_length]; omega) (by decide) rows_all flatLL_rows rfl (.sl (p := 10) rfl (by rw [rows_length]; omega) (by decide) rows_all flatLL_rows rfl .nil))))
  exact h
def DH12 (c : Ct) (r : Rc) (g : List Fr) : AHeap := [some (.cells [.ptr 1 0, .ptr 2 0, .sl 3 3 0 c.acc.length false, .int .i64 c.asks]), some (.own c.bx.ov), some (.own c.rg.ov), some (.arr (rows fiv c.acc)),
  some (.cells [.ptr 5 0, .sl 11 4 r.pre.length r.fifo.length false, .int .i64 r.room, .ps 3 (rows fiv r.acc), .int .i64 r.lost, .int .i64 r.asks]), some (.own r.bx.ov), some (.arr (rows frv g))] ++ dead4 ++ [some (.arr (rows frv (r.pre ++ r.fifo)))]
theorem do_okO (cf : Cf) (hn : cf.acc.length ≤ 50) (hfi : ∀ x, x ∈ cf.acc → FiOk x) (k : Nat) (hk : k ≤ 300) (o : OpD) (c : Ct) (r : Rc) (h : CR cf k c r) :
    ACall Try.prog f_law14_do [.ptr 0 0, .ptr 4 0, .agg o.av] (DHO c r) fun v A => v = .bool true ∧ ∃ c' r', CR cf (k + 1) c' r' ∧ (A = DH c' r' ++ dead4 ∨ ∃ g, A = DH12 c' r' g) := by
  refine ACall.pre (DHO.shut c r) rfl ?_
  refine ACall.mono ((do_ok cf hn hfi k hk o c r h).frame (B := DH c r ++ dead4) (js := [0, 1, 2, 3, 4, 5, 6]) ⟨rfl, by decide, by simp [DH, dead4], ?_⟩) ?_
  · intro i j o h1 h2
    rcases i with _ | _ | _ | _ | _ | _ | _ | i
    all_goals first | (cases h1; cases h2; first | rfl | (simp only [DH, dead4, go_sem, Option.map]; done)) | cases h1
  · rintro v A ⟨v1, A1, ⟨rfl, c', r', hC, _, rfl | ⟨g, rfl⟩⟩, rfl, rfl⟩
    · refine ⟨rfl, c', r', hC, .inl ?_⟩
      simp only [DH, dead4, putAll, go_sem, Option.map]
    · refine ⟨rfl, c', r', hC, .inr ⟨g, ?_⟩⟩
      simp only [DH8, DH12, DH, dead4, putAll, go_sem, Option.map]
theorem rxFreeO_ok (b : Rx) (h : RxOk b) : ACall Try.prog f_ref13_Boxes_Free [.ptr 0 0] b.A fun v A => v = .int .i64 (cnt0 b.st b.st.length) ∧ A = b.O := by
  refine (rxFree_ok b h).post ?_
  rintro r B ⟨rfl, rfl⟩
  exact ⟨b.O, b.opn, none, rfl, rfl, rfl⟩
theorem rcNewO_ok (c : Cf) : ACall Try.prog f_ref14_New [.agg c.av] [] fun v A => v = .ptr 0 0 ∧ A = (Rc.new c).OA := by
  refine (rcNew_ok c).post ?_
  rintro r B ⟨rfl, rfl⟩
  exact ⟨_, Rc.opn _, none, rfl, rfl, rfl⟩
/-- The heap: the making, both controllers, the document's mailboxes opened. -/
def PH (cf : Cf) (c : Ct) (r : Rc) : AHeap := [some (.cells cf.av), some (.cells [.ptr 2 0, .ptr 3 0, .sl 4 3 0 c.acc.length false, .int .i64 c.asks]), some (.own c.bx.ov), some (.own c.rg.ov), some (.arr (rows fiv c.acc)),
  some (.cells [.ptr 6 0, .sl 7 4 r.pre.length r.fifo.length false, .int .i64 r.room, .ps 3 (rows fiv r.acc), .int .i64 r.lost, .int .i64 r.asks]), some (r.bx.oc 8), some (.arr (rows frv (r.pre ++ r.fifo)))] ++ r.bx.oa
/-- The calls, one behind the other. -/
theorem P1 (cf : Cf) (hacc : cf.acc.length ≤ 50) (hfi : ∀ x, x ∈ cf.acc → FiOk x) (l : List OpD) (hl : l.length ≤ 300) (c : Ct) (r : Rc) (hC : CR cf 0 c r) (v3 : AV) (Q : IExit → List AV → AHeap → Prop)
    (hq : ∀ c r k, k ≤ 300 → CR cf k c r → ∀ ρ, ρ = rg 46 [(4, .ptr 1 0), (5, .ptr 5 0), (13, .ps 9 (rows oav l)), (14, .int .i64 l.length), (15, .int .i64 l.length)] → Q (.exit 0) ρ (PH cf c r)) :
    HW Try.prog 0 hc_law14_CtrlPlays_l1 (rg 46 [(3, v3), (4, .ptr 1 0), (5, .ptr 5 0), (13, .ps 9 (rows oav l)), (14, .int .i64 l.length), (15, .int .i64 0)]) (PH cf c r) Q := by
  unfold hc_law14_CtrlPlays_l1
  refine hw_loop l.length (fun i ρ A => ∃ c r, CR cf i c r ∧ ρ = rg 46 [(4, .ptr 1 0), (5, .ptr 5 0), (13, .ps 9 (rows oav l)), (14, .int .i64 l.length), (15, .int .i64 i)] ∧ A = PH cf c r) ⟨none, rfl, c, r, hC, by simp only [foldRn, go_sem], rfl⟩ ?_
  rintro i ρ A hi ⟨c, r, hC, rfl, rfl⟩
  by_cases hlt : i < l.length
  · have hx : l[i]? = some l[i] := List.getElem?_eq_getElem hlt
    generalize l[i] = o at hx
    have hd : (rows oav l).getD i [] = o.av := by simp [List.getD, rows_get, hx, oav]
    have hD := do_okO cf hacc hfi i (by omega) o c r hC
    have hr := trivial
    try simp -dsimp -implicitDefEqProofs (maxSteps := 1000000) (disch := first | exact dis | fail) only [hc_law14_CtrlPlays_b1, PH, Rx.oc, Rx.oa, Int.toNat_natCast, hd, OpD.av, go_sem]
    repeat' ((first | (with_reducible first | refine w_if ?_ ?_ | refine w_gt ?_ ?_ | refine w_gf ?_ ?_ | refine w_io ?_ ?_ | refine w_gdt ?_ ?_ | refine w_gdf ?_ ?_ | refine w_ite ?_ ?_) <;> intro h <;> (try rw [h]) <;> replace hr := And.intro h hr <;> replace h := nrm h <;> try (first | (exfalso; omega) | exact (bx h (by assumption)).elim | exact (bx (by assumption) h).elim) | ((with_reducible refine And.intro ?_ ?_); (focus omega))) <;> try simp -dsimp -implicitDefEqProofs (maxSteps := 1000000) (disch := first | exact dis | fail) only [PH, Rx.oc, Rx.oa, Int.toNat_natCast, hd, OpD.av, go_sem])
    refine hD.at' [1, 2, 3, 4, 5, 6, 7, 8, 9, 10, 11] (by decide) rfl (by simp only [standsL, DHO, Rx.oc, Rx.oa, go_sem, List.cons_append, List.nil_append]) rfl ?_
    rintro v A ⟨rfl, c', r', hC', rfl | ⟨g, rfl⟩⟩
    · have hA := cAsks_ok c'
      have hK := cKept_ok c'
      have hL := cLost_ok c'
      have hF := cFree_ok c' (hC'.br.bok (by have := hC'.puts; omega))
      have hR := rxFreeO_ok r'.bx hC'.br.rok
      have hm := all_len' hC'.rg
      rw [hC'.br.free] at hR
      rw [← hC'.asks] at hA
      rw [← hC'.lost] at hL
      rw [← hm, hC'.fifo] at hK
      have hr := trivial
      try simp -dsimp -implicitDefEqProofs (maxSteps := 1000000) (disch := first | exact dis | fail) only [DH, dead4, Ct.A, Rx.A, Rx.O, OpD.av, go_sem]
      repeat' ((first | ((with_reducible refine ACall.atE (hA) [1, 2, 3, 4] ?_ ?_ ?_ ?_ ?_); (focus decide); (focus rfl); (focus (simp -dsimp -implicitDefEqProofs (maxSteps := 1000000) (disch := first | exact dis | fail) only [standsL, DH, dead4, Ct.A, Rx.A, Rx.O, OpD.av, go_sem]; done)); (focus (first | rfl | (simp -dsimp -implicitDefEqProofs (maxSteps := 1000000) (disch := first | exact dis | fail) only [DH, dead4, Ct.A, Rx.A, Rx.O, OpD.av, go_sem]; done)))) | ((with_reducible refine ACall.atE (hK) [1, 2, 3, 4] ?_ ?_ ?_ ?_ ?_); (focus decide); (focus rfl); (focus (simp -dsimp -implicitDefEqProofs (maxSteps := 1000000) (disch := first | exact dis | fail) only [standsL, DH, dead4, Ct.A, Rx.A, Rx.O, OpD.av, go_sem]; done)); (focus (first | rfl | (simp -dsimp -implicitDefEqProofs (maxSteps := 1000000) (disch := first | exact dis | fail) only [DH, dead4, Ct.A, Rx.A, Rx.O, OpD.av, go_sem]; done)))) | ((with_reducible refine ACall.atE (hL) [1, 2, 3, 4] ?_ ?_ ?_ ?_ ?_); (focus decide); (focus rfl); (focus (simp -dsimp -implicitDefEqProofs (maxSteps := 1000000) (disch := first | exact dis | fail) only [standsL, DH, dead4, Ct.A, Rx.A, Rx.O, OpD.av, go_sem]; done)); (focus (first | rfl | (simp -dsimp -implicitDefEqProofs (maxSteps := 1000000) (disch := first | exact dis | fail) only [DH, dead4, Ct.A, Rx.A, Rx.O, OpD.av, go_sem]; done)))) | ((with_reducible refine ACall.atE (hF) [1, 2, 3, 4] ?_ ?_ ?_ ?_ ?_); (focus decide); (focus rfl); (focus (simp -dsimp -implicitDefEqProofs (maxSteps := 1000000) (disch := first | exact dis | fail) only [standsL, DH, dead4, Ct.A, Rx.A, Rx.O, OpD.av, go_sem]; done)); (focus (first | rfl | (simp -dsimp -implicitDefEqProofs (maxSteps := 1000000) (disch := first | exact dis | fail) only [DH, dead4, Ct.A, Rx.A, Rx.O, OpD.av, go_sem]; done)))) | ((with_reducible refine ACall.atE (hR) [6] ?_ ?_ ?_ ?_ ?_); (focus decide); (focus rfl); (focus (simp -dsimp -implicitDefEqProofs (maxSteps := 1000000) (disch := first | exact dis | fail) only [standsL, DH, dead4, Ct.A, Rx.A, Rx.O, OpD.av, go_sem]; done)); (focus (first | rfl | (simp -dsimp -implicitDefEqProofs (maxSteps := 1000000) (disch := first | exact dis | fail) only [DH, dead4, Ct.A, Rx.A, Rx.O, OpD.av, go_sem]; done)))) | (with_reducible first | refine w_if ?_ ?_ | refine w_gt ?_ ?_ | refine w_gf ?_ ?_ | refine w_io ?_ ?_ | refine w_gdt ?_ ?_ | refine w_gdf ?_ ?_ | refine w_ite ?_ ?_) <;> intro h <;> (try rw [h]) <;> replace hr := And.intro h hr <;> replace h := nrm h <;> try (first | (exfalso; omega) | exact (bx h (by assumption)).elim | exact (bx (by assumption) h).elim) | ((with_reducible refine And.intro ?_ ?_); (focus omega))) <;> try simp -dsimp -implicitDefEqProofs (maxSteps := 1000000) (disch := first | exact dis | fail) only [DH, dead4, Ct.A, Rx.A, Rx.O, OpD.av, go_sem])
      refine ⟨some [0, 1, 2, 3, 4, 5, 6, 7, 13, 14, 15, 16], rfl, c', r', hC', ?_, ?_⟩
      · simp only [foldR_eq, go_sem]; rfl
      · simp only [foldA_eq, go_sem, PH, Rx.oc, Rx.oa, List.cons_append, List.nil_append]
    · have hA := cAsks_ok c'
      have hK := cKept_ok c'
      have hL := cLost_ok c'
      have hF := cFree_ok c' (hC'.br.bok (by have := hC'.puts; omega))
      have hR := rxFreeO_ok r'.bx hC'.br.rok
      have hm := all_len' hC'.rg
      rw [hC'.br.free] at hR
      rw [← hC'.asks] at hA
      rw [← hC'.lost] at hL
      rw [← hm, hC'.fifo] at hK
      have hr := trivial
      try simp -dsimp -implicitDefEqProofs (maxSteps := 1000000) (disch := first | exact dis | fail) only [DH12, dead4, Ct.A, Rx.A, Rx.O, OpD.av, go_sem]
      repeat' ((first | ((with_reducible refine ACall.atE (hA) [1, 2, 3, 4] ?_ ?_ ?_ ?_ ?_); (focus decide); (focus rfl); (focus (simp -dsimp -implicitDefEqProofs (maxSteps := 1000000) (disch := first | exact dis | fail) only [standsL, DH12, dead4, Ct.A, Rx.A, Rx.O, OpD.av, go_sem]; done)); (focus (first | rfl | (simp -dsimp -implicitDefEqProofs (maxSteps := 1000000) (disch := first | exact dis | fail) only [DH12, dead4, Ct.A, Rx.A, Rx.O, OpD.av, go_sem]; done)))) | ((with_reducible refine ACall.atE (hK) [1, 2, 3, 4] ?_ ?_ ?_ ?_ ?_); (focus decide); (focus rfl); (focus (simp -dsimp -implicitDefEqProofs (maxSteps := 1000000) (disch := first | exact dis | fail) only [standsL, DH12, dead4, Ct.A, Rx.A, Rx.O, OpD.av, go_sem]; done)); (focus (first | rfl | (simp -dsimp -implicitDefEqProofs (maxSteps := 1000000) (disch := first | exact dis | fail) only [DH12, dead4, Ct.A, Rx.A, Rx.O, OpD.av, go_sem]; done)))) | ((with_reducible refine ACall.atE (hL) [1, 2, 3, 4] ?_ ?_ ?_ ?_ ?_); (focus decide); (focus rfl); (focus (simp -dsimp -implicitDefEqProofs (maxSteps := 1000000) (disch := first | exact dis | fail) only [standsL, DH12, dead4, Ct.A, Rx.A, Rx.O, OpD.av, go_sem]; done)); (focus (first | rfl | (simp -dsimp -implicitDefEqProofs (maxSteps := 1000000) (disch := first | exact dis | fail) only [DH12, dead4, Ct.A, Rx.A, Rx.O, OpD.av, go_sem]; done)))) | ((with_reducible refine ACall.atE (hF) [1, 2, 3, 4] ?_ ?_ ?_ ?_ ?_); (focus decide); (focus rfl); (focus (simp -dsimp -implicitDefEqProofs (maxSteps := 1000000) (disch := first | exact dis | fail) only [standsL, DH12, dead4, Ct.A, Rx.A, Rx.O, OpD.av, go_sem]; done)); (focus (first | rfl | (simp -dsimp -implicitDefEqProofs (maxSteps := 1000000) (disch := first | exact dis | fail) only [DH12, dead4, Ct.A, Rx.A, Rx.O, OpD.av, go_sem]; done)))) | ((with_reducible refine ACall.atE (hR) [6] ?_ ?_ ?_ ?_ ?_); (focus decide); (focus rfl); (focus (simp -dsimp -implicitDefEqProofs (maxSteps := 1000000) (disch := first | exact dis | fail) only [standsL, DH12, dead4, Ct.A, Rx.A, Rx.O, OpD.av, go_sem]; done)); (focus (first | rfl | (simp -dsimp -implicitDefEqProofs (maxSteps := 1000000) (disch := first | exact dis | fail) only [DH12, dead4, Ct.A, Rx.A, Rx.O, OpD.av, go_sem]; done)))) | (with_reducible first | refine w_if ?_ ?_ | refine w_gt ?_ ?_ | refine w_gf ?_ ?_ | refine w_io ?_ ?_ | refine w_gdt ?_ ?_ | refine w_gdf ?_ ?_ | refine w_ite ?_ ?_) <;> intro h <;> (try rw [h]) <;> replace hr := And.intro h hr <;> replace h := nrm h <;> try (first | (exfalso; omega) | exact (bx h (by assumption)).elim | exact (bx (by assumption) h).elim) | ((with_reducible refine And.intro ?_ ?_); (focus omega))) <;> try simp -dsimp -implicitDefEqProofs (maxSteps := 1000000) (disch := first | exact dis | fail) only [DH12, dead4, Ct.A, Rx.A, Rx.O, OpD.av, go_sem])
      refine ⟨some [0, 1, 2, 3, 4, 5, 6, 13, 14, 15, 16, 17], rfl, c', r', hC', ?_, ?_⟩
      · simp only [foldR_eq, go_sem]; rfl
      · simp only [foldA_eq, go_sem, PH, Rx.oc, Rx.oa, List.cons_append, List.nil_append]
  · obtain rfl : i = l.length := by omega
    have hr := trivial
    try simp -dsimp -implicitDefEqProofs (maxSteps := 1000000) (disch := first | exact dis | fail) only [hc_law14_CtrlPlays_b1, PH, go_sem]
    repeat' ((first | (with_reducible first | refine w_if ?_ ?_ | refine w_gt ?_ ?_ | refine w_gf ?_ ?_ | refine w_io ?_ ?_ | refine w_gdt ?_ ?_ | refine w_gdf ?_ ?_ | refine w_ite ?_ ?_) <;> intro h <;> (try rw [h]) <;> replace hr := And.intro h hr <;> replace h := nrm h <;> try (first | (exfalso; omega) | exact (bx h (by assumption)).elim | exact (bx (by assumption) h).elim) | ((with_reducible refine And.intro ?_ ?_); (focus omega))) <;> try simp -dsimp -implicitDefEqProofs (maxSteps := 1000000) (disch := first | exact dis | fail) only [PH, go_sem])
    exact hq c r l.length hl hC _ (by simp only [go_sem])
theorem CtrlPlays_call (cf : Cf) (hfi : ∀ x, x ∈ cf.acc → FiOk x) (l : List OpD) : ACall Try.prog f_law14_CtrlPlays [.agg cf.av, .ps 9 (rows oav l)] [] fun r _ => r = .bool true := by
  refine acallH ok_law14_CtrlPlays ?_
  have hF := few_ok cf l
  have alive := alive_ok
  cases hf : fewB cf l with
  | false =>
    rw [hf] at hF
    have hr := trivial
    try simp -dsimp -implicitDefEqProofs (maxSteps := 1000000) (disch := first | exact dis | fail) only [hc_law14_CtrlPlays, Cf.av, go_sem]
    repeat' ((first | ((with_reducible refine ACall.atE (hF) [] ?_ ?_ ?_ ?_ ?_); (focus decide); (focus rfl); (focus (simp -dsimp -implicitDefEqProofs (maxSteps := 1000000) (disch := first | exact dis | fail) only [standsL, Cf.av, go_sem]; done)); (focus (first | rfl | (simp -dsimp -implicitDefEqProofs (maxSteps := 1000000) (disch := first | exact dis | fail) only [Cf.av, go_sem]; done)))) | (with_reducible refine PCall.aci alive ?_) | (with_reducible first | refine w_if ?_ ?_ | refine w_gt ?_ ?_ | refine w_gf ?_ ?_ | refine w_io ?_ ?_ | refine w_gdt ?_ ?_ | refine w_gdf ?_ ?_ | refine w_ite ?_ ?_) <;> intro h <;> (try rw [h]) <;> replace hr := And.intro h hr <;> replace h := nrm h <;> try (first | (exfalso; omega) | exact (bx h (by assumption)).elim | exact (bx (by assumption) h).elim) | ((with_reducible refine And.intro ?_ ?_); (focus omega))) <;> try simp -dsimp -implicitDefEqProofs (maxSteps := 1000000) (disch := first | exact dis | fail) only [Cf.av, go_sem])
    exact ⟨none, rfl, rfl⟩
  | true =>
    rw [hf] at hF
    obtain ⟨hl, hacc⟩ := fewB_t' hf
    have hN := cNew_ok cf (by omega)
    have hM := rcNewO_ok cf
    have hC := CR.new cf
    generalize Ct.new cf = c at hN hC
    generalize Rc.new cf = r at hM hC
    have key := fun v3 Q hq => P1 cf hacc hfi l hl c r hC v3 Q hq
    simp only [PH, Rx.oc, Rx.oa, Cf.av, go_sem, List.cons_append, List.nil_append] at key
    have hr := trivial
    try simp -dsimp -implicitDefEqProofs (maxSteps := 1000000) (disch := first | exact dis | fail) only [hc_law14_CtrlPlays, Cf.av, Ct.A, Rc.OA, Rc.cs, Rx.oc, Rx.oa, go_sem]
    repeat' ((first | ((with_reducible refine ACall.atE (hF) [] ?_ ?_ ?_ ?_ ?_); (focus decide); (focus rfl); (focus (simp -dsimp -implicitDefEqProofs (maxSteps := 1000000) (disch := first | exact dis | fail) only [standsL, Cf.av, Ct.A, Rc.OA, Rc.cs, Rx.oc, Rx.oa, go_sem]; done)); (focus (first | rfl | (simp -dsimp -implicitDefEqProofs (maxSteps := 1000000) (disch := first | exact dis | fail) only [Cf.av, Ct.A, Rc.OA, Rc.cs, Rx.oc, Rx.oa, go_sem]; done)))) | ((with_reducible refine ACall.atE (hN) [] ?_ ?_ ?_ ?_ ?_); (focus decide); (focus rfl); (focus (simp -dsimp -implicitDefEqProofs (maxSteps := 1000000) (disch := first | exact dis | fail) only [standsL, Cf.av, Ct.A, Rc.OA, Rc.cs, Rx.oc, Rx.oa, go_sem]; done)); (focus (first | rfl | (simp -dsimp -implicitDefEqProofs (maxSteps := 1000000) (disch := first | exact dis | fail) only [Cf.av, Ct.A, Rc.OA, Rc.cs, Rx.oc, Rx.oa, go_sem]; done)))) | ((with_reducible refine ACall.atE (hM) [] ?_ ?_ ?_ ?_ ?_); (focus decide); (focus rfl); (focus (simp -dsimp -implicitDefEqProofs (maxSteps := 1000000) (disch := first | exact dis | fail) only [standsL, Cf.av, Ct.A, Rc.OA, Rc.cs, Rx.oc, Rx.oa, go_sem]; done)); (focus (first | rfl | (simp -dsimp -implicitDefEqProofs (maxSteps := 1000000) (disch := first | exact dis | fail) only [Cf.av, Ct.A, Rc.OA, Rc.cs, Rx.oc, Rx.oa, go_sem]; done)))) | (with_reducible first | refine w_if ?_ ?_ | refine w_gt ?_ ?_ | refine w_gf ?_ ?_ | refine w_io ?_ ?_ | refine w_gdt ?_ ?_ | refine w_gdf ?_ ?_ | refine w_ite ?_ ?_) <;> intro h <;> (try rw [h]) <;> replace hr := And.intro h hr <;> replace h := nrm h <;> try (first | (exfalso; omega) | exact (bx h (by assumption)).elim | exact (bx (by assumption) h).elim) | ((with_reducible refine And.intro ?_ ?_); (focus omega))) <;> try simp -dsimp -implicitDefEqProofs (maxSteps := 1000000) (disch := first | exact dis | fail) only [Cf.av, Ct.A, Rc.OA, Rc.cs, Rx.oc, Rx.oa, go_sem])
    refine key _ _ ?_
    clear key hN hM hC
    rintro c r k hk hC ρ rfl
    have hS := cStates_ok c (hC.br.bok (by have := hC.puts; omega))
    have hl1 := sts_len c.bx
    have hst := hC.br.st
    have hI := Ints_ok c.bx.sts (by rw [sts_len]; exact hC.br.I.len.2)
    rw [sts_len] at hI
    have hlen := hC.br.I.len
    have hr := trivial
    try simp -dsimp -implicitDefEqProofs (maxSteps := 1000000) (disch := first | exact dis | fail) only [PH, Ct.A, Rx.oc, Rx.oa, hl1, hst, go_sem]
    repeat' ((first | ((with_reducible refine ACall.atE (hS) [1, 2, 3, 4] ?_ ?_ ?_ ?_ ?_); (focus decide); (focus rfl); (focus (simp -dsimp -implicitDefEqProofs (maxSteps := 1000000) (disch := first | exact dis | fail) only [standsL, PH, Ct.A, Rx.oc, Rx.oa, hl1, hst, go_sem]; done)); (focus (first | rfl | (simp -dsimp -implicitDefEqProofs (maxSteps := 1000000) (disch := first | exact dis | fail) only [PH, Ct.A, Rx.oc, Rx.oa, hl1, hst, go_sem]; done)))) | ((with_reducible refine ACall.atE (hI) [12, 8] ?_ ?_ ?_ ?_ ?_); (focus decide); (focus rfl); (focus (simp -dsimp -implicitDefEqProofs (maxSteps := 1000000) (disch := first | exact dis | fail) only [standsL, PH, Ct.A, Rx.oc, Rx.oa, hl1, hst, go_sem]; done)); (focus (first | rfl | (simp -dsimp -implicitDefEqProofs (maxSteps := 1000000) (disch := first | exact dis | fail) only [PH, Ct.A, Rx.oc, Rx.oa, hl1, hst, go_sem]; done)))) | (with_reducible refine PCall.aci alive ?_) | (with_reducible first | refine w_if ?_ ?_ | refine w_gt ?_ ?_ | refine w_gf ?_ ?_ | refine w_io ?_ ?_ | refine w_gdt ?_ ?_ | refine w_gdf ?_ ?_ | refine w_ite ?_ ?_) <;> intro h <;> (try rw [h]) <;> replace hr := And.intro h hr <;> replace h := nrm h <;> try (first | (exfalso; omega) | exact (bx h (by assumption)).elim | exact (bx (by assumption) h).elim) | ((with_reducible refine And.intro ?_ ?_); (focus omega))) <;> try simp -dsimp -implicitDefEqProofs (maxSteps := 1000000) (disch := first | exact dis | fail) only [PH, Ct.A, Rx.oc, Rx.oa, hl1, hst, go_sem])
    exact ⟨none, rfl, rfl⟩
end Go.Proofs.Ytapoilcpollmpaa
end
