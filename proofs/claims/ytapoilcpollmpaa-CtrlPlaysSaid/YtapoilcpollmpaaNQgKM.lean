/- QgK, QgL, QgM, put together. Conditions: none. -/
import Derived.Test.YtapoilcpollmpaaNQgEJ
/- ctrl: its other functions. -/
section
namespace Go.Proofs.Ytapoilcpollmpaa
open Go.SB
attribute [local irreducible] HW HSS HAS HRQ HEO HOP HCK
set_option maxRecDepth 100000
set_option maxHeartbeats 400000
set_option linter.unusedSimpArgs false
set_option pp.deepTerms.threshold 6
attribute [local go_sem high] own_ren

theorem cLoad_ok (c : Ct) (h : BxOk c.bx) (p : Pk) : ACall Try.prog f_ctrl_Ctrl_Load [.ptr 0 0, .agg p.av] c.A fun v A => v = .tup [.int .i64 (c.bx.putI p), .int .i64 (c.bx.putE p)] ∧ A = ({ c with bx := c.bx.put p } : Ct).A := by
  refine acallH ok_ctrl_Ctrl_Load ?_
  have hT := bPut_ok c.bx h p
  have hr := trivial
  try simp -dsimp -implicitDefEqProofs (maxSteps := 1000000) (disch := first | exact dis | fail) only [hc_ctrl_Ctrl_Load, Ct.A, Bx.A, Pk.av, go_sem]
  repeat' ((first | ((with_reducible refine ACall.atE (hT) [1] ?_ ?_ ?_ ?_ ?_); (focus decide); (focus rfl); (focus (simp -dsimp -implicitDefEqProofs (maxSteps := 1000000) (disch := first | exact dis | fail) only [standsL, Ct.A, Bx.A, Pk.av, go_sem]; done)); (focus (first | rfl | (simp -dsimp -implicitDefEqProofs (maxSteps := 1000000) (disch := first | exact dis | fail) only [Ct.A, Bx.A, Pk.av, go_sem]; done)))) | (with_reducible first | refine w_if ?_ ?_ | refine w_gt ?_ ?_ | refine w_gf ?_ ?_ | refine w_io ?_ ?_ | refine w_gdt ?_ ?_ | refine w_gdf ?_ ?_ | refine w_ite ?_ ?_) <;> intro h <;> (try rw [h]) <;> replace hr := And.intro h hr <;> replace h := nrm h <;> try (first | (exfalso; omega) | exact (bx h (by assumption)).elim | exact (bx (by assumption) h).elim) | ((with_reducible refine And.intro ?_ ?_); (focus omega))) <;> try simp -dsimp -implicitDefEqProofs (maxSteps := 1000000) (disch := first | exact dis | fail) only [Ct.A, Bx.A, Pk.av, go_sem])
  exact ⟨some [], rfl, rfl, by simp only [foldA_eq, go_sem]⟩
theorem cAsks_ok (c : Ct) : ACall Try.prog f_ctrl_Ctrl_Asks [.ptr 0 0] c.A fun v A => v = .int .i64 c.asks ∧ A = c.A := by
  refine acallH ok_ctrl_Ctrl_Asks ?_
  have hr := trivial
  try simp -dsimp -implicitDefEqProofs (maxSteps := 1000000) (disch := first | exact dis | fail) only [hc_ctrl_Ctrl_Asks, Ct.A, go_sem]
  repeat' ((first | (with_reducible first | refine w_if ?_ ?_ | refine w_gt ?_ ?_ | refine w_gf ?_ ?_ | refine w_io ?_ ?_ | refine w_gdt ?_ ?_ | refine w_gdf ?_ ?_ | refine w_ite ?_ ?_) <;> intro h <;> (try rw [h]) <;> replace hr := And.intro h hr <;> replace h := nrm h <;> try (first | (exfalso; omega) | exact (bx h (by assumption)).elim | exact (bx (by assumption) h).elim) | ((with_reducible refine And.intro ?_ ?_); (focus omega))) <;> try simp -dsimp -implicitDefEqProofs (maxSteps := 1000000) (disch := first | exact dis | fail) only [Ct.A, go_sem])
  exact ⟨none, rfl, rfl, rfl⟩
theorem cFree_ok (c : Ct) (h : BxOk c.bx) : ACall Try.prog f_ctrl_Ctrl_Free [.ptr 0 0] c.A fun v A => v = .int .i64 c.bx.free ∧ A = c.A := by
  refine acallH ok_ctrl_Ctrl_Free ?_
  have hT := Free_ok c.bx h
  have hr := trivial
  try simp -dsimp -implicitDefEqProofs (maxSteps := 1000000) (disch := first | exact dis | fail) only [hc_ctrl_Ctrl_Free, Ct.A, Bx.A, go_sem]
  repeat' ((first | ((with_reducible refine ACall.atE (hT) [1] ?_ ?_ ?_ ?_ ?_); (focus decide); (focus rfl); (focus (simp -dsimp -implicitDefEqProofs (maxSteps := 1000000) (disch := first | exact dis | fail) only [standsL, Ct.A, Bx.A, go_sem]; done)); (focus (first | rfl | (simp -dsimp -implicitDefEqProofs (maxSteps := 1000000) (disch := first | exact dis | fail) only [Ct.A, Bx.A, go_sem]; done)))) | (with_reducible first | refine w_if ?_ ?_ | refine w_gt ?_ ?_ | refine w_gf ?_ ?_ | refine w_io ?_ ?_ | refine w_gdt ?_ ?_ | refine w_gdf ?_ ?_ | refine w_ite ?_ ?_) <;> intro h <;> (try rw [h]) <;> replace hr := And.intro h hr <;> replace h := nrm h <;> try (first | (exfalso; omega) | exact (bx h (by assumption)).elim | exact (bx (by assumption) h).elim) | ((with_reducible refine And.intro ?_ ?_); (focus omega))) <;> try simp -dsimp -implicitDefEqProofs (maxSteps := 1000000) (disch := first | exact dis | fail) only [Ct.A, Bx.A, go_sem])
  exact ⟨none, rfl, rfl, rfl⟩
end Go.Proofs.Ytapoilcpollmpaa
end

/- ctrl: what is offered, won, ended, aborted. -/
section
namespace Go.Proofs.Ytapoilcpollmpaa
open Go.SB
attribute [local irreducible] HW HSS HAS HRQ HEO HOP HCK
set_option maxRecDepth 100000
set_option maxHeartbeats 400000
set_option linter.unusedSimpArgs false
set_option pp.deepTerms.threshold 6
attribute [local go_sem high] own_ren

def Ct.off (c : Ct) : Ct := { c with asks := ibits .or .i64 c.asks 8 }
theorem cOff_ok (c : Ct) : ACall Try.prog f_ctrl_Ctrl_Off [.ptr 0 0] c.A fun v A => v = .tup [] ∧ A = c.off.A := by
  refine acallH ok_ctrl_Ctrl_Off ?_
  have hr := trivial
  try simp -dsimp -implicitDefEqProofs (maxSteps := 1000000) (disch := first | exact dis | fail) only [hc_ctrl_Ctrl_Off, Ct.A, go_sem]
  repeat' ((first | (with_reducible first | refine w_if ?_ ?_ | refine w_gt ?_ ?_ | refine w_gf ?_ ?_ | refine w_io ?_ ?_ | refine w_gdt ?_ ?_ | refine w_gdf ?_ ?_ | refine w_ite ?_ ?_) <;> intro h <;> (try rw [h]) <;> replace hr := And.intro h hr <;> replace h := nrm h <;> try (first | (exfalso; omega) | exact (bx h (by assumption)).elim | exact (bx (by assumption) h).elim) | ((with_reducible refine And.intro ?_ ?_); (focus omega))) <;> try simp -dsimp -implicitDefEqProofs (maxSteps := 1000000) (disch := first | exact dis | fail) only [Ct.A, go_sem])
  exact ⟨none, rfl, rfl, rfl⟩
def Ct.clear (c : Ct) (n : Int) : Ct := { c with asks := ibits .andNot .i64 c.asks n }
theorem cClear_ok (c : Ct) (n : Int) : ACall Try.prog f_ctrl_Ctrl_Clear [.ptr 0 0, .int .i64 n] c.A fun v A => v = .tup [] ∧ A = (c.clear n).A := by
  refine acallH ok_ctrl_Ctrl_Clear ?_
  have hr := trivial
  try simp -dsimp -implicitDefEqProofs (maxSteps := 1000000) (disch := first | exact dis | fail) only [hc_ctrl_Ctrl_Clear, Ct.A, go_sem]
  repeat' ((first | (with_reducible first | refine w_if ?_ ?_ | refine w_gt ?_ ?_ | refine w_gf ?_ ?_ | refine w_io ?_ ?_ | refine w_gdt ?_ ?_ | refine w_gdf ?_ ?_ | refine w_ite ?_ ?_) <;> intro h <;> (try rw [h]) <;> replace hr := And.intro h hr <;> replace h := nrm h <;> try (first | (exfalso; omega) | exact (bx h (by assumption)).elim | exact (bx (by assumption) h).elim) | ((with_reducible refine And.intro ?_ ?_); (focus omega))) <;> try simp -dsimp -implicitDefEqProofs (maxSteps := 1000000) (disch := first | exact dis | fail) only [Ct.A, go_sem])
  exact ⟨none, rfl, rfl, rfl⟩
theorem cStates_ok (c : Ct) (h : BxOk c.bx) : ACall Try.prog f_ctrl_Ctrl_States [.ptr 0 0] c.A fun v A => v = .sl 4 1 0 c.bx.cells.length false ∧ A = c.A ++ [some (.arr (rows i1 c.bx.sts))] := by
  refine acallH ok_ctrl_Ctrl_States ?_
  have hT := States_ok c.bx h
  have hr := trivial
  try simp -dsimp -implicitDefEqProofs (maxSteps := 1000000) (disch := first | exact dis | fail) only [hc_ctrl_Ctrl_States, Ct.A, Bx.A, go_sem]
  repeat' ((first | ((with_reducible refine ACall.atE (hT) [1] ?_ ?_ ?_ ?_ ?_); (focus decide); (focus rfl); (focus (simp -dsimp -implicitDefEqProofs (maxSteps := 1000000) (disch := first | exact dis | fail) only [standsL, Ct.A, Bx.A, go_sem]; done)); (focus (first | rfl | (simp -dsimp -implicitDefEqProofs (maxSteps := 1000000) (disch := first | exact dis | fail) only [Ct.A, Bx.A, go_sem]; done)))) | (with_reducible first | refine w_if ?_ ?_ | refine w_gt ?_ ?_ | refine w_gf ?_ ?_ | refine w_io ?_ ?_ | refine w_gdt ?_ ?_ | refine w_gdf ?_ ?_ | refine w_ite ?_ ?_) <;> intro h <;> (try rw [h]) <;> replace hr := And.intro h hr <;> replace h := nrm h <;> try (first | (exfalso; omega) | exact (bx h (by assumption)).elim | exact (bx (by assumption) h).elim) | ((with_reducible refine And.intro ?_ ?_); (focus omega))) <;> try simp -dsimp -implicitDefEqProofs (maxSteps := 1000000) (disch := first | exact dis | fail) only [Ct.A, Bx.A, go_sem])
  exact ⟨none, rfl, rfl, rfl⟩
def Bx.bestF (b : Bx) : Fr := if b.best < 0 then Fr.zero else (b.cells.getD b.best.toNat Ce.zero).pk.fr
theorem cOffer_ok (c : Ct) (h : BxOk c.bx) : ACall Try.prog f_ctrl_Ctrl_Offer [.ptr 0 0] c.A fun v A => v = .tup [.agg c.bx.bestF.av, .bool (decide (0 ≤ c.bx.best))] ∧ A = c.A := by
  refine acallH ok_ctrl_Ctrl_Offer ?_
  have hT := Best_ok c.bx h
  by_cases h0 : c.bx.best < 0
  · rw [Bx.bestV, if_pos h0] at hT
    have hr := trivial
    try simp -dsimp -implicitDefEqProofs (maxSteps := 1000000) (disch := first | exact dis | fail) only [hc_ctrl_Ctrl_Offer, Ct.A, Bx.A, Pk.av, Fr.av, go_sem]
    repeat' ((first | ((with_reducible refine ACall.atE (hT) [1] ?_ ?_ ?_ ?_ ?_); (focus decide); (focus rfl); (focus (simp -dsimp -implicitDefEqProofs (maxSteps := 1000000) (disch := first | exact dis | fail) only [standsL, Ct.A, Bx.A, Pk.av, Fr.av, go_sem]; done)); (focus (first | rfl | (simp -dsimp -implicitDefEqProofs (maxSteps := 1000000) (disch := first | exact dis | fail) only [Ct.A, Bx.A, Pk.av, Fr.av, go_sem]; done)))) | (with_reducible first | refine w_if ?_ ?_ | refine w_gt ?_ ?_ | refine w_gf ?_ ?_ | refine w_io ?_ ?_ | refine w_gdt ?_ ?_ | refine w_gdf ?_ ?_ | refine w_ite ?_ ?_) <;> intro h <;> (try rw [h]) <;> replace hr := And.intro h hr <;> replace h := nrm h <;> try (first | (exfalso; omega) | exact (bx h (by assumption)).elim | exact (bx (by assumption) h).elim) | ((with_reducible refine And.intro ?_ ?_); (focus omega))) <;> try simp -dsimp -implicitDefEqProofs (maxSteps := 1000000) (disch := first | exact dis | fail) only [Ct.A, Bx.A, Pk.av, Fr.av, go_sem])
    exact ⟨some [], rfl, by rw [Bx.bestF, if_pos h0, decide_eq_false (by omega)]; rfl, by simp only [foldA_eq, go_sem]⟩
  · rw [Bx.bestV, if_neg h0] at hT
    have hr := trivial
    try simp -dsimp -implicitDefEqProofs (maxSteps := 1000000) (disch := first | exact dis | fail) only [hc_ctrl_Ctrl_Offer, Ct.A, Bx.A, Pk.av, Fr.av, go_sem]
    repeat' ((first | ((with_reducible refine ACall.atE (hT) [1] ?_ ?_ ?_ ?_ ?_); (focus decide); (focus rfl); (focus (simp -dsimp -implicitDefEqProofs (maxSteps := 1000000) (disch := first | exact dis | fail) only [standsL, Ct.A, Bx.A, Pk.av, Fr.av, go_sem]; done)); (focus (first | rfl | (simp -dsimp -implicitDefEqProofs (maxSteps := 1000000) (disch := first | exact dis | fail) only [Ct.A, Bx.A, Pk.av, Fr.av, go_sem]; done)))) | (with_reducible first | refine w_if ?_ ?_ | refine w_gt ?_ ?_ | refine w_gf ?_ ?_ | refine w_io ?_ ?_ | refine w_gdt ?_ ?_ | refine w_gdf ?_ ?_ | refine w_ite ?_ ?_) <;> intro h <;> (try rw [h]) <;> replace hr := And.intro h hr <;> replace h := nrm h <;> try (first | (exfalso; omega) | exact (bx h (by assumption)).elim | exact (bx (by assumption) h).elim) | ((with_reducible refine And.intro ?_ ?_); (focus omega))) <;> try simp -dsimp -implicitDefEqProofs (maxSteps := 1000000) (disch := first | exact dis | fail) only [Ct.A, Bx.A, Pk.av, Fr.av, go_sem])
    exact ⟨some [], rfl, by rw [Bx.bestF, if_neg h0, decide_eq_true (by omega)]; rfl, by simp only [foldA_eq, go_sem]⟩
def Ct.won (c : Ct) : Ct := if c.bx.best < 0 then c else { c with bx := c.bx.ends c.bx.best 2, asks := ibits .or .i64 c.asks 1 }
theorem cWon_ok (c : Ct) (h : BxOk c.bx) : ACall Try.prog f_ctrl_Ctrl_Won [.ptr 0 0] c.A fun v A => v = .bool (decide (0 ≤ c.bx.best)) ∧ A = c.won.A := by
  refine acallH ok_ctrl_Ctrl_Won ?_
  have hT := Best_ok c.bx h
  by_cases h0 : c.bx.best < 0
  · rw [Bx.bestV, if_pos h0] at hT
    have hr := trivial
    try simp -dsimp -implicitDefEqProofs (maxSteps := 1000000) (disch := first | exact dis | fail) only [hc_ctrl_Ctrl_Won, Ct.A, Bx.A, Pk.av, Fr.av, go_sem]
    repeat' ((first | ((with_reducible refine ACall.atE (hT) [1] ?_ ?_ ?_ ?_ ?_); (focus decide); (focus rfl); (focus (simp -dsimp -implicitDefEqProofs (maxSteps := 1000000) (disch := first | exact dis | fail) only [standsL, Ct.A, Bx.A, Pk.av, Fr.av, go_sem]; done)); (focus (first | rfl | (simp -dsimp -implicitDefEqProofs (maxSteps := 1000000) (disch := first | exact dis | fail) only [Ct.A, Bx.A, Pk.av, Fr.av, go_sem]; done)))) | (with_reducible first | refine w_if ?_ ?_ | refine w_gt ?_ ?_ | refine w_gf ?_ ?_ | refine w_io ?_ ?_ | refine w_gdt ?_ ?_ | refine w_gdf ?_ ?_ | refine w_ite ?_ ?_) <;> intro h <;> (try rw [h]) <;> replace hr := And.intro h hr <;> replace h := nrm h <;> try (first | (exfalso; omega) | exact (bx h (by assumption)).elim | exact (bx (by assumption) h).elim) | ((with_reducible refine And.intro ?_ ?_); (focus omega))) <;> try simp -dsimp -implicitDefEqProofs (maxSteps := 1000000) (disch := first | exact dis | fail) only [Ct.A, Bx.A, Pk.av, Fr.av, go_sem])
    exact ⟨some [], rfl, by rw [decide_eq_false (by omega)]; rfl, by rw [Ct.won, if_pos h0]; simp only [foldA_eq, go_sem, Ct.A]⟩
  · rw [Bx.bestV, if_neg h0] at hT
    have hS := Sent_ok c.bx h c.bx.best
    have hr := trivial
    try simp -dsimp -implicitDefEqProofs (maxSteps := 1000000) (disch := first | exact dis | fail) only [hc_ctrl_Ctrl_Won, Ct.A, Bx.A, Pk.av, Fr.av, go_sem]
    repeat' ((first | ((with_reducible refine ACall.atE (hT) [1] ?_ ?_ ?_ ?_ ?_); (focus decide); (focus rfl); (focus (simp -dsimp -implicitDefEqProofs (maxSteps := 1000000) (disch := first | exact dis | fail) only [standsL, Ct.A, Bx.A, Pk.av, Fr.av, go_sem]; done)); (focus (first | rfl | (simp -dsimp -implicitDefEqProofs (maxSteps := 1000000) (disch := first | exact dis | fail) only [Ct.A, Bx.A, Pk.av, Fr.av, go_sem]; done)))) | ((with_reducible refine ACall.atE (hS) [1] ?_ ?_ ?_ ?_ ?_); (focus decide); (focus rfl); (focus (simp -dsimp -implicitDefEqProofs (maxSteps := 1000000) (disch := first | exact dis | fail) only [standsL, Ct.A, Bx.A, Pk.av, Fr.av, go_sem]; done)); (focus (first | rfl | (simp -dsimp -implicitDefEqProofs (maxSteps := 1000000) (disch := first | exact dis | fail) only [Ct.A, Bx.A, Pk.av, Fr.av, go_sem]; done)))) | (with_reducible first | refine w_if ?_ ?_ | refine w_gt ?_ ?_ | refine w_gf ?_ ?_ | refine w_io ?_ ?_ | refine w_gdt ?_ ?_ | refine w_gdf ?_ ?_ | refine w_ite ?_ ?_) <;> intro h <;> (try rw [h]) <;> replace hr := And.intro h hr <;> replace h := nrm h <;> try (first | (exfalso; omega) | exact (bx h (by assumption)).elim | exact (bx (by assumption) h).elim) | ((with_reducible refine And.intro ?_ ?_); (focus omega))) <;> try simp -dsimp -implicitDefEqProofs (maxSteps := 1000000) (disch := first | exact dis | fail) only [Ct.A, Bx.A, Pk.av, Fr.av, go_sem])
    exact ⟨some [], rfl, by rw [decide_eq_true (by omega)]; rfl, by rw [Ct.won, if_neg h0]; simp only [foldA_eq, go_sem, Ct.A]⟩
theorem cEnded_ok (c : Ct) (h : BxOk c.bx) (he : ∀ i, i ∈ c.bx.ended → 0 ≤ i ∧ i < c.bx.cells.length) : ACall Try.prog f_ctrl_Ctrl_Ended [.ptr 0 0] c.A fun v A => v = .tup [.agg (doneV c.bx), .int .i64 c.bx.takeE] ∧ A = ({ c with bx := c.bx.take } : Ct).A := by
  refine acallH ok_ctrl_Ctrl_Ended ?_
  have hT := bTake_ok c.bx h he
  obtain ⟨x0, x1, x2, x3, x4, x5, x6, x7, x8, hx⟩ : ∃ x0 x1 x2 x3 x4 x5 x6 x7 x8, doneV c.bx = [.int .i64 x0, .int .i64 x1, .int .i64 x2, .int .i64 x3, .str x4, .int .i64 x5, .int .i64 x6, .bool x7, .bool x8] := by
    unfold doneV
    split
    · exact ⟨_, _, _, _, _, _, _, _, _, rfl⟩
    · exact ⟨_, _, _, _, _, _, _, _, _, rfl⟩
  rw [hx] at hT ⊢
  have hr := trivial
  try simp -dsimp -implicitDefEqProofs (maxSteps := 1000000) (disch := first | exact dis | fail) only [hc_ctrl_Ctrl_Ended, Ct.A, Bx.A, go_sem]
  repeat' ((first | ((with_reducible refine ACall.atE (hT) [1] ?_ ?_ ?_ ?_ ?_); (focus decide); (focus rfl); (focus (simp -dsimp -implicitDefEqProofs (maxSteps := 1000000) (disch := first | exact dis | fail) only [standsL, Ct.A, Bx.A, go_sem]; done)); (focus (first | rfl | (simp -dsimp -implicitDefEqProofs (maxSteps := 1000000) (disch := first | exact dis | fail) only [Ct.A, Bx.A, go_sem]; done)))) | (with_reducible first | refine w_if ?_ ?_ | refine w_gt ?_ ?_ | refine w_gf ?_ ?_ | refine w_io ?_ ?_ | refine w_gdt ?_ ?_ | refine w_gdf ?_ ?_ | refine w_ite ?_ ?_) <;> intro h <;> (try rw [h]) <;> replace hr := And.intro h hr <;> replace h := nrm h <;> try (first | (exfalso; omega) | exact (bx h (by assumption)).elim | exact (bx (by assumption) h).elim) | ((with_reducible refine And.intro ?_ ?_); (focus omega))) <;> try simp -dsimp -implicitDefEqProofs (maxSteps := 1000000) (disch := first | exact dis | fail) only [Ct.A, Bx.A, go_sem])
  exact ⟨some [], rfl, rfl, by simp only [foldA_eq, go_sem]⟩
/-- Aborting one behind the other. -/
def Bx.abN (b : Bx) : Nat → Bx
  | 0 => b
  | i + 1 => (b.abN i).ends i 3
def Bx.abC (b : Bx) : Nat → Int
  | 0 => 0
  | i + 1 => b.abC i + if b.endE i = 0 then 1 else 0
theorem abC_b (b : Bx) : ∀ i, 0 ≤ b.abC i ∧ b.abC i ≤ i
  | 0 => by simp [Bx.abC]
  | i + 1 => by
    have := abC_b b i
    unfold Bx.abC
    split <;> omega
theorem ends_len {b : Bx} {i s : Int} : (b.ends i s).cells.length = b.cells.length := by
  unfold Bx.ends; split <;> simp
theorem ends_get {b : Bx} {i s : Int} {j : Nat} (h : j ≠ i.toNat) : (b.ends i s).cells[j]? = b.cells[j]? := by
  unfold Bx.ends; split
  · simp only []; rw [List.getElem?_set_ne (Ne.symm h)]
  · rfl
theorem abN_len {b : Bx} : ∀ i, (b.abN i).cells.length = b.cells.length
  | 0 => rfl
  | i + 1 => by rw [Bx.abN, ends_len, abN_len i]
theorem abN_get {b : Bx} : ∀ i (j : Nat), i ≤ j → (b.abN i).cells[j]? = b.cells[j]?
  | 0, _, _ => rfl
  | i + 1, j, h => by rw [Bx.abN, ends_get (by omega), abN_get i j (by omega)]
theorem abN_endE {b : Bx} (i j : Nat) (h : i ≤ j) : (b.abN i).endE j = b.endE j := by
  unfold Bx.endE
  rw [abN_len, Int.toNat_natCast, List.getD, List.getD, abN_get i j h]
theorem endE_at {b : Bx} {i : Nat} {c : Ce} (h : b.cells[i]? = some c) : b.endE i = if c.st = 1 then 0 else 2 := by
  have hlt : i < b.cells.length := (List.getElem?_eq_some_iff.1 h).1
  unfold Bx.endE
  rw [if_pos (by omega), Int.toNat_natCast, List.getD, h]; rfl
theorem ends_2 {b : Bx} {i s : Int} (h : b.endE i = 2) : b.ends i s = b := by
  unfold Bx.ends; rw [h, if_neg (by decide)]
def Ct.abort (c : Ct) : Ct := { c with bx := c.bx.abN c.bx.cells.length, asks := if 0 < c.bx.abC c.bx.cells.length then ibits .or .i64 c.asks 1 else c.asks }
theorem cAbort_ok (c : Ct) (h : BxOk c.bx) (hn : ∀ i, BxOk (c.bx.abN i)) : ACall Try.prog f_ctrl_Ctrl_Abort [.ptr 0 0] c.A fun v A => v = .int .i64 (c.bx.abC c.bx.cells.length) ∧ A = c.abort.A := by
  refine acallH ok_ctrl_Ctrl_Abort ?_
  have hc := h.c
  have hS := cStates_ok c h
  rw [show c.A.length = 4 from rfl]
  have hr := trivial
  try simp -dsimp -implicitDefEqProofs (maxSteps := 1000000) (disch := first | exact dis | fail) only [hc_ctrl_Ctrl_Abort, Ct.A, go_sem]
  repeat' ((first | ((with_reducible refine ACall.atE (hS) [0, 1, 2, 3] ?_ ?_ ?_ ?_ ?_); (focus decide); (focus rfl); (focus (simp -dsimp -implicitDefEqProofs (maxSteps := 1000000) (disch := first | exact dis | fail) only [standsL, Ct.A, go_sem]; done)); (focus (first | rfl | (simp -dsimp -implicitDefEqProofs (maxSteps := 1000000) (disch := first | exact dis | fail) only [Ct.A, go_sem]; done)))) | (with_reducible first | refine w_if ?_ ?_ | refine w_gt ?_ ?_ | refine w_gf ?_ ?_ | refine w_io ?_ ?_ | refine w_gdt ?_ ?_ | refine w_gdf ?_ ?_ | refine w_ite ?_ ?_) <;> intro h <;> (try rw [h]) <;> replace hr := And.intro h hr <;> replace h := nrm h <;> try (first | (exfalso; omega) | exact (bx h (by assumption)).elim | exact (bx (by assumption) h).elim) | ((with_reducible refine And.intro ?_ ?_); (focus omega))) <;> try simp -dsimp -implicitDefEqProofs (maxSteps := 1000000) (disch := first | exact dis | fail) only [Ct.A, go_sem])
  unfold hc_ctrl_Ctrl_Abort_l1
  refine hw_loop c.bx.cells.length (fun i ρ A => ρ = rg 12 [(0, .ptr 0 0), (2, .int .i64 (c.bx.abC i)), (6, .sl 4 1 0 c.bx.cells.length false), (7, .int .i64 c.bx.cells.length), (8, .int .i64 i)] ∧ A = ({ c with bx := c.bx.abN i } : Ct).A ++ [some (.arr (rows i1 c.bx.sts))]) ⟨none, rfl, by simp only [foldRn, go_sem]; rfl, rfl⟩ ?_
  rintro i ρ A hi ⟨rfl, rfl⟩
  obtain ⟨ha0, ha1⟩ := abC_b c.bx i
  by_cases hlt : i < c.bx.cells.length
  · have hx : c.bx.cells[i]? = some c.bx.cells[i] := List.getElem?_eq_getElem hlt
    generalize c.bx.cells[i] = e at hx
    have hsx : c.bx.sts[i]? = some e.st := by simp [Bx.sts, hx]
    have hE := endE_at hx
    have hE' := abN_endE (b := c.bx) i i (Nat.le_refl _)
    have hA := Abort_ok (c.bx.abN i) (hn i) i
    have hs : c.bx.abC (i + 1) = c.bx.abC i + if c.bx.endE i = 0 then 1 else 0 := rfl
    have ht : c.bx.abN (i + 1) = (c.bx.abN i).ends i 3 := rfl
    by_cases h1 : e.st = 1
    · rw [if_pos h1] at hE
      rw [hE, if_pos rfl] at hs
      have hr := trivial
      try simp -dsimp -implicitDefEqProofs (maxSteps := 1000000) (disch := first | exact dis | fail) only [hc_ctrl_Ctrl_Abort_b1, Ct.A, Bx.A, Int.toNat_natCast, rows_get, hsx, i1, h1, go_sem]
      repeat' ((first | ((with_reducible refine ACall.atE (hA) [1] ?_ ?_ ?_ ?_ ?_); (focus decide); (focus rfl); (focus (simp -dsimp -implicitDefEqProofs (maxSteps := 1000000) (disch := first | exact dis | fail) only [standsL, Ct.A, Bx.A, Int.toNat_natCast, rows_get, hsx, i1, h1, go_sem]; done)); (focus (first | rfl | (simp -dsimp -implicitDefEqProofs (maxSteps := 1000000) (disch := first | exact dis | fail) only [Ct.A, Bx.A, Int.toNat_natCast, rows_get, hsx, i1, h1, go_sem]; done)))) | (with_reducible first | refine w_if ?_ ?_ | refine w_gt ?_ ?_ | refine w_gf ?_ ?_ | refine w_io ?_ ?_ | refine w_gdt ?_ ?_ | refine w_gdf ?_ ?_ | refine w_ite ?_ ?_) <;> intro h <;> (try rw [h]) <;> replace hr := And.intro h hr <;> replace h := nrm h <;> try (first | (exfalso; omega) | exact (bx h (by assumption)).elim | exact (bx (by assumption) h).elim) | ((with_reducible refine And.intro ?_ ?_); (focus omega))) <;> try simp -dsimp -implicitDefEqProofs (maxSteps := 1000000) (disch := first | exact dis | fail) only [Ct.A, Bx.A, Int.toNat_natCast, rows_get, hsx, i1, h1, go_sem])
      exact ⟨none, rfl, by simp only [foldRn, go_sem, hs]; rfl, by simp only [foldAn, ht]⟩
    · rw [if_neg h1] at hE
      rw [hE, if_neg (by decide)] at hs
      rw [ends_2 (by rw [hE', hE])] at ht
      have hr := trivial
      try simp -dsimp -implicitDefEqProofs (maxSteps := 1000000) (disch := first | exact dis | fail) only [hc_ctrl_Ctrl_Abort_b1, Ct.A, Bx.A, Int.toNat_natCast, rows_get, hsx, i1, h1, go_sem]
      repeat' ((first | ((with_reducible refine ACall.atE (hA) [1] ?_ ?_ ?_ ?_ ?_); (focus decide); (focus rfl); (focus (simp -dsimp -implicitDefEqProofs (maxSteps := 1000000) (disch := first | exact dis | fail) only [standsL, Ct.A, Bx.A, Int.toNat_natCast, rows_get, hsx, i1, h1, go_sem]; done)); (focus (first | rfl | (simp -dsimp -implicitDefEqProofs (maxSteps := 1000000) (disch := first | exact dis | fail) only [Ct.A, Bx.A, Int.toNat_natCast, rows_get, hsx, i1, h1, go_sem]; done)))) | (with_reducible first | refine w_if ?_ ?_ | refine w_gt ?_ ?_ | refine w_gf ?_ ?_ | refine w_io ?_ ?_ | refine w_gdt ?_ ?_ | refine w_gdf ?_ ?_ | refine w_ite ?_ ?_) <;> intro h <;> (try rw [h]) <;> replace hr := And.intro h hr <;> replace h := nrm h <;> try (first | (exfalso; omega) | exact (bx h (by assumption)).elim | exact (bx (by assumption) h).elim) | ((with_reducible refine And.intro ?_ ?_); (focus omega))) <;> try simp -dsimp -implicitDefEqProofs (maxSteps := 1000000) (disch := first | exact dis | fail) only [Ct.A, Bx.A, Int.toNat_natCast, rows_get, hsx, i1, h1, go_sem])
      exact ⟨none, rfl, by simp only [foldRn, go_sem, hs]; rfl, by simp only [foldAn, ht]⟩
  · obtain rfl : i = c.bx.cells.length := by omega
    by_cases h0 : 0 < c.bx.abC c.bx.cells.length
    · have hr := trivial
      try simp -dsimp -implicitDefEqProofs (maxSteps := 1000000) (disch := first | exact dis | fail) only [hc_ctrl_Ctrl_Abort_b1, Ct.A, h0, go_sem]
      repeat' ((first | (with_reducible first | refine w_if ?_ ?_ | refine w_gt ?_ ?_ | refine w_gf ?_ ?_ | refine w_io ?_ ?_ | refine w_gdt ?_ ?_ | refine w_gdf ?_ ?_ | refine w_ite ?_ ?_) <;> intro h <;> (try rw [h]) <;> replace hr := And.intro h hr <;> replace h := nrm h <;> try (first | (exfalso; omega) | exact (bx h (by assumption)).elim | exact (bx (by assumption) h).elim) | ((with_reducible refine And.intro ?_ ?_); (focus omega))) <;> try simp -dsimp -implicitDefEqProofs (maxSteps := 1000000) (disch := first | exact dis | fail) only [Ct.A, h0, go_sem])
      exact ⟨some [], rfl, rfl, by rw [Ct.abort, if_pos h0]; simp only [foldA_eq, go_sem]⟩
    · have hr := trivial
      try simp -dsimp -implicitDefEqProofs (maxSteps := 1000000) (disch := first | exact dis | fail) only [hc_ctrl_Ctrl_Abort_b1, Ct.A, h0, go_sem]
      repeat' ((first | (with_reducible first | refine w_if ?_ ?_ | refine w_gt ?_ ?_ | refine w_gf ?_ ?_ | refine w_io ?_ ?_ | refine w_gdt ?_ ?_ | refine w_gdf ?_ ?_ | refine w_ite ?_ ?_) <;> intro h <;> (try rw [h]) <;> replace hr := And.intro h hr <;> replace h := nrm h <;> try (first | (exfalso; omega) | exact (bx h (by assumption)).elim | exact (bx (by assumption) h).elim) | ((with_reducible refine And.intro ?_ ?_); (focus omega))) <;> try simp -dsimp -implicitDefEqProofs (maxSteps := 1000000) (disch := first | exact dis | fail) only [Ct.A, h0, go_sem])
      exact ⟨some [], rfl, rfl, by rw [Ct.abort, if_neg h0]; simp only [foldA_eq, go_sem]⟩
end Go.Proofs.Ytapoilcpollmpaa
end

/- The plain law of mailboxes: what box keeps and what the document keeps go together. -/
section
namespace Go.Proofs.Ytapoilcpollmpaa
open Go.SB
set_option linter.unusedSimpArgs false

def InB (cs : List Ce) (os : List Int) : Prop := ∀ k ∈ os, 0 ≤ k ∧ k < cs.length
theorem getD_of {α : Type} {l : List α} {i : Nat} {x d : α} (h : l[i]? = some x) : l.getD i d = x := by simp [List.getD, h]
theorem freeAt_some : ∀ {cs : List Ce} {k i : Nat}, freeAt cs k = some i → k ≤ i ∧ ∃ c, cs[i - k]? = some c ∧ c.st = 0
  | [], _, _, h => by cases h
  | c :: cs, k, i, h => by
    unfold freeAt at h
    split at h
    · cases h; exact ⟨Nat.le_refl _, c, by simp, by assumption⟩
    · obtain ⟨h1, d, h2, h3⟩ := freeAt_some h
      exact ⟨by omega, d, by rw [show i - k = (i - (k + 1)) + 1 by omega]; simpa using h2, h3⟩
def kOf (cs : List Ce) (k : Int) : Int := keyR (cs.getD k.toNat Ce.zero).pk.fr
def rbAt (cs : List Ce) (os : List Int) : Nat → Int
  | 0 => -1
  | i + 1 => if rbAt cs os i < 0 ∨ kOf cs (os.getD i 0) < kOf cs (rbAt cs os i) then os.getD i 0 else rbAt cs os i
/-- Since when a mailbox has been ready. -/
def sinceOf (cs : List Ce) (k : Int) : Int := match cs[k.toNat]? with | some c => c.since | none => 0
def stOf (cs : List Ce) (k : Int) : Int := match cs[k.toNat]? with | some c => c.st | none => 0
/-- What both keep: mailboxes, those that are ready in order, those that have ended in order. -/
structure Inv (cs : List Ce) (os es : List Int) (puts : Int) : Prop where
  len : 1 ≤ cs.length ∧ cs.length ≤ 1000
  puts0 : 0 ≤ puts
  osIn : InB cs os
  esIn : InB cs es
  ready : ∀ k : Nat, ((k : Int) ∈ os ↔ ∃ c, cs[k]? = some c ∧ c.st = 1)
  sorted : os.Pairwise fun a b => sinceOf cs a < sinceOf cs b
  before : ∀ k ∈ os, sinceOf cs k < puts
  ended : ∀ k ∈ es, stOf cs k ≠ 0 ∧ stOf cs k ≠ 1
  once : es.Nodup

/-- The best of those looked at: none is ahead of it. -/
theorem bestN_spec (cs : List Ce) : ∀ i, i ≤ cs.length → (bestN cs i = -1 ∧ ∀ j : Nat, j < i → ∀ c, cs[j]? = some c → c.st ≠ 1) ∨
    (∃ b d, bestN cs i = (b : Nat) ∧ b < i ∧ cs[b]? = some d ∧ d.st = 1 ∧ ∀ j : Nat, j < i → ∀ c, cs[j]? = some c → c.st = 1 → j ≠ b → aheadB c d = false)
  | 0, _ => .inl ⟨rfl, fun j h => by omega⟩
  | i + 1, h => by
    have hx : cs[i]? = some cs[i] := List.getElem?_eq_getElem (by omega)
    generalize cs[i] = c at hx
    rcases bestN_spec cs i (by omega) with ⟨h1, h2⟩ | ⟨b, d, h1, h2, h3, h4, h5⟩
    · by_cases hst : c.st = 1
      · refine .inr ⟨i, c, by simp only [bestN, getD_of hx, hst, h1, true_and]; rw [if_pos (.inl (by decide))], by omega, hx, hst, fun j hj e he hs hn => absurd hs (h2 j (by omega) e he)⟩
      · refine .inl ⟨by simp only [bestN, getD_of hx, hst, h1, false_and, if_false], fun j hj e he => ?_⟩
        rcases Nat.lt_or_eq_of_le (Nat.le_of_lt_succ hj) with hl | rfl
        · exact h2 j hl e he
        · rw [hx] at he; cases he; exact hst
    · by_cases hst : c.st = 1
      · have hnx : bestN cs (i + 1) = if aheadB c d then (i : Int) else b := by
          simp only [bestN, getD_of hx, hst, h1, true_and, show ¬ ((b : Int) < 0) by omega, false_or, Int.toNat_natCast, getD_of h3]
        by_cases ha : aheadB c d = true
        · refine .inr ⟨i, c, by rw [hnx, if_pos ha], by omega, hx, hst, fun j hj e he hs hn => ?_⟩
          have hj' : j < i := by omega
          by_cases hjb : j = b
          · subst hjb; rw [h3] at he; cases he
            simp only [aheadB, Bool.or_eq_true, Bool.and_eq_true, decide_eq_true_eq] at ha
            simp only [aheadB, Bool.or_eq_false_iff, Bool.and_eq_false_iff, decide_eq_false_iff_not]
            omega
          · have h6 := h5 j hj' e he hs hjb
            simp only [aheadB, Bool.or_eq_true, Bool.and_eq_true, decide_eq_true_eq] at ha
            simp only [aheadB, Bool.or_eq_false_iff, Bool.and_eq_false_iff, decide_eq_false_iff_not] at h6 ⊢
            omega
        · refine .inr ⟨b, d, by rw [hnx, if_neg ha], by omega, h3, h4, fun j hj e he hs hn => ?_⟩
          rcases Nat.lt_or_eq_of_le (Nat.le_of_lt_succ hj) with hl | rfl
          · exact h5 j hl e he hs hn
          · rw [hx] at he; cases he; simpa using ha
      · refine .inr ⟨b, d, by simp only [bestN, getD_of hx, hst, h1, false_and, if_false], by omega, h3, h4, fun j hj e he hs hn => ?_⟩
        rcases Nat.lt_or_eq_of_le (Nat.le_of_lt_succ hj) with hl | rfl
        · exact h5 j hl e he hs hn
        · rw [hx] at he; cases he; exact absurd hs hst
/-- The document's best: its key is the least, and of one key it was first. -/
theorem rbAt_spec {cs : List Ce} {os : List Int} (hin : InB cs os) (hs : os.Pairwise fun a b => sinceOf cs a < sinceOf cs b) : ∀ i, i ≤ os.length → (i = 0 ∧ rbAt cs os i = -1) ∨
    (∃ b d, rbAt cs os i = (b : Nat) ∧ (b : Int) ∈ os.take i ∧ cs[b]? = some d ∧ ∀ k : Nat, (k : Int) ∈ os.take i → ∀ c, cs[k]? = some c → k ≠ b → keyR d.pk.fr < keyR c.pk.fr ∨ (keyR d.pk.fr = keyR c.pk.fr ∧ d.since < c.since))
  | 0, _ => .inl ⟨rfl, rfl⟩
  | i + 1, h => by
    have hx : os[i]? = some os[i] := List.getElem?_eq_getElem (by omega)
    generalize hk : os[i] = kk at hx
    have hm : kk ∈ os := List.mem_of_getElem? hx
    obtain ⟨k0, k1⟩ := hin kk hm
    obtain ⟨n, rfl⟩ : ∃ n : Nat, kk = n := ⟨kk.toNat, by omega⟩
    have hc : cs[n]? = some cs[n] := List.getElem?_eq_getElem (by omega)
    generalize cs[n] = c at hc
    have htk : os.take (i + 1) = os.take i ++ [(n : Int)] := by rw [List.take_add_one, hx]; rfl
    have hlt : ∀ x ∈ os.take i, sinceOf cs x < c.since := by
      intro x hxm
      obtain ⟨j, hj, hje⟩ := List.getElem_of_mem hxm
      rw [List.getElem_take] at hje
      rw [List.length_take] at hj
      have := List.pairwise_iff_getElem.1 hs j i (by omega) (by omega) (by omega)
      rw [hje, hk] at this
      simpa [sinceOf, hc] using this
    rcases rbAt_spec hin hs i (by omega) with ⟨rfl, h1⟩ | ⟨b, d, h1, h2, h3, h4⟩
    · refine .inr ⟨n, c, by simp only [rbAt, getD_of hx]; rw [if_pos (.inl (by decide))], by rw [htk]; simp, hc, fun k hkm e he hne => ?_⟩
      rw [htk] at hkm
      simp at hkm
      omega
    · have hb := hlt b h2
      have hnx : rbAt cs os (i + 1) = if keyR c.pk.fr < keyR d.pk.fr then (n : Int) else b := by
        simp only [rbAt, kOf, getD_of hx, h1, show ¬ ((b : Int) < 0) by omega, false_or, Int.toNat_natCast, getD_of hc, getD_of h3]
      have hds : sinceOf cs b = d.since := by simp [sinceOf, h3]
      by_cases ha : keyR c.pk.fr < keyR d.pk.fr
      · refine .inr ⟨n, c, by rw [hnx, if_pos ha], by rw [htk]; simp, hc, fun k hkm e he hne => ?_⟩
        rw [htk, List.mem_append] at hkm
        rcases hkm with hkm | hkm
        · by_cases hkb : k = b
          · subst hkb; rw [h3] at he; cases he; exact .inl ha
          · have := h4 k hkm e he hkb; omega
        · simp at hkm; omega
      · refine .inr ⟨b, d, by rw [hnx, if_neg ha], by rw [htk]; simp [h2], h3, fun k hkm e he hne => ?_⟩
        rw [htk, List.mem_append] at hkm
        rcases hkm with hkm | hkm
        · exact h4 k hkm e he hne
        · simp at hkm
          obtain rfl : k = n := by omega
          rw [hc] at he; cases he
          omega
theorem best_eq {cs : List Ce} {os es : List Int} {puts : Int} (I : Inv cs os es puts) : bestN cs cs.length = rbAt cs os os.length := by
  rcases bestN_spec cs cs.length (Nat.le_refl _) with ⟨h1, h2⟩ | ⟨b, d, h1, h2, h3, h4, h5⟩
  · rcases rbAt_spec I.osIn I.sorted os.length (Nat.le_refl _) with ⟨_, g1⟩ | ⟨b, d, g1, g2, g3, g4⟩
    · rw [h1, g1]
    · exfalso
      rw [List.take_length] at g2
      obtain ⟨c, hc, hst⟩ := (I.ready b).1 g2
      exact h2 b (List.getElem?_eq_some_iff.1 hc).1 c hc hst
  · rcases rbAt_spec I.osIn I.sorted os.length (Nat.le_refl _) with ⟨g0, g1⟩ | ⟨b', d', g1, g2, g3, g4⟩
    · exfalso
      have : (b : Int) ∈ os := (I.ready b).2 ⟨d, h3, h4⟩
      rw [List.length_eq_zero_iff.1 g0] at this
      simp at this
    · rw [List.take_length] at g2 g4
      obtain ⟨c, hc, hst⟩ := (I.ready b').1 g2
      have hcd : c = d' := by rw [hc] at g3; exact Option.some.inj g3
      subst hcd
      by_cases e : b = b'
      · rw [h1, g1, e]
      · exfalso
        have a1 := h5 b' (List.getElem?_eq_some_iff.1 hc).1 c hc hst (Ne.symm e)
        have a2 := g4 b ((I.ready b).2 ⟨d, h3, h4⟩) d h3 e
        simp only [aheadB, Bool.or_eq_false_iff, Bool.and_eq_false_iff, decide_eq_false_iff_not] at a1
        omega

theorem sinceOf_set {cs : List Ce} {k : Nat} {x : Ce} {j : Int} (hj : 0 ≤ j) (hne : j ≠ k) : sinceOf (cs.set k x) j = sinceOf cs j := by
  unfold sinceOf
  rw [List.getElem?_set_ne (by omega)]
theorem stOf_set {cs : List Ce} {k : Nat} {x : Ce} {j : Int} (hj : 0 ≤ j) (hne : j ≠ k) : stOf (cs.set k x) j = stOf cs j := by
  unfold stOf
  rw [List.getElem?_set_ne (by omega)]
theorem inv_new (n : Int) : Inv (List.replicate (roomI n).toNat Ce.zero) [] [] 0 where
  len := by rw [List.length_replicate]; have := roomI_b n; omega
  puts0 := by decide
  osIn := fun k h => by cases h
  esIn := fun k h => by cases h
  ready k := by
    refine ⟨fun h => by (cases h), fun ⟨c, hc, hs⟩ => ?_⟩
    rw [List.getElem?_replicate] at hc
    split at hc
    · cases hc; exact absurd hs (by decide)
    · cases hc
  sorted := List.Pairwise.nil
  before := fun k h => by cases h
  ended := fun k h => by cases h
  once := List.nodup_nil
theorem inv_put {cs : List Ce} {os es : List Int} {puts : Int} (I : Inv cs os es puts) (p : Pk) {k : Nat} (hf : freeAt cs 0 = some k) : Inv (cs.set k ⟨1, p, puts⟩) (os ++ [(k : Int)]) es (puts + 1) := by
  obtain ⟨_, c, hc, hst⟩ := freeAt_some hf
  rw [Nat.sub_zero] at hc
  have hk : k < cs.length := (List.getElem?_eq_some_iff.1 hc).1
  have hno : (k : Int) ∉ os := fun h => by
    obtain ⟨d, hd, hs⟩ := (I.ready k).1 h
    rw [hc] at hd; cases hd; omega
  have hne : (k : Int) ∉ es := fun h => by
    have := (I.ended k h).1
    simp [stOf, hc] at this; exact this hst
  have hos : ∀ j ∈ os, sinceOf (cs.set k ⟨1, p, puts⟩) j = sinceOf cs j := fun j hj => sinceOf_set (I.osIn j hj).1 (fun e => hno (e ▸ hj))
  have hkk : sinceOf (cs.set k ⟨1, p, puts⟩) k = puts := by simp [sinceOf, hk]
  refine ⟨by simpa using I.len, by have := I.puts0; omega, ?_, ?_, ?_, ?_, ?_, ?_, I.once⟩
  · intro j hj
    rw [List.length_set]
    rcases List.mem_append.1 hj with h | h
    · exact I.osIn j h
    · rw [List.mem_singleton.1 h]; omega
  · intro j hj; rw [List.length_set]; exact I.esIn j hj
  · intro j
    by_cases e : j = k
    · subst e; simp [hk]
    · rw [List.getElem?_set_ne (Ne.symm e), ← I.ready j]
      simp; omega
  · rw [List.pairwise_append]
    refine ⟨I.sorted.imp_of_mem ?_, by simp, ?_⟩
    · intro a b ha hb h; rw [hos a ha, hos b hb]; exact h
    · intro a ha b hb
      rw [List.mem_singleton.1 hb, hos a ha, hkk]; exact I.before a ha
  · intro j hj
    rcases List.mem_append.1 hj with h | h
    · rw [hos j h]; have := I.before j h; omega
    · rw [List.mem_singleton.1 h, hkk]; omega
  · intro j hj
    rw [stOf_set (I.esIn j hj).1 (fun e => hne (e ▸ hj))]
    exact I.ended j hj
theorem inv_end {cs : List Ce} {os es : List Int} {puts : Int} (I : Inv cs os es puts) {k : Nat} {c : Ce} {st : Int} (hc : cs[k]? = some c) (hst : c.st = 1) (hs : st ≠ 0 ∧ st ≠ 1) : Inv (cs.set k ⟨st, c.pk, c.since⟩) (os.filter (fun x => decide (x ≠ k))) (es ++ [(k : Int)]) puts := by
  have hk : k < cs.length := (List.getElem?_eq_some_iff.1 hc).1
  have hne : (k : Int) ∉ es := fun h => by
    have := (I.ended k h).2
    simp [stOf, hc] at this; exact this hst
  have hsn : ∀ j, 0 ≤ j → sinceOf (cs.set k ⟨st, c.pk, c.since⟩) j = sinceOf cs j := by
    intro j hj
    by_cases e : j = k
    · subst e
      have hck : cs[k] = c := by rw [List.getElem?_eq_getElem hk] at hc; exact Option.some.inj hc
      simp [sinceOf, hk, hck]
    · exact sinceOf_set hj e
  refine ⟨by simpa using I.len, I.puts0, ?_, ?_, ?_, ?_, ?_, ?_, ?_⟩
  · intro j hj; rw [List.length_set]; exact I.osIn j (List.mem_filter.1 hj).1
  · intro j hj
    rw [List.length_set]
    rcases List.mem_append.1 hj with h | h
    · exact I.esIn j h
    · rw [List.mem_singleton.1 h]; omega
  · intro j
    rw [List.mem_filter]
    by_cases e : j = k
    · subst e; simp [hk, hs.2]
    · rw [List.getElem?_set_ne (Ne.symm e), I.ready j]
      have : ((j : Int) = k) = False := by simp; omega
      simp [this]
  · refine (I.sorted.filter _).imp_of_mem ?_
    intro a b ha hb h
    rw [hsn a (I.osIn a (List.mem_filter.1 ha).1).1, hsn b (I.osIn b (List.mem_filter.1 hb).1).1]; exact h
  · intro j hj
    rw [hsn j (I.osIn j (List.mem_filter.1 hj).1).1]; exact I.before j (List.mem_filter.1 hj).1
  · intro j hj
    rcases List.mem_append.1 hj with h | h
    · rw [stOf_set (I.esIn j h).1 (fun e => hne (e ▸ h))]; exact I.ended j h
    · rw [List.mem_singleton.1 h]; simpa [stOf, hk] using hs
  · rw [List.nodup_append]
    exact ⟨I.once, by simp, fun a ha b hb e => hne (by rw [← List.mem_singleton.1 hb, ← e]; exact ha)⟩
theorem inv_take {cs : List Ce} {os es : List Int} {puts x : Int} (I : Inv cs os (x :: es) puts) : Inv (cs.set x.toNat Ce.zero) os es puts := by
  have hx := I.esIn x (by simp)
  obtain ⟨k, rfl⟩ : ∃ k : Nat, x = k := ⟨x.toNat, by omega⟩
  have hk : k < cs.length := by omega
  have hc : cs[k]? = some cs[k] := List.getElem?_eq_getElem hk
  generalize cs[k] = c at hc
  have he := I.ended k (by simp)
  have hst : c.st ≠ 0 ∧ c.st ≠ 1 := by simpa [stOf, hc] using he
  have hno : (k : Int) ∉ os := fun h => by
    obtain ⟨d, hd, hs⟩ := (I.ready k).1 h
    rw [hc] at hd; cases hd; exact hst.2 hs
  have hne : (k : Int) ∉ es := (List.nodup_cons.1 I.once).1
  rw [Int.toNat_natCast]
  refine ⟨by simpa using I.len, I.puts0, ?_, ?_, ?_, ?_, ?_, ?_, (List.nodup_cons.1 I.once).2⟩
  · intro j hj; rw [List.length_set]; exact I.osIn j hj
  · intro j hj; rw [List.length_set]; exact I.esIn j (by simp [hj])
  · intro j
    by_cases e : j = k
    · subst e; simp [hk, hno, Ce.zero]
    · rw [List.getElem?_set_ne (Ne.symm e)]; exact I.ready j
  · refine I.sorted.imp_of_mem ?_
    intro a b ha hb h
    rw [sinceOf_set (I.osIn a ha).1 (fun e => hno (e ▸ ha)), sinceOf_set (I.osIn b hb).1 (fun e => hno (e ▸ hb))]; exact h
  · intro j hj; rw [sinceOf_set (I.osIn j hj).1 (fun e => hno (e ▸ hj))]; exact I.before j hj
  · intro j hj; rw [stOf_set (I.esIn j (by simp [hj])).1 (fun e => hne (e ▸ hj))]; exact I.ended j (by simp [hj])
/-- So many different numbers are at most as many. -/
theorem pig : ∀ (n : Nat) (l : List Int), l.Nodup → (∀ k, k ∈ l → 0 ≤ k ∧ k < n) → l.length ≤ n
  | 0, l, _, h => by
    cases l with
    | nil => simp
    | cons a l => have := h a (by simp); omega
  | n + 1, l, hd, h => by
    have := pig n (l.erase n) (hd.erase _) fun k hk => by
      have := (hd.mem_erase_iff).1 hk
      have := h k this.2
      omega
    rw [List.length_erase] at this
    split at this <;> omega
/-- Both hold the same. -/
structure BR (b : Bx) (r : Rx) : Prop where
  st : r.st = b.sts
  pk : r.pk = b.cells.map Ce.pk
  en : r.ended = b.ended
  I : Inv b.cells r.ord b.ended b.puts
theorem BR.sl {b : Bx} {r : Rx} (h : BR b r) : r.st.length = b.cells.length := by rw [h.st, sts_len]
theorem BR.pl {b : Bx} {r : Rx} (h : BR b r) : r.pk.length = b.cells.length := by rw [h.pk]; simp
theorem BR.ol {b : Bx} {r : Rx} (h : BR b r) : r.ord.length ≤ 1000 := by
  refine Nat.le_trans (pig b.cells.length r.ord ?_ h.I.osIn) h.I.len.2
  exact h.I.sorted.imp fun h e => by rw [e] at h; omega
theorem BR.el {b : Bx} {r : Rx} (h : BR b r) : b.ended.length ≤ 1000 := Nat.le_trans (pig b.cells.length b.ended h.I.once h.I.esIn) h.I.len.2
theorem BR.rok {b : Bx} {r : Rx} (h : BR b r) : RxOk r := ⟨by rw [h.sl]; exact h.I.len, by rw [h.pl, h.sl], h.ol, by rw [h.en]; exact h.el⟩
theorem BR.bok {b : Bx} {r : Rx} (h : BR b r) (hp : b.puts ≤ 1000000) : BxOk b := ⟨h.I.len, ⟨h.I.puts0, by omega⟩, h.el⟩
theorem BR.new (n : Int) : BR (Bx.new n) (Rx.new n) := ⟨by simp [Rx.new, Bx.sts, Bx.new, Ce.zero], by simp [Rx.new, Bx.new, Ce.zero], rfl, inv_new n⟩
theorem zero_free : ∀ (cs : List Ce) (k : Nat), zeroAt (cs.map Ce.st) k = freeAt cs k
  | [], _ => rfl
  | c :: cs, k => by simp only [List.map_cons, zeroAt, freeAt, zero_free cs]
theorem BR.put {b : Bx} {r : Rx} (h : BR b r) (p : Pk) : BR (b.put p) (r.put p) ∧ r.putV p = .tup [.int .i64 (b.putI p), .int .i64 (b.putE p)] ∧ (b.put p).puts ≤ b.puts + 1 := by
  have hz : zeroAt r.st 0 = freeAt b.cells 0 := by rw [h.st]; exact zero_free _ _
  unfold Rx.put Bx.put Rx.putV Bx.putI Bx.putE
  rw [hz]
  by_cases h0 : keyR p.fr < 0
  · simp only [if_pos h0]; exact ⟨h, trivial, by omega⟩
  · simp only [if_neg h0]
    cases hf : freeAt b.cells 0 with
    | none => exact ⟨h, rfl, by simp only []; omega⟩
    | some i =>
      refine ⟨⟨?_, ?_, h.en, inv_put h.I p hf⟩, rfl, Int.le_refl _⟩
      · simp only [h.st, Bx.sts, List.map_set]
      · simp only [h.pk, List.map_set]
theorem BR.key {b : Bx} {r : Rx} (h : BR b r) (k : Int) : r.key k = kOf b.cells k := by
  unfold Rx.key kOf
  rw [h.pk]
  simp only [List.getD, List.getElem?_map]
  cases b.cells[k.toNat]? <;> rfl
theorem BR.bestN {b : Bx} {r : Rx} (h : BR b r) : ∀ i, r.bestN i = rbAt b.cells r.ord i
  | 0 => rfl
  | i + 1 => by unfold Rx.bestN rbAt; rw [BR.bestN h i, h.key, h.key]
theorem BR.best {b : Bx} {r : Rx} (h : BR b r) : r.bestN r.ord.length = b.best := by rw [h.bestN]; exact (best_eq h.I).symm
theorem BR.endE {b : Bx} {r : Rx} (h : BR b r) (i : Int) : r.endE i = b.endE i := by
  unfold Rx.endE Bx.endE
  rw [h.sl, h.st]
  congr 2
  simp only [List.getD, Bx.sts, List.getElem?_map]
  cases b.cells[i.toNat]? <;> rfl
theorem endE_1 {b : Bx} {i : Int} (h : b.endE i = 0) : 0 ≤ i ∧ ∃ c, b.cells[i.toNat]? = some c ∧ c.st = 1 := by
  unfold Bx.endE at h
  split at h
  · refine ⟨by omega, b.cells.getD i.toNat Ce.zero, ?_, ?_⟩
    · rw [List.getD, List.getElem?_eq_getElem (by omega)]; rfl
    · split at h
      · assumption
      · cases h
  · cases h
theorem BR.ends {b : Bx} {r : Rx} (h : BR b r) (i : Int) {s : Int} (hs : s ≠ 0 ∧ s ≠ 1) : BR (b.ends i s) (r.endB i s) := by
  unfold Rx.endB Bx.ends
  rw [h.endE]
  by_cases h0 : b.endE i = 0
  · simp only [if_pos h0]
    obtain ⟨hi, c, hc, h1⟩ := endE_1 h0
    obtain ⟨k, rfl⟩ : ∃ k : Nat, i = k := ⟨i.toNat, by omega⟩
    rw [Int.toNat_natCast] at hc
    have hx : b.cells.getD k Ce.zero = c := getD_of hc
    refine ⟨?_, ?_, by rw [h.en], ?_⟩
    · simp only [h.st, Bx.sts, List.map_set]
    · simp only [h.pk, List.map_set, Int.toNat_natCast, hx]
      refine List.ext_getElem? fun j => ?_
      by_cases e : k = j
      · subst e
        have hlt : k < b.cells.length := (List.getElem?_eq_some_iff.1 hc).1
        rw [List.getElem?_set_self (by simpa using hlt), List.getElem?_map, hc]; rfl
      · rw [List.getElem?_set_ne e]
    · simp only [Int.toNat_natCast, hx]
      exact inv_end h.I hc h1 hs
  · simp only [if_neg h0]; exact h
theorem BR.take {b : Bx} {r : Rx} (h : BR b r) : BR b.take r.take := by
  have hI := h.I
  cases he : b.ended with
  | nil =>
    have e1 : b.take = b := by unfold Bx.take; rw [he]
    have e2 : r.take = r := by unfold Rx.take; rw [h.en, he]
    rw [e1, e2]; exact h
  | cons i es =>
    rw [he] at hI
    have e1 : b.take = { b with cells := b.cells.set i.toNat Ce.zero, ended := es } := by unfold Bx.take; rw [he]
    have e2 : r.take = { r with st := r.st.set i.toNat 0, pk := r.pk.set i.toNat Pk.zero, ended := es } := by unfold Rx.take; rw [h.en, he]
    rw [e1, e2]
    refine ⟨?_, ?_, rfl, inv_take hI⟩
    · simp only [h.st, Bx.sts, List.map_set]; rfl
    · simp only [h.pk, List.map_set]; rfl
theorem BR.free {b : Bx} {r : Rx} (h : BR b r) : (cnt0 r.st r.st.length : Int) = b.free := by rw [h.sl, h.st]; rfl
def Rx.abN (r : Rx) : Nat → Rx
  | 0 => r
  | i + 1 => (r.abN i).endB i 3
theorem BR.abN {b : Bx} {r : Rx} (h : BR b r) : ∀ i, BR (b.abN i) (r.abN i)
  | 0 => h
  | i + 1 => (BR.abN h i).ends i (by decide)
theorem ends_puts {b : Bx} {i s : Int} : (b.ends i s).puts = b.puts := by unfold Bx.ends; split <;> rfl
theorem abN_puts {b : Bx} : ∀ i, (b.abN i).puts = b.puts
  | 0 => rfl
  | i + 1 => by rw [Bx.abN, ends_puts, abN_puts i]
theorem take_puts {b : Bx} : b.take.puts = b.puts := by unfold Bx.take; split <;> rfl
end Go.Proofs.Ytapoilcpollmpaa
end
