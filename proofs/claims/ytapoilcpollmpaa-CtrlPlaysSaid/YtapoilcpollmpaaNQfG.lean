/- QfG, put together. Conditions: none. -/
import Derived.Test.YtapoilcpollmpaaNQfF
/- CtrlHears: the parts of the law's call. -/
section
namespace Go.Proofs.Ytapoilcpollmpaa
open Go.SB
attribute [local irreducible] HW HSS HAS HRQ HEO HOP HCK
set_option maxRecDepth 100000
set_option maxHeartbeats 4000000
set_option linter.unusedSimpArgs false
set_option pp.deepTerms.threshold 6
attribute [local go_sem high] own_ren

theorem alive_ok : PCall Try.prog f_law14_alive [] (.bool true) := pcall_ev tabOk_QId (by kernel_rfl)
theorem frv_snoc {xs : List Fr} {x : Fr} : rows frv xs ++ [x.av] = rows frv (xs ++ [x]) := by simp [rows, frv]
theorem Same_ok (fs : List Fr) (hn : fs.length ≤ 1000) : ACall Try.prog f_ref03_Same [.sl 0 4 0 fs.length false, .sl 1 4 0 fs.length false] [some (.arr (rows frv fs)), some (.arr (rows frv fs))] fun r A => r = .bool true ∧ A = [some (.arr (rows frv fs)), some (.arr (rows frv fs))] := by
  refine acallH ok_ref03_Same ?_
  have hr := trivial
  try simp -dsimp -implicitDefEqProofs (maxSteps := 1000000) (disch := first | exact dis | fail) only [hc_ref03_Same, go_sem]
  repeat' ((first | (with_reducible first | refine w_if ?_ ?_ | refine w_gt ?_ ?_ | refine w_gf ?_ ?_ | refine w_io ?_ ?_ | refine w_gdt ?_ ?_ | refine w_gdf ?_ ?_ | refine w_ite ?_ ?_) <;> intro h <;> (try rw [h]) <;> replace hr := And.intro h hr <;> replace h := nrm h <;> try (first | (exfalso; omega) | exact (bx h (by assumption)).elim | exact (bx (by assumption) h).elim) | ((with_reducible refine And.intro ?_ ?_); (focus omega))) <;> try simp -dsimp -implicitDefEqProofs (maxSteps := 1000000) (disch := first | exact dis | fail) only [go_sem])
  refine hw_loop fs.length (fun i ρ A => ρ = rg 7 [(0, .sl 0 4 0 fs.length false), (1, .sl 1 4 0 fs.length false), (3, .int .i64 i)] ∧ A = [some (.arr (rows frv fs)), some (.arr (rows frv fs))]) ⟨none, rfl, rfl, rfl⟩ ?_
  rintro i ρ A hi ⟨rfl, rfl⟩
  by_cases hlt : i < fs.length
  · have hx : fs[i]? = some fs[i] := List.getElem?_eq_getElem hlt
    generalize fs[i] = f at hx
    have hr := trivial
    try simp -dsimp -implicitDefEqProofs (maxSteps := 1000000) (disch := first | exact dis | fail) only [hc_ref03_Same_b1, Int.toNat_natCast, rows_get, hx, frv_eq, Fr.av, go_sem]
    repeat' ((first | (with_reducible first | refine w_if ?_ ?_ | refine w_gt ?_ ?_ | refine w_gf ?_ ?_ | refine w_io ?_ ?_ | refine w_gdt ?_ ?_ | refine w_gdf ?_ ?_ | refine w_ite ?_ ?_) <;> intro h <;> (try rw [h]) <;> replace hr := And.intro h hr <;> replace h := nrm h <;> try (first | (exfalso; omega) | exact (bx h (by assumption)).elim | exact (bx (by assumption) h).elim) | ((with_reducible refine And.intro ?_ ?_); (focus omega))) <;> try simp -dsimp -implicitDefEqProofs (maxSteps := 1000000) (disch := first | exact dis | fail) only [Int.toNat_natCast, rows_get, hx, frv_eq, Fr.av, go_sem])
    exact ⟨none, rfl, rfl, rfl⟩
  · obtain rfl : i = fs.length := by omega
    have hr := trivial
    try simp -dsimp -implicitDefEqProofs (maxSteps := 1000000) (disch := first | exact dis | fail) only [hc_ref03_Same_b1, go_sem]
    repeat' ((first | (with_reducible first | refine w_if ?_ ?_ | refine w_gt ?_ ?_ | refine w_gf ?_ ?_ | refine w_io ?_ ?_ | refine w_gdt ?_ ?_ | refine w_gdf ?_ ?_ | refine w_ite ?_ ?_) <;> intro h <;> (try rw [h]) <;> replace hr := And.intro h hr <;> replace h := nrm h <;> try (first | (exfalso; omega) | exact (bx h (by assumption)).elim | exact (bx (by assumption) h).elim) | ((with_reducible refine And.intro ?_ ?_); (focus omega))) <;> try simp -dsimp -implicitDefEqProofs (maxSteps := 1000000) (disch := first | exact dis | fail) only [go_sem])
    exact ⟨none, rfl, rfl, rfl⟩
/-- The heap: the making, the controller, what was heard, what was fetched. -/
def HH (cf : Cf) (c : Ct) (inn out : List Fr) : AHeap := [some (.cells cf.av), some (.cells [.ptr 2 0, .ptr 3 0, .sl 4 3 0 c.acc.length false, .int .i64 c.asks]), some (.own c.bx.ov), some (.own c.rg.ov), some (.arr (rows fiv c.acc)), some (.arr (rows frv inn)), some (.arr (rows frv out))]
structure CInv (cf : Cf) (i : Nat) (c : Ct) (inn out : List Fr) (th : Int) : Prop where
  acc : c.acc = cf.acc
  ok : RgOk c.rg
  all : inn = out ++ c.rg.all
  th : th = inn.length + c.rg.lost
  lost : c.rg.lost ≤ i
  len : inn.length ≤ i
theorem CInv.olen {cf : Cf} {i : Nat} {c : Ct} {inn out : List Fr} {th : Int} (h : CInv cf i c inn out th) : (inn.length : Int) = out.length + c.rg.many ∧ out.length ≤ i := by
  have h1 := congrArg List.length h.all
  rw [List.length_append, Rg.all_len] at h1
  have := h.ok.m
  have := h.len
  omega
/-- One more is fetched. -/
def fetched (c : Ct) : Ct := { c with rg := c.rg.take }
def outF (c : Ct) (out : List Fr) : List Fr := if c.rg.many = 0 then out else out ++ [c.rg.first]
theorem CInv.fetch {cf : Cf} {i : Nat} {c : Ct} {inn out : List Fr} {th : Int} (h : CInv cf i c inn out th) : CInv cf i (fetched c) inn (outF c out) th := by
  refine ⟨h.acc, take_ok' h.ok, ?_, by rw [h.th]; simp only [fetched, take_lost], by simpa only [fetched, take_lost] using h.lost, h.len⟩
  unfold outF fetched
  by_cases h0 : c.rg.many = 0
  · rw [if_pos h0]; simp only [take0 h0]; exact h.all
  · rw [if_neg h0, List.append_assoc, List.singleton_append]
    simp only []
    rw [← take_all h.ok h0]; exact h.all
theorem CInv.hear {cf : Cf} {i : Nat} {c : Ct} {inn out : List Fr} {th : Int} (h : CInv cf i c inn out th) (hi : i ≤ 1000) (f : Fr) :
    CInv cf (i + 1) (c.hear f) (if letsB c.acc f = true ∧ c.rg.many ≠ c.rg.cells.length then inn ++ [f] else inn) out (if letsB c.acc f = true then th + 1 else th) := by
  have hl := h.lost
  have hn := h.len
  have ht := h.th
  by_cases hL : letsB c.acc f = true
  · have hp := put_ok' h.ok f (by omega)
    by_cases hm : c.rg.many = c.rg.cells.length
    · rw [if_neg (fun h => h.2 hm), if_pos hL]
      simp only [Ct.hear, if_pos hL]
      exact ⟨h.acc, hp, by simp only [put_all h.ok, if_pos hm]; exact h.all, by simp only [put_lost, if_pos hm]; omega, by simp only [put_lost, if_pos hm]; omega, by omega⟩
    · rw [if_pos ⟨hL, hm⟩, if_pos hL]
      simp only [Ct.hear, if_pos hL]
      exact ⟨h.acc, hp, by simp only [put_all h.ok, if_neg hm]; rw [← List.append_assoc, ← h.all], by simp only [put_lost, if_neg hm, List.length_append, List.length_singleton]; omega, by simp only [put_lost, if_neg hm]; omega, by simp only [List.length_append, List.length_singleton]; omega⟩
  · rw [if_neg (fun h => hL h.1), if_neg hL]
    simp only [Ct.hear, if_neg hL]
    exact ⟨h.acc, h.ok, h.all, h.th, by omega, by omega⟩
end Go.Proofs.Ytapoilcpollmpaa
end
