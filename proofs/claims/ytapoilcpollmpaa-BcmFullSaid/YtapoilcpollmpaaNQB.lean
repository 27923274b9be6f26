/- QB, put together. Conditions: none. -/
import Derived.Test.YtapoilcpollmpaaNQA
/- ref02: what its functions answer. -/
section
namespace Go.Proofs.Ytapoilcpollmpaa
open Go.SB
attribute [local irreducible] HW HSS HAS HRQ HEO HOP HCK
set_option maxRecDepth 100000
set_option maxHeartbeats 2000000
set_option linter.unusedSimpArgs false
set_option pp.deepTerms.threshold 6

def hasR (fl m : Int) : Bool := if fl < 0 then false else decide ((IntKind.wrap .i64 (fl.tdiv m)).tmod 2 = 1)
theorem Has_ok (f : Fr) (m : Int) (hm : m ≠ 0) : PCall Try.prog f_ref02_Has [.agg f.av, .int .i64 m] (.bool (hasR f.fl m)) := by
  refine pcallH ok_ref02_Has rfl ?_
  have hr := trivial
  try simp -dsimp -implicitDefEqProofs (maxSteps := 1000000) (disch := first | exact dis | fail) only [hc_ref02_Has, Fr.av, hm, ne_eq, not_false_eq_true, go_sem]
  repeat' ((first | (with_reducible first | refine w_if ?_ ?_ | refine w_gt ?_ ?_ | refine w_gf ?_ ?_ | refine w_io ?_ ?_ | refine w_gdt ?_ ?_ | refine w_gdf ?_ ?_ | refine w_ite ?_ ?_) <;> intro h <;> (try rw [h]) <;> replace hr := And.intro h hr <;> replace h := nrm h <;> try (first | (exfalso; omega) | exact (bx h (by assumption)).elim | exact (bx (by assumption) h).elim) | ((with_reducible refine And.intro ?_ ?_); (focus omega))) <;> try simp -dsimp -implicitDefEqProofs (maxSteps := 1000000) (disch := first | exact dis | fail) only [Fr.av, hm, ne_eq, not_false_eq_true, go_sem])
  all_goals first | (simp_all [hasR]; done) | grind [hasR]

theorem rows_len1 : szL.length = 16 := rfl
def i1 (n : Int) : List AV := [.int .i64 n]
def b1 (b : Bool) : List AV := [.bool b]
theorem i1_flat (n : Int) : AV.flatL (i1 n) = true := rfl
theorem b1_flat (b : Bool) : AV.flatL (b1 b) = true := rfl
theorem i1_ren {g : Nat → Option Nat} {xs : List Int} : AO.ren g (.arr (rows i1 xs)) = .arr (rows i1 xs) := rows_ren i1_flat g xs
theorem b1_ren {g : Nat → Option Nat} {xs : List Bool} : AO.ren g (.arr (rows b1 xs)) = .arr (rows b1 xs) := rows_ren b1_flat g xs
theorem Sizes_ok : ACall Try.prog f_ref02_Sizes [] [] fun r A => r = .sl 0 1 0 16 true ∧ A = [some (.arr (rows i1 szL))] := acall_ev tabOk_QIa (by kernel_rfl)

def codeR (n : Int) : Int := match codeAt n szL 0 with | some i => i | none => -1
theorem RCode_ok (n : Int) : PCall Try.prog f_ref02_Code [.int .i64 n] (.int .i64 (codeR n)) := by
  refine pcallH ok_ref02_Code rfl ?_
  have hr := trivial
  try simp -dsimp -implicitDefEqProofs (maxSteps := 1000000) (disch := first | exact dis | fail) only [hc_ref02_Code, go_sem]
  repeat' ((first | (with_reducible first | refine w_if ?_ ?_ | refine w_gt ?_ ?_ | refine w_gf ?_ ?_ | refine w_io ?_ ?_ | refine w_gdt ?_ ?_ | refine w_gdf ?_ ?_ | refine w_ite ?_ ?_) <;> intro h <;> (try rw [h]) <;> replace hr := And.intro h hr <;> replace h := nrm h <;> try (first | (exfalso; omega) | exact (bx h (by assumption)).elim | exact (bx (by assumption) h).elim) | ((with_reducible refine And.intro ?_ ?_); (focus omega))) <;> try simp -dsimp -implicitDefEqProofs (maxSteps := 1000000) (disch := first | exact dis | fail) only [go_sem])
  refine Sizes_ok.mono ?_
  rintro r A ⟨rfl, rfl⟩
  have hr := trivial
  try simp -dsimp -implicitDefEqProofs (maxSteps := 1000000) (disch := first | exact dis | fail) only [go_sem]
  repeat' ((first | (with_reducible first | refine w_if ?_ ?_ | refine w_gt ?_ ?_ | refine w_gf ?_ ?_ | refine w_io ?_ ?_ | refine w_gdt ?_ ?_ | refine w_gdf ?_ ?_ | refine w_ite ?_ ?_) <;> intro h <;> (try rw [h]) <;> replace hr := And.intro h hr <;> replace h := nrm h <;> try (first | (exfalso; omega) | exact (bx h (by assumption)).elim | exact (bx (by assumption) h).elim) | ((with_reducible refine And.intro ?_ ?_); (focus omega))) <;> try simp -dsimp -implicitDefEqProofs (maxSteps := 1000000) (disch := first | exact dis | fail) only [go_sem])
  refine hw_loop 16 (fun i ρ A => ρ = rg 7 [(0, .int .i64 n), (2, .sl 0 1 0 16 true), (3, .int .i64 i)] ∧ A = [some (.arr (rows i1 szL))] ∧ codeAt n (szL.drop i) i = codeAt n szL 0) ⟨none, rfl, rfl, rfl, rfl⟩ ?_
  rintro i ρ A hi ⟨rfl, rfl, hc⟩
  rcases Nat.lt_or_ge i 16 with hlt | hge
  · have hx : (szL[i]?) = some (szL.getD i 0) := by rw [List.getD, List.getElem?_eq_getElem (show i < szL.length from hlt)]; rfl
    rw [codeAt_step n i hlt] at hc
    have h1 : ((i : Int) < 16) := by omega
    have hr := trivial
    try simp -dsimp -implicitDefEqProofs (maxSteps := 1000000) (disch := first | exact dis | fail) only [hc_ref02_Code_b1, h1, rows_get, hx, Int.toNat_natCast, i1, go_sem]
    repeat' ((first | (with_reducible first | refine w_if ?_ ?_ | refine w_gt ?_ ?_ | refine w_gf ?_ ?_ | refine w_io ?_ ?_ | refine w_gdt ?_ ?_ | refine w_gdf ?_ ?_ | refine w_ite ?_ ?_) <;> intro h <;> (try rw [h]) <;> replace hr := And.intro h hr <;> replace h := nrm h <;> try (first | (exfalso; omega) | exact (bx h (by assumption)).elim | exact (bx (by assumption) h).elim) | ((with_reducible refine And.intro ?_ ?_); (focus omega))) <;> try simp -dsimp -implicitDefEqProofs (maxSteps := 1000000) (disch := first | exact dis | fail) only [h1, rows_get, hx, Int.toNat_natCast, i1, go_sem])
    · have hn : szL.getD i 0 = n := ‹_›
      rw [if_pos hn] at hc
      simp only [codeR, ← hc]
    · have hn : ¬ szL.getD i 0 = n := ‹_›
      rw [if_neg hn] at hc
      exact ⟨none, rfl, rfl, rfl, hc⟩
  · have h1 : ¬ ((i : Int) < 16) := by omega
    have : szL.drop i = [] := List.drop_eq_nil_of_le hge
    rw [this] at hc
    have hr := trivial
    try simp -dsimp -implicitDefEqProofs (maxSteps := 1000000) (disch := first | exact dis | fail) only [hc_ref02_Code_b1, h1, go_sem]
    repeat' ((first | (with_reducible first | refine w_if ?_ ?_ | refine w_gt ?_ ?_ | refine w_gf ?_ ?_ | refine w_io ?_ ?_ | refine w_gdt ?_ ?_ | refine w_gdf ?_ ?_ | refine w_ite ?_ ?_) <;> intro h <;> (try rw [h]) <;> replace hr := And.intro h hr <;> replace h := nrm h <;> try (first | (exfalso; omega) | exact (bx h (by assumption)).elim | exact (bx (by assumption) h).elim) | ((with_reducible refine And.intro ?_ ?_); (focus omega))) <;> try simp -dsimp -implicitDefEqProofs (maxSteps := 1000000) (disch := first | exact dis | fail) only [h1, go_sem])
    simp only [codeR, ← hc, codeAt]
def rightR (f : Fr) : Bool :=
  let err := hasR f.fl 4; let fd := hasR f.fl 8; let rtr := hasR f.fl 2; let ext := hasR f.fl 1
  if f.fl < 0 ∨ f.fl > 63 ∨ f.id < 0 ∨ f.id > 536870911 then false
  else if err && (ext || rtr || fd) || fd && rtr || (hasR f.fl 16 || hasR f.fl 32) && !fd then false
  else if decide (f.id > 2047) && !ext && !err then false
  else if decide (f.len < 0) || decide (f.len > 64) || !fd && decide (f.len > 8) || fd && decide (codeR f.len < 0) || err && decide (f.len ≠ 8) then false
  else if rtr then decide (f.data = []) else decide ((f.data.length : Int) = f.len)
theorem RRight_ok (f : Fr) : PCall Try.prog f_ref02_Right [.agg f.av] (.bool (rightR f)) := by
  refine pcallH ok_ref02_Right rfl ?_
  have hr := trivial
  try simp -dsimp -implicitDefEqProofs (maxSteps := 1000000) (disch := first | exact dis | fail) only [hc_ref02_Right, Fr.av, go_sem]
  repeat' ((first | (with_reducible refine PCall.aci (Has_ok f _ (by decide)) ?_) | (with_reducible refine PCall.aci (RCode_ok f.len) ?_) | (with_reducible first | refine w_if ?_ ?_ | refine w_gt ?_ ?_ | refine w_gf ?_ ?_ | refine w_io ?_ ?_ | refine w_gdt ?_ ?_ | refine w_gdf ?_ ?_ | refine w_ite ?_ ?_) <;> intro h <;> (try rw [h]) <;> replace hr := And.intro h hr <;> replace h := nrm h <;> try (first | (exfalso; omega) | exact (bx h (by assumption)).elim | exact (bx (by assumption) h).elim) | ((with_reducible refine And.intro ?_ ?_); (focus omega))) <;> try simp -dsimp -implicitDefEqProofs (maxSteps := 1000000) (disch := first | exact dis | fail) only [Fr.av, go_sem])
  all_goals first | (simp_all [rightR]; done) | grind [rightR]
end Go.Proofs.Ytapoilcpollmpaa
end
