/- box: Best. Conditions: none. -/
import Derived.Test.YtkkccabchhnebaaB1E
namespace Go.Proofs.Ytkkccabchhnebaa
open Go.SB
attribute [local irreducible] AW OPS ORD
set_option maxRecDepth 100000
set_option maxHeartbeats 4000000
set_option linter.unusedSimpArgs false
set_option linter.unusedVariables false
/-- Does a mailbox go ahead of another? -/
def aheadB (c d : Cl) : Bool := decide (keyR c.pk.fr < keyR d.pk.fr) || (decide (keyR c.pk.fr = keyR d.pk.fr) && decide (c.since < d.since))
theorem Best1_ok (c d : Cl) : PCall Try.prog f_box_Boxes_Best_1 [.agg c.av, .agg d.av] (.bool (aheadB c d)) := by
  refine pcall_of fol ok_box_Boxes_Best_1 rfl ?_
  simp -dsimp -implicitDefEqProofs (maxSteps := 1000000) (disch := first | exact dis | fail) only [ic_box_Boxes_Best_1, go_sem]
  repeat' ((first
    | ((with_reducible refine PCall.ac (FKey_ok c.pk.fr) ?_ ?_ ?_); rfl; rfl)
    | ((with_reducible refine PCall.ac (FKey_ok d.pk.fr) ?_ ?_ ?_); rfl; rfl)
    | ((with_reducible refine awpIf_asT ?_ ?_); (focus assumption))
    | ((with_reducible refine awpIf_asF ?_ ?_); (focus assumption))
    | ((with_reducible refine awpGd_tT ?_ ?_); (focus assumption))
    | ((with_reducible refine awpGd_tF ?_ ?_); (focus assumption))
    | ((with_reducible refine awpGd_fF ?_ ?_); (focus assumption))
    | ((with_reducible refine awpGd_fT ?_ ?_); (focus assumption))
    | ((with_reducible apply awpGd_nst); (focus (intro h; replace h := nrm h; simp -dsimp -implicitDefEqProofs (maxSteps := 1000000) (disch := first | exact dis | fail) only [h, go_sem]; rfl)))
    | ((with_reducible apply awpGd_nsf); (focus (intro h; replace h := nrm h; simp -dsimp -implicitDefEqProofs (maxSteps := 1000000) (disch := first | exact dis | fail) only [h, go_sem]; rfl)))
    | ((with_reducible apply gO_t); (focus (intro h; replace h := nrm h; simp -dsimp -implicitDefEqProofs (maxSteps := 1000000) (disch := first | exact dis | fail) only [h, go_sem]; rfl)))
    | ((with_reducible apply gO_f); (focus (intro h; replace h := nrm h; simp -dsimp -implicitDefEqProofs (maxSteps := 1000000) (disch := first | exact dis | fail) only [h, go_sem]; rfl)))
    | ((with_reducible refine awpGd_pct (FKey_ok c.pk.fr) ?_ ?_ ?_ ?_); (focus (intro h; replace h := nrm h; simp -dsimp only [h, go_sem]; first | done | exact ⟨rfl, rfl⟩ | exact rfl)); (focus rfl); (focus rfl))
    | ((with_reducible refine awpGd_pcf (FKey_ok c.pk.fr) ?_ ?_ ?_ ?_); (focus (intro h; replace h := nrm h; simp -dsimp only [h, go_sem]; first | done | exact ⟨rfl, rfl⟩ | exact rfl)); (focus rfl); (focus rfl))
    | ((with_reducible refine awpGd_pct (FKey_ok d.pk.fr) ?_ ?_ ?_ ?_); (focus (intro h; replace h := nrm h; simp -dsimp only [h, go_sem]; first | done | exact ⟨rfl, rfl⟩ | exact rfl)); (focus rfl); (focus rfl))
    | ((with_reducible refine awpGd_pcf (FKey_ok d.pk.fr) ?_ ?_ ?_ ?_); (focus (intro h; replace h := nrm h; simp -dsimp only [h, go_sem]; first | done | exact ⟨rfl, rfl⟩ | exact rfl)); (focus rfl); (focus rfl))
    | ((with_reducible refine chkA_f ?_ ?_ ?_); (focus simp); (focus (intro h; replace h := nrm h; simp -dsimp -implicitDefEqProofs (maxSteps := 1000000) (disch := first | exact dis | fail) only [h, go_sem])))
    | ((with_reducible refine chkA_t ?_ ?_ ?_); (focus simp); (focus (intro h; replace h := nrm h; simp -dsimp -implicitDefEqProofs (maxSteps := 1000000) (disch := first | exact dis | fail) only [h, go_sem])))
    | ((with_reducible refine awpIf_decT ?_ ?_); (focus omega))
    | ((with_reducible refine awpIf_decF ?_ ?_); (focus omega))
    | ((with_reducible first | refine awpIf_dec ?_ ?_ | refine awpIf_ndec ?_ ?_ | refine awpGd_tdec ?_ ?_ | refine awpGd_fdec ?_ ?_ | refine awpGd_tndec ?_ ?_ | refine awpGd_fndec ?_ ?_) <;> intro h <;> (try simp -dsimp only [h]))
    | ((with_reducible first | refine awpIf_cases ?_ ?_ | refine awpGd_cases ?_ ?_ | refine gO_cases ?_ ?_) <;> intro h <;> replace h := nrm h <;> (try simp -dsimp only [h, Bool.not_true, Bool.not_false]))
    | ((with_reducible apply And.intro); (focus omega))) <;> (try simp -dsimp -implicitDefEqProofs (maxSteps := 1000000) (disch := first | exact dis | fail) only [go_sem]))
  rfl
/-- The best of the first so many. -/
def bestAt (cs : List Cl) : Nat → Int
  | 0 => -1
  | i + 1 => match cs[i]? with
    | none => bestAt cs i
    | some c => if c.st = 1 then (if bestAt cs i < 0 then (i : Int) else match cs[(bestAt cs i).toNat]? with
        | some d => if aheadB c d then (i : Int) else bestAt cs i
        | none => bestAt cs i) else bestAt cs i
theorem bestAt_le (cs : List Cl) : ∀ i, i ≤ cs.length → -1 ≤ bestAt cs i ∧ bestAt cs i < cs.length
  | 0, _ => ⟨by simp [bestAt], by simp [bestAt]; omega⟩
  | i + 1, h => by
    obtain ⟨h1, h2⟩ := bestAt_le cs i (by omega)
    unfold bestAt
    split
    · exact ⟨h1, h2⟩
    · split
      · split
        · omega
        · split
          · split <;> omega
          · exact ⟨h1, h2⟩
      · exact ⟨h1, h2⟩
def pk0 : Pk := ⟨⟨0, 0, 0, []⟩, 0, 0, false⟩
def bestV (cs : List Cl) : AV := match cs[(bestAt cs cs.length).toNat]? with
  | some c => if bestAt cs cs.length < 0 then .tup [.int .i64 0, .agg pk0.av, .bool false] else .tup [.int .i64 (bestAt cs cs.length), .agg c.pk.av, .bool true]
  | none => .tup [.int .i64 0, .agg pk0.av, .bool false]
theorem Best_ok (cs : List Cl) (v : AV) (e : Option AO) (es : List Int) (puts : Int) (hn : 1 ≤ cs.length ∧ cs.length ≤ 1000) (he : ER 2 v e es) :
    ACall Try.prog f_box_Boxes_Best [.ptr 0 0] (bh cs v e puts) fun r A => r = bestV cs ∧ A = bh cs v e puts := by
  refine acallW fol ok_box_Boxes_Best ?_
  have hpk : ∀ g, (some (AO.cells pk0.av)).map (AO.ren g) = some (AO.cells pk0.av) := fun g => rfl
  simp -dsimp -implicitDefEqProofs (maxSteps := 1000000) (disch := first | exact dis | fail) only [ic_box_Boxes_Best, bh, eqv_ptr, go_sem]
  repeat' ((first
    | ((with_reducible refine awpIf_asT ?_ ?_); (focus assumption))
    | ((with_reducible refine awpIf_asF ?_ ?_); (focus assumption))
    | ((with_reducible refine awpGd_tT ?_ ?_); (focus assumption))
    | ((with_reducible refine awpGd_tF ?_ ?_); (focus assumption))
    | ((with_reducible refine awpGd_fF ?_ ?_); (focus assumption))
    | ((with_reducible refine awpGd_fT ?_ ?_); (focus assumption))
    | ((with_reducible apply awpGd_nst); (focus (intro h; replace h := nrm h; simp -dsimp -implicitDefEqProofs (maxSteps := 1000000) (disch := first | exact dis | fail) only [h, bh, eqv_ptr, go_sem]; rfl)))
    | ((with_reducible apply awpGd_nsf); (focus (intro h; replace h := nrm h; simp -dsimp -implicitDefEqProofs (maxSteps := 1000000) (disch := first | exact dis | fail) only [h, bh, eqv_ptr, go_sem]; rfl)))
    | ((with_reducible apply gO_t); (focus (intro h; replace h := nrm h; simp -dsimp -implicitDefEqProofs (maxSteps := 1000000) (disch := first | exact dis | fail) only [h, bh, eqv_ptr, go_sem]; rfl)))
    | ((with_reducible apply gO_f); (focus (intro h; replace h := nrm h; simp -dsimp -implicitDefEqProofs (maxSteps := 1000000) (disch := first | exact dis | fail) only [h, bh, eqv_ptr, go_sem]; rfl)))
    | ((with_reducible refine chkA_f ?_ ?_ ?_); (focus simp); (focus (intro h; replace h := nrm h; simp -dsimp -implicitDefEqProofs (maxSteps := 1000000) (disch := first | exact dis | fail) only [h, bh, eqv_ptr, go_sem])))
    | ((with_reducible refine chkA_t ?_ ?_ ?_); (focus simp); (focus (intro h; replace h := nrm h; simp -dsimp -implicitDefEqProofs (maxSteps := 1000000) (disch := first | exact dis | fail) only [h, bh, eqv_ptr, go_sem])))
    | ((with_reducible refine awpIf_decT ?_ ?_); (focus omega))
    | ((with_reducible refine awpIf_decF ?_ ?_); (focus omega))
    | ((with_reducible first | refine awpIf_dec ?_ ?_ | refine awpIf_ndec ?_ ?_ | refine awpGd_tdec ?_ ?_ | refine awpGd_fdec ?_ ?_ | refine awpGd_tndec ?_ ?_ | refine awpGd_fndec ?_ ?_) <;> intro h <;> (try simp -dsimp only [h]))
    | ((with_reducible first | refine awpIf_cases ?_ ?_ | refine awpGd_cases ?_ ?_ | refine gO_cases ?_ ?_) <;> intro h <;> replace h := nrm h <;> (try simp -dsimp only [h, Bool.not_true, Bool.not_false]))
    | ((with_reducible apply And.intro); (focus omega))) <;> (try simp -dsimp -implicitDefEqProofs (maxSteps := 1000000) (disch := first | exact dis | fail) only [bh, eqv_ptr, go_sem]))
  refine aw_loop cs.length (fun i ρ A => ρ = [.ptr 0 0, .any, .any, .ptr 3 0, .any, .int .i64 (bestAt cs i), .fn f_box_Boxes_Best_1 [] []] ++ List.replicate 8 .any ++ [.sl 1 9 0 cs.length true, .int .i64 cs.length, .int .i64 i] ++ List.replicate 37 .any ∧ A = bh cs v e puts ++ [some (.cells pk0.av)]) ⟨none, rfl, by simp -dsimp -implicitDefEqProofs (maxSteps := 1000000) (disch := first | exact dis | fail) only [foldRn, foldAn, bh, bestAt, pk0, go_sem]⟩ ?_
  rintro i ρ A hi ⟨rfl, rfl⟩
  obtain ⟨hb1, hb2⟩ := bestAt_le cs i hi
  have hd0 : (bestAt cs i).toNat < cs.length := by omega
  have hd : cs[(bestAt cs i).toNat]? = some cs[(bestAt cs i).toNat] := List.getElem?_eq_getElem hd0
  generalize cs[(bestAt cs i).toNat] = d at hd
  rcases Nat.lt_or_ge i cs.length with hlt | hge
  · have hx : cs[i]? = some cs[i] := List.getElem?_eq_getElem hlt
    generalize cs[i] = c at hx
    by_cases hst : c.st = 1
    · obtain ⟨st, pk, since⟩ := c
      simp only [] at hst
      subst hst
      by_cases hb : bestAt cs i < 0
      · have hnx : bestAt cs (i + 1) = i := by simp only [bestAt, hx, if_pos hb, if_true]
        simp -dsimp -implicitDefEqProofs (maxSteps := 1000000) (disch := first | exact dis | fail) only [ic_box_Boxes_Best_b1, bh, rows_get, hx, hd, Int.toNat_natCast, cav_eq, hb, go_sem]
        repeat' ((first
          | ((with_reducible refine PCall.ac (Best1_ok ⟨1, pk, since⟩ d) ?_ ?_ ?_); rfl; rfl)
          | ((with_reducible refine awpIf_asT ?_ ?_); (focus assumption))
          | ((with_reducible refine awpIf_asF ?_ ?_); (focus assumption))
          | ((with_reducible refine awpGd_tT ?_ ?_); (focus assumption))
          | ((with_reducible refine awpGd_tF ?_ ?_); (focus assumption))
          | ((with_reducible refine awpGd_fF ?_ ?_); (focus assumption))
          | ((with_reducible refine awpGd_fT ?_ ?_); (focus assumption))
          | ((with_reducible apply awpGd_nst); (focus (intro h; replace h := nrm h; simp -dsimp -implicitDefEqProofs (maxSteps := 1000000) (disch := first | exact dis | fail) only [h, bh, rows_get, hx, hd, Int.toNat_natCast, cav_eq, hb, go_sem]; rfl)))
          | ((with_reducible apply awpGd_nsf); (focus (intro h; replace h := nrm h; simp -dsimp -implicitDefEqProofs (maxSteps := 1000000) (disch := first | exact dis | fail) only [h, bh, rows_get, hx, hd, Int.toNat_natCast, cav_eq, hb, go_sem]; rfl)))
          | ((with_reducible apply gO_t); (focus (intro h; replace h := nrm h; simp -dsimp -implicitDefEqProofs (maxSteps := 1000000) (disch := first | exact dis | fail) only [h, bh, rows_get, hx, hd, Int.toNat_natCast, cav_eq, hb, go_sem]; rfl)))
          | ((with_reducible apply gO_f); (focus (intro h; replace h := nrm h; simp -dsimp -implicitDefEqProofs (maxSteps := 1000000) (disch := first | exact dis | fail) only [h, bh, rows_get, hx, hd, Int.toNat_natCast, cav_eq, hb, go_sem]; rfl)))
          | ((with_reducible refine awpGd_pct (Best1_ok ⟨1, pk, since⟩ d) ?_ ?_ ?_ ?_); (focus (intro h; replace h := nrm h; simp -dsimp only [h, bh, rows_get, hx, hd, Int.toNat_natCast, cav_eq, hb, go_sem]; first | done | exact ⟨rfl, rfl⟩ | exact rfl)); (focus rfl); (focus rfl))
          | ((with_reducible refine awpGd_pcf (Best1_ok ⟨1, pk, since⟩ d) ?_ ?_ ?_ ?_); (focus (intro h; replace h := nrm h; simp -dsimp only [h, bh, rows_get, hx, hd, Int.toNat_natCast, cav_eq, hb, go_sem]; first | done | exact ⟨rfl, rfl⟩ | exact rfl)); (focus rfl); (focus rfl))
          | ((with_reducible refine chkA_f ?_ ?_ ?_); (focus simp); (focus (intro h; replace h := nrm h; simp -dsimp -implicitDefEqProofs (maxSteps := 1000000) (disch := first | exact dis | fail) only [h, bh, rows_get, hx, hd, Int.toNat_natCast, cav_eq, hb, go_sem])))
          | ((with_reducible refine chkA_t ?_ ?_ ?_); (focus simp); (focus (intro h; replace h := nrm h; simp -dsimp -implicitDefEqProofs (maxSteps := 1000000) (disch := first | exact dis | fail) only [h, bh, rows_get, hx, hd, Int.toNat_natCast, cav_eq, hb, go_sem])))
          | ((with_reducible refine awpIf_decT ?_ ?_); (focus omega))
          | ((with_reducible refine awpIf_decF ?_ ?_); (focus omega))
          | ((with_reducible first | refine awpIf_dec ?_ ?_ | refine awpIf_ndec ?_ ?_ | refine awpGd_tdec ?_ ?_ | refine awpGd_fdec ?_ ?_ | refine awpGd_tndec ?_ ?_ | refine awpGd_fndec ?_ ?_) <;> intro h <;> (try simp -dsimp only [h]))
          | ((with_reducible first | refine awpIf_cases ?_ ?_ | refine awpGd_cases ?_ ?_ | refine gO_cases ?_ ?_) <;> intro h <;> replace h := nrm h <;> (try simp -dsimp only [h, Bool.not_true, Bool.not_false]))
          | ((with_reducible apply And.intro); (focus omega))) <;> (try simp -dsimp -implicitDefEqProofs (maxSteps := 1000000) (disch := first | exact dis | fail) only [bh, rows_get, hx, hd, Int.toNat_natCast, cav_eq, hb, go_sem]))
        exact ⟨some [3], rfl, by rw [hnx]; simp -dsimp -implicitDefEqProofs (maxSteps := 1000000) (disch := first | exact dis | fail) only [foldR_eq, Int.natCast_add, go_sem], fold_keep1 (B := bh cs v e puts) rfl (bh_wf he) hpk⟩
      · have hnx : bestAt cs (i + 1) = if aheadB ⟨1, pk, since⟩ d then (i : Int) else bestAt cs i := by simp only [bestAt, hx, if_true, if_neg hb, hd]
        simp -dsimp -implicitDefEqProofs (maxSteps := 1000000) (disch := first | exact dis | fail) only [ic_box_Boxes_Best_b1, bh, rows_get, hx, hd, Int.toNat_natCast, cav_eq, hb, go_sem]
        repeat' ((first
          | ((with_reducible refine PCall.ac (Best1_ok ⟨1, pk, since⟩ d) ?_ ?_ ?_); rfl; rfl)
          | ((with_reducible refine awpIf_asT ?_ ?_); (focus assumption))
          | ((with_reducible refine awpIf_asF ?_ ?_); (focus assumption))
          | ((with_reducible refine awpGd_tT ?_ ?_); (focus assumption))
          | ((with_reducible refine awpGd_tF ?_ ?_); (focus assumption))
          | ((with_reducible refine awpGd_fF ?_ ?_); (focus assumption))
          | ((with_reducible refine awpGd_fT ?_ ?_); (focus assumption))
          | ((with_reducible apply awpGd_nst); (focus (intro h; replace h := nrm h; simp -dsimp -implicitDefEqProofs (maxSteps := 1000000) (disch := first | exact dis | fail) only [h, bh, rows_get, hx, hd, Int.toNat_natCast, cav_eq, hb, go_sem]; rfl)))
          | ((with_reducible apply awpGd_nsf); (focus (intro h; replace h := nrm h; simp -dsimp -implicitDefEqProofs (maxSteps := 1000000) (disch := first | exact dis | fail) only [h, bh, rows_get, hx, hd, Int.toNat_natCast, cav_eq, hb, go_sem]; rfl)))
          | ((with_reducible apply gO_t); (focus (intro h; replace h := nrm h; simp -dsimp -implicitDefEqProofs (maxSteps := 1000000) (disch := first | exact dis | fail) only [h, bh, rows_get, hx, hd, Int.toNat_natCast, cav_eq, hb, go_sem]; rfl)))
          | ((with_reducible apply gO_f); (focus (intro h; replace h := nrm h; simp -dsimp -implicitDefEqProofs (maxSteps := 1000000) (disch := first | exact dis | fail) only [h, bh, rows_get, hx, hd, Int.toNat_natCast, cav_eq, hb, go_sem]; rfl)))
          | ((with_reducible refine awpGd_pct (Best1_ok ⟨1, pk, since⟩ d) ?_ ?_ ?_ ?_); (focus (intro h; replace h := nrm h; simp -dsimp only [h, bh, rows_get, hx, hd, Int.toNat_natCast, cav_eq, hb, go_sem]; first | done | exact ⟨rfl, rfl⟩ | exact rfl)); (focus rfl); (focus rfl))
          | ((with_reducible refine awpGd_pcf (Best1_ok ⟨1, pk, since⟩ d) ?_ ?_ ?_ ?_); (focus (intro h; replace h := nrm h; simp -dsimp only [h, bh, rows_get, hx, hd, Int.toNat_natCast, cav_eq, hb, go_sem]; first | done | exact ⟨rfl, rfl⟩ | exact rfl)); (focus rfl); (focus rfl))
          | ((with_reducible refine chkA_f ?_ ?_ ?_); (focus simp); (focus (intro h; replace h := nrm h; simp -dsimp -implicitDefEqProofs (maxSteps := 1000000) (disch := first | exact dis | fail) only [h, bh, rows_get, hx, hd, Int.toNat_natCast, cav_eq, hb, go_sem])))
          | ((with_reducible refine chkA_t ?_ ?_ ?_); (focus simp); (focus (intro h; replace h := nrm h; simp -dsimp -implicitDefEqProofs (maxSteps := 1000000) (disch := first | exact dis | fail) only [h, bh, rows_get, hx, hd, Int.toNat_natCast, cav_eq, hb, go_sem])))
          | ((with_reducible refine awpIf_decT ?_ ?_); (focus omega))
          | ((with_reducible refine awpIf_decF ?_ ?_); (focus omega))
          | ((with_reducible first | refine awpIf_dec ?_ ?_ | refine awpIf_ndec ?_ ?_ | refine awpGd_tdec ?_ ?_ | refine awpGd_fdec ?_ ?_ | refine awpGd_tndec ?_ ?_ | refine awpGd_fndec ?_ ?_) <;> intro h <;> (try simp -dsimp only [h]))
          | ((with_reducible first | refine awpIf_cases ?_ ?_ | refine awpGd_cases ?_ ?_ | refine gO_cases ?_ ?_) <;> intro h <;> replace h := nrm h <;> (try simp -dsimp only [h, Bool.not_true, Bool.not_false]))
          | ((with_reducible apply And.intro); (focus omega))) <;> (try simp -dsimp -implicitDefEqProofs (maxSteps := 1000000) (disch := first | exact dis | fail) only [bh, rows_get, hx, hd, Int.toNat_natCast, cav_eq, hb, go_sem]))
        · exact ⟨some [3], rfl, by rw [hnx, h]; simp -dsimp -implicitDefEqProofs (maxSteps := 1000000) (disch := first | exact dis | fail) only [foldR_eq, Int.natCast_add, go_sem], fold_keep1 (B := bh cs v e puts) rfl (bh_wf he) hpk⟩
        · exact ⟨some [3], rfl, by rw [hnx, h]; simp -dsimp -implicitDefEqProofs (maxSteps := 1000000) (disch := first | exact dis | fail) only [foldR_eq, Int.natCast_add, go_sem], fold_keep1 (B := bh cs v e puts) rfl (bh_wf he) hpk⟩
    · have hnx : bestAt cs (i + 1) = bestAt cs i := by simp only [bestAt, hx, if_neg hst]
      simp -dsimp -implicitDefEqProofs (maxSteps := 1000000) (disch := first | exact dis | fail) only [ic_box_Boxes_Best_b1, bh, rows_get, hx, hd, Int.toNat_natCast, cav_eq, hst, go_sem]
      repeat' ((first
        | ((with_reducible refine PCall.ac (Best1_ok c d) ?_ ?_ ?_); rfl; rfl)
        | ((with_reducible refine awpIf_asT ?_ ?_); (focus assumption))
        | ((with_reducible refine awpIf_asF ?_ ?_); (focus assumption))
        | ((with_reducible refine awpGd_tT ?_ ?_); (focus assumption))
        | ((with_reducible refine awpGd_tF ?_ ?_); (focus assumption))
        | ((with_reducible refine awpGd_fF ?_ ?_); (focus assumption))
        | ((with_reducible refine awpGd_fT ?_ ?_); (focus assumption))
        | ((with_reducible apply awpGd_nst); (focus (intro h; replace h := nrm h; simp -dsimp -implicitDefEqProofs (maxSteps := 1000000) (disch := first | exact dis | fail) only [h, bh, rows_get, hx, hd, Int.toNat_natCast, cav_eq, hst, go_sem]; rfl)))
        | ((with_reducible apply awpGd_nsf); (focus (intro h; replace h := nrm h; simp -dsimp -implicitDefEqProofs (maxSteps := 1000000) (disch := first | exact dis | fail) only [h, bh, rows_get, hx, hd, Int.toNat_natCast, cav_eq, hst, go_sem]; rfl)))
        | ((with_reducible apply gO_t); (focus (intro h; replace h := nrm h; simp -dsimp -implicitDefEqProofs (maxSteps := 1000000) (disch := first | exact dis | fail) only [h, bh, rows_get, hx, hd, Int.toNat_natCast, cav_eq, hst, go_sem]; rfl)))
        | ((with_reducible apply gO_f); (focus (intro h; replace h := nrm h; simp -dsimp -implicitDefEqProofs (maxSteps := 1000000) (disch := first | exact dis | fail) only [h, bh, rows_get, hx, hd, Int.toNat_natCast, cav_eq, hst, go_sem]; rfl)))
        | ((with_reducible refine awpGd_pct (Best1_ok c d) ?_ ?_ ?_ ?_); (focus (intro h; replace h := nrm h; simp -dsimp only [h, bh, rows_get, hx, hd, Int.toNat_natCast, cav_eq, hst, go_sem]; first | done | exact ⟨rfl, rfl⟩ | exact rfl)); (focus rfl); (focus rfl))
        | ((with_reducible refine awpGd_pcf (Best1_ok c d) ?_ ?_ ?_ ?_); (focus (intro h; replace h := nrm h; simp -dsimp only [h, bh, rows_get, hx, hd, Int.toNat_natCast, cav_eq, hst, go_sem]; first | done | exact ⟨rfl, rfl⟩ | exact rfl)); (focus rfl); (focus rfl))
        | ((with_reducible refine chkA_f ?_ ?_ ?_); (focus simp); (focus (intro h; replace h := nrm h; simp -dsimp -implicitDefEqProofs (maxSteps := 1000000) (disch := first | exact dis | fail) only [h, bh, rows_get, hx, hd, Int.toNat_natCast, cav_eq, hst, go_sem])))
        | ((with_reducible refine chkA_t ?_ ?_ ?_); (focus simp); (focus (intro h; replace h := nrm h; simp -dsimp -implicitDefEqProofs (maxSteps := 1000000) (disch := first | exact dis | fail) only [h, bh, rows_get, hx, hd, Int.toNat_natCast, cav_eq, hst, go_sem])))
        | ((with_reducible refine awpIf_decT ?_ ?_); (focus omega))
        | ((with_reducible refine awpIf_decF ?_ ?_); (focus omega))
        | ((with_reducible first | refine awpIf_dec ?_ ?_ | refine awpIf_ndec ?_ ?_ | refine awpGd_tdec ?_ ?_ | refine awpGd_fdec ?_ ?_ | refine awpGd_tndec ?_ ?_ | refine awpGd_fndec ?_ ?_) <;> intro h <;> (try simp -dsimp only [h]))
        | ((with_reducible first | refine awpIf_cases ?_ ?_ | refine awpGd_cases ?_ ?_ | refine gO_cases ?_ ?_) <;> intro h <;> replace h := nrm h <;> (try simp -dsimp only [h, Bool.not_true, Bool.not_false]))
        | ((with_reducible apply And.intro); (focus omega))) <;> (try simp -dsimp -implicitDefEqProofs (maxSteps := 1000000) (disch := first | exact dis | fail) only [bh, rows_get, hx, hd, Int.toNat_natCast, cav_eq, hst, go_sem]))
      exact ⟨some [3], rfl, by rw [hnx]; simp -dsimp -implicitDefEqProofs (maxSteps := 1000000) (disch := first | exact dis | fail) only [foldR_eq, Int.natCast_add, go_sem], fold_keep1 (B := bh cs v e puts) rfl (bh_wf he) hpk⟩
  · obtain rfl : i = cs.length := by omega
    by_cases hb : bestAt cs cs.length < 0
    · skip
      simp -dsimp -implicitDefEqProofs (maxSteps := 1000000) (disch := first | exact dis | fail) only [ic_box_Boxes_Best_b1, bh, rows_get, hd, cav_eq, hb, go_sem]
      repeat' ((first
        | ((with_reducible refine awpIf_asT ?_ ?_); (focus assumption))
        | ((with_reducible refine awpIf_asF ?_ ?_); (focus assumption))
        | ((with_reducible refine awpGd_tT ?_ ?_); (focus assumption))
        | ((with_reducible refine awpGd_tF ?_ ?_); (focus assumption))
        | ((with_reducible refine awpGd_fF ?_ ?_); (focus assumption))
        | ((with_reducible refine awpGd_fT ?_ ?_); (focus assumption))
        | ((with_reducible apply awpGd_nst); (focus (intro h; replace h := nrm h; simp -dsimp -implicitDefEqProofs (maxSteps := 1000000) (disch := first | exact dis | fail) only [h, bh, rows_get, hd, cav_eq, hb, go_sem]; rfl)))
        | ((with_reducible apply awpGd_nsf); (focus (intro h; replace h := nrm h; simp -dsimp -implicitDefEqProofs (maxSteps := 1000000) (disch := first | exact dis | fail) only [h, bh, rows_get, hd, cav_eq, hb, go_sem]; rfl)))
        | ((with_reducible apply gO_t); (focus (intro h; replace h := nrm h; simp -dsimp -implicitDefEqProofs (maxSteps := 1000000) (disch := first | exact dis | fail) only [h, bh, rows_get, hd, cav_eq, hb, go_sem]; rfl)))
        | ((with_reducible apply gO_f); (focus (intro h; replace h := nrm h; simp -dsimp -implicitDefEqProofs (maxSteps := 1000000) (disch := first | exact dis | fail) only [h, bh, rows_get, hd, cav_eq, hb, go_sem]; rfl)))
        | ((with_reducible refine chkA_f ?_ ?_ ?_); (focus simp); (focus (intro h; replace h := nrm h; simp -dsimp -implicitDefEqProofs (maxSteps := 1000000) (disch := first | exact dis | fail) only [h, bh, rows_get, hd, cav_eq, hb, go_sem])))
        | ((with_reducible refine chkA_t ?_ ?_ ?_); (focus simp); (focus (intro h; replace h := nrm h; simp -dsimp -implicitDefEqProofs (maxSteps := 1000000) (disch := first | exact dis | fail) only [h, bh, rows_get, hd, cav_eq, hb, go_sem])))
        | ((with_reducible refine awpIf_decT ?_ ?_); (focus omega))
        | ((with_reducible refine awpIf_decF ?_ ?_); (focus omega))
        | ((with_reducible first | refine awpIf_dec ?_ ?_ | refine awpIf_ndec ?_ ?_ | refine awpGd_tdec ?_ ?_ | refine awpGd_fdec ?_ ?_ | refine awpGd_tndec ?_ ?_ | refine awpGd_fndec ?_ ?_) <;> intro h <;> (try simp -dsimp only [h]))
        | ((with_reducible first | refine awpIf_cases ?_ ?_ | refine awpGd_cases ?_ ?_ | refine gO_cases ?_ ?_) <;> intro h <;> replace h := nrm h <;> (try simp -dsimp only [h, Bool.not_true, Bool.not_false]))
        | ((with_reducible apply And.intro); (focus omega))) <;> (try simp -dsimp -implicitDefEqProofs (maxSteps := 1000000) (disch := first | exact dis | fail) only [bh, rows_get, hd, cav_eq, hb, go_sem]))
      have hbv : bestV cs = .tup [.int .i64 0, .agg pk0.av, .bool false] := by simp only [bestV, hd, if_pos hb]
      rw [hbv]
      exact fin_eq (B := bh cs v e puts) rfl (bh_wf he) rfl
    · skip
      simp -dsimp -implicitDefEqProofs (maxSteps := 1000000) (disch := first | exact dis | fail) only [ic_box_Boxes_Best_b1, bh, rows_get, hd, cav_eq, hb, go_sem]
      repeat' ((first
        | ((with_reducible refine awpIf_asT ?_ ?_); (focus assumption))
        | ((with_reducible refine awpIf_asF ?_ ?_); (focus assumption))
        | ((with_reducible refine awpGd_tT ?_ ?_); (focus assumption))
        | ((with_reducible refine awpGd_tF ?_ ?_); (focus assumption))
        | ((with_reducible refine awpGd_fF ?_ ?_); (focus assumption))
        | ((with_reducible refine awpGd_fT ?_ ?_); (focus assumption))
        | ((with_reducible apply awpGd_nst); (focus (intro h; replace h := nrm h; simp -dsimp -implicitDefEqProofs (maxSteps := 1000000) (disch := first | exact dis | fail) only [h, bh, rows_get, hd, cav_eq, hb, go_sem]; rfl)))
        | ((with_reducible apply awpGd_nsf); (focus (intro h; replace h := nrm h; simp -dsimp -implicitDefEqProofs (maxSteps := 1000000) (disch := first | exact dis | fail) only [h, bh, rows_get, hd, cav_eq, hb, go_sem]; rfl)))
        | ((with_reducible apply gO_t); (focus (intro h; replace h := nrm h; simp -dsimp -implicitDefEqProofs (maxSteps := 1000000) (disch := first | exact dis | fail) only [h, bh, rows_get, hd, cav_eq, hb, go_sem]; rfl)))
        | ((with_reducible apply gO_f); (focus (intro h; replace h := nrm h; simp -dsimp -implicitDefEqProofs (maxSteps := 1000000) (disch := first | exact dis | fail) only [h, bh, rows_get, hd, cav_eq, hb, go_sem]; rfl)))
        | ((with_reducible refine chkA_f ?_ ?_ ?_); (focus simp); (focus (intro h; replace h := nrm h; simp -dsimp -implicitDefEqProofs (maxSteps := 1000000) (disch := first | exact dis | fail) only [h, bh, rows_get, hd, cav_eq, hb, go_sem])))
        | ((with_reducible refine chkA_t ?_ ?_ ?_); (focus simp); (focus (intro h; replace h := nrm h; simp -dsimp -implicitDefEqProofs (maxSteps := 1000000) (disch := first | exact dis | fail) only [h, bh, rows_get, hd, cav_eq, hb, go_sem])))
        | ((with_reducible refine awpIf_decT ?_ ?_); (focus omega))
        | ((with_reducible refine awpIf_decF ?_ ?_); (focus omega))
        | ((with_reducible first | refine awpIf_dec ?_ ?_ | refine awpIf_ndec ?_ ?_ | refine awpGd_tdec ?_ ?_ | refine awpGd_fdec ?_ ?_ | refine awpGd_tndec ?_ ?_ | refine awpGd_fndec ?_ ?_) <;> intro h <;> (try simp -dsimp only [h]))
        | ((with_reducible first | refine awpIf_cases ?_ ?_ | refine awpGd_cases ?_ ?_ | refine gO_cases ?_ ?_) <;> intro h <;> replace h := nrm h <;> (try simp -dsimp only [h, Bool.not_true, Bool.not_false]))
        | ((with_reducible apply And.intro); (focus omega))) <;> (try simp -dsimp -implicitDefEqProofs (maxSteps := 1000000) (disch := first | exact dis | fail) only [bh, rows_get, hd, cav_eq, hb, go_sem]))
      have hbv : bestV cs = .tup [.int .i64 (bestAt cs cs.length), .agg d.pk.av, .bool true] := by simp only [bestV, hd, if_neg hb]
      rw [hbv]
      exact fin_eq (B := bh cs v e puts) rfl (bh_wf he) rfl
end Go.Proofs.Ytkkccabchhnebaa
