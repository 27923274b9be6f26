/- ref13: Best, End, Take, Free. Conditions: none. -/
import Derived.Test.YtkkccabchhnebaaB1H
namespace Go.Proofs.Ytkkccabchhnebaa
open Go.SB
attribute [local irreducible] AW OPS ORD
set_option maxRecDepth 100000
set_option maxHeartbeats 4000000
set_option linter.unusedSimpArgs false
set_option linter.unusedVariables false

theorem i1_at {pre es : List Int} {i : Nat} {x : Int} (h : es[i]? = some x) : (rows i1 (pre ++ es))[pre.length + i]? = some [.int .i64 x] := by
  rw [rows_get, List.getElem?_append_right (by omega), Nat.add_sub_cancel_left, h]; rfl
/-- The best of the first so many, as the document says. -/
def rbAt (cs : List Cl) (os : List Int) : Nat → Int
  | 0 => -1
  | i + 1 => match os[i]? with
    | none => rbAt cs os i
    | some k => if rbAt cs os i < 0 then k else match cs[k.toNat]?, cs[(rbAt cs os i).toNat]? with
      | some c, some d => if keyR c.pk.fr < keyR d.pk.fr then k else rbAt cs os i
      | _, _ => rbAt cs os i
/-- All of them are mailboxes. -/
def InB (cs : List Cl) (os : List Int) : Prop := ∀ k ∈ os, 0 ≤ k ∧ k < cs.length
theorem rbAt_le {cs : List Cl} {os : List Int} (h : InB cs os) : ∀ i, -1 ≤ rbAt cs os i ∧ rbAt cs os i < cs.length
  | 0 => ⟨by simp [rbAt], by simp [rbAt]; omega⟩
  | i + 1 => by
    obtain ⟨h1, h2⟩ := rbAt_le h i
    unfold rbAt
    cases e : os[i]? with
    | none => exact ⟨h1, h2⟩
    | some k =>
      have hk := h k (List.mem_of_getElem? e)
      simp only []
      split
      · exact ⟨by omega, hk.2⟩
      · split
        · split
          · exact ⟨by omega, hk.2⟩
          · exact ⟨h1, h2⟩
        · exact ⟨h1, h2⟩
theorem RBest_l (cs : List Cl) (ov : AV) (oe : Option AO) (ev : AV) (ee : Option AO) (os : List Int) (hn : 1 ≤ cs.length ∧ cs.length ≤ 1000) (hos : os.length ≤ 1000000) (hi : InB cs os) (ho : ER 3 ov oe os) (Q : IExit → List AV → AHeap → Prop)
    (hQ : Q (.exit 0) ([.ptr 0 0, .any, .any, .int .i64 (rbAt cs os os.length), .int .i64 os.length] ++ List.replicate 42 .any) (rh cs ov oe ev ee)) :
    AW Try.prog 5 ic_ref13_Boxes_Best_l1 ([.ptr 0 0, .any, .any, .int .i64 (-1), .int .i64 0] ++ List.replicate 42 .any) (rh cs ov oe ev ee) Q := by
  refine aw_loop os.length (fun i ρ A => ρ = [.ptr 0 0, .any, .any, .int .i64 (rbAt cs os i), .int .i64 i] ++ List.replicate 42 .any ∧ A = rh cs ov oe ev ee) ⟨none, rfl, by simp -dsimp -implicitDefEqProofs (maxSteps := 1000000) (disch := first | exact dis | fail) only [foldRn, foldAn, rh, rbAt, go_sem]⟩ ?_
  rintro i ρ A hil ⟨rfl, rfl⟩
  obtain ⟨hb1, hb2⟩ := rbAt_le hi i
  have hd0 : (rbAt cs os i).toNat < cs.length := by omega
  have hd : cs[(rbAt cs os i).toNat]? = some cs[(rbAt cs os i).toNat] := List.getElem?_eq_getElem hd0
  generalize cs[(rbAt cs os i).toNat] = d at hd
  rcases ho with ⟨rfl, rfl, rfl⟩ | ⟨pre, rfl, rfl⟩
  · obtain rfl : i = 0 := by simpa using hil
    simp -dsimp -implicitDefEqProofs (maxSteps := 1000000) (disch := first | exact dis | fail) only [ic_ref13_Boxes_Best_b1, rh, go_sem]
    repeat' ((first
      | ((with_reducible refine awpIf_asT ?_ ?_); (focus assumption))
      | ((with_reducible refine awpIf_asF ?_ ?_); (focus assumption))
      | ((with_reducible refine awpGd_tT ?_ ?_); (focus assumption))
      | ((with_reducible refine awpGd_tF ?_ ?_); (focus assumption))
      | ((with_reducible refine awpGd_fF ?_ ?_); (focus assumption))
      | ((with_reducible refine awpGd_fT ?_ ?_); (focus assumption))
      | ((with_reducible apply awpGd_nst); (focus (intro h; replace h := nrm h; simp -dsimp -implicitDefEqProofs (maxSteps := 1000000) (disch := first | exact dis | fail) only [h, rh, go_sem]; rfl)))
      | ((with_reducible apply awpGd_nsf); (focus (intro h; replace h := nrm h; simp -dsimp -implicitDefEqProofs (maxSteps := 1000000) (disch := first | exact dis | fail) only [h, rh, go_sem]; rfl)))
      | ((with_reducible apply gO_t); (focus (intro h; replace h := nrm h; simp -dsimp -implicitDefEqProofs (maxSteps := 1000000) (disch := first | exact dis | fail) only [h, rh, go_sem]; rfl)))
      | ((with_reducible apply gO_f); (focus (intro h; replace h := nrm h; simp -dsimp -implicitDefEqProofs (maxSteps := 1000000) (disch := first | exact dis | fail) only [h, rh, go_sem]; rfl)))
      | ((with_reducible refine chkA_f ?_ ?_ ?_); (focus simp); (focus (intro h; replace h := nrm h; simp -dsimp -implicitDefEqProofs (maxSteps := 1000000) (disch := first | exact dis | fail) only [h, rh, go_sem])))
      | ((with_reducible refine chkA_t ?_ ?_ ?_); (focus simp); (focus (intro h; replace h := nrm h; simp -dsimp -implicitDefEqProofs (maxSteps := 1000000) (disch := first | exact dis | fail) only [h, rh, go_sem])))
      | ((with_reducible refine awpIf_decT ?_ ?_); (focus omega))
      | ((with_reducible refine awpIf_decF ?_ ?_); (focus omega))
      | ((with_reducible first | refine awpIf_dec ?_ ?_ | refine awpIf_ndec ?_ ?_ | refine awpGd_tdec ?_ ?_ | refine awpGd_fdec ?_ ?_ | refine awpGd_tndec ?_ ?_ | refine awpGd_fndec ?_ ?_) <;> intro h <;> (try simp -dsimp only [h]))
      | ((with_reducible first | refine awpIf_cases ?_ ?_ | refine awpGd_cases ?_ ?_ | refine gO_cases ?_ ?_) <;> intro h <;> replace h := nrm h <;> (try simp -dsimp only [h, Bool.not_true, Bool.not_false]))
      | ((with_reducible apply And.intro); (focus omega))) <;> (try simp -dsimp -implicitDefEqProofs (maxSteps := 1000000) (disch := first | exact dis | fail) only [rh, go_sem]))
    exact hQ
  · by_cases hlt : i < os.length
    · have hx : os[i]? = some os[i] := List.getElem?_eq_getElem hlt
      generalize os[i] = k at hx
      obtain ⟨hk0, hk1⟩ := hi k (List.mem_of_getElem? hx)
      obtain ⟨n, rfl⟩ : ∃ n : Nat, k = n := ⟨k.toNat, by omega⟩
      have hat := i1_at (pre := pre) hx
      have hc : cs[n]? = some cs[n] := List.getElem?_eq_getElem (by omega)
      generalize cs[n] = c at hc
      by_cases hb : rbAt cs os i < 0
      · have hnx : rbAt cs os (i + 1) = n := by simp only [rbAt, hx, if_pos hb]
        simp -dsimp -implicitDefEqProofs (maxSteps := 1000000) (disch := first | exact dis | fail) only [ic_ref13_Boxes_Best_b1, rh, hat, hb, Int.toNat_natCast, go_sem]
        repeat' ((first
          | ((with_reducible refine awpIf_asT ?_ ?_); (focus assumption))
          | ((with_reducible refine awpIf_asF ?_ ?_); (focus assumption))
          | ((with_reducible refine awpGd_tT ?_ ?_); (focus assumption))
          | ((with_reducible refine awpGd_tF ?_ ?_); (focus assumption))
          | ((with_reducible refine awpGd_fF ?_ ?_); (focus assumption))
          | ((with_reducible refine awpGd_fT ?_ ?_); (focus assumption))
          | ((with_reducible apply awpGd_nst); (focus (intro h; replace h := nrm h; simp -dsimp -implicitDefEqProofs (maxSteps := 1000000) (disch := first | exact dis | fail) only [h, rh, hat, hb, Int.toNat_natCast, go_sem]; rfl)))
          | ((with_reducible apply awpGd_nsf); (focus (intro h; replace h := nrm h; simp -dsimp -implicitDefEqProofs (maxSteps := 1000000) (disch := first | exact dis | fail) only [h, rh, hat, hb, Int.toNat_natCast, go_sem]; rfl)))
          | ((with_reducible apply gO_t); (focus (intro h; replace h := nrm h; simp -dsimp -implicitDefEqProofs (maxSteps := 1000000) (disch := first | exact dis | fail) only [h, rh, hat, hb, Int.toNat_natCast, go_sem]; rfl)))
          | ((with_reducible apply gO_f); (focus (intro h; replace h := nrm h; simp -dsimp -implicitDefEqProofs (maxSteps := 1000000) (disch := first | exact dis | fail) only [h, rh, hat, hb, Int.toNat_natCast, go_sem]; rfl)))
          | ((with_reducible refine chkA_f ?_ ?_ ?_); (focus simp); (focus (intro h; replace h := nrm h; simp -dsimp -implicitDefEqProofs (maxSteps := 1000000) (disch := first | exact dis | fail) only [h, rh, hat, hb, Int.toNat_natCast, go_sem])))
          | ((with_reducible refine chkA_t ?_ ?_ ?_); (focus simp); (focus (intro h; replace h := nrm h; simp -dsimp -implicitDefEqProofs (maxSteps := 1000000) (disch := first | exact dis | fail) only [h, rh, hat, hb, Int.toNat_natCast, go_sem])))
          | ((with_reducible refine awpIf_decT ?_ ?_); (focus omega))
          | ((with_reducible refine awpIf_decF ?_ ?_); (focus omega))
          | ((with_reducible first | refine awpIf_dec ?_ ?_ | refine awpIf_ndec ?_ ?_ | refine awpGd_tdec ?_ ?_ | refine awpGd_fdec ?_ ?_ | refine awpGd_tndec ?_ ?_ | refine awpGd_fndec ?_ ?_) <;> intro h <;> (try simp -dsimp only [h]))
          | ((with_reducible first | refine awpIf_cases ?_ ?_ | refine awpGd_cases ?_ ?_ | refine gO_cases ?_ ?_) <;> intro h <;> replace h := nrm h <;> (try simp -dsimp only [h, Bool.not_true, Bool.not_false]))
          | ((with_reducible apply And.intro); (focus omega))) <;> (try simp -dsimp -implicitDefEqProofs (maxSteps := 1000000) (disch := first | exact dis | fail) only [rh, hat, hb, Int.toNat_natCast, go_sem]))
        exact ⟨none, rfl, by rw [hnx]; simp -dsimp -implicitDefEqProofs (maxSteps := 1000000) (disch := first | exact dis | fail) only [foldRn, Int.natCast_add, go_sem], rfl⟩
      · have hnx : rbAt cs os (i + 1) = if keyR c.pk.fr < keyR d.pk.fr then (n : Int) else rbAt cs os i := by simp only [rbAt, hx, if_neg hb, Int.toNat_natCast, hc, hd]
        simp -dsimp -implicitDefEqProofs (maxSteps := 1000000) (disch := first | exact dis | fail) only [ic_ref13_Boxes_Best_b1, rh, hat, hb, Int.toNat_natCast, rows_get (f := sp), hc, hd, sp_eq, go_sem]
        repeat' ((first
          | ((with_reducible refine PCall.ac (RKey_ok c.pk.fr) ?_ ?_ ?_); rfl; rfl)
          | ((with_reducible refine PCall.ac (RKey_ok d.pk.fr) ?_ ?_ ?_); rfl; rfl)
          | ((with_reducible refine awpIf_asT ?_ ?_); (focus assumption))
          | ((with_reducible refine awpIf_asF ?_ ?_); (focus assumption))
          | ((with_reducible refine awpGd_tT ?_ ?_); (focus assumption))
          | ((with_reducible refine awpGd_tF ?_ ?_); (focus assumption))
          | ((with_reducible refine awpGd_fF ?_ ?_); (focus assumption))
          | ((with_reducible refine awpGd_fT ?_ ?_); (focus assumption))
          | ((with_reducible apply awpGd_nst); (focus (intro h; replace h := nrm h; simp -dsimp -implicitDefEqProofs (maxSteps := 1000000) (disch := first | exact dis | fail) only [h, rh, hat, hb, Int.toNat_natCast, rows_get (f := sp), hc, hd, sp_eq, go_sem]; rfl)))
          | ((with_reducible apply awpGd_nsf); (focus (intro h; replace h := nrm h; simp -dsimp -implicitDefEqProofs (maxSteps := 1000000) (disch := first | exact dis | fail) only [h, rh, hat, hb, Int.toNat_natCast, rows_get (f := sp), hc, hd, sp_eq, go_sem]; rfl)))
          | ((with_reducible apply gO_t); (focus (intro h; replace h := nrm h; simp -dsimp -implicitDefEqProofs (maxSteps := 1000000) (disch := first | exact dis | fail) only [h, rh, hat, hb, Int.toNat_natCast, rows_get (f := sp), hc, hd, sp_eq, go_sem]; rfl)))
          | ((with_reducible apply gO_f); (focus (intro h; replace h := nrm h; simp -dsimp -implicitDefEqProofs (maxSteps := 1000000) (disch := first | exact dis | fail) only [h, rh, hat, hb, Int.toNat_natCast, rows_get (f := sp), hc, hd, sp_eq, go_sem]; rfl)))
          | ((with_reducible refine awpGd_pct (RKey_ok c.pk.fr) ?_ ?_ ?_ ?_); (focus (intro h; replace h := nrm h; simp -dsimp only [h, rh, hat, hb, Int.toNat_natCast, rows_get (f := sp), hc, hd, sp_eq, go_sem]; first | done | exact ⟨rfl, rfl⟩ | exact rfl)); (focus rfl); (focus rfl))
          | ((with_reducible refine awpGd_pcf (RKey_ok c.pk.fr) ?_ ?_ ?_ ?_); (focus (intro h; replace h := nrm h; simp -dsimp only [h, rh, hat, hb, Int.toNat_natCast, rows_get (f := sp), hc, hd, sp_eq, go_sem]; first | done | exact ⟨rfl, rfl⟩ | exact rfl)); (focus rfl); (focus rfl))
          | ((with_reducible refine awpGd_pct (RKey_ok d.pk.fr) ?_ ?_ ?_ ?_); (focus (intro h; replace h := nrm h; simp -dsimp only [h, rh, hat, hb, Int.toNat_natCast, rows_get (f := sp), hc, hd, sp_eq, go_sem]; first | done | exact ⟨rfl, rfl⟩ | exact rfl)); (focus rfl); (focus rfl))
          | ((with_reducible refine awpGd_pcf (RKey_ok d.pk.fr) ?_ ?_ ?_ ?_); (focus (intro h; replace h := nrm h; simp -dsimp only [h, rh, hat, hb, Int.toNat_natCast, rows_get (f := sp), hc, hd, sp_eq, go_sem]; first | done | exact ⟨rfl, rfl⟩ | exact rfl)); (focus rfl); (focus rfl))
          | ((with_reducible refine chkA_f ?_ ?_ ?_); (focus simp); (focus (intro h; replace h := nrm h; simp -dsimp -implicitDefEqProofs (maxSteps := 1000000) (disch := first | exact dis | fail) only [h, rh, hat, hb, Int.toNat_natCast, rows_get (f := sp), hc, hd, sp_eq, go_sem])))
          | ((with_reducible refine chkA_t ?_ ?_ ?_); (focus simp); (focus (intro h; replace h := nrm h; simp -dsimp -implicitDefEqProofs (maxSteps := 1000000) (disch := first | exact dis | fail) only [h, rh, hat, hb, Int.toNat_natCast, rows_get (f := sp), hc, hd, sp_eq, go_sem])))
          | ((with_reducible refine awpIf_decT ?_ ?_); (focus omega))
          | ((with_reducible refine awpIf_decF ?_ ?_); (focus omega))
          | ((with_reducible first | refine awpIf_dec ?_ ?_ | refine awpIf_ndec ?_ ?_ | refine awpGd_tdec ?_ ?_ | refine awpGd_fdec ?_ ?_ | refine awpGd_tndec ?_ ?_ | refine awpGd_fndec ?_ ?_) <;> intro h <;> (try simp -dsimp only [h]))
          | ((with_reducible first | refine awpIf_cases ?_ ?_ | refine awpGd_cases ?_ ?_ | refine gO_cases ?_ ?_) <;> intro h <;> replace h := nrm h <;> (try simp -dsimp only [h, Bool.not_true, Bool.not_false]))
          | ((with_reducible apply And.intro); (focus omega))) <;> (try simp -dsimp -implicitDefEqProofs (maxSteps := 1000000) (disch := first | exact dis | fail) only [rh, hat, hb, Int.toNat_natCast, rows_get (f := sp), hc, hd, sp_eq, go_sem]))
        · exact ⟨none, rfl, by rw [hnx, if_pos ‹_›]; simp -dsimp -implicitDefEqProofs (maxSteps := 1000000) (disch := first | exact dis | fail) only [foldRn, Int.natCast_add, go_sem], rfl⟩
        · exact ⟨none, rfl, by rw [hnx, if_neg ‹_›]; simp -dsimp -implicitDefEqProofs (maxSteps := 1000000) (disch := first | exact dis | fail) only [foldRn, Int.natCast_add, go_sem], rfl⟩
    · obtain rfl : i = os.length := by omega
      simp -dsimp -implicitDefEqProofs (maxSteps := 1000000) (disch := first | exact dis | fail) only [ic_ref13_Boxes_Best_b1, rh, go_sem]
      repeat' ((first
        | ((with_reducible refine awpIf_asT ?_ ?_); (focus assumption))
        | ((with_reducible refine awpIf_asF ?_ ?_); (focus assumption))
        | ((with_reducible refine awpGd_tT ?_ ?_); (focus assumption))
        | ((with_reducible refine awpGd_tF ?_ ?_); (focus assumption))
        | ((with_reducible refine awpGd_fF ?_ ?_); (focus assumption))
        | ((with_reducible refine awpGd_fT ?_ ?_); (focus assumption))
        | ((with_reducible apply awpGd_nst); (focus (intro h; replace h := nrm h; simp -dsimp -implicitDefEqProofs (maxSteps := 1000000) (disch := first | exact dis | fail) only [h, rh, go_sem]; rfl)))
        | ((with_reducible apply awpGd_nsf); (focus (intro h; replace h := nrm h; simp -dsimp -implicitDefEqProofs (maxSteps := 1000000) (disch := first | exact dis | fail) only [h, rh, go_sem]; rfl)))
        | ((with_reducible apply gO_t); (focus (intro h; replace h := nrm h; simp -dsimp -implicitDefEqProofs (maxSteps := 1000000) (disch := first | exact dis | fail) only [h, rh, go_sem]; rfl)))
        | ((with_reducible apply gO_f); (focus (intro h; replace h := nrm h; simp -dsimp -implicitDefEqProofs (maxSteps := 1000000) (disch := first | exact dis | fail) only [h, rh, go_sem]; rfl)))
        | ((with_reducible refine chkA_f ?_ ?_ ?_); (focus simp); (focus (intro h; replace h := nrm h; simp -dsimp -implicitDefEqProofs (maxSteps := 1000000) (disch := first | exact dis | fail) only [h, rh, go_sem])))
        | ((with_reducible refine chkA_t ?_ ?_ ?_); (focus simp); (focus (intro h; replace h := nrm h; simp -dsimp -implicitDefEqProofs (maxSteps := 1000000) (disch := first | exact dis | fail) only [h, rh, go_sem])))
        | ((with_reducible refine awpIf_decT ?_ ?_); (focus omega))
        | ((with_reducible refine awpIf_decF ?_ ?_); (focus omega))
        | ((with_reducible first | refine awpIf_dec ?_ ?_ | refine awpIf_ndec ?_ ?_ | refine awpGd_tdec ?_ ?_ | refine awpGd_fdec ?_ ?_ | refine awpGd_tndec ?_ ?_ | refine awpGd_fndec ?_ ?_) <;> intro h <;> (try simp -dsimp only [h]))
        | ((with_reducible first | refine awpIf_cases ?_ ?_ | refine awpGd_cases ?_ ?_ | refine gO_cases ?_ ?_) <;> intro h <;> replace h := nrm h <;> (try simp -dsimp only [h, Bool.not_true, Bool.not_false]))
        | ((with_reducible apply And.intro); (focus omega))) <;> (try simp -dsimp -implicitDefEqProofs (maxSteps := 1000000) (disch := first | exact dis | fail) only [rh, go_sem]))
      exact hQ
theorem RBest_ok (cs : List Cl) (ov : AV) (oe : Option AO) (ev : AV) (ee : Option AO) (os es : List Int) (hn : 1 ≤ cs.length ∧ cs.length ≤ 1000) (hos : os.length ≤ 1000000) (hi : InB cs os) (ho : ER 3 ov oe os) (he : ER 4 ev ee es) :
    ACall Try.prog f_ref13_Boxes_Best [.ptr 0 0] (rh cs ov oe ev ee) fun r A => r = .int .i64 (rbAt cs os os.length) ∧ A = rh cs ov oe ev ee := by
  refine acallW fol ok_ref13_Boxes_Best ?_
  simp -dsimp -implicitDefEqProofs (maxSteps := 1000000) (disch := first | exact dis | fail) only [ic_ref13_Boxes_Best, rh, go_sem]
  repeat' ((first
    | ((with_reducible refine awpIf_asT ?_ ?_); (focus assumption))
    | ((with_reducible refine awpIf_asF ?_ ?_); (focus assumption))
    | ((with_reducible refine awpGd_tT ?_ ?_); (focus assumption))
    | ((with_reducible refine awpGd_tF ?_ ?_); (focus assumption))
    | ((with_reducible refine awpGd_fF ?_ ?_); (focus assumption))
    | ((with_reducible refine awpGd_fT ?_ ?_); (focus assumption))
    | ((with_reducible apply awpGd_nst); (focus (intro h; replace h := nrm h; simp -dsimp -implicitDefEqProofs (maxSteps := 1000000) (disch := first | exact dis | fail) only [h, rh, go_sem]; rfl)))
    | ((with_reducible apply awpGd_nsf); (focus (intro h; replace h := nrm h; simp -dsimp -implicitDefEqProofs (maxSteps := 1000000) (disch := first | exact dis | fail) only [h, rh, go_sem]; rfl)))
    | ((with_reducible apply gO_t); (focus (intro h; replace h := nrm h; simp -dsimp -implicitDefEqProofs (maxSteps := 1000000) (disch := first | exact dis | fail) only [h, rh, go_sem]; rfl)))
    | ((with_reducible apply gO_f); (focus (intro h; replace h := nrm h; simp -dsimp -implicitDefEqProofs (maxSteps := 1000000) (disch := first | exact dis | fail) only [h, rh, go_sem]; rfl)))
    | ((with_reducible refine chkA_f ?_ ?_ ?_); (focus simp); (focus (intro h; replace h := nrm h; simp -dsimp -implicitDefEqProofs (maxSteps := 1000000) (disch := first | exact dis | fail) only [h, rh, go_sem])))
    | ((with_reducible refine chkA_t ?_ ?_ ?_); (focus simp); (focus (intro h; replace h := nrm h; simp -dsimp -implicitDefEqProofs (maxSteps := 1000000) (disch := first | exact dis | fail) only [h, rh, go_sem])))
    | ((with_reducible refine awpIf_decT ?_ ?_); (focus omega))
    | ((with_reducible refine awpIf_decF ?_ ?_); (focus omega))
    | ((with_reducible first | refine awpIf_dec ?_ ?_ | refine awpIf_ndec ?_ ?_ | refine awpGd_tdec ?_ ?_ | refine awpGd_fdec ?_ ?_ | refine awpGd_tndec ?_ ?_ | refine awpGd_fndec ?_ ?_) <;> intro h <;> (try simp -dsimp only [h]))
    | ((with_reducible first | refine awpIf_cases ?_ ?_ | refine awpGd_cases ?_ ?_ | refine gO_cases ?_ ?_) <;> intro h <;> replace h := nrm h <;> (try simp -dsimp only [h, Bool.not_true, Bool.not_false]))
    | ((with_reducible apply And.intro); (focus omega))) <;> (try simp -dsimp -implicitDefEqProofs (maxSteps := 1000000) (disch := first | exact dis | fail) only [rh, go_sem]))
  refine RBest_l cs ov oe ev ee os hn hos hi ho _ ?_
  simp -dsimp -implicitDefEqProofs (maxSteps := 1000000) (disch := first | exact dis | fail) only [rh, go_sem]
  repeat' ((first
    | ((with_reducible refine awpIf_asT ?_ ?_); (focus assumption))
    | ((with_reducible refine awpIf_asF ?_ ?_); (focus assumption))
    | ((with_reducible refine awpGd_tT ?_ ?_); (focus assumption))
    | ((with_reducible refine awpGd_tF ?_ ?_); (focus assumption))
    | ((with_reducible refine awpGd_fF ?_ ?_); (focus assumption))
    | ((with_reducible refine awpGd_fT ?_ ?_); (focus assumption))
    | ((with_reducible apply awpGd_nst); (focus (intro h; replace h := nrm h; simp -dsimp -implicitDefEqProofs (maxSteps := 1000000) (disch := first | exact dis | fail) only [h, rh, go_sem]; rfl)))
    | ((with_reducible apply awpGd_nsf); (focus (intro h; replace h := nrm h; simp -dsimp -implicitDefEqProofs (maxSteps := 1000000) (disch := first | exact dis | fail) only [h, rh, go_sem]; rfl)))
    | ((with_reducible apply gO_t); (focus (intro h; replace h := nrm h; simp -dsimp -implicitDefEqProofs (maxSteps := 1000000) (disch := first | exact dis | fail) only [h, rh, go_sem]; rfl)))
    | ((with_reducible apply gO_f); (focus (intro h; replace h := nrm h; simp -dsimp -implicitDefEqProofs (maxSteps := 1000000) (disch := first | exact dis | fail) only [h, rh, go_sem]; rfl)))
    | ((with_reducible refine chkA_f ?_ ?_ ?_); (focus simp); (focus (intro h; replace h := nrm h; simp -dsimp -implicitDefEqProofs (maxSteps := 1000000) (disch := first | exact dis | fail) only [h, rh, go_sem])))
    | ((with_reducible refine chkA_t ?_ ?_ ?_); (focus simp); (focus (intro h; replace h := nrm h; simp -dsimp -implicitDefEqProofs (maxSteps := 1000000) (disch := first | exact dis | fail) only [h, rh, go_sem])))
    | ((with_reducible refine awpIf_decT ?_ ?_); (focus omega))
    | ((with_reducible refine awpIf_decF ?_ ?_); (focus omega))
    | ((with_reducible first | refine awpIf_dec ?_ ?_ | refine awpIf_ndec ?_ ?_ | refine awpGd_tdec ?_ ?_ | refine awpGd_fdec ?_ ?_ | refine awpGd_tndec ?_ ?_ | refine awpGd_fndec ?_ ?_) <;> intro h <;> (try simp -dsimp only [h]))
    | ((with_reducible first | refine awpIf_cases ?_ ?_ | refine awpGd_cases ?_ ?_ | refine gO_cases ?_ ?_) <;> intro h <;> replace h := nrm h <;> (try simp -dsimp only [h, Bool.not_true, Bool.not_false]))
    | ((with_reducible apply And.intro); (focus omega))) <;> (try simp -dsimp -implicitDefEqProofs (maxSteps := 1000000) (disch := first | exact dis | fail) only [rh, go_sem]))
  exact fin_eq (B := rh cs ov oe ev ee) (G := []) rfl (rh_wf ho he) rfl

theorem endC_len {cs : List Cl} {i st : Int} : (endC cs i st).length = cs.length := by unfold endC; split <;> simp
theorem endC_sp {cs : List Cl} {k : Nat} {st : Int} : rows sp (endC cs k st) = rows sp cs := by
  unfold endC
  rw [Int.toNat_natCast]
  cases h : cs[k]? with
  | none => rfl
  | some c =>
    simp only []
    refine List.ext_getElem? fun j => ?_
    rw [rows_get, rows_get, List.getElem?_set]
    by_cases e : k = j
    · subst e
      rw [if_pos rfl, if_pos (List.getElem?_eq_some_iff.1 h).1, h]; rfl
    · rw [if_neg e]
theorem filter_take {os : List Int} {i : Nat} {x : Int} {p : Int → Bool} (h : os[i]? = some x) : (os.take (i + 1)).filter p = (os.take i).filter p ++ (if p x then [x] else []) := by
  rw [List.take_add_one, h, List.filter_append]
  congr 1
  by_cases hp : p x <;> simp [hp]
theorem REnd_l (cs : List Cl) (ov : AV) (oe : Option AO) (ev : AV) (ee : Option AO) (os es : List Int) (box : Int) (hn : 1 ≤ cs.length ∧ cs.length ≤ 1000) (hos : os.length ≤ 1000000) (ho : ER 3 ov oe os) (he : ER 4 ev ee es) (Q : IExit → List AV → AHeap → Prop)
    (hQ : ∀ v e, ER 5 v e (os.filter (fun x => !decide (x = box))) → Q (.exit 0) ([.ptr 0 0, .int .i64 box, .any, .any, .any, .any, .any, v, .int .i64 os.length] ++ List.replicate 70 .any) (rh cs ov oe ev ee ++ [e])) :
    AW Try.prog 5 ic_ref13_Boxes_End_l1 ([.ptr 0 0, .int .i64 box, .any, .any, .any, .any, .any, .nils, .int .i64 0] ++ List.replicate 70 .any) (rh cs ov oe ev ee) Q := by
  obtain ⟨e1, e2⟩ := he.ren (g := fnew 5 [7]) rfl
  obtain ⟨e3, e4⟩ := he.ren (g := fnew 5 [5]) rfl
  obtain ⟨o3, o4⟩ := ho.ren (g := fnew 5 [5]) rfl
  refine aw_loop os.length (fun i ρ A => ∃ v e, ER 5 v e ((os.take i).filter (fun x => !decide (x = box))) ∧ ρ = [.ptr 0 0, .int .i64 box, .any, .any, .any, .any, .any, v, .int .i64 i] ++ List.replicate 70 .any ∧ A = rh cs ov oe ev ee ++ [e])
    ⟨some [5], rfl, .nils, none, .inl ⟨rfl, rfl, rfl⟩, by simp -dsimp -implicitDefEqProofs (maxSteps := 1000000) (disch := first | exact dis | fail) only [foldR_eq, rh, go_sem], by simp -dsimp -implicitDefEqProofs (maxSteps := 1000000) (disch := first | exact dis | fail) only [foldA_eq, rh, si_ren, sp_ren, e3, e4, o3, o4, go_sem]; rfl⟩ ?_
  rintro i ρ A hil ⟨v, e, hv, rfl, rfl⟩
  by_cases hlt : i < os.length
  · have hx : os[i]? = some os[i] := List.getElem?_eq_getElem hlt
    generalize os[i] = x at hx
    have hlf : ((os.take i).filter (fun x => !decide (x = box))).length ≤ 1000000 := Nat.le_trans (List.length_filter_le _ _) (by simp; omega)
    rcases ho with ⟨rfl, rfl, rfl⟩ | ⟨pre, rfl, rfl⟩
    · exact absurd hlt (by simp)
    · have hat := i1_at (pre := pre) hx
      have hft := filter_take (p := fun x => !decide (x = box)) hx
      by_cases hxb : x = box
      · rw [show (if (!decide (x = box)) = true then [x] else []) = [] by simp [hxb], List.append_nil] at hft
        simp -dsimp -implicitDefEqProofs (maxSteps := 1000000) (disch := first | exact dis | fail) only [ic_ref13_Boxes_End_b1, rh, hat, hxb, Int.toNat_natCast, go_sem]
        repeat' ((first
          | ((with_reducible refine awpIf_asT ?_ ?_); (focus assumption))
          | ((with_reducible refine awpIf_asF ?_ ?_); (focus assumption))
          | ((with_reducible refine awpGd_tT ?_ ?_); (focus assumption))
          | ((with_reducible refine awpGd_tF ?_ ?_); (focus assumption))
          | ((with_reducible refine awpGd_fF ?_ ?_); (focus assumption))
          | ((with_reducible refine awpGd_fT ?_ ?_); (focus assumption))
          | ((with_reducible apply awpGd_nst); (focus (intro h; replace h := nrm h; simp -dsimp -implicitDefEqProofs (maxSteps := 1000000) (disch := first | exact dis | fail) only [h, rh, hat, hxb, Int.toNat_natCast, go_sem]; rfl)))
          | ((with_reducible apply awpGd_nsf); (focus (intro h; replace h := nrm h; simp -dsimp -implicitDefEqProofs (maxSteps := 1000000) (disch := first | exact dis | fail) only [h, rh, hat, hxb, Int.toNat_natCast, go_sem]; rfl)))
          | ((with_reducible apply gO_t); (focus (intro h; replace h := nrm h; simp -dsimp -implicitDefEqProofs (maxSteps := 1000000) (disch := first | exact dis | fail) only [h, rh, hat, hxb, Int.toNat_natCast, go_sem]; rfl)))
          | ((with_reducible apply gO_f); (focus (intro h; replace h := nrm h; simp -dsimp -implicitDefEqProofs (maxSteps := 1000000) (disch := first | exact dis | fail) only [h, rh, hat, hxb, Int.toNat_natCast, go_sem]; rfl)))
          | ((with_reducible refine chkA_f ?_ ?_ ?_); (focus simp); (focus (intro h; replace h := nrm h; simp -dsimp -implicitDefEqProofs (maxSteps := 1000000) (disch := first | exact dis | fail) only [h, rh, hat, hxb, Int.toNat_natCast, go_sem])))
          | ((with_reducible refine chkA_t ?_ ?_ ?_); (focus simp); (focus (intro h; replace h := nrm h; simp -dsimp -implicitDefEqProofs (maxSteps := 1000000) (disch := first | exact dis | fail) only [h, rh, hat, hxb, Int.toNat_natCast, go_sem])))
          | ((with_reducible refine awpIf_decT ?_ ?_); (focus omega))
          | ((with_reducible refine awpIf_decF ?_ ?_); (focus omega))
          | ((with_reducible first | refine awpIf_dec ?_ ?_ | refine awpIf_ndec ?_ ?_ | refine awpGd_tdec ?_ ?_ | refine awpGd_fdec ?_ ?_ | refine awpGd_tndec ?_ ?_ | refine awpGd_fndec ?_ ?_) <;> intro h <;> (try simp -dsimp only [h]))
          | ((with_reducible first | refine awpIf_cases ?_ ?_ | refine awpGd_cases ?_ ?_ | refine gO_cases ?_ ?_) <;> intro h <;> replace h := nrm h <;> (try simp -dsimp only [h, Bool.not_true, Bool.not_false]))
          | ((with_reducible apply And.intro); (focus omega))) <;> (try simp -dsimp -implicitDefEqProofs (maxSteps := 1000000) (disch := first | exact dis | fail) only [rh, hat, hxb, Int.toNat_natCast, go_sem]))
        exact ⟨none, rfl, v, e, by rw [hft]; exact hv, by simp -dsimp -implicitDefEqProofs (maxSteps := 1000000) (disch := first | exact dis | fail) only [foldRn, Int.natCast_add, go_sem], rfl⟩
      · rw [show (if (!decide (x = box)) = true then [x] else []) = [x] by simp [hxb]] at hft
        generalize hfl : (os.take i).filter (fun x => !decide (x = box)) = fl at hv hft hlf
        rcases hv with ⟨rfl, rfl, rfl⟩ | ⟨pf, rfl, rfl⟩
        · skip
          simp -dsimp -implicitDefEqProofs (maxSteps := 1000000) (disch := first | exact dis | fail) only [ic_ref13_Boxes_End_b1, rh, hat, hxb, Int.toNat_natCast, go_sem]
          repeat' ((first
            | ((with_reducible refine awpIf_asT ?_ ?_); (focus assumption))
            | ((with_reducible refine awpIf_asF ?_ ?_); (focus assumption))
            | ((with_reducible refine awpGd_tT ?_ ?_); (focus assumption))
            | ((with_reducible refine awpGd_tF ?_ ?_); (focus assumption))
            | ((with_reducible refine awpGd_fF ?_ ?_); (focus assumption))
            | ((with_reducible refine awpGd_fT ?_ ?_); (focus assumption))
            | ((with_reducible apply awpGd_nst); (focus (intro h; replace h := nrm h; simp -dsimp -implicitDefEqProofs (maxSteps := 1000000) (disch := first | exact dis | fail) only [h, rh, hat, hxb, Int.toNat_natCast, go_sem]; rfl)))
            | ((with_reducible apply awpGd_nsf); (focus (intro h; replace h := nrm h; simp -dsimp -implicitDefEqProofs (maxSteps := 1000000) (disch := first | exact dis | fail) only [h, rh, hat, hxb, Int.toNat_natCast, go_sem]; rfl)))
            | ((with_reducible apply gO_t); (focus (intro h; replace h := nrm h; simp -dsimp -implicitDefEqProofs (maxSteps := 1000000) (disch := first | exact dis | fail) only [h, rh, hat, hxb, Int.toNat_natCast, go_sem]; rfl)))
            | ((with_reducible apply gO_f); (focus (intro h; replace h := nrm h; simp -dsimp -implicitDefEqProofs (maxSteps := 1000000) (disch := first | exact dis | fail) only [h, rh, hat, hxb, Int.toNat_natCast, go_sem]; rfl)))
            | ((with_reducible refine chkA_f ?_ ?_ ?_); (focus simp); (focus (intro h; replace h := nrm h; simp -dsimp -implicitDefEqProofs (maxSteps := 1000000) (disch := first | exact dis | fail) only [h, rh, hat, hxb, Int.toNat_natCast, go_sem])))
            | ((with_reducible refine chkA_t ?_ ?_ ?_); (focus simp); (focus (intro h; replace h := nrm h; simp -dsimp -implicitDefEqProofs (maxSteps := 1000000) (disch := first | exact dis | fail) only [h, rh, hat, hxb, Int.toNat_natCast, go_sem])))
            | ((with_reducible refine awpIf_decT ?_ ?_); (focus omega))
            | ((with_reducible refine awpIf_decF ?_ ?_); (focus omega))
            | ((with_reducible first | refine awpIf_dec ?_ ?_ | refine awpIf_ndec ?_ ?_ | refine awpGd_tdec ?_ ?_ | refine awpGd_fdec ?_ ?_ | refine awpGd_tndec ?_ ?_ | refine awpGd_fndec ?_ ?_) <;> intro h <;> (try simp -dsimp only [h]))
            | ((with_reducible first | refine awpIf_cases ?_ ?_ | refine awpGd_cases ?_ ?_ | refine gO_cases ?_ ?_) <;> intro h <;> replace h := nrm h <;> (try simp -dsimp only [h, Bool.not_true, Bool.not_false]))
            | ((with_reducible apply And.intro); (focus omega))) <;> (try simp -dsimp -implicitDefEqProofs (maxSteps := 1000000) (disch := first | exact dis | fail) only [rh, hat, hxb, Int.toNat_natCast, go_sem]))
          exact ⟨some [7], rfl, .sl 5 1 0 1 false, some (.arr (rows i1 [x])), .inr ⟨[], by rw [hft]; rfl, by rw [hft]; rfl⟩, by simp -dsimp -implicitDefEqProofs (maxSteps := 1000000) (disch := first | exact dis | fail) only [foldR_eq, Int.natCast_add, go_sem], by simp -dsimp -implicitDefEqProofs (maxSteps := 1000000) (disch := first | exact dis | fail) only [foldA_eq, rh, si_ren, sp_ren, i1_one, i1_ren, e1, e2, o3, o4, go_sem]⟩
        · skip
          simp -dsimp -implicitDefEqProofs (maxSteps := 1000000) (disch := first | exact dis | fail) only [ic_ref13_Boxes_End_b1, rh, hat, hxb, Int.toNat_natCast, appF_some, i1_shown, i1_len, i1_snoc, go_sem]
          repeat' ((first
            | ((with_reducible refine awpIf_asT ?_ ?_); (focus assumption))
            | ((with_reducible refine awpIf_asF ?_ ?_); (focus assumption))
            | ((with_reducible refine awpGd_tT ?_ ?_); (focus assumption))
            | ((with_reducible refine awpGd_tF ?_ ?_); (focus assumption))
            | ((with_reducible refine awpGd_fF ?_ ?_); (focus assumption))
            | ((with_reducible refine awpGd_fT ?_ ?_); (focus assumption))
            | ((with_reducible apply awpGd_nst); (focus (intro h; replace h := nrm h; simp -dsimp -implicitDefEqProofs (maxSteps := 1000000) (disch := first | exact dis | fail) only [h, rh, hat, hxb, Int.toNat_natCast, appF_some, i1_shown, i1_len, i1_snoc, go_sem]; rfl)))
            | ((with_reducible apply awpGd_nsf); (focus (intro h; replace h := nrm h; simp -dsimp -implicitDefEqProofs (maxSteps := 1000000) (disch := first | exact dis | fail) only [h, rh, hat, hxb, Int.toNat_natCast, appF_some, i1_shown, i1_len, i1_snoc, go_sem]; rfl)))
            | ((with_reducible apply gO_t); (focus (intro h; replace h := nrm h; simp -dsimp -implicitDefEqProofs (maxSteps := 1000000) (disch := first | exact dis | fail) only [h, rh, hat, hxb, Int.toNat_natCast, appF_some, i1_shown, i1_len, i1_snoc, go_sem]; rfl)))
            | ((with_reducible apply gO_f); (focus (intro h; replace h := nrm h; simp -dsimp -implicitDefEqProofs (maxSteps := 1000000) (disch := first | exact dis | fail) only [h, rh, hat, hxb, Int.toNat_natCast, appF_some, i1_shown, i1_len, i1_snoc, go_sem]; rfl)))
            | ((with_reducible refine chkA_f ?_ ?_ ?_); (focus simp); (focus (intro h; replace h := nrm h; simp -dsimp -implicitDefEqProofs (maxSteps := 1000000) (disch := first | exact dis | fail) only [h, rh, hat, hxb, Int.toNat_natCast, appF_some, i1_shown, i1_len, i1_snoc, go_sem])))
            | ((with_reducible refine chkA_t ?_ ?_ ?_); (focus simp); (focus (intro h; replace h := nrm h; simp -dsimp -implicitDefEqProofs (maxSteps := 1000000) (disch := first | exact dis | fail) only [h, rh, hat, hxb, Int.toNat_natCast, appF_some, i1_shown, i1_len, i1_snoc, go_sem])))
            | ((with_reducible refine awpIf_decT ?_ ?_); (focus omega))
            | ((with_reducible refine awpIf_decF ?_ ?_); (focus omega))
            | ((with_reducible first | refine awpIf_dec ?_ ?_ | refine awpIf_ndec ?_ ?_ | refine awpGd_tdec ?_ ?_ | refine awpGd_fdec ?_ ?_ | refine awpGd_tndec ?_ ?_ | refine awpGd_fndec ?_ ?_) <;> intro h <;> (try simp -dsimp only [h]))
            | ((with_reducible first | refine awpIf_cases ?_ ?_ | refine awpGd_cases ?_ ?_ | refine gO_cases ?_ ?_) <;> intro h <;> replace h := nrm h <;> (try simp -dsimp only [h, Bool.not_true, Bool.not_false]))
            | ((with_reducible apply And.intro); (focus omega))) <;> (try simp -dsimp -implicitDefEqProofs (maxSteps := 1000000) (disch := first | exact dis | fail) only [rh, hat, hxb, Int.toNat_natCast, appF_some, i1_shown, i1_len, i1_snoc, go_sem]))
          exact ⟨⟨by simp, by omega⟩, hlt, some [7], rfl, .sl 5 1 0 (fl.length + 1) false, some (.arr (rows i1 (fl ++ [x]))), .inr ⟨[], by rw [hft]; simp, by rw [hft]; rfl⟩, by simp -dsimp -implicitDefEqProofs (maxSteps := 1000000) (disch := first | exact dis | fail) only [foldR_eq, Int.natCast_add, go_sem], by simp -dsimp -implicitDefEqProofs (maxSteps := 1000000) (disch := first | exact dis | fail) only [foldA_eq, rh, si_ren, sp_ren, i1_one, i1_ren, e1, e2, o3, o4, go_sem]⟩
  · obtain rfl : i = os.length := by omega
    rw [List.take_length] at hv
    have hnx : ¬ ((os.length : Int) < os.length) := by omega
    rcases ho with ⟨rfl, rfl, rfl⟩ | ⟨pre, rfl, rfl⟩
    · skip
      simp -dsimp -implicitDefEqProofs (maxSteps := 1000000) (disch := first | exact dis | fail) only [ic_ref13_Boxes_End_b1, rh, go_sem]
      repeat' ((first
        | ((with_reducible refine awpIf_asT ?_ ?_); (focus assumption))
        | ((with_reducible refine awpIf_asF ?_ ?_); (focus assumption))
        | ((with_reducible refine awpGd_tT ?_ ?_); (focus assumption))
        | ((with_reducible refine awpGd_tF ?_ ?_); (focus assumption))
        | ((with_reducible refine awpGd_fF ?_ ?_); (focus assumption))
        | ((with_reducible refine awpGd_fT ?_ ?_); (focus assumption))
        | ((with_reducible apply awpGd_nst); (focus (intro h; replace h := nrm h; simp -dsimp -implicitDefEqProofs (maxSteps := 1000000) (disch := first | exact dis | fail) only [h, rh, go_sem]; rfl)))
        | ((with_reducible apply awpGd_nsf); (focus (intro h; replace h := nrm h; simp -dsimp -implicitDefEqProofs (maxSteps := 1000000) (disch := first | exact dis | fail) only [h, rh, go_sem]; rfl)))
        | ((with_reducible apply gO_t); (focus (intro h; replace h := nrm h; simp -dsimp -implicitDefEqProofs (maxSteps := 1000000) (disch := first | exact dis | fail) only [h, rh, go_sem]; rfl)))
        | ((with_reducible apply gO_f); (focus (intro h; replace h := nrm h; simp -dsimp -implicitDefEqProofs (maxSteps := 1000000) (disch := first | exact dis | fail) only [h, rh, go_sem]; rfl)))
        | ((with_reducible refine chkA_f ?_ ?_ ?_); (focus simp); (focus (intro h; replace h := nrm h; simp -dsimp -implicitDefEqProofs (maxSteps := 1000000) (disch := first | exact dis | fail) only [h, rh, go_sem])))
        | ((with_reducible refine chkA_t ?_ ?_ ?_); (focus simp); (focus (intro h; replace h := nrm h; simp -dsimp -implicitDefEqProofs (maxSteps := 1000000) (disch := first | exact dis | fail) only [h, rh, go_sem])))
        | ((with_reducible refine awpIf_decT ?_ ?_); (focus omega))
        | ((with_reducible refine awpIf_decF ?_ ?_); (focus omega))
        | ((with_reducible first | refine awpIf_dec ?_ ?_ | refine awpIf_ndec ?_ ?_ | refine awpGd_tdec ?_ ?_ | refine awpGd_fdec ?_ ?_ | refine awpGd_tndec ?_ ?_ | refine awpGd_fndec ?_ ?_) <;> intro h <;> (try simp -dsimp only [h]))
        | ((with_reducible first | refine awpIf_cases ?_ ?_ | refine awpGd_cases ?_ ?_ | refine gO_cases ?_ ?_) <;> intro h <;> replace h := nrm h <;> (try simp -dsimp only [h, Bool.not_true, Bool.not_false]))
        | ((with_reducible apply And.intro); (focus omega))) <;> (try simp -dsimp -implicitDefEqProofs (maxSteps := 1000000) (disch := first | exact dis | fail) only [rh, go_sem]))
      exact hQ v e hv
    · skip
      simp -dsimp -implicitDefEqProofs (maxSteps := 1000000) (disch := first | exact dis | fail) only [ic_ref13_Boxes_End_b1, rh, go_sem]
      repeat' ((first
        | ((with_reducible refine awpIf_asT ?_ ?_); (focus assumption))
        | ((with_reducible refine awpIf_asF ?_ ?_); (focus assumption))
        | ((with_reducible refine awpGd_tT ?_ ?_); (focus assumption))
        | ((with_reducible refine awpGd_tF ?_ ?_); (focus assumption))
        | ((with_reducible refine awpGd_fF ?_ ?_); (focus assumption))
        | ((with_reducible refine awpGd_fT ?_ ?_); (focus assumption))
        | ((with_reducible apply awpGd_nst); (focus (intro h; replace h := nrm h; simp -dsimp -implicitDefEqProofs (maxSteps := 1000000) (disch := first | exact dis | fail) only [h, rh, go_sem]; rfl)))
        | ((with_reducible apply awpGd_nsf); (focus (intro h; replace h := nrm h; simp -dsimp -implicitDefEqProofs (maxSteps := 1000000) (disch := first | exact dis | fail) only [h, rh, go_sem]; rfl)))
        | ((with_reducible apply gO_t); (focus (intro h; replace h := nrm h; simp -dsimp -implicitDefEqProofs (maxSteps := 1000000) (disch := first | exact dis | fail) only [h, rh, go_sem]; rfl)))
        | ((with_reducible apply gO_f); (focus (intro h; replace h := nrm h; simp -dsimp -implicitDefEqProofs (maxSteps := 1000000) (disch := first | exact dis | fail) only [h, rh, go_sem]; rfl)))
        | ((with_reducible refine chkA_f ?_ ?_ ?_); (focus simp); (focus (intro h; replace h := nrm h; simp -dsimp -implicitDefEqProofs (maxSteps := 1000000) (disch := first | exact dis | fail) only [h, rh, go_sem])))
        | ((with_reducible refine chkA_t ?_ ?_ ?_); (focus simp); (focus (intro h; replace h := nrm h; simp -dsimp -implicitDefEqProofs (maxSteps := 1000000) (disch := first | exact dis | fail) only [h, rh, go_sem])))
        | ((with_reducible refine awpIf_decT ?_ ?_); (focus omega))
        | ((with_reducible refine awpIf_decF ?_ ?_); (focus omega))
        | ((with_reducible first | refine awpIf_dec ?_ ?_ | refine awpIf_ndec ?_ ?_ | refine awpGd_tdec ?_ ?_ | refine awpGd_fdec ?_ ?_ | refine awpGd_tndec ?_ ?_ | refine awpGd_fndec ?_ ?_) <;> intro h <;> (try simp -dsimp only [h]))
        | ((with_reducible first | refine awpIf_cases ?_ ?_ | refine awpGd_cases ?_ ?_ | refine gO_cases ?_ ?_) <;> intro h <;> replace h := nrm h <;> (try simp -dsimp only [h, Bool.not_true, Bool.not_false]))
        | ((with_reducible apply And.intro); (focus omega))) <;> (try simp -dsimp -implicitDefEqProofs (maxSteps := 1000000) (disch := first | exact dis | fail) only [rh, go_sem]))
      exact hQ v e hv
theorem RPos {cs : List Cl} {i : Int} (h : endOk cs i = true) : ∃ k c, i = (k : Nat) ∧ cs[k]? = some c ∧ c.st = 1 := by
  unfold endOk at h
  simp only [Bool.and_eq_true, decide_eq_true_eq] at h
  obtain ⟨k, rfl⟩ : ∃ k : Nat, i = k := ⟨i.toNat, by omega⟩
  rw [Int.toNat_natCast] at h
  cases hx : cs[k]? with
  | none => rw [hx] at h; simp at h
  | some c => rw [hx] at h; exact ⟨k, c, rfl, hx, by simpa using h.2⟩
theorem REnd_b (cs : List Cl) (ov : AV) (oe : Option AO) (ev : AV) (ee : Option AO) (os es : List Int) (box st : Int) (ho : ER 3 ov oe os) (he : ER 4 ev ee es) (hb : endOk cs box = false) :
    ACall Try.prog f_ref13_Boxes_End [.ptr 0 0, .int .i64 box, .int .i64 st] (rh cs ov oe ev ee) fun r A => r = .int .i64 2 ∧ A = rh cs ov oe ev ee := by
  refine acallW fol ok_ref13_Boxes_End ?_
  by_cases h1 : box < 0
  · skip
    simp -dsimp -implicitDefEqProofs (maxSteps := 1000000) (disch := first | exact dis | fail) only [ic_ref13_Boxes_End, rh, h1, go_sem]
    repeat' ((first
      | ((with_reducible refine awpIf_asT ?_ ?_); (focus assumption))
      | ((with_reducible refine awpIf_asF ?_ ?_); (focus assumption))
      | ((with_reducible refine awpGd_tT ?_ ?_); (focus assumption))
      | ((with_reducible refine awpGd_tF ?_ ?_); (focus assumption))
      | ((with_reducible refine awpGd_fF ?_ ?_); (focus assumption))
      | ((with_reducible refine awpGd_fT ?_ ?_); (focus assumption))
      | ((with_reducible apply awpGd_nst); (focus (intro h; replace h := nrm h; simp -dsimp -implicitDefEqProofs (maxSteps := 1000000) (disch := first | exact dis | fail) only [h, rh, h1, go_sem]; rfl)))
      | ((with_reducible apply awpGd_nsf); (focus (intro h; replace h := nrm h; simp -dsimp -implicitDefEqProofs (maxSteps := 1000000) (disch := first | exact dis | fail) only [h, rh, h1, go_sem]; rfl)))
      | ((with_reducible apply gO_t); (focus (intro h; replace h := nrm h; simp -dsimp -implicitDefEqProofs (maxSteps := 1000000) (disch := first | exact dis | fail) only [h, rh, h1, go_sem]; rfl)))
      | ((with_reducible apply gO_f); (focus (intro h; replace h := nrm h; simp -dsimp -implicitDefEqProofs (maxSteps := 1000000) (disch := first | exact dis | fail) only [h, rh, h1, go_sem]; rfl)))
      | ((with_reducible refine chkA_f ?_ ?_ ?_); (focus simp); (focus (intro h; replace h := nrm h; simp -dsimp -implicitDefEqProofs (maxSteps := 1000000) (disch := first | exact dis | fail) only [h, rh, h1, go_sem])))
      | ((with_reducible refine chkA_t ?_ ?_ ?_); (focus simp); (focus (intro h; replace h := nrm h; simp -dsimp -implicitDefEqProofs (maxSteps := 1000000) (disch := first | exact dis | fail) only [h, rh, h1, go_sem])))
      | ((with_reducible refine awpIf_decT ?_ ?_); (focus omega))
      | ((with_reducible refine awpIf_decF ?_ ?_); (focus omega))
      | ((with_reducible first | refine awpIf_dec ?_ ?_ | refine awpIf_ndec ?_ ?_ | refine awpGd_tdec ?_ ?_ | refine awpGd_fdec ?_ ?_ | refine awpGd_tndec ?_ ?_ | refine awpGd_fndec ?_ ?_) <;> intro h <;> (try simp -dsimp only [h]))
      | ((with_reducible first | refine awpIf_cases ?_ ?_ | refine awpGd_cases ?_ ?_ | refine gO_cases ?_ ?_) <;> intro h <;> replace h := nrm h <;> (try simp -dsimp only [h, Bool.not_true, Bool.not_false]))
      | ((with_reducible apply And.intro); (focus omega))) <;> (try simp -dsimp -implicitDefEqProofs (maxSteps := 1000000) (disch := first | exact dis | fail) only [rh, h1, go_sem]))
    exact fin_eq (B := rh cs ov oe ev ee) (G := []) rfl (rh_wf ho he) rfl
  · by_cases h2 : (cs.length : Int) ≤ box
    · skip
      simp -dsimp -implicitDefEqProofs (maxSteps := 1000000) (disch := first | exact dis | fail) only [ic_ref13_Boxes_End, rh, h1, h2, go_sem]
      repeat' ((first
        | ((with_reducible refine awpIf_asT ?_ ?_); (focus assumption))
        | ((with_reducible refine awpIf_asF ?_ ?_); (focus assumption))
        | ((with_reducible refine awpGd_tT ?_ ?_); (focus assumption))
        | ((with_reducible refine awpGd_tF ?_ ?_); (focus assumption))
        | ((with_reducible refine awpGd_fF ?_ ?_); (focus assumption))
        | ((with_reducible refine awpGd_fT ?_ ?_); (focus assumption))
        | ((with_reducible apply awpGd_nst); (focus (intro h; replace h := nrm h; simp -dsimp -implicitDefEqProofs (maxSteps := 1000000) (disch := first | exact dis | fail) only [h, rh, h1, h2, go_sem]; rfl)))
        | ((with_reducible apply awpGd_nsf); (focus (intro h; replace h := nrm h; simp -dsimp -implicitDefEqProofs (maxSteps := 1000000) (disch := first | exact dis | fail) only [h, rh, h1, h2, go_sem]; rfl)))
        | ((with_reducible apply gO_t); (focus (intro h; replace h := nrm h; simp -dsimp -implicitDefEqProofs (maxSteps := 1000000) (disch := first | exact dis | fail) only [h, rh, h1, h2, go_sem]; rfl)))
        | ((with_reducible apply gO_f); (focus (intro h; replace h := nrm h; simp -dsimp -implicitDefEqProofs (maxSteps := 1000000) (disch := first | exact dis | fail) only [h, rh, h1, h2, go_sem]; rfl)))
        | ((with_reducible refine chkA_f ?_ ?_ ?_); (focus simp); (focus (intro h; replace h := nrm h; simp -dsimp -implicitDefEqProofs (maxSteps := 1000000) (disch := first | exact dis | fail) only [h, rh, h1, h2, go_sem])))
        | ((with_reducible refine chkA_t ?_ ?_ ?_); (focus simp); (focus (intro h; replace h := nrm h; simp -dsimp -implicitDefEqProofs (maxSteps := 1000000) (disch := first | exact dis | fail) only [h, rh, h1, h2, go_sem])))
        | ((with_reducible refine awpIf_decT ?_ ?_); (focus omega))
        | ((with_reducible refine awpIf_decF ?_ ?_); (focus omega))
        | ((with_reducible first | refine awpIf_dec ?_ ?_ | refine awpIf_ndec ?_ ?_ | refine awpGd_tdec ?_ ?_ | refine awpGd_fdec ?_ ?_ | refine awpGd_tndec ?_ ?_ | refine awpGd_fndec ?_ ?_) <;> intro h <;> (try simp -dsimp only [h]))
        | ((with_reducible first | refine awpIf_cases ?_ ?_ | refine awpGd_cases ?_ ?_ | refine gO_cases ?_ ?_) <;> intro h <;> replace h := nrm h <;> (try simp -dsimp only [h, Bool.not_true, Bool.not_false]))
        | ((with_reducible apply And.intro); (focus omega))) <;> (try simp -dsimp -implicitDefEqProofs (maxSteps := 1000000) (disch := first | exact dis | fail) only [rh, h1, h2, go_sem]))
      exact fin_eq (B := rh cs ov oe ev ee) (G := []) rfl (rh_wf ho he) rfl
    · obtain ⟨k, rfl⟩ : ∃ k : Nat, box = k := ⟨box.toNat, by omega⟩
      have hx : cs[k]? = some cs[k] := List.getElem?_eq_getElem (by omega)
      generalize cs[k] = c at hx
      have hst : ¬ c.st = 1 := by
        intro h
        have : endOk cs k = true := by simp [endOk, hx, h]
        rw [this] at hb; cases hb
      simp -dsimp -implicitDefEqProofs (maxSteps := 1000000) (disch := first | exact dis | fail) only [ic_ref13_Boxes_End, rh, h1, h2, rows_get, hx, si_eq, Int.toNat_natCast, hst, go_sem]
      repeat' ((first
        | ((with_reducible refine awpIf_asT ?_ ?_); (focus assumption))
        | ((with_reducible refine awpIf_asF ?_ ?_); (focus assumption))
        | ((with_reducible refine awpGd_tT ?_ ?_); (focus assumption))
        | ((with_reducible refine awpGd_tF ?_ ?_); (focus assumption))
        | ((with_reducible refine awpGd_fF ?_ ?_); (focus assumption))
        | ((with_reducible refine awpGd_fT ?_ ?_); (focus assumption))
        | ((with_reducible apply awpGd_nst); (focus (intro h; replace h := nrm h; simp -dsimp -implicitDefEqProofs (maxSteps := 1000000) (disch := first | exact dis | fail) only [h, rh, h1, h2, rows_get, hx, si_eq, Int.toNat_natCast, hst, go_sem]; rfl)))
        | ((with_reducible apply awpGd_nsf); (focus (intro h; replace h := nrm h; simp -dsimp -implicitDefEqProofs (maxSteps := 1000000) (disch := first | exact dis | fail) only [h, rh, h1, h2, rows_get, hx, si_eq, Int.toNat_natCast, hst, go_sem]; rfl)))
        | ((with_reducible apply gO_t); (focus (intro h; replace h := nrm h; simp -dsimp -implicitDefEqProofs (maxSteps := 1000000) (disch := first | exact dis | fail) only [h, rh, h1, h2, rows_get, hx, si_eq, Int.toNat_natCast, hst, go_sem]; rfl)))
        | ((with_reducible apply gO_f); (focus (intro h; replace h := nrm h; simp -dsimp -implicitDefEqProofs (maxSteps := 1000000) (disch := first | exact dis | fail) only [h, rh, h1, h2, rows_get, hx, si_eq, Int.toNat_natCast, hst, go_sem]; rfl)))
        | ((with_reducible refine chkA_f ?_ ?_ ?_); (focus simp); (focus (intro h; replace h := nrm h; simp -dsimp -implicitDefEqProofs (maxSteps := 1000000) (disch := first | exact dis | fail) only [h, rh, h1, h2, rows_get, hx, si_eq, Int.toNat_natCast, hst, go_sem])))
        | ((with_reducible refine chkA_t ?_ ?_ ?_); (focus simp); (focus (intro h; replace h := nrm h; simp -dsimp -implicitDefEqProofs (maxSteps := 1000000) (disch := first | exact dis | fail) only [h, rh, h1, h2, rows_get, hx, si_eq, Int.toNat_natCast, hst, go_sem])))
        | ((with_reducible refine awpIf_decT ?_ ?_); (focus omega))
        | ((with_reducible refine awpIf_decF ?_ ?_); (focus omega))
        | ((with_reducible first | refine awpIf_dec ?_ ?_ | refine awpIf_ndec ?_ ?_ | refine awpGd_tdec ?_ ?_ | refine awpGd_fdec ?_ ?_ | refine awpGd_tndec ?_ ?_ | refine awpGd_fndec ?_ ?_) <;> intro h <;> (try simp -dsimp only [h]))
        | ((with_reducible first | refine awpIf_cases ?_ ?_ | refine awpGd_cases ?_ ?_ | refine gO_cases ?_ ?_) <;> intro h <;> replace h := nrm h <;> (try simp -dsimp only [h, Bool.not_true, Bool.not_false]))
        | ((with_reducible apply And.intro); (focus omega))) <;> (try simp -dsimp -implicitDefEqProofs (maxSteps := 1000000) (disch := first | exact dis | fail) only [rh, h1, h2, rows_get, hx, si_eq, Int.toNat_natCast, hst, go_sem]))
      exact fin_eq (B := rh cs ov oe ev ee) (G := []) rfl (rh_wf ho he) rfl
theorem REnd_c (cs : List Cl) (ov : AV) (oe : Option AO) (ev : AV) (ee : Option AO) (os es : List Int) (box st : Int) (hn : 1 ≤ cs.length ∧ cs.length ≤ 1000) (hos : os.length ≤ 1000000) (hes : es.length ≤ 1000000) (ho : ER 3 ov oe os) (he : ER 4 ev ee es) (hb : endOk cs box = true) :
    ACall Try.prog f_ref13_Boxes_End [.ptr 0 0, .int .i64 box, .int .i64 st] (rh cs ov oe ev ee) fun r A => r = .int .i64 0 ∧
      ∃ d1 d2 v e, (∀ g, Option.map (AO.ren g) d1 = d1) ∧ (∀ g, Option.map (AO.ren g) d2 = d2) ∧ ER 5 v e (os.filter (fun x => !decide (x = box))) ∧
        A = [some (.cells [.sl 1 1 0 cs.length true, .sl 2 7 0 cs.length true, v, .sl 6 1 0 (es.length + 1) false]), some (.arr (rows si (endC cs box st))), some (.arr (rows sp (endC cs box st))), d1, d2, e, some (.arr (rows i1 (es ++ [box])))] := by
  refine acallW fol ok_ref13_Boxes_End ?_
  obtain ⟨k, c, rfl, hx, hst⟩ := RPos hb
  have hk : k < cs.length := (List.getElem?_eq_some_iff.1 hx).1
  have h1 : ¬ ((k : Int) < 0) := by omega
  have h2 : ¬ ((cs.length : Int) ≤ k) := by omega
  have hec : endC cs k st = cs.set k ⟨st, c.pk, c.since⟩ := by simp [endC, hx]
  have hsi : (rows si cs).set k [.int .i64 st] = rows si (endC cs k st) := by rw [hec]; exact rows_set (f := si) (x := ⟨st, c.pk, c.since⟩)
  have hl : cs.length = (endC cs k st).length := endC_len.symm
  simp -dsimp -implicitDefEqProofs (maxSteps := 1000000) (disch := first | exact dis | fail) only [ic_ref13_Boxes_End, rh, h1, h2, rows_get, hx, si_eq, Int.toNat_natCast, hst, hsi, go_sem]
  repeat' ((first
    | ((with_reducible refine awpIf_asT ?_ ?_); (focus assumption))
    | ((with_reducible refine awpIf_asF ?_ ?_); (focus assumption))
    | ((with_reducible refine awpGd_tT ?_ ?_); (focus assumption))
    | ((with_reducible refine awpGd_tF ?_ ?_); (focus assumption))
    | ((with_reducible refine awpGd_fF ?_ ?_); (focus assumption))
    | ((with_reducible refine awpGd_fT ?_ ?_); (focus assumption))
    | ((with_reducible apply awpGd_nst); (focus (intro h; replace h := nrm h; simp -dsimp -implicitDefEqProofs (maxSteps := 1000000) (disch := first | exact dis | fail) only [h, rh, h1, h2, rows_get, hx, si_eq, Int.toNat_natCast, hst, hsi, go_sem]; rfl)))
    | ((with_reducible apply awpGd_nsf); (focus (intro h; replace h := nrm h; simp -dsimp -implicitDefEqProofs (maxSteps := 1000000) (disch := first | exact dis | fail) only [h, rh, h1, h2, rows_get, hx, si_eq, Int.toNat_natCast, hst, hsi, go_sem]; rfl)))
    | ((with_reducible apply gO_t); (focus (intro h; replace h := nrm h; simp -dsimp -implicitDefEqProofs (maxSteps := 1000000) (disch := first | exact dis | fail) only [h, rh, h1, h2, rows_get, hx, si_eq, Int.toNat_natCast, hst, hsi, go_sem]; rfl)))
    | ((with_reducible apply gO_f); (focus (intro h; replace h := nrm h; simp -dsimp -implicitDefEqProofs (maxSteps := 1000000) (disch := first | exact dis | fail) only [h, rh, h1, h2, rows_get, hx, si_eq, Int.toNat_natCast, hst, hsi, go_sem]; rfl)))
    | ((with_reducible refine chkA_f ?_ ?_ ?_); (focus simp); (focus (intro h; replace h := nrm h; simp -dsimp -implicitDefEqProofs (maxSteps := 1000000) (disch := first | exact dis | fail) only [h, rh, h1, h2, rows_get, hx, si_eq, Int.toNat_natCast, hst, hsi, go_sem])))
    | ((with_reducible refine chkA_t ?_ ?_ ?_); (focus simp); (focus (intro h; replace h := nrm h; simp -dsimp -implicitDefEqProofs (maxSteps := 1000000) (disch := first | exact dis | fail) only [h, rh, h1, h2, rows_get, hx, si_eq, Int.toNat_natCast, hst, hsi, go_sem])))
    | ((with_reducible refine awpIf_decT ?_ ?_); (focus omega))
    | ((with_reducible refine awpIf_decF ?_ ?_); (focus omega))
    | ((with_reducible first | refine awpIf_dec ?_ ?_ | refine awpIf_ndec ?_ ?_ | refine awpGd_tdec ?_ ?_ | refine awpGd_fdec ?_ ?_ | refine awpGd_tndec ?_ ?_ | refine awpGd_fndec ?_ ?_) <;> intro h <;> (try simp -dsimp only [h]))
    | ((with_reducible first | refine awpIf_cases ?_ ?_ | refine awpGd_cases ?_ ?_ | refine gO_cases ?_ ?_) <;> intro h <;> replace h := nrm h <;> (try simp -dsimp only [h, Bool.not_true, Bool.not_false]))
    | ((with_reducible apply And.intro); (focus omega))) <;> (try simp -dsimp -implicitDefEqProofs (maxSteps := 1000000) (disch := first | exact dis | fail) only [rh, h1, h2, rows_get, hx, si_eq, Int.toNat_natCast, hst, hsi, go_sem]))
  rw [hl, ← endC_sp (cs := cs) (k := k) (st := st)]
  refine REnd_l (endC cs k st) ov oe ev ee os es k (by rw [endC_len]; exact hn) hos ho he _ ?_
  intro v e hv
  have hoe : ∀ g, oe.map (AO.ren g) = oe := by
    rcases ho with ⟨_, rfl, _⟩ | ⟨_, _, rfl⟩
    · exact fun _ => rfl
    · exact fun _ => congrArg some i1_ren
  rcases hv with ⟨rfl, rfl, hfl⟩ | ⟨pf, rfl, rfl⟩ <;> rcases he with ⟨rfl, rfl, rfl⟩ | ⟨pre, rfl, rfl⟩
  · skip
    simp -dsimp -implicitDefEqProofs (maxSteps := 1000000) (disch := first | exact dis | fail) only [rh, go_sem]
    repeat' ((first
      | ((with_reducible refine awpIf_asT ?_ ?_); (focus assumption))
      | ((with_reducible refine awpIf_asF ?_ ?_); (focus assumption))
      | ((with_reducible refine awpGd_tT ?_ ?_); (focus assumption))
      | ((with_reducible refine awpGd_tF ?_ ?_); (focus assumption))
      | ((with_reducible refine awpGd_fF ?_ ?_); (focus assumption))
      | ((with_reducible refine awpGd_fT ?_ ?_); (focus assumption))
      | ((with_reducible apply awpGd_nst); (focus (intro h; replace h := nrm h; simp -dsimp -implicitDefEqProofs (maxSteps := 1000000) (disch := first | exact dis | fail) only [h, rh, go_sem]; rfl)))
      | ((with_reducible apply awpGd_nsf); (focus (intro h; replace h := nrm h; simp -dsimp -implicitDefEqProofs (maxSteps := 1000000) (disch := first | exact dis | fail) only [h, rh, go_sem]; rfl)))
      | ((with_reducible apply gO_t); (focus (intro h; replace h := nrm h; simp -dsimp -implicitDefEqProofs (maxSteps := 1000000) (disch := first | exact dis | fail) only [h, rh, go_sem]; rfl)))
      | ((with_reducible apply gO_f); (focus (intro h; replace h := nrm h; simp -dsimp -implicitDefEqProofs (maxSteps := 1000000) (disch := first | exact dis | fail) only [h, rh, go_sem]; rfl)))
      | ((with_reducible refine chkA_f ?_ ?_ ?_); (focus simp); (focus (intro h; replace h := nrm h; simp -dsimp -implicitDefEqProofs (maxSteps := 1000000) (disch := first | exact dis | fail) only [h, rh, go_sem])))
      | ((with_reducible refine chkA_t ?_ ?_ ?_); (focus simp); (focus (intro h; replace h := nrm h; simp -dsimp -implicitDefEqProofs (maxSteps := 1000000) (disch := first | exact dis | fail) only [h, rh, go_sem])))
      | ((with_reducible refine awpIf_decT ?_ ?_); (focus omega))
      | ((with_reducible refine awpIf_decF ?_ ?_); (focus omega))
      | ((with_reducible first | refine awpIf_dec ?_ ?_ | refine awpIf_ndec ?_ ?_ | refine awpGd_tdec ?_ ?_ | refine awpGd_fdec ?_ ?_ | refine awpGd_tndec ?_ ?_ | refine awpGd_fndec ?_ ?_) <;> intro h <;> (try simp -dsimp only [h]))
      | ((with_reducible first | refine awpIf_cases ?_ ?_ | refine awpGd_cases ?_ ?_ | refine gO_cases ?_ ?_) <;> intro h <;> replace h := nrm h <;> (try simp -dsimp only [h, Bool.not_true, Bool.not_false]))
      | ((with_reducible apply And.intro); (focus omega))) <;> (try simp -dsimp -implicitDefEqProofs (maxSteps := 1000000) (disch := first | exact dis | fail) only [rh, go_sem]))
    exact ⟨some [5, 7], rfl, rfl, oe, none, .nils, none, hoe, fun _ => rfl, .inl ⟨rfl, rfl, hfl⟩, by simp -dsimp -implicitDefEqProofs (maxSteps := 1000000) (disch := first | exact dis | fail) only [foldA_eq, rh, si_ren, sp_ren, i1_one, i1_ren, hoe, go_sem]⟩
  · skip
    simp -dsimp -implicitDefEqProofs (maxSteps := 1000000) (disch := first | exact dis | fail) only [rh, appF_some, i1_shown, i1_len, i1_snoc, go_sem]
    repeat' ((first
      | ((with_reducible refine awpIf_asT ?_ ?_); (focus assumption))
      | ((with_reducible refine awpIf_asF ?_ ?_); (focus assumption))
      | ((with_reducible refine awpGd_tT ?_ ?_); (focus assumption))
      | ((with_reducible refine awpGd_tF ?_ ?_); (focus assumption))
      | ((with_reducible refine awpGd_fF ?_ ?_); (focus assumption))
      | ((with_reducible refine awpGd_fT ?_ ?_); (focus assumption))
      | ((with_reducible apply awpGd_nst); (focus (intro h; replace h := nrm h; simp -dsimp -implicitDefEqProofs (maxSteps := 1000000) (disch := first | exact dis | fail) only [h, rh, appF_some, i1_shown, i1_len, i1_snoc, go_sem]; rfl)))
      | ((with_reducible apply awpGd_nsf); (focus (intro h; replace h := nrm h; simp -dsimp -implicitDefEqProofs (maxSteps := 1000000) (disch := first | exact dis | fail) only [h, rh, appF_some, i1_shown, i1_len, i1_snoc, go_sem]; rfl)))
      | ((with_reducible apply gO_t); (focus (intro h; replace h := nrm h; simp -dsimp -implicitDefEqProofs (maxSteps := 1000000) (disch := first | exact dis | fail) only [h, rh, appF_some, i1_shown, i1_len, i1_snoc, go_sem]; rfl)))
      | ((with_reducible apply gO_f); (focus (intro h; replace h := nrm h; simp -dsimp -implicitDefEqProofs (maxSteps := 1000000) (disch := first | exact dis | fail) only [h, rh, appF_some, i1_shown, i1_len, i1_snoc, go_sem]; rfl)))
      | ((with_reducible refine chkA_f ?_ ?_ ?_); (focus simp); (focus (intro h; replace h := nrm h; simp -dsimp -implicitDefEqProofs (maxSteps := 1000000) (disch := first | exact dis | fail) only [h, rh, appF_some, i1_shown, i1_len, i1_snoc, go_sem])))
      | ((with_reducible refine chkA_t ?_ ?_ ?_); (focus simp); (focus (intro h; replace h := nrm h; simp -dsimp -implicitDefEqProofs (maxSteps := 1000000) (disch := first | exact dis | fail) only [h, rh, appF_some, i1_shown, i1_len, i1_snoc, go_sem])))
      | ((with_reducible refine awpIf_decT ?_ ?_); (focus omega))
      | ((with_reducible refine awpIf_decF ?_ ?_); (focus omega))
      | ((with_reducible first | refine awpIf_dec ?_ ?_ | refine awpIf_ndec ?_ ?_ | refine awpGd_tdec ?_ ?_ | refine awpGd_fdec ?_ ?_ | refine awpGd_tndec ?_ ?_ | refine awpGd_fndec ?_ ?_) <;> intro h <;> (try simp -dsimp only [h]))
      | ((with_reducible first | refine awpIf_cases ?_ ?_ | refine awpGd_cases ?_ ?_ | refine gO_cases ?_ ?_) <;> intro h <;> replace h := nrm h <;> (try simp -dsimp only [h, Bool.not_true, Bool.not_false]))
      | ((with_reducible apply And.intro); (focus omega))) <;> (try simp -dsimp -implicitDefEqProofs (maxSteps := 1000000) (disch := first | exact dis | fail) only [rh, appF_some, i1_shown, i1_len, i1_snoc, go_sem]))
    exact ⟨⟨by simp, by omega⟩, some [5, 7], rfl, rfl, oe, some .dead, .nils, none, hoe, fun _ => rfl, .inl ⟨rfl, rfl, hfl⟩, by simp -dsimp -implicitDefEqProofs (maxSteps := 1000000) (disch := first | exact dis | fail) only [foldA_eq, rh, si_ren, sp_ren, i1_one, i1_ren, hoe, go_sem]⟩
  · skip
    simp -dsimp -implicitDefEqProofs (maxSteps := 1000000) (disch := first | exact dis | fail) only [rh, go_sem]
    repeat' ((first
      | ((with_reducible refine awpIf_asT ?_ ?_); (focus assumption))
      | ((with_reducible refine awpIf_asF ?_ ?_); (focus assumption))
      | ((with_reducible refine awpGd_tT ?_ ?_); (focus assumption))
      | ((with_reducible refine awpGd_tF ?_ ?_); (focus assumption))
      | ((with_reducible refine awpGd_fF ?_ ?_); (focus assumption))
      | ((with_reducible refine awpGd_fT ?_ ?_); (focus assumption))
      | ((with_reducible apply awpGd_nst); (focus (intro h; replace h := nrm h; simp -dsimp -implicitDefEqProofs (maxSteps := 1000000) (disch := first | exact dis | fail) only [h, rh, go_sem]; rfl)))
      | ((with_reducible apply awpGd_nsf); (focus (intro h; replace h := nrm h; simp -dsimp -implicitDefEqProofs (maxSteps := 1000000) (disch := first | exact dis | fail) only [h, rh, go_sem]; rfl)))
      | ((with_reducible apply gO_t); (focus (intro h; replace h := nrm h; simp -dsimp -implicitDefEqProofs (maxSteps := 1000000) (disch := first | exact dis | fail) only [h, rh, go_sem]; rfl)))
      | ((with_reducible apply gO_f); (focus (intro h; replace h := nrm h; simp -dsimp -implicitDefEqProofs (maxSteps := 1000000) (disch := first | exact dis | fail) only [h, rh, go_sem]; rfl)))
      | ((with_reducible refine chkA_f ?_ ?_ ?_); (focus simp); (focus (intro h; replace h := nrm h; simp -dsimp -implicitDefEqProofs (maxSteps := 1000000) (disch := first | exact dis | fail) only [h, rh, go_sem])))
      | ((with_reducible refine chkA_t ?_ ?_ ?_); (focus simp); (focus (intro h; replace h := nrm h; simp -dsimp -implicitDefEqProofs (maxSteps := 1000000) (disch := first | exact dis | fail) only [h, rh, go_sem])))
      | ((with_reducible refine awpIf_decT ?_ ?_); (focus omega))
      | ((with_reducible refine awpIf_decF ?_ ?_); (focus omega))
      | ((with_reducible first | refine awpIf_dec ?_ ?_ | refine awpIf_ndec ?_ ?_ | refine awpGd_tdec ?_ ?_ | refine awpGd_fdec ?_ ?_ | refine awpGd_tndec ?_ ?_ | refine awpGd_fndec ?_ ?_) <;> intro h <;> (try simp -dsimp only [h]))
      | ((with_reducible first | refine awpIf_cases ?_ ?_ | refine awpGd_cases ?_ ?_ | refine gO_cases ?_ ?_) <;> intro h <;> replace h := nrm h <;> (try simp -dsimp only [h, Bool.not_true, Bool.not_false]))
      | ((with_reducible apply And.intro); (focus omega))) <;> (try simp -dsimp -implicitDefEqProofs (maxSteps := 1000000) (disch := first | exact dis | fail) only [rh, go_sem]))
    exact ⟨some [5, 7], rfl, rfl, oe, none, _, _, hoe, fun _ => rfl, .inr ⟨pf, rfl, rfl⟩, by simp -dsimp -implicitDefEqProofs (maxSteps := 1000000) (disch := first | exact dis | fail) only [foldA_eq, rh, si_ren, sp_ren, i1_one, i1_ren, hoe, go_sem]⟩
  · skip
    simp -dsimp -implicitDefEqProofs (maxSteps := 1000000) (disch := first | exact dis | fail) only [rh, appF_some, i1_shown, i1_len, i1_snoc, go_sem]
    repeat' ((first
      | ((with_reducible refine awpIf_asT ?_ ?_); (focus assumption))
      | ((with_reducible refine awpIf_asF ?_ ?_); (focus assumption))
      | ((with_reducible refine awpGd_tT ?_ ?_); (focus assumption))
      | ((with_reducible refine awpGd_tF ?_ ?_); (focus assumption))
      | ((with_reducible refine awpGd_fF ?_ ?_); (focus assumption))
      | ((with_reducible refine awpGd_fT ?_ ?_); (focus assumption))
      | ((with_reducible apply awpGd_nst); (focus (intro h; replace h := nrm h; simp -dsimp -implicitDefEqProofs (maxSteps := 1000000) (disch := first | exact dis | fail) only [h, rh, appF_some, i1_shown, i1_len, i1_snoc, go_sem]; rfl)))
      | ((with_reducible apply awpGd_nsf); (focus (intro h; replace h := nrm h; simp -dsimp -implicitDefEqProofs (maxSteps := 1000000) (disch := first | exact dis | fail) only [h, rh, appF_some, i1_shown, i1_len, i1_snoc, go_sem]; rfl)))
      | ((with_reducible apply gO_t); (focus (intro h; replace h := nrm h; simp -dsimp -implicitDefEqProofs (maxSteps := 1000000) (disch := first | exact dis | fail) only [h, rh, appF_some, i1_shown, i1_len, i1_snoc, go_sem]; rfl)))
      | ((with_reducible apply gO_f); (focus (intro h; replace h := nrm h; simp -dsimp -implicitDefEqProofs (maxSteps := 1000000) (disch := first | exact dis | fail) only [h, rh, appF_some, i1_shown, i1_len, i1_snoc, go_sem]; rfl)))
      | ((with_reducible refine chkA_f ?_ ?_ ?_); (focus simp); (focus (intro h; replace h := nrm h; simp -dsimp -implicitDefEqProofs (maxSteps := 1000000) (disch := first | exact dis | fail) only [h, rh, appF_some, i1_shown, i1_len, i1_snoc, go_sem])))
      | ((with_reducible refine chkA_t ?_ ?_ ?_); (focus simp); (focus (intro h; replace h := nrm h; simp -dsimp -implicitDefEqProofs (maxSteps := 1000000) (disch := first | exact dis | fail) only [h, rh, appF_some, i1_shown, i1_len, i1_snoc, go_sem])))
      | ((with_reducible refine awpIf_decT ?_ ?_); (focus omega))
      | ((with_reducible refine awpIf_decF ?_ ?_); (focus omega))
      | ((with_reducible first | refine awpIf_dec ?_ ?_ | refine awpIf_ndec ?_ ?_ | refine awpGd_tdec ?_ ?_ | refine awpGd_fdec ?_ ?_ | refine awpGd_tndec ?_ ?_ | refine awpGd_fndec ?_ ?_) <;> intro h <;> (try simp -dsimp only [h]))
      | ((with_reducible first | refine awpIf_cases ?_ ?_ | refine awpGd_cases ?_ ?_ | refine gO_cases ?_ ?_) <;> intro h <;> replace h := nrm h <;> (try simp -dsimp only [h, Bool.not_true, Bool.not_false]))
      | ((with_reducible apply And.intro); (focus omega))) <;> (try simp -dsimp -implicitDefEqProofs (maxSteps := 1000000) (disch := first | exact dis | fail) only [rh, appF_some, i1_shown, i1_len, i1_snoc, go_sem]))
    exact ⟨⟨by simp, by omega⟩, some [5, 7], rfl, rfl, oe, some .dead, _, _, hoe, fun _ => rfl, .inr ⟨pf, rfl, rfl⟩, by simp -dsimp -implicitDefEqProofs (maxSteps := 1000000) (disch := first | exact dis | fail) only [foldA_eq, rh, si_ren, sp_ren, i1_one, i1_ren, hoe, go_sem]⟩

theorem RTake0_ok (cs : List Cl) (ov : AV) (oe : Option AO) (ev : AV) (ee : Option AO) (os : List Int) (ho : ER 3 ov oe os) (he : ER 4 ev ee []) :
    ACall Try.prog f_ref13_Boxes_Take [.ptr 0 0] (rh cs ov oe ev ee) fun r A => r = .tup [.int .i64 (-1), .agg pk0.av, .bool false] ∧ A = rh cs ov oe ev ee := by
  refine acallW fol ok_ref13_Boxes_Take ?_
  have he' := he
  rcases he with ⟨rfl, rfl, _⟩ | ⟨pre, rfl, rfl⟩
  · skip
    simp -dsimp -implicitDefEqProofs (maxSteps := 1000000) (disch := first | exact dis | fail) only [ic_ref13_Boxes_Take, rh, go_sem]
    repeat' ((first
      | ((with_reducible refine awpIf_asT ?_ ?_); (focus assumption))
      | ((with_reducible refine awpIf_asF ?_ ?_); (focus assumption))
      | ((with_reducible refine awpGd_tT ?_ ?_); (focus assumption))
      | ((with_reducible refine awpGd_tF ?_ ?_); (focus assumption))
      | ((with_reducible refine awpGd_fF ?_ ?_); (focus assumption))
      | ((with_reducible refine awpGd_fT ?_ ?_); (focus assumption))
      | ((with_reducible apply awpGd_nst); (focus (intro h; replace h := nrm h; simp -dsimp -implicitDefEqProofs (maxSteps := 1000000) (disch := first | exact dis | fail) only [h, rh, go_sem]; rfl)))
      | ((with_reducible apply awpGd_nsf); (focus (intro h; replace h := nrm h; simp -dsimp -implicitDefEqProofs (maxSteps := 1000000) (disch := first | exact dis | fail) only [h, rh, go_sem]; rfl)))
      | ((with_reducible apply gO_t); (focus (intro h; replace h := nrm h; simp -dsimp -implicitDefEqProofs (maxSteps := 1000000) (disch := first | exact dis | fail) only [h, rh, go_sem]; rfl)))
      | ((with_reducible apply gO_f); (focus (intro h; replace h := nrm h; simp -dsimp -implicitDefEqProofs (maxSteps := 1000000) (disch := first | exact dis | fail) only [h, rh, go_sem]; rfl)))
      | ((with_reducible refine chkA_f ?_ ?_ ?_); (focus simp); (focus (intro h; replace h := nrm h; simp -dsimp -implicitDefEqProofs (maxSteps := 1000000) (disch := first | exact dis | fail) only [h, rh, go_sem])))
      | ((with_reducible refine chkA_t ?_ ?_ ?_); (focus simp); (focus (intro h; replace h := nrm h; simp -dsimp -implicitDefEqProofs (maxSteps := 1000000) (disch := first | exact dis | fail) only [h, rh, go_sem])))
      | ((with_reducible refine awpIf_decT ?_ ?_); (focus omega))
      | ((with_reducible refine awpIf_decF ?_ ?_); (focus omega))
      | ((with_reducible first | refine awpIf_dec ?_ ?_ | refine awpIf_ndec ?_ ?_ | refine awpGd_tdec ?_ ?_ | refine awpGd_fdec ?_ ?_ | refine awpGd_tndec ?_ ?_ | refine awpGd_fndec ?_ ?_) <;> intro h <;> (try simp -dsimp only [h]))
      | ((with_reducible first | refine awpIf_cases ?_ ?_ | refine awpGd_cases ?_ ?_ | refine gO_cases ?_ ?_) <;> intro h <;> replace h := nrm h <;> (try simp -dsimp only [h, Bool.not_true, Bool.not_false]))
      | ((with_reducible apply And.intro); (focus omega))) <;> (try simp -dsimp -implicitDefEqProofs (maxSteps := 1000000) (disch := first | exact dis | fail) only [rh, go_sem]))
    exact fin_eq (B := rh cs ov oe .nils none) rfl (rh_wf ho he') rfl
  · skip
    simp -dsimp -implicitDefEqProofs (maxSteps := 1000000) (disch := first | exact dis | fail) only [ic_ref13_Boxes_Take, rh, go_sem]
    repeat' ((first
      | ((with_reducible refine awpIf_asT ?_ ?_); (focus assumption))
      | ((with_reducible refine awpIf_asF ?_ ?_); (focus assumption))
      | ((with_reducible refine awpGd_tT ?_ ?_); (focus assumption))
      | ((with_reducible refine awpGd_tF ?_ ?_); (focus assumption))
      | ((with_reducible refine awpGd_fF ?_ ?_); (focus assumption))
      | ((with_reducible refine awpGd_fT ?_ ?_); (focus assumption))
      | ((with_reducible apply awpGd_nst); (focus (intro h; replace h := nrm h; simp -dsimp -implicitDefEqProofs (maxSteps := 1000000) (disch := first | exact dis | fail) only [h, rh, go_sem]; rfl)))
      | ((with_reducible apply awpGd_nsf); (focus (intro h; replace h := nrm h; simp -dsimp -implicitDefEqProofs (maxSteps := 1000000) (disch := first | exact dis | fail) only [h, rh, go_sem]; rfl)))
      | ((with_reducible apply gO_t); (focus (intro h; replace h := nrm h; simp -dsimp -implicitDefEqProofs (maxSteps := 1000000) (disch := first | exact dis | fail) only [h, rh, go_sem]; rfl)))
      | ((with_reducible apply gO_f); (focus (intro h; replace h := nrm h; simp -dsimp -implicitDefEqProofs (maxSteps := 1000000) (disch := first | exact dis | fail) only [h, rh, go_sem]; rfl)))
      | ((with_reducible refine chkA_f ?_ ?_ ?_); (focus simp); (focus (intro h; replace h := nrm h; simp -dsimp -implicitDefEqProofs (maxSteps := 1000000) (disch := first | exact dis | fail) only [h, rh, go_sem])))
      | ((with_reducible refine chkA_t ?_ ?_ ?_); (focus simp); (focus (intro h; replace h := nrm h; simp -dsimp -implicitDefEqProofs (maxSteps := 1000000) (disch := first | exact dis | fail) only [h, rh, go_sem])))
      | ((with_reducible refine awpIf_decT ?_ ?_); (focus omega))
      | ((with_reducible refine awpIf_decF ?_ ?_); (focus omega))
      | ((with_reducible first | refine awpIf_dec ?_ ?_ | refine awpIf_ndec ?_ ?_ | refine awpGd_tdec ?_ ?_ | refine awpGd_fdec ?_ ?_ | refine awpGd_tndec ?_ ?_ | refine awpGd_fndec ?_ ?_) <;> intro h <;> (try simp -dsimp only [h]))
      | ((with_reducible first | refine awpIf_cases ?_ ?_ | refine awpGd_cases ?_ ?_ | refine gO_cases ?_ ?_) <;> intro h <;> replace h := nrm h <;> (try simp -dsimp only [h, Bool.not_true, Bool.not_false]))
      | ((with_reducible apply And.intro); (focus omega))) <;> (try simp -dsimp -implicitDefEqProofs (maxSteps := 1000000) (disch := first | exact dis | fail) only [rh, go_sem]))
    exact fin_eq (B := rh cs ov oe (.sl 4 1 pre.length 0 false) (some (.arr (rows i1 pre)))) rfl (rh_wf (es := []) ho (.inr ⟨pre, rfl, by rw [List.append_nil]⟩)) rfl
theorem RTake1_ok (cs : List Cl) (ov : AV) (oe : Option AO) (ev : AV) (ee : Option AO) (os es : List Int) (x : Int) (c : Cl) (hn : cs.length ≤ 1000) (hes : es.length ≤ 1000000) (hx0 : 0 ≤ x) (hx : cs[x.toNat]? = some c) (ho : ER 3 ov oe os) (he : ER 4 ev ee (x :: es)) :
    ACall Try.prog f_ref13_Boxes_Take [.ptr 0 0] (rh cs ov oe ev ee) fun r A => r = .tup [.int .i64 x, .agg c.pk.av, .bool (decide (c.st = 2))] ∧ ∃ v, ER 4 v ee es ∧ A = rh (takeC cs x) ov oe v ee := by
  refine acallW fol ok_ref13_Boxes_Take ?_
  obtain ⟨k, rfl⟩ : ∃ k : Nat, x = k := ⟨x.toNat, by omega⟩
  rw [Int.toNat_natCast] at hx
  have hk : k < cs.length := (List.getElem?_eq_some_iff.1 hx).1
  have hsi : (rows si cs).set k [.int .i64 0] = rows si (takeC cs k) := rows_set (f := si) (x := ⟨0, pk0, 0⟩)
  have hsp : (rows sp cs).set k [.int .i64 0, .int .i64 0, .int .i64 0, .str [], .int .i64 0, .int .i64 0, .bool false] = rows sp (takeC cs k) := rows_set (f := sp) (x := ⟨0, pk0, 0⟩)
  have hl : cs.length = (takeC cs k).length := by simp [takeC]
  rcases he with ⟨_, _, h⟩ | ⟨pre, rfl, rfl⟩
  · cases h
  · have h0 : (rows i1 (pre ++ (k : Int) :: es))[pre.length]? = some [.int .i64 k] := by simp [rows, i1]
    have hne : ¬ ((es.length : Int) + 1 = 0) := by omega
    simp -dsimp -implicitDefEqProofs (maxSteps := 1000000) (disch := first | exact dis | fail) only [ic_ref13_Boxes_Take, rh, List.length_cons, hne, h0, slc_lo, hx, rows_get (f := si), rows_get (f := sp), si_eq, sp_eq, hsi, hsp, Int.toNat_zero, Int.toNat_one, Int.toNat_natCast, go_sem]
    repeat' ((first
      | ((with_reducible refine awpIf_asT ?_ ?_); (focus assumption))
      | ((with_reducible refine awpIf_asF ?_ ?_); (focus assumption))
      | ((with_reducible refine awpGd_tT ?_ ?_); (focus assumption))
      | ((with_reducible refine awpGd_tF ?_ ?_); (focus assumption))
      | ((with_reducible refine awpGd_fF ?_ ?_); (focus assumption))
      | ((with_reducible refine awpGd_fT ?_ ?_); (focus assumption))
      | ((with_reducible apply awpGd_nst); (focus (intro h; replace h := nrm h; simp -dsimp -implicitDefEqProofs (maxSteps := 1000000) (disch := first | exact dis | fail) only [h, rh, List.length_cons, hne, h0, slc_lo, hx, rows_get (f := si), rows_get (f := sp), si_eq, sp_eq, hsi, hsp, Int.toNat_zero, Int.toNat_one, Int.toNat_natCast, go_sem]; rfl)))
      | ((with_reducible apply awpGd_nsf); (focus (intro h; replace h := nrm h; simp -dsimp -implicitDefEqProofs (maxSteps := 1000000) (disch := first | exact dis | fail) only [h, rh, List.length_cons, hne, h0, slc_lo, hx, rows_get (f := si), rows_get (f := sp), si_eq, sp_eq, hsi, hsp, Int.toNat_zero, Int.toNat_one, Int.toNat_natCast, go_sem]; rfl)))
      | ((with_reducible apply gO_t); (focus (intro h; replace h := nrm h; simp -dsimp -implicitDefEqProofs (maxSteps := 1000000) (disch := first | exact dis | fail) only [h, rh, List.length_cons, hne, h0, slc_lo, hx, rows_get (f := si), rows_get (f := sp), si_eq, sp_eq, hsi, hsp, Int.toNat_zero, Int.toNat_one, Int.toNat_natCast, go_sem]; rfl)))
      | ((with_reducible apply gO_f); (focus (intro h; replace h := nrm h; simp -dsimp -implicitDefEqProofs (maxSteps := 1000000) (disch := first | exact dis | fail) only [h, rh, List.length_cons, hne, h0, slc_lo, hx, rows_get (f := si), rows_get (f := sp), si_eq, sp_eq, hsi, hsp, Int.toNat_zero, Int.toNat_one, Int.toNat_natCast, go_sem]; rfl)))
      | ((with_reducible refine chkA_f ?_ ?_ ?_); (focus simp); (focus (intro h; replace h := nrm h; simp -dsimp -implicitDefEqProofs (maxSteps := 1000000) (disch := first | exact dis | fail) only [h, rh, List.length_cons, hne, h0, slc_lo, hx, rows_get (f := si), rows_get (f := sp), si_eq, sp_eq, hsi, hsp, Int.toNat_zero, Int.toNat_one, Int.toNat_natCast, go_sem])))
      | ((with_reducible refine chkA_t ?_ ?_ ?_); (focus simp); (focus (intro h; replace h := nrm h; simp -dsimp -implicitDefEqProofs (maxSteps := 1000000) (disch := first | exact dis | fail) only [h, rh, List.length_cons, hne, h0, slc_lo, hx, rows_get (f := si), rows_get (f := sp), si_eq, sp_eq, hsi, hsp, Int.toNat_zero, Int.toNat_one, Int.toNat_natCast, go_sem])))
      | ((with_reducible refine awpIf_decT ?_ ?_); (focus omega))
      | ((with_reducible refine awpIf_decF ?_ ?_); (focus omega))
      | ((with_reducible first | refine awpIf_dec ?_ ?_ | refine awpIf_ndec ?_ ?_ | refine awpGd_tdec ?_ ?_ | refine awpGd_fdec ?_ ?_ | refine awpGd_tndec ?_ ?_ | refine awpGd_fndec ?_ ?_) <;> intro h <;> (try simp -dsimp only [h]))
      | ((with_reducible first | refine awpIf_cases ?_ ?_ | refine awpGd_cases ?_ ?_ | refine gO_cases ?_ ?_) <;> intro h <;> replace h := nrm h <;> (try simp -dsimp only [h, Bool.not_true, Bool.not_false]))
      | ((with_reducible apply And.intro); (focus omega))) <;> (try simp -dsimp -implicitDefEqProofs (maxSteps := 1000000) (disch := first | exact dis | fail) only [rh, List.length_cons, hne, h0, slc_lo, hx, rows_get (f := si), rows_get (f := sp), si_eq, sp_eq, hsi, hsp, Int.toNat_zero, Int.toNat_one, Int.toNat_natCast, go_sem]))
    have hv4 : ER 4 (.sl 4 1 (pre.length + 1) es.length false) (some (.arr (rows i1 (pre ++ (k : Int) :: es)))) es := .inr ⟨pre ++ [(k : Int)], by simp, by simp⟩
    obtain ⟨o1, o2⟩ := ho.ren (g := fnew 5 []) rfl
    exact ⟨some [], rfl, rfl, _, hv4, by rw [← hl]; simp -dsimp -implicitDefEqProofs (maxSteps := 1000000) (disch := first | exact dis | fail) only [foldA_eq, rh, si_ren, sp_ren, i1_ren, o1, o2, Nat.add_sub_cancel, go_sem]⟩
end Go.Proofs.Ytkkccabchhnebaa
