/- box: ends, Sent, Abort, Take. Conditions: none. -/
import Derived.Test.YtkkccabchhnebaaB1F
namespace Go.Proofs.Ytkkccabchhnebaa
open Go.SB
attribute [local irreducible] AW OPS ORD
set_option maxRecDepth 100000
set_option maxHeartbeats 4000000
set_option linter.unusedSimpArgs false
set_option linter.unusedVariables false

theorem i1_snoc {xs : List Int} {n : Int} : rows i1 xs ++ [[.int .i64 n]] = rows i1 (xs ++ [n]) := by simp [rows, i1]
theorem i1_one {n : Int} : [[AV.int .i64 n]] = rows i1 [n] := rfl
theorem i1_cons {xs : List Int} {n : Int} : [AV.int .i64 n] :: rows i1 xs = rows i1 (n :: xs) := rfl
theorem i1_shown {pre es : List Int} : ((rows i1 (pre ++ es)).drop pre.length).take es.length = rows i1 es := by
  rw [rows_drop, List.drop_left, rows_take, List.take_length]
theorem i1_len {xs : List Int} : (rows i1 xs).length = xs.length := by simp [rows]
theorem i1_ok {xs : List Int} : rowsOk 1 (rows i1 xs) = true := rows_ok fun _ => ⟨rfl, rfl⟩
theorem cav_set0 {c : Cl} {n : Int} : (cav c).set 0 (.int .i64 n) = cav ⟨n, c.pk, c.since⟩ := rfl

/-- What ends does. -/
def endOk (cs : List Cl) (i : Int) : Bool := decide (0 ≤ i) && (match cs[i.toNat]? with | some c => decide (c.st = 1) | none => false)
def endC (cs : List Cl) (i st : Int) : List Cl := match cs[i.toNat]? with | some c => cs.set i.toNat ⟨st, c.pk, c.since⟩ | none => cs
theorem ends_ok (cs : List Cl) (v : AV) (e : Option AO) (es : List Int) (puts i st : Int) (hn : cs.length ≤ 1000) (hes : es.length ≤ 1000000) (he : ER 2 v e es) :
    ACall Try.prog f_box_Boxes_ends [.ptr 0 0, .int .i64 i, .int .i64 st] (bh cs v e puts) fun r A =>
      (endOk cs i = false ∧ r = .int .i64 2 ∧ A = bh cs v e puts) ∨
      (endOk cs i = true ∧ r = .int .i64 0 ∧ ∃ d, (∀ g, Option.map (AO.ren g) d = d) ∧ A = [some (.cells [.sl 1 9 0 cs.length true, .sl 3 1 0 (es.length + 1) false, .int .i64 puts]), some (.arr (rows cav (endC cs i st))), d, some (.arr (rows i1 (es ++ [i])))]) := by
  refine acallW fol ok_box_Boxes_ends ?_
  by_cases hr : 0 ≤ i ∧ i < cs.length
  · obtain ⟨k, rfl⟩ : ∃ k : Nat, i = k := ⟨i.toNat, by omega⟩
    have hk : k < cs.length := by omega
    have hx : cs[k]? = some cs[k] := List.getElem?_eq_getElem hk
    generalize cs[k] = c at hx
    have h1 : ¬ ((k : Int) < 0) := by omega
    have h2 : ¬ ((cs.length : Int) ≤ k) := by omega
    by_cases hst : c.st = 1
    · have hok : endOk cs k = true := by simp [endOk, hx, hst]
      have hec : endC cs k st = cs.set k ⟨st, c.pk, c.since⟩ := by simp [endC, hx]
      rcases he with ⟨rfl, rfl, rfl⟩ | ⟨pre, rfl, rfl⟩
      · skip
        simp -dsimp -implicitDefEqProofs (maxSteps := 1000000) (disch := first | exact dis | fail) only [ic_box_Boxes_ends, bh, eqv_ptr, rows_get, hx, Int.toNat_natCast, cav_eq, cav_set, hst, h1, h2, go_sem]
        repeat' ((first
          | ((with_reducible refine awpIf_asT ?_ ?_); (focus assumption))
          | ((with_reducible refine awpIf_asF ?_ ?_); (focus assumption))
          | ((with_reducible refine awpGd_tT ?_ ?_); (focus assumption))
          | ((with_reducible refine awpGd_tF ?_ ?_); (focus assumption))
          | ((with_reducible refine awpGd_fF ?_ ?_); (focus assumption))
          | ((with_reducible refine awpGd_fT ?_ ?_); (focus assumption))
          | ((with_reducible apply awpGd_nst); (focus (intro h; replace h := nrm h; simp -dsimp -implicitDefEqProofs (maxSteps := 1000000) (disch := first | exact dis | fail) only [h, bh, eqv_ptr, rows_get, hx, Int.toNat_natCast, cav_eq, cav_set, hst, h1, h2, go_sem]; rfl)))
          | ((with_reducible apply awpGd_nsf); (focus (intro h; replace h := nrm h; simp -dsimp -implicitDefEqProofs (maxSteps := 1000000) (disch := first | exact dis | fail) only [h, bh, eqv_ptr, rows_get, hx, Int.toNat_natCast, cav_eq, cav_set, hst, h1, h2, go_sem]; rfl)))
          | ((with_reducible apply gO_t); (focus (intro h; replace h := nrm h; simp -dsimp -implicitDefEqProofs (maxSteps := 1000000) (disch := first | exact dis | fail) only [h, bh, eqv_ptr, rows_get, hx, Int.toNat_natCast, cav_eq, cav_set, hst, h1, h2, go_sem]; rfl)))
          | ((with_reducible apply gO_f); (focus (intro h; replace h := nrm h; simp -dsimp -implicitDefEqProofs (maxSteps := 1000000) (disch := first | exact dis | fail) only [h, bh, eqv_ptr, rows_get, hx, Int.toNat_natCast, cav_eq, cav_set, hst, h1, h2, go_sem]; rfl)))
          | ((with_reducible refine chkA_f ?_ ?_ ?_); (focus simp); (focus (intro h; replace h := nrm h; simp -dsimp -implicitDefEqProofs (maxSteps := 1000000) (disch := first | exact dis | fail) only [h, bh, eqv_ptr, rows_get, hx, Int.toNat_natCast, cav_eq, cav_set, hst, h1, h2, go_sem])))
          | ((with_reducible refine chkA_t ?_ ?_ ?_); (focus simp); (focus (intro h; replace h := nrm h; simp -dsimp -implicitDefEqProofs (maxSteps := 1000000) (disch := first | exact dis | fail) only [h, bh, eqv_ptr, rows_get, hx, Int.toNat_natCast, cav_eq, cav_set, hst, h1, h2, go_sem])))
          | ((with_reducible refine awpIf_decT ?_ ?_); (focus omega))
          | ((with_reducible refine awpIf_decF ?_ ?_); (focus omega))
          | ((with_reducible first | refine awpIf_dec ?_ ?_ | refine awpIf_ndec ?_ ?_ | refine awpGd_tdec ?_ ?_ | refine awpGd_fdec ?_ ?_ | refine awpGd_tndec ?_ ?_ | refine awpGd_fndec ?_ ?_) <;> intro h <;> (try simp -dsimp only [h]))
          | ((with_reducible first | refine awpIf_cases ?_ ?_ | refine awpGd_cases ?_ ?_ | refine gO_cases ?_ ?_) <;> intro h <;> replace h := nrm h <;> (try simp -dsimp only [h, Bool.not_true, Bool.not_false]))
          | ((with_reducible apply And.intro); (focus omega))) <;> (try simp -dsimp -implicitDefEqProofs (maxSteps := 1000000) (disch := first | exact dis | fail) only [bh, eqv_ptr, rows_get, hx, Int.toNat_natCast, cav_eq, cav_set, hst, h1, h2, go_sem]))
        exact ⟨some [4], rfl, .inr ⟨hok, rfl, none, fun _ => rfl, by simp -dsimp -implicitDefEqProofs (maxSteps := 1000000) (disch := first | exact dis | fail) only [foldA_eq, cav_ren, i1_one, i1_ren, hec, go_sem]⟩⟩
      · skip
        simp -dsimp -implicitDefEqProofs (maxSteps := 1000000) (disch := first | exact dis | fail) only [ic_box_Boxes_ends, bh, eqv_ptr, rows_get, hx, Int.toNat_natCast, cav_eq, cav_set, hst, h1, h2, appF_some, i1_shown, i1_len, i1_snoc, go_sem]
        repeat' ((first
          | ((with_reducible refine awpIf_asT ?_ ?_); (focus assumption))
          | ((with_reducible refine awpIf_asF ?_ ?_); (focus assumption))
          | ((with_reducible refine awpGd_tT ?_ ?_); (focus assumption))
          | ((with_reducible refine awpGd_tF ?_ ?_); (focus assumption))
          | ((with_reducible refine awpGd_fF ?_ ?_); (focus assumption))
          | ((with_reducible refine awpGd_fT ?_ ?_); (focus assumption))
          | ((with_reducible apply awpGd_nst); (focus (intro h; replace h := nrm h; simp -dsimp -implicitDefEqProofs (maxSteps := 1000000) (disch := first | exact dis | fail) only [h, bh, eqv_ptr, rows_get, hx, Int.toNat_natCast, cav_eq, cav_set, hst, h1, h2, appF_some, i1_shown, i1_len, i1_snoc, go_sem]; rfl)))
          | ((with_reducible apply awpGd_nsf); (focus (intro h; replace h := nrm h; simp -dsimp -implicitDefEqProofs (maxSteps := 1000000) (disch := first | exact dis | fail) only [h, bh, eqv_ptr, rows_get, hx, Int.toNat_natCast, cav_eq, cav_set, hst, h1, h2, appF_some, i1_shown, i1_len, i1_snoc, go_sem]; rfl)))
          | ((with_reducible apply gO_t); (focus (intro h; replace h := nrm h; simp -dsimp -implicitDefEqProofs (maxSteps := 1000000) (disch := first | exact dis | fail) only [h, bh, eqv_ptr, rows_get, hx, Int.toNat_natCast, cav_eq, cav_set, hst, h1, h2, appF_some, i1_shown, i1_len, i1_snoc, go_sem]; rfl)))
          | ((with_reducible apply gO_f); (focus (intro h; replace h := nrm h; simp -dsimp -implicitDefEqProofs (maxSteps := 1000000) (disch := first | exact dis | fail) only [h, bh, eqv_ptr, rows_get, hx, Int.toNat_natCast, cav_eq, cav_set, hst, h1, h2, appF_some, i1_shown, i1_len, i1_snoc, go_sem]; rfl)))
          | ((with_reducible refine chkA_f ?_ ?_ ?_); (focus simp); (focus (intro h; replace h := nrm h; simp -dsimp -implicitDefEqProofs (maxSteps := 1000000) (disch := first | exact dis | fail) only [h, bh, eqv_ptr, rows_get, hx, Int.toNat_natCast, cav_eq, cav_set, hst, h1, h2, appF_some, i1_shown, i1_len, i1_snoc, go_sem])))
          | ((with_reducible refine chkA_t ?_ ?_ ?_); (focus simp); (focus (intro h; replace h := nrm h; simp -dsimp -implicitDefEqProofs (maxSteps := 1000000) (disch := first | exact dis | fail) only [h, bh, eqv_ptr, rows_get, hx, Int.toNat_natCast, cav_eq, cav_set, hst, h1, h2, appF_some, i1_shown, i1_len, i1_snoc, go_sem])))
          | ((with_reducible refine awpIf_decT ?_ ?_); (focus omega))
          | ((with_reducible refine awpIf_decF ?_ ?_); (focus omega))
          | ((with_reducible first | refine awpIf_dec ?_ ?_ | refine awpIf_ndec ?_ ?_ | refine awpGd_tdec ?_ ?_ | refine awpGd_fdec ?_ ?_ | refine awpGd_tndec ?_ ?_ | refine awpGd_fndec ?_ ?_) <;> intro h <;> (try simp -dsimp only [h]))
          | ((with_reducible first | refine awpIf_cases ?_ ?_ | refine awpGd_cases ?_ ?_ | refine gO_cases ?_ ?_) <;> intro h <;> replace h := nrm h <;> (try simp -dsimp only [h, Bool.not_true, Bool.not_false]))
          | ((with_reducible apply And.intro); (focus omega))) <;> (try simp -dsimp -implicitDefEqProofs (maxSteps := 1000000) (disch := first | exact dis | fail) only [bh, eqv_ptr, rows_get, hx, Int.toNat_natCast, cav_eq, cav_set, hst, h1, h2, appF_some, i1_shown, i1_len, i1_snoc, go_sem]))
        refine ⟨⟨by simp, by omega⟩, some [4], rfl, .inr ⟨hok, rfl, some .dead, fun _ => rfl, by simp -dsimp -implicitDefEqProofs (maxSteps := 1000000) (disch := first | exact dis | fail) only [foldA_eq, cav_ren, i1_ren, hec, go_sem]⟩⟩
    · have hok : endOk cs k = false := by simp [endOk, hx, hst]
      simp -dsimp -implicitDefEqProofs (maxSteps := 1000000) (disch := first | exact dis | fail) only [ic_box_Boxes_ends, bh, eqv_ptr, rows_get, hx, Int.toNat_natCast, cav_eq, hst, h1, h2, go_sem]
      repeat' ((first
        | ((with_reducible refine awpIf_asT ?_ ?_); (focus assumption))
        | ((with_reducible refine awpIf_asF ?_ ?_); (focus assumption))
        | ((with_reducible refine awpGd_tT ?_ ?_); (focus assumption))
        | ((with_reducible refine awpGd_tF ?_ ?_); (focus assumption))
        | ((with_reducible refine awpGd_fF ?_ ?_); (focus assumption))
        | ((with_reducible refine awpGd_fT ?_ ?_); (focus assumption))
        | ((with_reducible apply awpGd_nst); (focus (intro h; replace h := nrm h; simp -dsimp -implicitDefEqProofs (maxSteps := 1000000) (disch := first | exact dis | fail) only [h, bh, eqv_ptr, rows_get, hx, Int.toNat_natCast, cav_eq, hst, h1, h2, go_sem]; rfl)))
        | ((with_reducible apply awpGd_nsf); (focus (intro h; replace h := nrm h; simp -dsimp -implicitDefEqProofs (maxSteps := 1000000) (disch := first | exact dis | fail) only [h, bh, eqv_ptr, rows_get, hx, Int.toNat_natCast, cav_eq, hst, h1, h2, go_sem]; rfl)))
        | ((with_reducible apply gO_t); (focus (intro h; replace h := nrm h; simp -dsimp -implicitDefEqProofs (maxSteps := 1000000) (disch := first | exact dis | fail) only [h, bh, eqv_ptr, rows_get, hx, Int.toNat_natCast, cav_eq, hst, h1, h2, go_sem]; rfl)))
        | ((with_reducible apply gO_f); (focus (intro h; replace h := nrm h; simp -dsimp -implicitDefEqProofs (maxSteps := 1000000) (disch := first | exact dis | fail) only [h, bh, eqv_ptr, rows_get, hx, Int.toNat_natCast, cav_eq, hst, h1, h2, go_sem]; rfl)))
        | ((with_reducible refine chkA_f ?_ ?_ ?_); (focus simp); (focus (intro h; replace h := nrm h; simp -dsimp -implicitDefEqProofs (maxSteps := 1000000) (disch := first | exact dis | fail) only [h, bh, eqv_ptr, rows_get, hx, Int.toNat_natCast, cav_eq, hst, h1, h2, go_sem])))
        | ((with_reducible refine chkA_t ?_ ?_ ?_); (focus simp); (focus (intro h; replace h := nrm h; simp -dsimp -implicitDefEqProofs (maxSteps := 1000000) (disch := first | exact dis | fail) only [h, bh, eqv_ptr, rows_get, hx, Int.toNat_natCast, cav_eq, hst, h1, h2, go_sem])))
        | ((with_reducible refine awpIf_decT ?_ ?_); (focus omega))
        | ((with_reducible refine awpIf_decF ?_ ?_); (focus omega))
        | ((with_reducible first | refine awpIf_dec ?_ ?_ | refine awpIf_ndec ?_ ?_ | refine awpGd_tdec ?_ ?_ | refine awpGd_fdec ?_ ?_ | refine awpGd_tndec ?_ ?_ | refine awpGd_fndec ?_ ?_) <;> intro h <;> (try simp -dsimp only [h]))
        | ((with_reducible first | refine awpIf_cases ?_ ?_ | refine awpGd_cases ?_ ?_ | refine gO_cases ?_ ?_) <;> intro h <;> replace h := nrm h <;> (try simp -dsimp only [h, Bool.not_true, Bool.not_false]))
        | ((with_reducible apply And.intro); (focus omega))) <;> (try simp -dsimp -implicitDefEqProofs (maxSteps := 1000000) (disch := first | exact dis | fail) only [bh, eqv_ptr, rows_get, hx, Int.toNat_natCast, cav_eq, hst, h1, h2, go_sem]))
      exact ⟨none, rfl, .inl ⟨hok, rfl, rfl⟩⟩
  · have hok : endOk cs i = false := by
      unfold endOk
      by_cases h0 : 0 ≤ i
      · have : cs[i.toNat]? = none := List.getElem?_eq_none (by omega)
        simp [this]
      · simp [h0]
    by_cases h1 : i < 0
    · skip
      simp -dsimp -implicitDefEqProofs (maxSteps := 1000000) (disch := first | exact dis | fail) only [ic_box_Boxes_ends, bh, eqv_ptr, h1, go_sem]
      repeat' ((first
        | ((with_reducible refine awpIf_asT ?_ ?_); (focus assumption))
        | ((with_reducible refine awpIf_asF ?_ ?_); (focus assumption))
        | ((with_reducible refine awpGd_tT ?_ ?_); (focus assumption))
        | ((with_reducible refine awpGd_tF ?_ ?_); (focus assumption))
        | ((with_reducible refine awpGd_fF ?_ ?_); (focus assumption))
        | ((with_reducible refine awpGd_fT ?_ ?_); (focus assumption))
        | ((with_reducible apply awpGd_nst); (focus (intro h; replace h := nrm h; simp -dsimp -implicitDefEqProofs (maxSteps := 1000000) (disch := first | exact dis | fail) only [h, bh, eqv_ptr, h1, go_sem]; rfl)))
        | ((with_reducible apply awpGd_nsf); (focus (intro h; replace h := nrm h; simp -dsimp -implicitDefEqProofs (maxSteps := 1000000) (disch := first | exact dis | fail) only [h, bh, eqv_ptr, h1, go_sem]; rfl)))
        | ((with_reducible apply gO_t); (focus (intro h; replace h := nrm h; simp -dsimp -implicitDefEqProofs (maxSteps := 1000000) (disch := first | exact dis | fail) only [h, bh, eqv_ptr, h1, go_sem]; rfl)))
        | ((with_reducible apply gO_f); (focus (intro h; replace h := nrm h; simp -dsimp -implicitDefEqProofs (maxSteps := 1000000) (disch := first | exact dis | fail) only [h, bh, eqv_ptr, h1, go_sem]; rfl)))
        | ((with_reducible refine chkA_f ?_ ?_ ?_); (focus simp); (focus (intro h; replace h := nrm h; simp -dsimp -implicitDefEqProofs (maxSteps := 1000000) (disch := first | exact dis | fail) only [h, bh, eqv_ptr, h1, go_sem])))
        | ((with_reducible refine chkA_t ?_ ?_ ?_); (focus simp); (focus (intro h; replace h := nrm h; simp -dsimp -implicitDefEqProofs (maxSteps := 1000000) (disch := first | exact dis | fail) only [h, bh, eqv_ptr, h1, go_sem])))
        | ((with_reducible refine awpIf_decT ?_ ?_); (focus omega))
        | ((with_reducible refine awpIf_decF ?_ ?_); (focus omega))
        | ((with_reducible first | refine awpIf_dec ?_ ?_ | refine awpIf_ndec ?_ ?_ | refine awpGd_tdec ?_ ?_ | refine awpGd_fdec ?_ ?_ | refine awpGd_tndec ?_ ?_ | refine awpGd_fndec ?_ ?_) <;> intro h <;> (try simp -dsimp only [h]))
        | ((with_reducible first | refine awpIf_cases ?_ ?_ | refine awpGd_cases ?_ ?_ | refine gO_cases ?_ ?_) <;> intro h <;> replace h := nrm h <;> (try simp -dsimp only [h, Bool.not_true, Bool.not_false]))
        | ((with_reducible apply And.intro); (focus omega))) <;> (try simp -dsimp -implicitDefEqProofs (maxSteps := 1000000) (disch := first | exact dis | fail) only [bh, eqv_ptr, h1, go_sem]))
      exact ⟨none, rfl, .inl ⟨hok, rfl, rfl⟩⟩
    · have h2 : (cs.length : Int) ≤ i := by omega
      simp -dsimp -implicitDefEqProofs (maxSteps := 1000000) (disch := first | exact dis | fail) only [ic_box_Boxes_ends, bh, eqv_ptr, h1, h2, go_sem]
      repeat' ((first
        | ((with_reducible refine awpIf_asT ?_ ?_); (focus assumption))
        | ((with_reducible refine awpIf_asF ?_ ?_); (focus assumption))
        | ((with_reducible refine awpGd_tT ?_ ?_); (focus assumption))
        | ((with_reducible refine awpGd_tF ?_ ?_); (focus assumption))
        | ((with_reducible refine awpGd_fF ?_ ?_); (focus assumption))
        | ((with_reducible refine awpGd_fT ?_ ?_); (focus assumption))
        | ((with_reducible apply awpGd_nst); (focus (intro h; replace h := nrm h; simp -dsimp -implicitDefEqProofs (maxSteps := 1000000) (disch := first | exact dis | fail) only [h, bh, eqv_ptr, h1, h2, go_sem]; rfl)))
        | ((with_reducible apply awpGd_nsf); (focus (intro h; replace h := nrm h; simp -dsimp -implicitDefEqProofs (maxSteps := 1000000) (disch := first | exact dis | fail) only [h, bh, eqv_ptr, h1, h2, go_sem]; rfl)))
        | ((with_reducible apply gO_t); (focus (intro h; replace h := nrm h; simp -dsimp -implicitDefEqProofs (maxSteps := 1000000) (disch := first | exact dis | fail) only [h, bh, eqv_ptr, h1, h2, go_sem]; rfl)))
        | ((with_reducible apply gO_f); (focus (intro h; replace h := nrm h; simp -dsimp -implicitDefEqProofs (maxSteps := 1000000) (disch := first | exact dis | fail) only [h, bh, eqv_ptr, h1, h2, go_sem]; rfl)))
        | ((with_reducible refine chkA_f ?_ ?_ ?_); (focus simp); (focus (intro h; replace h := nrm h; simp -dsimp -implicitDefEqProofs (maxSteps := 1000000) (disch := first | exact dis | fail) only [h, bh, eqv_ptr, h1, h2, go_sem])))
        | ((with_reducible refine chkA_t ?_ ?_ ?_); (focus simp); (focus (intro h; replace h := nrm h; simp -dsimp -implicitDefEqProofs (maxSteps := 1000000) (disch := first | exact dis | fail) only [h, bh, eqv_ptr, h1, h2, go_sem])))
        | ((with_reducible refine awpIf_decT ?_ ?_); (focus omega))
        | ((with_reducible refine awpIf_decF ?_ ?_); (focus omega))
        | ((with_reducible first | refine awpIf_dec ?_ ?_ | refine awpIf_ndec ?_ ?_ | refine awpGd_tdec ?_ ?_ | refine awpGd_fdec ?_ ?_ | refine awpGd_tndec ?_ ?_ | refine awpGd_fndec ?_ ?_) <;> intro h <;> (try simp -dsimp only [h]))
        | ((with_reducible first | refine awpIf_cases ?_ ?_ | refine awpGd_cases ?_ ?_ | refine gO_cases ?_ ?_) <;> intro h <;> replace h := nrm h <;> (try simp -dsimp only [h, Bool.not_true, Bool.not_false]))
        | ((with_reducible apply And.intro); (focus omega))) <;> (try simp -dsimp -implicitDefEqProofs (maxSteps := 1000000) (disch := first | exact dis | fail) only [bh, eqv_ptr, h1, h2, go_sem]))
      exact ⟨none, rfl, .inl ⟨hok, rfl, rfl⟩⟩

theorem Sent_ok (cs : List Cl) (v : AV) (e : Option AO) (es : List Int) (puts i : Int) (hn : cs.length ≤ 1000) (hes : es.length ≤ 1000000) (he : ER 2 v e es) :
    ACall Try.prog f_box_Boxes_Sent [.ptr 0 0, .int .i64 i] (bh cs v e puts) fun r A =>
      (endOk cs i = false ∧ r = .int .i64 2 ∧ A = bh cs v e puts) ∨
      (endOk cs i = true ∧ r = .int .i64 0 ∧ ∃ d, (∀ g, Option.map (AO.ren g) d = d) ∧ A = [some (.cells [.sl 1 9 0 cs.length true, .sl 3 1 0 (es.length + 1) false, .int .i64 puts]), some (.arr (rows cav (endC cs i 2))), d, some (.arr (rows i1 (es ++ [i])))]) := by
  refine acallW fol ok_box_Boxes_Sent ?_
  simp -dsimp -implicitDefEqProofs (maxSteps := 1000000) (disch := first | exact dis | fail) only [ic_box_Boxes_Sent, go_sem]
  repeat' ((first
    | ((with_reducible refine awpIf_asT ?_ ?_); (focus assumption))
    | ((with_reducible refine awpIf_asF ?_ ?_); (focus assumption))
    | ((with_reducible refine awpGd_tT ?_ ?_); (focus assumption))
    | ((with_reducible refine awpGd_tF ?_ ?_); (focus assumption))
    | ((with_reducible refine awpGd_fF ?_ ?_); (focus assumption))
    | ((with_reducible refine awpGd_fT ?_ ?_); (focus assumption))
    | ((with_reducible apply awpGd_nst); (focus (intro h; replace h := nrm h; simp -dsimp -implicitDefEqProofs (maxSteps := 1000000) (disch := first | exact dis | fail) only [h, go_sem]; rfl)))
    | ((with_reducible apply awpGd_nsf); (focus (intro h; replace h := nrm h; simp -dsimp -implicitDefEqProofs (maxSteps := 1000000) (disch := first | exact dis | fail) only [h, go_sem]; rfl)))
    | ((with_reducible apply gO_t); (focus (intro h; replace h := nrm h; simp -dsimp -implicitDefEqProofs (maxSteps := 1000000) (disch := first | exact dis | fail) only [h, go_sem]; rfl)))
    | ((with_reducible apply gO_f); (focus (intro h; replace h := nrm h; simp -dsimp -implicitDefEqProofs (maxSteps := 1000000) (disch := first | exact dis | fail) only [h, go_sem]; rfl)))
    | ((with_reducible refine chkA_f ?_ ?_ ?_); (focus simp); (focus (intro h; replace h := nrm h; simp -dsimp -implicitDefEqProofs (maxSteps := 1000000) (disch := first | exact dis | fail) only [h, go_sem])))
    | ((with_reducible refine chkA_t ?_ ?_ ?_); (focus simp); (focus (intro h; replace h := nrm h; simp -dsimp -implicitDefEqProofs (maxSteps := 1000000) (disch := first | exact dis | fail) only [h, go_sem])))
    | ((with_reducible refine awpIf_decT ?_ ?_); (focus omega))
    | ((with_reducible refine awpIf_decF ?_ ?_); (focus omega))
    | ((with_reducible first | refine awpIf_dec ?_ ?_ | refine awpIf_ndec ?_ ?_ | refine awpGd_tdec ?_ ?_ | refine awpGd_fdec ?_ ?_ | refine awpGd_tndec ?_ ?_ | refine awpGd_fndec ?_ ?_) <;> intro h <;> (try simp -dsimp only [h]))
    | ((with_reducible first | refine awpIf_cases ?_ ?_ | refine awpGd_cases ?_ ?_ | refine gO_cases ?_ ?_) <;> intro h <;> replace h := nrm h <;> (try simp -dsimp only [h, Bool.not_true, Bool.not_false]))
    | ((with_reducible apply And.intro); (focus omega))) <;> (try simp -dsimp -implicitDefEqProofs (maxSteps := 1000000) (disch := first | exact dis | fail) only [go_sem]))
  refine (ends_ok cs v e es puts i 2 hn hes he).mono ?_
  rintro r A (⟨h, rfl, rfl⟩ | ⟨h, rfl, d, hd, rfl⟩)
  · skip
    simp -dsimp -implicitDefEqProofs (maxSteps := 1000000) (disch := first | exact dis | fail) only [bh, go_sem]
    repeat' ((first
      | ((with_reducible refine awpIf_asT ?_ ?_); (focus assumption))
      | ((with_reducible refine awpIf_asF ?_ ?_); (focus assumption))
      | ((with_reducible refine awpGd_tT ?_ ?_); (focus assumption))
      | ((with_reducible refine awpGd_tF ?_ ?_); (focus assumption))
      | ((with_reducible refine awpGd_fF ?_ ?_); (focus assumption))
      | ((with_reducible refine awpGd_fT ?_ ?_); (focus assumption))
      | ((with_reducible apply awpGd_nst); (focus (intro h; replace h := nrm h; simp -dsimp -implicitDefEqProofs (maxSteps := 1000000) (disch := first | exact dis | fail) only [h, bh, go_sem]; rfl)))
      | ((with_reducible apply awpGd_nsf); (focus (intro h; replace h := nrm h; simp -dsimp -implicitDefEqProofs (maxSteps := 1000000) (disch := first | exact dis | fail) only [h, bh, go_sem]; rfl)))
      | ((with_reducible apply gO_t); (focus (intro h; replace h := nrm h; simp -dsimp -implicitDefEqProofs (maxSteps := 1000000) (disch := first | exact dis | fail) only [h, bh, go_sem]; rfl)))
      | ((with_reducible apply gO_f); (focus (intro h; replace h := nrm h; simp -dsimp -implicitDefEqProofs (maxSteps := 1000000) (disch := first | exact dis | fail) only [h, bh, go_sem]; rfl)))
      | ((with_reducible refine chkA_f ?_ ?_ ?_); (focus simp); (focus (intro h; replace h := nrm h; simp -dsimp -implicitDefEqProofs (maxSteps := 1000000) (disch := first | exact dis | fail) only [h, bh, go_sem])))
      | ((with_reducible refine chkA_t ?_ ?_ ?_); (focus simp); (focus (intro h; replace h := nrm h; simp -dsimp -implicitDefEqProofs (maxSteps := 1000000) (disch := first | exact dis | fail) only [h, bh, go_sem])))
      | ((with_reducible refine awpIf_decT ?_ ?_); (focus omega))
      | ((with_reducible refine awpIf_decF ?_ ?_); (focus omega))
      | ((with_reducible first | refine awpIf_dec ?_ ?_ | refine awpIf_ndec ?_ ?_ | refine awpGd_tdec ?_ ?_ | refine awpGd_fdec ?_ ?_ | refine awpGd_tndec ?_ ?_ | refine awpGd_fndec ?_ ?_) <;> intro h <;> (try simp -dsimp only [h]))
      | ((with_reducible first | refine awpIf_cases ?_ ?_ | refine awpGd_cases ?_ ?_ | refine gO_cases ?_ ?_) <;> intro h <;> replace h := nrm h <;> (try simp -dsimp only [h, Bool.not_true, Bool.not_false]))
      | ((with_reducible apply And.intro); (focus omega))) <;> (try simp -dsimp -implicitDefEqProofs (maxSteps := 1000000) (disch := first | exact dis | fail) only [bh, go_sem]))
    exact ⟨none, rfl, .inl ⟨h, rfl, rfl⟩⟩
  · skip
    simp -dsimp -implicitDefEqProofs (maxSteps := 1000000) (disch := first | exact dis | fail) only [bh, go_sem]
    repeat' ((first
      | ((with_reducible refine awpIf_asT ?_ ?_); (focus assumption))
      | ((with_reducible refine awpIf_asF ?_ ?_); (focus assumption))
      | ((with_reducible refine awpGd_tT ?_ ?_); (focus assumption))
      | ((with_reducible refine awpGd_tF ?_ ?_); (focus assumption))
      | ((with_reducible refine awpGd_fF ?_ ?_); (focus assumption))
      | ((with_reducible refine awpGd_fT ?_ ?_); (focus assumption))
      | ((with_reducible apply awpGd_nst); (focus (intro h; replace h := nrm h; simp -dsimp -implicitDefEqProofs (maxSteps := 1000000) (disch := first | exact dis | fail) only [h, bh, go_sem]; rfl)))
      | ((with_reducible apply awpGd_nsf); (focus (intro h; replace h := nrm h; simp -dsimp -implicitDefEqProofs (maxSteps := 1000000) (disch := first | exact dis | fail) only [h, bh, go_sem]; rfl)))
      | ((with_reducible apply gO_t); (focus (intro h; replace h := nrm h; simp -dsimp -implicitDefEqProofs (maxSteps := 1000000) (disch := first | exact dis | fail) only [h, bh, go_sem]; rfl)))
      | ((with_reducible apply gO_f); (focus (intro h; replace h := nrm h; simp -dsimp -implicitDefEqProofs (maxSteps := 1000000) (disch := first | exact dis | fail) only [h, bh, go_sem]; rfl)))
      | ((with_reducible refine chkA_f ?_ ?_ ?_); (focus simp); (focus (intro h; replace h := nrm h; simp -dsimp -implicitDefEqProofs (maxSteps := 1000000) (disch := first | exact dis | fail) only [h, bh, go_sem])))
      | ((with_reducible refine chkA_t ?_ ?_ ?_); (focus simp); (focus (intro h; replace h := nrm h; simp -dsimp -implicitDefEqProofs (maxSteps := 1000000) (disch := first | exact dis | fail) only [h, bh, go_sem])))
      | ((with_reducible refine awpIf_decT ?_ ?_); (focus omega))
      | ((with_reducible refine awpIf_decF ?_ ?_); (focus omega))
      | ((with_reducible first | refine awpIf_dec ?_ ?_ | refine awpIf_ndec ?_ ?_ | refine awpGd_tdec ?_ ?_ | refine awpGd_fdec ?_ ?_ | refine awpGd_tndec ?_ ?_ | refine awpGd_fndec ?_ ?_) <;> intro h <;> (try simp -dsimp only [h]))
      | ((with_reducible first | refine awpIf_cases ?_ ?_ | refine awpGd_cases ?_ ?_ | refine gO_cases ?_ ?_) <;> intro h <;> replace h := nrm h <;> (try simp -dsimp only [h, Bool.not_true, Bool.not_false]))
      | ((with_reducible apply And.intro); (focus omega))) <;> (try simp -dsimp -implicitDefEqProofs (maxSteps := 1000000) (disch := first | exact dis | fail) only [bh, go_sem]))
    exact ⟨none, rfl, .inr ⟨h, rfl, d, hd, rfl⟩⟩
theorem Abort_ok (cs : List Cl) (v : AV) (e : Option AO) (es : List Int) (puts i : Int) (hn : cs.length ≤ 1000) (hes : es.length ≤ 1000000) (he : ER 2 v e es) :
    ACall Try.prog f_box_Boxes_Abort [.ptr 0 0, .int .i64 i] (bh cs v e puts) fun r A =>
      (endOk cs i = false ∧ r = .int .i64 2 ∧ A = bh cs v e puts) ∨
      (endOk cs i = true ∧ r = .int .i64 0 ∧ ∃ d, (∀ g, Option.map (AO.ren g) d = d) ∧ A = [some (.cells [.sl 1 9 0 cs.length true, .sl 3 1 0 (es.length + 1) false, .int .i64 puts]), some (.arr (rows cav (endC cs i 3))), d, some (.arr (rows i1 (es ++ [i])))]) := by
  refine acallW fol ok_box_Boxes_Abort ?_
  simp -dsimp -implicitDefEqProofs (maxSteps := 1000000) (disch := first | exact dis | fail) only [ic_box_Boxes_Abort, go_sem]
  repeat' ((first
    | ((with_reducible refine awpIf_asT ?_ ?_); (focus assumption))
    | ((with_reducible refine awpIf_asF ?_ ?_); (focus assumption))
    | ((with_reducible refine awpGd_tT ?_ ?_); (focus assumption))
    | ((with_reducible refine awpGd_tF ?_ ?_); (focus assumption))
    | ((with_reducible refine awpGd_fF ?_ ?_); (focus assumption))
    | ((with_reducible refine awpGd_fT ?_ ?_); (focus assumption))
    | ((with_reducible apply awpGd_nst); (focus (intro h; replace h := nrm h; simp -dsimp -implicitDefEqProofs (maxSteps := 1000000) (disch := first | exact dis | fail) only [h, go_sem]; rfl)))
    | ((with_reducible apply awpGd_nsf); (focus (intro h; replace h := nrm h; simp -dsimp -implicitDefEqProofs (maxSteps := 1000000) (disch := first | exact dis | fail) only [h, go_sem]; rfl)))
    | ((with_reducible apply gO_t); (focus (intro h; replace h := nrm h; simp -dsimp -implicitDefEqProofs (maxSteps := 1000000) (disch := first | exact dis | fail) only [h, go_sem]; rfl)))
    | ((with_reducible apply gO_f); (focus (intro h; replace h := nrm h; simp -dsimp -implicitDefEqProofs (maxSteps := 1000000) (disch := first | exact dis | fail) only [h, go_sem]; rfl)))
    | ((with_reducible refine chkA_f ?_ ?_ ?_); (focus simp); (focus (intro h; replace h := nrm h; simp -dsimp -implicitDefEqProofs (maxSteps := 1000000) (disch := first | exact dis | fail) only [h, go_sem])))
    | ((with_reducible refine chkA_t ?_ ?_ ?_); (focus simp); (focus (intro h; replace h := nrm h; simp -dsimp -implicitDefEqProofs (maxSteps := 1000000) (disch := first | exact dis | fail) only [h, go_sem])))
    | ((with_reducible refine awpIf_decT ?_ ?_); (focus omega))
    | ((with_reducible refine awpIf_decF ?_ ?_); (focus omega))
    | ((with_reducible first | refine awpIf_dec ?_ ?_ | refine awpIf_ndec ?_ ?_ | refine awpGd_tdec ?_ ?_ | refine awpGd_fdec ?_ ?_ | refine awpGd_tndec ?_ ?_ | refine awpGd_fndec ?_ ?_) <;> intro h <;> (try simp -dsimp only [h]))
    | ((with_reducible first | refine awpIf_cases ?_ ?_ | refine awpGd_cases ?_ ?_ | refine gO_cases ?_ ?_) <;> intro h <;> replace h := nrm h <;> (try simp -dsimp only [h, Bool.not_true, Bool.not_false]))
    | ((with_reducible apply And.intro); (focus omega))) <;> (try simp -dsimp -implicitDefEqProofs (maxSteps := 1000000) (disch := first | exact dis | fail) only [go_sem]))
  refine (ends_ok cs v e es puts i 3 hn hes he).mono ?_
  rintro r A (⟨h, rfl, rfl⟩ | ⟨h, rfl, d, hd, rfl⟩)
  · skip
    simp -dsimp -implicitDefEqProofs (maxSteps := 1000000) (disch := first | exact dis | fail) only [bh, go_sem]
    repeat' ((first
      | ((with_reducible refine awpIf_asT ?_ ?_); (focus assumption))
      | ((with_reducible refine awpIf_asF ?_ ?_); (focus assumption))
      | ((with_reducible refine awpGd_tT ?_ ?_); (focus assumption))
      | ((with_reducible refine awpGd_tF ?_ ?_); (focus assumption))
      | ((with_reducible refine awpGd_fF ?_ ?_); (focus assumption))
      | ((with_reducible refine awpGd_fT ?_ ?_); (focus assumption))
      | ((with_reducible apply awpGd_nst); (focus (intro h; replace h := nrm h; simp -dsimp -implicitDefEqProofs (maxSteps := 1000000) (disch := first | exact dis | fail) only [h, bh, go_sem]; rfl)))
      | ((with_reducible apply awpGd_nsf); (focus (intro h; replace h := nrm h; simp -dsimp -implicitDefEqProofs (maxSteps := 1000000) (disch := first | exact dis | fail) only [h, bh, go_sem]; rfl)))
      | ((with_reducible apply gO_t); (focus (intro h; replace h := nrm h; simp -dsimp -implicitDefEqProofs (maxSteps := 1000000) (disch := first | exact dis | fail) only [h, bh, go_sem]; rfl)))
      | ((with_reducible apply gO_f); (focus (intro h; replace h := nrm h; simp -dsimp -implicitDefEqProofs (maxSteps := 1000000) (disch := first | exact dis | fail) only [h, bh, go_sem]; rfl)))
      | ((with_reducible refine chkA_f ?_ ?_ ?_); (focus simp); (focus (intro h; replace h := nrm h; simp -dsimp -implicitDefEqProofs (maxSteps := 1000000) (disch := first | exact dis | fail) only [h, bh, go_sem])))
      | ((with_reducible refine chkA_t ?_ ?_ ?_); (focus simp); (focus (intro h; replace h := nrm h; simp -dsimp -implicitDefEqProofs (maxSteps := 1000000) (disch := first | exact dis | fail) only [h, bh, go_sem])))
      | ((with_reducible refine awpIf_decT ?_ ?_); (focus omega))
      | ((with_reducible refine awpIf_decF ?_ ?_); (focus omega))
      | ((with_reducible first | refine awpIf_dec ?_ ?_ | refine awpIf_ndec ?_ ?_ | refine awpGd_tdec ?_ ?_ | refine awpGd_fdec ?_ ?_ | refine awpGd_tndec ?_ ?_ | refine awpGd_fndec ?_ ?_) <;> intro h <;> (try simp -dsimp only [h]))
      | ((with_reducible first | refine awpIf_cases ?_ ?_ | refine awpGd_cases ?_ ?_ | refine gO_cases ?_ ?_) <;> intro h <;> replace h := nrm h <;> (try simp -dsimp only [h, Bool.not_true, Bool.not_false]))
      | ((with_reducible apply And.intro); (focus omega))) <;> (try simp -dsimp -implicitDefEqProofs (maxSteps := 1000000) (disch := first | exact dis | fail) only [bh, go_sem]))
    exact ⟨none, rfl, .inl ⟨h, rfl, rfl⟩⟩
  · skip
    simp -dsimp -implicitDefEqProofs (maxSteps := 1000000) (disch := first | exact dis | fail) only [bh, go_sem]
    repeat' ((first
      | ((with_reducible refine awpIf_asT ?_ ?_); (focus assumption))
      | ((with_reducible refine awpIf_asF ?_ ?_); (focus assumption))
      | ((with_reducible refine awpGd_tT ?_ ?_); (focus assumption))
      | ((with_reducible refine awpGd_tF ?_ ?_); (focus assumption))
      | ((with_reducible refine awpGd_fF ?_ ?_); (focus assumption))
      | ((with_reducible refine awpGd_fT ?_ ?_); (focus assumption))
      | ((with_reducible apply awpGd_nst); (focus (intro h; replace h := nrm h; simp -dsimp -implicitDefEqProofs (maxSteps := 1000000) (disch := first | exact dis | fail) only [h, bh, go_sem]; rfl)))
      | ((with_reducible apply awpGd_nsf); (focus (intro h; replace h := nrm h; simp -dsimp -implicitDefEqProofs (maxSteps := 1000000) (disch := first | exact dis | fail) only [h, bh, go_sem]; rfl)))
      | ((with_reducible apply gO_t); (focus (intro h; replace h := nrm h; simp -dsimp -implicitDefEqProofs (maxSteps := 1000000) (disch := first | exact dis | fail) only [h, bh, go_sem]; rfl)))
      | ((with_reducible apply gO_f); (focus (intro h; replace h := nrm h; simp -dsimp -implicitDefEqProofs (maxSteps := 1000000) (disch := first | exact dis | fail) only [h, bh, go_sem]; rfl)))
      | ((with_reducible refine chkA_f ?_ ?_ ?_); (focus simp); (focus (intro h; replace h := nrm h; simp -dsimp -implicitDefEqProofs (maxSteps := 1000000) (disch := first | exact dis | fail) only [h, bh, go_sem])))
      | ((with_reducible refine chkA_t ?_ ?_ ?_); (focus simp); (focus (intro h; replace h := nrm h; simp -dsimp -implicitDefEqProofs (maxSteps := 1000000) (disch := first | exact dis | fail) only [h, bh, go_sem])))
      | ((with_reducible refine awpIf_decT ?_ ?_); (focus omega))
      | ((with_reducible refine awpIf_decF ?_ ?_); (focus omega))
      | ((with_reducible first | refine awpIf_dec ?_ ?_ | refine awpIf_ndec ?_ ?_ | refine awpGd_tdec ?_ ?_ | refine awpGd_fdec ?_ ?_ | refine awpGd_tndec ?_ ?_ | refine awpGd_fndec ?_ ?_) <;> intro h <;> (try simp -dsimp only [h]))
      | ((with_reducible first | refine awpIf_cases ?_ ?_ | refine awpGd_cases ?_ ?_ | refine gO_cases ?_ ?_) <;> intro h <;> replace h := nrm h <;> (try simp -dsimp only [h, Bool.not_true, Bool.not_false]))
      | ((with_reducible apply And.intro); (focus omega))) <;> (try simp -dsimp -implicitDefEqProofs (maxSteps := 1000000) (disch := first | exact dis | fail) only [bh, go_sem]))
    exact ⟨none, rfl, .inr ⟨h, rfl, d, hd, rfl⟩⟩

theorem slc_lo {z l b len : Nat} {t : Bool} {k : IntKind} {n : Int} (h : 0 ≤ n ∧ n ≤ len) : AV.slc z (.sl l z b len t) (some (.int k n)) none none = some (.sl l z (b + n.toNat) (len - n.toNat) t) := by
  have hb : bnds len len (some (.int k n)) none none = some (n.toNat, len, none) := by
    simp [bnds, hiOr, bnd, h.1, h.2]
  simp only [AV.slc, if_true, hb]
  simp
/-- A copy of what is shown behind the first. -/
theorem Clone_ok (pre es : List Int) (x : Int) (hes : es.length ≤ 1000000) : ACall Try.prog f_slices_Clone_of_int [.sl 0 1 (pre.length + 1) es.length false] [some (.arr (rows i1 (pre ++ x :: es)))] fun r A =>
    r = .sl 1 1 0 es.length false ∧ A = [some (.arr (rows i1 (pre ++ x :: es))), some (.arr (rows i1 es))] := by
  refine acallW fol ok_slices_Clone_of_int ?_
  have hsh : ((rows i1 (pre ++ x :: es)).drop (pre.length + 1)).take es.length = rows i1 es := by
    have := i1_shown (pre := pre ++ [x]) (es := es)
    simpa using this
  have hlen : (pre.length + 1) + es.length ≤ (rows i1 (pre ++ x :: es)).length := by rw [i1_len]; simp; omega
  cases es with
  | nil =>
    simp -dsimp -implicitDefEqProofs (maxSteps := 1000000) (disch := first | exact dis | fail) only [ic_slices_Clone_of_int, eqv_slice, elemsO_some, hlen, hsh, i1_ok, rows_nil, go_sem]
    repeat' ((first
      | ((with_reducible refine awpIf_asT ?_ ?_); (focus assumption))
      | ((with_reducible refine awpIf_asF ?_ ?_); (focus assumption))
      | ((with_reducible refine awpGd_tT ?_ ?_); (focus assumption))
      | ((with_reducible refine awpGd_tF ?_ ?_); (focus assumption))
      | ((with_reducible refine awpGd_fF ?_ ?_); (focus assumption))
      | ((with_reducible refine awpGd_fT ?_ ?_); (focus assumption))
      | ((with_reducible apply awpGd_nst); (focus (intro h; replace h := nrm h; simp -dsimp -implicitDefEqProofs (maxSteps := 1000000) (disch := first | exact dis | fail) only [h, eqv_slice, elemsO_some, hlen, hsh, i1_ok, rows_nil, go_sem]; rfl)))
      | ((with_reducible apply awpGd_nsf); (focus (intro h; replace h := nrm h; simp -dsimp -implicitDefEqProofs (maxSteps := 1000000) (disch := first | exact dis | fail) only [h, eqv_slice, elemsO_some, hlen, hsh, i1_ok, rows_nil, go_sem]; rfl)))
      | ((with_reducible apply gO_t); (focus (intro h; replace h := nrm h; simp -dsimp -implicitDefEqProofs (maxSteps := 1000000) (disch := first | exact dis | fail) only [h, eqv_slice, elemsO_some, hlen, hsh, i1_ok, rows_nil, go_sem]; rfl)))
      | ((with_reducible apply gO_f); (focus (intro h; replace h := nrm h; simp -dsimp -implicitDefEqProofs (maxSteps := 1000000) (disch := first | exact dis | fail) only [h, eqv_slice, elemsO_some, hlen, hsh, i1_ok, rows_nil, go_sem]; rfl)))
      | ((with_reducible refine chkA_f ?_ ?_ ?_); (focus simp); (focus (intro h; replace h := nrm h; simp -dsimp -implicitDefEqProofs (maxSteps := 1000000) (disch := first | exact dis | fail) only [h, eqv_slice, elemsO_some, hlen, hsh, i1_ok, rows_nil, go_sem])))
      | ((with_reducible refine chkA_t ?_ ?_ ?_); (focus simp); (focus (intro h; replace h := nrm h; simp -dsimp -implicitDefEqProofs (maxSteps := 1000000) (disch := first | exact dis | fail) only [h, eqv_slice, elemsO_some, hlen, hsh, i1_ok, rows_nil, go_sem])))
      | ((with_reducible refine awpIf_decT ?_ ?_); (focus omega))
      | ((with_reducible refine awpIf_decF ?_ ?_); (focus omega))
      | ((with_reducible first | refine awpIf_dec ?_ ?_ | refine awpIf_ndec ?_ ?_ | refine awpGd_tdec ?_ ?_ | refine awpGd_fdec ?_ ?_ | refine awpGd_tndec ?_ ?_ | refine awpGd_fndec ?_ ?_) <;> intro h <;> (try simp -dsimp only [h]))
      | ((with_reducible first | refine awpIf_cases ?_ ?_ | refine awpGd_cases ?_ ?_ | refine gO_cases ?_ ?_) <;> intro h <;> replace h := nrm h <;> (try simp -dsimp only [h, Bool.not_true, Bool.not_false]))
      | ((with_reducible apply And.intro); (focus omega))) <;> (try simp -dsimp -implicitDefEqProofs (maxSteps := 1000000) (disch := first | exact dis | fail) only [eqv_slice, elemsO_some, hlen, hsh, i1_ok, rows_nil, go_sem]))
    exact ⟨some [2], rfl, rfl, by simp -dsimp -implicitDefEqProofs (maxSteps := 1000000) (disch := first | exact dis | fail) only [foldA_eq, i1_ren, go_sem]⟩
  | cons y ys =>
    simp only [List.length_cons] at hsh hlen hes
    have hsh' : ((rows i1 (pre ++ x :: y :: ys)).drop (pre.length + 1)).take (ys.length + 1) = [.int .i64 y] :: rows i1 ys := hsh
    simp -dsimp -implicitDefEqProofs (maxSteps := 1000000) (disch := first | exact dis | fail) only [ic_slices_Clone_of_int, eqv_slice, elemsO_some, hlen, hsh', i1_ok, appT_some, i1_len, go_sem]
    repeat' ((first
      | ((with_reducible refine awpIf_asT ?_ ?_); (focus assumption))
      | ((with_reducible refine awpIf_asF ?_ ?_); (focus assumption))
      | ((with_reducible refine awpGd_tT ?_ ?_); (focus assumption))
      | ((with_reducible refine awpGd_tF ?_ ?_); (focus assumption))
      | ((with_reducible refine awpGd_fF ?_ ?_); (focus assumption))
      | ((with_reducible refine awpGd_fT ?_ ?_); (focus assumption))
      | ((with_reducible apply awpGd_nst); (focus (intro h; replace h := nrm h; simp -dsimp -implicitDefEqProofs (maxSteps := 1000000) (disch := first | exact dis | fail) only [h, eqv_slice, elemsO_some, hlen, hsh', i1_ok, appT_some, i1_len, go_sem]; rfl)))
      | ((with_reducible apply awpGd_nsf); (focus (intro h; replace h := nrm h; simp -dsimp -implicitDefEqProofs (maxSteps := 1000000) (disch := first | exact dis | fail) only [h, eqv_slice, elemsO_some, hlen, hsh', i1_ok, appT_some, i1_len, go_sem]; rfl)))
      | ((with_reducible apply gO_t); (focus (intro h; replace h := nrm h; simp -dsimp -implicitDefEqProofs (maxSteps := 1000000) (disch := first | exact dis | fail) only [h, eqv_slice, elemsO_some, hlen, hsh', i1_ok, appT_some, i1_len, go_sem]; rfl)))
      | ((with_reducible apply gO_f); (focus (intro h; replace h := nrm h; simp -dsimp -implicitDefEqProofs (maxSteps := 1000000) (disch := first | exact dis | fail) only [h, eqv_slice, elemsO_some, hlen, hsh', i1_ok, appT_some, i1_len, go_sem]; rfl)))
      | ((with_reducible refine chkA_f ?_ ?_ ?_); (focus simp); (focus (intro h; replace h := nrm h; simp -dsimp -implicitDefEqProofs (maxSteps := 1000000) (disch := first | exact dis | fail) only [h, eqv_slice, elemsO_some, hlen, hsh', i1_ok, appT_some, i1_len, go_sem])))
      | ((with_reducible refine chkA_t ?_ ?_ ?_); (focus simp); (focus (intro h; replace h := nrm h; simp -dsimp -implicitDefEqProofs (maxSteps := 1000000) (disch := first | exact dis | fail) only [h, eqv_slice, elemsO_some, hlen, hsh', i1_ok, appT_some, i1_len, go_sem])))
      | ((with_reducible refine awpIf_decT ?_ ?_); (focus omega))
      | ((with_reducible refine awpIf_decF ?_ ?_); (focus omega))
      | ((with_reducible first | refine awpIf_dec ?_ ?_ | refine awpIf_ndec ?_ ?_ | refine awpGd_tdec ?_ ?_ | refine awpGd_fdec ?_ ?_ | refine awpGd_tndec ?_ ?_ | refine awpGd_fndec ?_ ?_) <;> intro h <;> (try simp -dsimp only [h]))
      | ((with_reducible first | refine awpIf_cases ?_ ?_ | refine awpGd_cases ?_ ?_ | refine gO_cases ?_ ?_) <;> intro h <;> replace h := nrm h <;> (try simp -dsimp only [h, Bool.not_true, Bool.not_false]))
      | ((with_reducible apply And.intro); (focus omega))) <;> (try simp -dsimp -implicitDefEqProofs (maxSteps := 1000000) (disch := first | exact dis | fail) only [eqv_slice, elemsO_some, hlen, hsh', i1_ok, appT_some, i1_len, go_sem]))
    exact ⟨by simp; omega, by omega, some [2], rfl, rfl, by simp -dsimp -implicitDefEqProofs (maxSteps := 1000000) (disch := first | exact dis | fail) only [foldA_eq, i1_cons, i1_ren, go_sem]⟩

theorem i1_shift {pre es : List Int} {x : Int} : ∃ q : List Int, q.length = pre.length + 1 ∧ pre ++ x :: es = q ++ es := ⟨pre ++ [x], by simp, by simp⟩
/-- What Take does, if one has ended. -/
def takeC (cs : List Cl) (i : Int) : List Cl := cs.set i.toNat ⟨0, pk0, 0⟩
theorem Take0_ok (cs : List Cl) (v : AV) (e : Option AO) (puts : Int) (he : ER 2 v e []) :
    ACall Try.prog f_box_Boxes_Take [.ptr 0 0] (bh cs v e puts) fun r A => r = .tup [.agg (.int .i64 0 :: pk0.av ++ [.bool false]), .int .i64 6] ∧ A = bh cs v e puts := by
  refine acallW fol ok_box_Boxes_Take ?_
  have he' := he
  rcases he with ⟨rfl, rfl, _⟩ | ⟨pre, rfl, rfl⟩
  · skip
    simp -dsimp -implicitDefEqProofs (maxSteps := 1000000) (disch := first | exact dis | fail) only [ic_box_Boxes_Take, bh, eqv_ptr, go_sem]
    repeat' ((first
      | ((with_reducible refine awpIf_asT ?_ ?_); (focus assumption))
      | ((with_reducible refine awpIf_asF ?_ ?_); (focus assumption))
      | ((with_reducible refine awpGd_tT ?_ ?_); (focus assumption))
      | ((with_reducible refine awpGd_tF ?_ ?_); (focus assumption))
      | ((with_reducible refine awpGd_fF ?_ ?_); (focus assumption))
      | ((with_reducible refine awpGd_fT ?_ ?_); (focus assumption))
      | ((with_reducible apply awpGd_nst); (focus (intro h; replace h := nrm h; simp -dsimp -implicitDefEqProofs (maxSteps := 1000000) (disch := first | exact dis | fail) only [h, bh, eqv_ptr, go_sem]; rfl)))
      | ((with_reducible apply awpGd_nsf); (focus (intro h; replace h := nrm h; simp -dsimp -implicitDefEqProofs (maxSteps := 1000000) (disch := first | exact dis | fail) only [h, bh, eqv_ptr, go_sem]; rfl)))
      | ((with_reducible apply gO_t); (focus (intro h; replace h := nrm h; simp -dsimp -implicitDefEqProofs (maxSteps := 1000000) (disch := first | exact dis | fail) only [h, bh, eqv_ptr, go_sem]; rfl)))
      | ((with_reducible apply gO_f); (focus (intro h; replace h := nrm h; simp -dsimp -implicitDefEqProofs (maxSteps := 1000000) (disch := first | exact dis | fail) only [h, bh, eqv_ptr, go_sem]; rfl)))
      | ((with_reducible refine chkA_f ?_ ?_ ?_); (focus simp); (focus (intro h; replace h := nrm h; simp -dsimp -implicitDefEqProofs (maxSteps := 1000000) (disch := first | exact dis | fail) only [h, bh, eqv_ptr, go_sem])))
      | ((with_reducible refine chkA_t ?_ ?_ ?_); (focus simp); (focus (intro h; replace h := nrm h; simp -dsimp -implicitDefEqProofs (maxSteps := 1000000) (disch := first | exact dis | fail) only [h, bh, eqv_ptr, go_sem])))
      | ((with_reducible refine awpIf_decT ?_ ?_); (focus omega))
      | ((with_reducible refine awpIf_decF ?_ ?_); (focus omega))
      | ((with_reducible first | refine awpIf_dec ?_ ?_ | refine awpIf_ndec ?_ ?_ | refine awpGd_tdec ?_ ?_ | refine awpGd_fdec ?_ ?_ | refine awpGd_tndec ?_ ?_ | refine awpGd_fndec ?_ ?_) <;> intro h <;> (try simp -dsimp only [h]))
      | ((with_reducible first | refine awpIf_cases ?_ ?_ | refine awpGd_cases ?_ ?_ | refine gO_cases ?_ ?_) <;> intro h <;> replace h := nrm h <;> (try simp -dsimp only [h, Bool.not_true, Bool.not_false]))
      | ((with_reducible apply And.intro); (focus omega))) <;> (try simp -dsimp -implicitDefEqProofs (maxSteps := 1000000) (disch := first | exact dis | fail) only [bh, eqv_ptr, go_sem]))
    exact fin_eq (B := bh cs .nils none puts) rfl (bh_wf he') rfl
  · skip
    simp -dsimp -implicitDefEqProofs (maxSteps := 1000000) (disch := first | exact dis | fail) only [ic_box_Boxes_Take, bh, eqv_ptr, go_sem]
    repeat' ((first
      | ((with_reducible refine awpIf_asT ?_ ?_); (focus assumption))
      | ((with_reducible refine awpIf_asF ?_ ?_); (focus assumption))
      | ((with_reducible refine awpGd_tT ?_ ?_); (focus assumption))
      | ((with_reducible refine awpGd_tF ?_ ?_); (focus assumption))
      | ((with_reducible refine awpGd_fF ?_ ?_); (focus assumption))
      | ((with_reducible refine awpGd_fT ?_ ?_); (focus assumption))
      | ((with_reducible apply awpGd_nst); (focus (intro h; replace h := nrm h; simp -dsimp -implicitDefEqProofs (maxSteps := 1000000) (disch := first | exact dis | fail) only [h, bh, eqv_ptr, go_sem]; rfl)))
      | ((with_reducible apply awpGd_nsf); (focus (intro h; replace h := nrm h; simp -dsimp -implicitDefEqProofs (maxSteps := 1000000) (disch := first | exact dis | fail) only [h, bh, eqv_ptr, go_sem]; rfl)))
      | ((with_reducible apply gO_t); (focus (intro h; replace h := nrm h; simp -dsimp -implicitDefEqProofs (maxSteps := 1000000) (disch := first | exact dis | fail) only [h, bh, eqv_ptr, go_sem]; rfl)))
      | ((with_reducible apply gO_f); (focus (intro h; replace h := nrm h; simp -dsimp -implicitDefEqProofs (maxSteps := 1000000) (disch := first | exact dis | fail) only [h, bh, eqv_ptr, go_sem]; rfl)))
      | ((with_reducible refine chkA_f ?_ ?_ ?_); (focus simp); (focus (intro h; replace h := nrm h; simp -dsimp -implicitDefEqProofs (maxSteps := 1000000) (disch := first | exact dis | fail) only [h, bh, eqv_ptr, go_sem])))
      | ((with_reducible refine chkA_t ?_ ?_ ?_); (focus simp); (focus (intro h; replace h := nrm h; simp -dsimp -implicitDefEqProofs (maxSteps := 1000000) (disch := first | exact dis | fail) only [h, bh, eqv_ptr, go_sem])))
      | ((with_reducible refine awpIf_decT ?_ ?_); (focus omega))
      | ((with_reducible refine awpIf_decF ?_ ?_); (focus omega))
      | ((with_reducible first | refine awpIf_dec ?_ ?_ | refine awpIf_ndec ?_ ?_ | refine awpGd_tdec ?_ ?_ | refine awpGd_fdec ?_ ?_ | refine awpGd_tndec ?_ ?_ | refine awpGd_fndec ?_ ?_) <;> intro h <;> (try simp -dsimp only [h]))
      | ((with_reducible first | refine awpIf_cases ?_ ?_ | refine awpGd_cases ?_ ?_ | refine gO_cases ?_ ?_) <;> intro h <;> replace h := nrm h <;> (try simp -dsimp only [h, Bool.not_true, Bool.not_false]))
      | ((with_reducible apply And.intro); (focus omega))) <;> (try simp -dsimp -implicitDefEqProofs (maxSteps := 1000000) (disch := first | exact dis | fail) only [bh, eqv_ptr, go_sem]))
    exact fin_eq (B := bh cs (.sl 2 1 pre.length 0 false) (some (.arr (rows i1 pre))) puts) rfl (bh_wf (es := []) (.inr ⟨pre, rfl, by rw [List.append_nil]⟩)) rfl
theorem Take1_ok (cs : List Cl) (v : AV) (e : Option AO) (es : List Int) (x puts : Int) (c : Cl) (hn : cs.length ≤ 1000) (hes : es.length ≤ 1000000) (hx0 : 0 ≤ x) (hx : cs[x.toNat]? = some c) (he : ER 2 v e (x :: es)) :
    ACall Try.prog f_box_Boxes_Take [.ptr 0 0] (bh cs v e puts) fun r A => r = .tup [.agg (.int .i64 x :: c.pk.av ++ [.bool (decide (c.st = 2))]), .int .i64 0] ∧
      ∃ d, (∀ g, Option.map (AO.ren g) d = d) ∧ A = [some (.cells [.sl 1 9 0 cs.length true, .sl 3 1 0 es.length false, .int .i64 puts]), some (.arr (rows cav (takeC cs x))), d, some (.arr (rows i1 es))] := by
  refine acallW fol ok_box_Boxes_Take ?_
  obtain ⟨k, rfl⟩ : ∃ k : Nat, x = k := ⟨x.toNat, by omega⟩
  rw [Int.toNat_natCast] at hx
  have hk : k < cs.length := (List.getElem?_eq_some_iff.1 hx).1
  rcases he with ⟨_, _, h⟩ | ⟨pre, rfl, rfl⟩
  · cases h
  · have h0 : (rows i1 (pre ++ (k : Int) :: es))[pre.length]? = some [.int .i64 k] := by simp [rows, i1]
    have hne : ¬ ((es.length : Int) + 1 = 0) := by omega
    simp -dsimp -implicitDefEqProofs (maxSteps := 1000000) (disch := first | exact dis | fail) only [ic_box_Boxes_Take, bh, eqv_ptr, List.length_cons, hne, h0, slc_lo, hx, rows_get (f := cav), cav_eq, cav_set, Int.toNat_zero, Int.toNat_one, Int.toNat_natCast, go_sem]
    repeat' ((first
      | (refine (Clone_ok pre es k hes).at' [2] (by simp) rfl ⟨congrArg (fun x => some (some x)) i1_ren.symm, trivial⟩ rfl ?_; (rintro r A ⟨rfl, rfl⟩))
      | ((with_reducible refine awpIf_asT ?_ ?_); (focus assumption))
      | ((with_reducible refine awpIf_asF ?_ ?_); (focus assumption))
      | ((with_reducible refine awpGd_tT ?_ ?_); (focus assumption))
      | ((with_reducible refine awpGd_tF ?_ ?_); (focus assumption))
      | ((with_reducible refine awpGd_fF ?_ ?_); (focus assumption))
      | ((with_reducible refine awpGd_fT ?_ ?_); (focus assumption))
      | ((with_reducible apply awpGd_nst); (focus (intro h; replace h := nrm h; simp -dsimp -implicitDefEqProofs (maxSteps := 1000000) (disch := first | exact dis | fail) only [h, bh, eqv_ptr, List.length_cons, hne, h0, slc_lo, hx, rows_get (f := cav), cav_eq, cav_set, Int.toNat_zero, Int.toNat_one, Int.toNat_natCast, go_sem]; rfl)))
      | ((with_reducible apply awpGd_nsf); (focus (intro h; replace h := nrm h; simp -dsimp -implicitDefEqProofs (maxSteps := 1000000) (disch := first | exact dis | fail) only [h, bh, eqv_ptr, List.length_cons, hne, h0, slc_lo, hx, rows_get (f := cav), cav_eq, cav_set, Int.toNat_zero, Int.toNat_one, Int.toNat_natCast, go_sem]; rfl)))
      | ((with_reducible apply gO_t); (focus (intro h; replace h := nrm h; simp -dsimp -implicitDefEqProofs (maxSteps := 1000000) (disch := first | exact dis | fail) only [h, bh, eqv_ptr, List.length_cons, hne, h0, slc_lo, hx, rows_get (f := cav), cav_eq, cav_set, Int.toNat_zero, Int.toNat_one, Int.toNat_natCast, go_sem]; rfl)))
      | ((with_reducible apply gO_f); (focus (intro h; replace h := nrm h; simp -dsimp -implicitDefEqProofs (maxSteps := 1000000) (disch := first | exact dis | fail) only [h, bh, eqv_ptr, List.length_cons, hne, h0, slc_lo, hx, rows_get (f := cav), cav_eq, cav_set, Int.toNat_zero, Int.toNat_one, Int.toNat_natCast, go_sem]; rfl)))
      | ((with_reducible refine chkA_f ?_ ?_ ?_); (focus simp); (focus (intro h; replace h := nrm h; simp -dsimp -implicitDefEqProofs (maxSteps := 1000000) (disch := first | exact dis | fail) only [h, bh, eqv_ptr, List.length_cons, hne, h0, slc_lo, hx, rows_get (f := cav), cav_eq, cav_set, Int.toNat_zero, Int.toNat_one, Int.toNat_natCast, go_sem])))
      | ((with_reducible refine chkA_t ?_ ?_ ?_); (focus simp); (focus (intro h; replace h := nrm h; simp -dsimp -implicitDefEqProofs (maxSteps := 1000000) (disch := first | exact dis | fail) only [h, bh, eqv_ptr, List.length_cons, hne, h0, slc_lo, hx, rows_get (f := cav), cav_eq, cav_set, Int.toNat_zero, Int.toNat_one, Int.toNat_natCast, go_sem])))
      | ((with_reducible refine awpIf_decT ?_ ?_); (focus omega))
      | ((with_reducible refine awpIf_decF ?_ ?_); (focus omega))
      | ((with_reducible first | refine awpIf_dec ?_ ?_ | refine awpIf_ndec ?_ ?_ | refine awpGd_tdec ?_ ?_ | refine awpGd_fdec ?_ ?_ | refine awpGd_tndec ?_ ?_ | refine awpGd_fndec ?_ ?_) <;> intro h <;> (try simp -dsimp only [h]))
      | ((with_reducible first | refine awpIf_cases ?_ ?_ | refine awpGd_cases ?_ ?_ | refine gO_cases ?_ ?_) <;> intro h <;> replace h := nrm h <;> (try simp -dsimp only [h, Bool.not_true, Bool.not_false]))
      | ((with_reducible apply And.intro); (focus omega))) <;> (try simp -dsimp -implicitDefEqProofs (maxSteps := 1000000) (disch := first | exact dis | fail) only [bh, eqv_ptr, List.length_cons, hne, h0, slc_lo, hx, rows_get (f := cav), cav_eq, cav_set, Int.toNat_zero, Int.toNat_one, Int.toNat_natCast, go_sem]))
    exact ⟨some [4], rfl, rfl, some (.arr (rows i1 (pre ++ (k : Int) :: es))), fun g => congrArg some i1_ren, by simp -dsimp -implicitDefEqProofs (maxSteps := 1000000) (disch := first | exact dis | fail) only [foldA_eq, cav_ren, i1_ren, takeC, pk0, Int.toNat_natCast, go_sem]⟩
end Go.Proofs.Ytkkccabchhnebaa
