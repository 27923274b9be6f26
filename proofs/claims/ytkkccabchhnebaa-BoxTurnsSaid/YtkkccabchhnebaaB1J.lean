/- box and ref13: New, States, Free; Ints; few. Conditions: none. -/
import Derived.Test.YtkkccabchhnebaaB1I
namespace Go.Proofs.Ytkkccabchhnebaa
open Go.SB
attribute [local irreducible] AW OPS ORD
set_option maxRecDepth 100000
set_option maxHeartbeats 4000000
set_option linter.unusedSimpArgs false
set_option linter.unusedVariables false

def manyN (m : Int) : Nat := (min (max m 1) 1000).toNat
theorem manyN_le (m : Int) : 1 ≤ manyN m ∧ manyN m ≤ 1000 := by unfold manyN; omega
def cl0 : Cl := ⟨0, pk0, 0⟩
theorem New_ok (m : Int) : ACall Try.prog f_box_New [.int .i64 m] [] fun r A => r = .ptr 0 0 ∧ A = [some (.cells [.sl 1 9 0 (manyN m) true, .nils, .int .i64 0]), some (.arr (rows cav (List.replicate (manyN m) cl0)))] := by
  refine acallW fol ok_box_New ?_
  have hm := manyN_le m
  have he : min (max m 1) 1000 = (manyN m : Int) := by unfold manyN; omega
  have hr : List.replicate (manyN m) [AV.int .i64 0, .int .i64 0, .int .i64 0, .int .i64 0, .str [], .int .i64 0, .int .i64 0, .bool false, .int .i64 0] = rows cav (List.replicate (manyN m) cl0) := rows_replicate (f := cav) (x := cl0)
  simp -dsimp -implicitDefEqProofs (maxSteps := 1000000) (disch := first | exact dis | fail) only [ic_box_New, he, Int.toNat_natCast, hr, List.isEmpty_cons, go_sem]
  repeat' ((first
    | ((with_reducible refine awpIf_asT ?_ ?_); (focus assumption))
    | ((with_reducible refine awpIf_asF ?_ ?_); (focus assumption))
    | ((with_reducible refine awpGd_tT ?_ ?_); (focus assumption))
    | ((with_reducible refine awpGd_tF ?_ ?_); (focus assumption))
    | ((with_reducible refine awpGd_fF ?_ ?_); (focus assumption))
    | ((with_reducible refine awpGd_fT ?_ ?_); (focus assumption))
    | ((with_reducible apply awpGd_nst); (focus (intro h; replace h := nrm h; simp -dsimp -implicitDefEqProofs (maxSteps := 1000000) (disch := first | exact dis | fail) only [h, he, Int.toNat_natCast, hr, List.isEmpty_cons, go_sem]; rfl)))
    | ((with_reducible apply awpGd_nsf); (focus (intro h; replace h := nrm h; simp -dsimp -implicitDefEqProofs (maxSteps := 1000000) (disch := first | exact dis | fail) only [h, he, Int.toNat_natCast, hr, List.isEmpty_cons, go_sem]; rfl)))
    | ((with_reducible apply gO_t); (focus (intro h; replace h := nrm h; simp -dsimp -implicitDefEqProofs (maxSteps := 1000000) (disch := first | exact dis | fail) only [h, he, Int.toNat_natCast, hr, List.isEmpty_cons, go_sem]; rfl)))
    | ((with_reducible apply gO_f); (focus (intro h; replace h := nrm h; simp -dsimp -implicitDefEqProofs (maxSteps := 1000000) (disch := first | exact dis | fail) only [h, he, Int.toNat_natCast, hr, List.isEmpty_cons, go_sem]; rfl)))
    | ((with_reducible refine chkA_f ?_ ?_ ?_); (focus simp); (focus (intro h; replace h := nrm h; simp -dsimp -implicitDefEqProofs (maxSteps := 1000000) (disch := first | exact dis | fail) only [h, he, Int.toNat_natCast, hr, List.isEmpty_cons, go_sem])))
    | ((with_reducible refine chkA_t ?_ ?_ ?_); (focus simp); (focus (intro h; replace h := nrm h; simp -dsimp -implicitDefEqProofs (maxSteps := 1000000) (disch := first | exact dis | fail) only [h, he, Int.toNat_natCast, hr, List.isEmpty_cons, go_sem])))
    | ((with_reducible refine awpIf_decT ?_ ?_); (focus omega))
    | ((with_reducible refine awpIf_decF ?_ ?_); (focus omega))
    | ((with_reducible first | refine awpIf_dec ?_ ?_ | refine awpIf_ndec ?_ ?_ | refine awpGd_tdec ?_ ?_ | refine awpGd_fdec ?_ ?_ | refine awpGd_tndec ?_ ?_ | refine awpGd_fndec ?_ ?_) <;> intro h <;> (try simp -dsimp only [h]))
    | ((with_reducible first | refine awpIf_cases ?_ ?_ | refine awpGd_cases ?_ ?_ | refine gO_cases ?_ ?_) <;> intro h <;> replace h := nrm h <;> (try simp -dsimp only [h, Bool.not_true, Bool.not_false]))
    | ((with_reducible apply And.intro); (focus omega))) <;> (try simp -dsimp -implicitDefEqProofs (maxSteps := 1000000) (disch := first | exact dis | fail) only [he, Int.toNat_natCast, hr, List.isEmpty_cons, go_sem]))
  exact ⟨some [1, 0], rfl, rfl, by simp -dsimp -implicitDefEqProofs (maxSteps := 1000000) (disch := first | exact dis | fail) only [foldA_eq, cav_ren, go_sem]⟩
theorem RNew_ok (m : Int) : ACall Try.prog f_ref13_New [.int .i64 m] [] fun r A => r = .ptr 0 0 ∧ A = [some (.cells [.sl 1 1 0 (manyN m) true, .sl 2 7 0 (manyN m) true, .nils, .nils]), some (.arr (rows si (List.replicate (manyN m) cl0))), some (.arr (rows sp (List.replicate (manyN m) cl0)))] := by
  refine acallW fol ok_ref13_New ?_
  have hm := manyN_le m
  have hr1 : ∀ n, List.replicate n [AV.int .i64 0] = rows si (List.replicate n cl0) := fun n => rows_replicate (f := si) (x := cl0)
  have hr2 : ∀ n, List.replicate n [AV.int .i64 0, .int .i64 0, .int .i64 0, .str [], .int .i64 0, .int .i64 0, .bool false] = rows sp (List.replicate n cl0) := fun n => rows_replicate (f := sp) (x := cl0)
  by_cases h1 : m < 1
  · have he : manyN m = 1 := by unfold manyN; omega
    simp -dsimp -implicitDefEqProofs (maxSteps := 1000000) (disch := first | exact dis | fail) only [ic_ref13_New, h1, hr1, hr2, Int.toNat_one, go_sem]
    repeat' ((first
      | ((with_reducible refine awpIf_asT ?_ ?_); (focus assumption))
      | ((with_reducible refine awpIf_asF ?_ ?_); (focus assumption))
      | ((with_reducible refine awpGd_tT ?_ ?_); (focus assumption))
      | ((with_reducible refine awpGd_tF ?_ ?_); (focus assumption))
      | ((with_reducible refine awpGd_fF ?_ ?_); (focus assumption))
      | ((with_reducible refine awpGd_fT ?_ ?_); (focus assumption))
      | ((with_reducible apply awpGd_nst); (focus (intro h; replace h := nrm h; simp -dsimp -implicitDefEqProofs (maxSteps := 1000000) (disch := first | exact dis | fail) only [h, h1, hr1, hr2, Int.toNat_one, go_sem]; rfl)))
      | ((with_reducible apply awpGd_nsf); (focus (intro h; replace h := nrm h; simp -dsimp -implicitDefEqProofs (maxSteps := 1000000) (disch := first | exact dis | fail) only [h, h1, hr1, hr2, Int.toNat_one, go_sem]; rfl)))
      | ((with_reducible apply gO_t); (focus (intro h; replace h := nrm h; simp -dsimp -implicitDefEqProofs (maxSteps := 1000000) (disch := first | exact dis | fail) only [h, h1, hr1, hr2, Int.toNat_one, go_sem]; rfl)))
      | ((with_reducible apply gO_f); (focus (intro h; replace h := nrm h; simp -dsimp -implicitDefEqProofs (maxSteps := 1000000) (disch := first | exact dis | fail) only [h, h1, hr1, hr2, Int.toNat_one, go_sem]; rfl)))
      | ((with_reducible refine chkA_f ?_ ?_ ?_); (focus simp); (focus (intro h; replace h := nrm h; simp -dsimp -implicitDefEqProofs (maxSteps := 1000000) (disch := first | exact dis | fail) only [h, h1, hr1, hr2, Int.toNat_one, go_sem])))
      | ((with_reducible refine chkA_t ?_ ?_ ?_); (focus simp); (focus (intro h; replace h := nrm h; simp -dsimp -implicitDefEqProofs (maxSteps := 1000000) (disch := first | exact dis | fail) only [h, h1, hr1, hr2, Int.toNat_one, go_sem])))
      | ((with_reducible refine awpIf_decT ?_ ?_); (focus omega))
      | ((with_reducible refine awpIf_decF ?_ ?_); (focus omega))
      | ((with_reducible first | refine awpIf_dec ?_ ?_ | refine awpIf_ndec ?_ ?_ | refine awpGd_tdec ?_ ?_ | refine awpGd_fdec ?_ ?_ | refine awpGd_tndec ?_ ?_ | refine awpGd_fndec ?_ ?_) <;> intro h <;> (try simp -dsimp only [h]))
      | ((with_reducible first | refine awpIf_cases ?_ ?_ | refine awpGd_cases ?_ ?_ | refine gO_cases ?_ ?_) <;> intro h <;> replace h := nrm h <;> (try simp -dsimp only [h, Bool.not_true, Bool.not_false]))
      | ((with_reducible apply And.intro); (focus omega))) <;> (try simp -dsimp -implicitDefEqProofs (maxSteps := 1000000) (disch := first | exact dis | fail) only [h1, hr1, hr2, Int.toNat_one, go_sem]))
    exact ⟨some [2, 0, 1], rfl, rfl, by rw [he]; simp -dsimp -implicitDefEqProofs (maxSteps := 1000000) (disch := first | exact dis | fail) only [foldA_eq, hr1, hr2, si_ren, sp_ren, Int.toNat_one, go_sem]⟩
  · by_cases h2 : 1000 < m
    · have he : manyN m = 1000 := by unfold manyN; omega
      have ht : Int.toNat 1000 = 1000 := rfl
      simp -dsimp -implicitDefEqProofs (maxSteps := 1000000) (disch := first | exact dis | fail) only [ic_ref13_New, h1, h2, hr1, hr2, ht, go_sem]
      repeat' ((first
        | ((with_reducible refine awpIf_asT ?_ ?_); (focus assumption))
        | ((with_reducible refine awpIf_asF ?_ ?_); (focus assumption))
        | ((with_reducible refine awpGd_tT ?_ ?_); (focus assumption))
        | ((with_reducible refine awpGd_tF ?_ ?_); (focus assumption))
        | ((with_reducible refine awpGd_fF ?_ ?_); (focus assumption))
        | ((with_reducible refine awpGd_fT ?_ ?_); (focus assumption))
        | ((with_reducible apply awpGd_nst); (focus (intro h; replace h := nrm h; simp -dsimp -implicitDefEqProofs (maxSteps := 1000000) (disch := first | exact dis | fail) only [h, h1, h2, hr1, hr2, ht, go_sem]; rfl)))
        | ((with_reducible apply awpGd_nsf); (focus (intro h; replace h := nrm h; simp -dsimp -implicitDefEqProofs (maxSteps := 1000000) (disch := first | exact dis | fail) only [h, h1, h2, hr1, hr2, ht, go_sem]; rfl)))
        | ((with_reducible apply gO_t); (focus (intro h; replace h := nrm h; simp -dsimp -implicitDefEqProofs (maxSteps := 1000000) (disch := first | exact dis | fail) only [h, h1, h2, hr1, hr2, ht, go_sem]; rfl)))
        | ((with_reducible apply gO_f); (focus (intro h; replace h := nrm h; simp -dsimp -implicitDefEqProofs (maxSteps := 1000000) (disch := first | exact dis | fail) only [h, h1, h2, hr1, hr2, ht, go_sem]; rfl)))
        | ((with_reducible refine chkA_f ?_ ?_ ?_); (focus simp); (focus (intro h; replace h := nrm h; simp -dsimp -implicitDefEqProofs (maxSteps := 1000000) (disch := first | exact dis | fail) only [h, h1, h2, hr1, hr2, ht, go_sem])))
        | ((with_reducible refine chkA_t ?_ ?_ ?_); (focus simp); (focus (intro h; replace h := nrm h; simp -dsimp -implicitDefEqProofs (maxSteps := 1000000) (disch := first | exact dis | fail) only [h, h1, h2, hr1, hr2, ht, go_sem])))
        | ((with_reducible refine awpIf_decT ?_ ?_); (focus omega))
        | ((with_reducible refine awpIf_decF ?_ ?_); (focus omega))
        | ((with_reducible first | refine awpIf_dec ?_ ?_ | refine awpIf_ndec ?_ ?_ | refine awpGd_tdec ?_ ?_ | refine awpGd_fdec ?_ ?_ | refine awpGd_tndec ?_ ?_ | refine awpGd_fndec ?_ ?_) <;> intro h <;> (try simp -dsimp only [h]))
        | ((with_reducible first | refine awpIf_cases ?_ ?_ | refine awpGd_cases ?_ ?_ | refine gO_cases ?_ ?_) <;> intro h <;> replace h := nrm h <;> (try simp -dsimp only [h, Bool.not_true, Bool.not_false]))
        | ((with_reducible apply And.intro); (focus omega))) <;> (try simp -dsimp -implicitDefEqProofs (maxSteps := 1000000) (disch := first | exact dis | fail) only [h1, h2, hr1, hr2, ht, go_sem]))
      exact ⟨some [2, 0, 1], rfl, rfl, by rw [he]; simp -dsimp -implicitDefEqProofs (maxSteps := 1000000) (disch := first | exact dis | fail) only [foldA_eq, si_ren, sp_ren, ht, go_sem]⟩
    · obtain ⟨n, hn⟩ : ∃ n, n = manyN m := ⟨_, rfl⟩
      have he : m = (n : Int) := by rw [hn]; unfold manyN; omega
      rw [← hn]
      clear hn
      subst he
      simp -dsimp -implicitDefEqProofs (maxSteps := 1000000) (disch := first | exact dis | fail) only [ic_ref13_New, h1, h2, hr1, hr2, Int.toNat_natCast, go_sem]
      repeat' ((first
        | ((with_reducible refine awpIf_asT ?_ ?_); (focus assumption))
        | ((with_reducible refine awpIf_asF ?_ ?_); (focus assumption))
        | ((with_reducible refine awpGd_tT ?_ ?_); (focus assumption))
        | ((with_reducible refine awpGd_tF ?_ ?_); (focus assumption))
        | ((with_reducible refine awpGd_fF ?_ ?_); (focus assumption))
        | ((with_reducible refine awpGd_fT ?_ ?_); (focus assumption))
        | ((with_reducible apply awpGd_nst); (focus (intro h; replace h := nrm h; simp -dsimp -implicitDefEqProofs (maxSteps := 1000000) (disch := first | exact dis | fail) only [h, h1, h2, hr1, hr2, Int.toNat_natCast, go_sem]; rfl)))
        | ((with_reducible apply awpGd_nsf); (focus (intro h; replace h := nrm h; simp -dsimp -implicitDefEqProofs (maxSteps := 1000000) (disch := first | exact dis | fail) only [h, h1, h2, hr1, hr2, Int.toNat_natCast, go_sem]; rfl)))
        | ((with_reducible apply gO_t); (focus (intro h; replace h := nrm h; simp -dsimp -implicitDefEqProofs (maxSteps := 1000000) (disch := first | exact dis | fail) only [h, h1, h2, hr1, hr2, Int.toNat_natCast, go_sem]; rfl)))
        | ((with_reducible apply gO_f); (focus (intro h; replace h := nrm h; simp -dsimp -implicitDefEqProofs (maxSteps := 1000000) (disch := first | exact dis | fail) only [h, h1, h2, hr1, hr2, Int.toNat_natCast, go_sem]; rfl)))
        | ((with_reducible refine chkA_f ?_ ?_ ?_); (focus simp); (focus (intro h; replace h := nrm h; simp -dsimp -implicitDefEqProofs (maxSteps := 1000000) (disch := first | exact dis | fail) only [h, h1, h2, hr1, hr2, Int.toNat_natCast, go_sem])))
        | ((with_reducible refine chkA_t ?_ ?_ ?_); (focus simp); (focus (intro h; replace h := nrm h; simp -dsimp -implicitDefEqProofs (maxSteps := 1000000) (disch := first | exact dis | fail) only [h, h1, h2, hr1, hr2, Int.toNat_natCast, go_sem])))
        | ((with_reducible refine awpIf_decT ?_ ?_); (focus omega))
        | ((with_reducible refine awpIf_decF ?_ ?_); (focus omega))
        | ((with_reducible first | refine awpIf_dec ?_ ?_ | refine awpIf_ndec ?_ ?_ | refine awpGd_tdec ?_ ?_ | refine awpGd_fdec ?_ ?_ | refine awpGd_tndec ?_ ?_ | refine awpGd_fndec ?_ ?_) <;> intro h <;> (try simp -dsimp only [h]))
        | ((with_reducible first | refine awpIf_cases ?_ ?_ | refine awpGd_cases ?_ ?_ | refine gO_cases ?_ ?_) <;> intro h <;> replace h := nrm h <;> (try simp -dsimp only [h, Bool.not_true, Bool.not_false]))
        | ((with_reducible apply And.intro); (focus omega))) <;> (try simp -dsimp -implicitDefEqProofs (maxSteps := 1000000) (disch := first | exact dis | fail) only [h1, h2, hr1, hr2, Int.toNat_natCast, go_sem]))
      exact ⟨some [2, 0, 1], rfl, rfl, by simp -dsimp -implicitDefEqProofs (maxSteps := 1000000) (disch := first | exact dis | fail) only [foldA_eq, si_ren, sp_ren, go_sem]⟩

def freeCnt (cs : List Cl) : Nat → Int
  | 0 => 0
  | i + 1 => freeCnt cs i + (match cs[i]? with | some c => if c.st = 0 then 1 else 0 | none => 0)
theorem freeCnt_le (cs : List Cl) : ∀ i, 0 ≤ freeCnt cs i ∧ freeCnt cs i ≤ i
  | 0 => by simp [freeCnt]
  | i + 1 => by
    obtain ⟨h1, h2⟩ := freeCnt_le cs i
    unfold freeCnt
    split
    · split <;> omega
    · omega
theorem RFree_l (cs : List Cl) (ov : AV) (oe : Option AO) (ev : AV) (ee : Option AO) (hn : 1 ≤ cs.length ∧ cs.length ≤ 1000) (Q : IExit → List AV → AHeap → Prop)
    (hQ : Q (.exit 0) ([.ptr 0 0, .any, .any, .int .i64 (freeCnt cs cs.length), .int .i64 cs.length] ++ List.replicate 20 .any) (rh cs ov oe ev ee)) :
    AW Try.prog 5 ic_ref13_Boxes_Free_l1 ([.ptr 0 0, .any, .any, .int .i64 0, .int .i64 0] ++ List.replicate 20 .any) (rh cs ov oe ev ee) Q := by
  refine aw_loop cs.length (fun i ρ A => ρ = [.ptr 0 0, .any, .any, .int .i64 (freeCnt cs i), .int .i64 i] ++ List.replicate 20 .any ∧ A = rh cs ov oe ev ee) ⟨none, rfl, by simp -dsimp -implicitDefEqProofs (maxSteps := 1000000) (disch := first | exact dis | fail) only [foldRn, foldAn, rh, freeCnt, go_sem]⟩ ?_
  rintro i ρ A hi ⟨rfl, rfl⟩
  obtain ⟨hf1, hf2⟩ := freeCnt_le cs i
  by_cases hlt : i < cs.length
  · have hx : cs[i]? = some cs[i] := List.getElem?_eq_getElem hlt
    generalize cs[i] = c at hx
    by_cases hst : c.st = 0
    · have hnx : freeCnt cs (i + 1) = freeCnt cs i + 1 := by simp only [freeCnt, hx, if_pos hst]
      simp -dsimp -implicitDefEqProofs (maxSteps := 1000000) (disch := first | exact dis | fail) only [ic_ref13_Boxes_Free_b1, rh, rows_get, hx, Int.toNat_natCast, si_eq, hst, go_sem]
      repeat' ((first
        | ((with_reducible refine awpIf_asT ?_ ?_); (focus assumption))
        | ((with_reducible refine awpIf_asF ?_ ?_); (focus assumption))
        | ((with_reducible refine awpGd_tT ?_ ?_); (focus assumption))
        | ((with_reducible refine awpGd_tF ?_ ?_); (focus assumption))
        | ((with_reducible refine awpGd_fF ?_ ?_); (focus assumption))
        | ((with_reducible refine awpGd_fT ?_ ?_); (focus assumption))
        | ((with_reducible apply awpGd_nst); (focus (intro h; replace h := nrm h; simp -dsimp -implicitDefEqProofs (maxSteps := 1000000) (disch := first | exact dis | fail) only [h, rh, rows_get, hx, Int.toNat_natCast, si_eq, hst, go_sem]; rfl)))
        | ((with_reducible apply awpGd_nsf); (focus (intro h; replace h := nrm h; simp -dsimp -implicitDefEqProofs (maxSteps := 1000000) (disch := first | exact dis | fail) only [h, rh, rows_get, hx, Int.toNat_natCast, si_eq, hst, go_sem]; rfl)))
        | ((with_reducible apply gO_t); (focus (intro h; replace h := nrm h; simp -dsimp -implicitDefEqProofs (maxSteps := 1000000) (disch := first | exact dis | fail) only [h, rh, rows_get, hx, Int.toNat_natCast, si_eq, hst, go_sem]; rfl)))
        | ((with_reducible apply gO_f); (focus (intro h; replace h := nrm h; simp -dsimp -implicitDefEqProofs (maxSteps := 1000000) (disch := first | exact dis | fail) only [h, rh, rows_get, hx, Int.toNat_natCast, si_eq, hst, go_sem]; rfl)))
        | ((with_reducible refine chkA_f ?_ ?_ ?_); (focus simp); (focus (intro h; replace h := nrm h; simp -dsimp -implicitDefEqProofs (maxSteps := 1000000) (disch := first | exact dis | fail) only [h, rh, rows_get, hx, Int.toNat_natCast, si_eq, hst, go_sem])))
        | ((with_reducible refine chkA_t ?_ ?_ ?_); (focus simp); (focus (intro h; replace h := nrm h; simp -dsimp -implicitDefEqProofs (maxSteps := 1000000) (disch := first | exact dis | fail) only [h, rh, rows_get, hx, Int.toNat_natCast, si_eq, hst, go_sem])))
        | ((with_reducible refine awpIf_decT ?_ ?_); (focus omega))
        | ((with_reducible refine awpIf_decF ?_ ?_); (focus omega))
        | ((with_reducible first | refine awpIf_dec ?_ ?_ | refine awpIf_ndec ?_ ?_ | refine awpGd_tdec ?_ ?_ | refine awpGd_fdec ?_ ?_ | refine awpGd_tndec ?_ ?_ | refine awpGd_fndec ?_ ?_) <;> intro h <;> (try simp -dsimp only [h]))
        | ((with_reducible first | refine awpIf_cases ?_ ?_ | refine awpGd_cases ?_ ?_ | refine gO_cases ?_ ?_) <;> intro h <;> replace h := nrm h <;> (try simp -dsimp only [h, Bool.not_true, Bool.not_false]))
        | ((with_reducible apply And.intro); (focus omega))) <;> (try simp -dsimp -implicitDefEqProofs (maxSteps := 1000000) (disch := first | exact dis | fail) only [rh, rows_get, hx, Int.toNat_natCast, si_eq, hst, go_sem]))
      exact ⟨none, rfl, by rw [hnx]; simp -dsimp -implicitDefEqProofs (maxSteps := 1000000) (disch := first | exact dis | fail) only [foldRn, Int.natCast_add, go_sem], rfl⟩
    · have hnx : freeCnt cs (i + 1) = freeCnt cs i := by simp only [freeCnt, hx, if_neg hst, Int.add_zero]
      simp -dsimp -implicitDefEqProofs (maxSteps := 1000000) (disch := first | exact dis | fail) only [ic_ref13_Boxes_Free_b1, rh, rows_get, hx, Int.toNat_natCast, si_eq, hst, go_sem]
      repeat' ((first
        | ((with_reducible refine awpIf_asT ?_ ?_); (focus assumption))
        | ((with_reducible refine awpIf_asF ?_ ?_); (focus assumption))
        | ((with_reducible refine awpGd_tT ?_ ?_); (focus assumption))
        | ((with_reducible refine awpGd_tF ?_ ?_); (focus assumption))
        | ((with_reducible refine awpGd_fF ?_ ?_); (focus assumption))
        | ((with_reducible refine awpGd_fT ?_ ?_); (focus assumption))
        | ((with_reducible apply awpGd_nst); (focus (intro h; replace h := nrm h; simp -dsimp -implicitDefEqProofs (maxSteps := 1000000) (disch := first | exact dis | fail) only [h, rh, rows_get, hx, Int.toNat_natCast, si_eq, hst, go_sem]; rfl)))
        | ((with_reducible apply awpGd_nsf); (focus (intro h; replace h := nrm h; simp -dsimp -implicitDefEqProofs (maxSteps := 1000000) (disch := first | exact dis | fail) only [h, rh, rows_get, hx, Int.toNat_natCast, si_eq, hst, go_sem]; rfl)))
        | ((with_reducible apply gO_t); (focus (intro h; replace h := nrm h; simp -dsimp -implicitDefEqProofs (maxSteps := 1000000) (disch := first | exact dis | fail) only [h, rh, rows_get, hx, Int.toNat_natCast, si_eq, hst, go_sem]; rfl)))
        | ((with_reducible apply gO_f); (focus (intro h; replace h := nrm h; simp -dsimp -implicitDefEqProofs (maxSteps := 1000000) (disch := first | exact dis | fail) only [h, rh, rows_get, hx, Int.toNat_natCast, si_eq, hst, go_sem]; rfl)))
        | ((with_reducible refine chkA_f ?_ ?_ ?_); (focus simp); (focus (intro h; replace h := nrm h; simp -dsimp -implicitDefEqProofs (maxSteps := 1000000) (disch := first | exact dis | fail) only [h, rh, rows_get, hx, Int.toNat_natCast, si_eq, hst, go_sem])))
        | ((with_reducible refine chkA_t ?_ ?_ ?_); (focus simp); (focus (intro h; replace h := nrm h; simp -dsimp -implicitDefEqProofs (maxSteps := 1000000) (disch := first | exact dis | fail) only [h, rh, rows_get, hx, Int.toNat_natCast, si_eq, hst, go_sem])))
        | ((with_reducible refine awpIf_decT ?_ ?_); (focus omega))
        | ((with_reducible refine awpIf_decF ?_ ?_); (focus omega))
        | ((with_reducible first | refine awpIf_dec ?_ ?_ | refine awpIf_ndec ?_ ?_ | refine awpGd_tdec ?_ ?_ | refine awpGd_fdec ?_ ?_ | refine awpGd_tndec ?_ ?_ | refine awpGd_fndec ?_ ?_) <;> intro h <;> (try simp -dsimp only [h]))
        | ((with_reducible first | refine awpIf_cases ?_ ?_ | refine awpGd_cases ?_ ?_ | refine gO_cases ?_ ?_) <;> intro h <;> replace h := nrm h <;> (try simp -dsimp only [h, Bool.not_true, Bool.not_false]))
        | ((with_reducible apply And.intro); (focus omega))) <;> (try simp -dsimp -implicitDefEqProofs (maxSteps := 1000000) (disch := first | exact dis | fail) only [rh, rows_get, hx, Int.toNat_natCast, si_eq, hst, go_sem]))
      exact ⟨none, rfl, by rw [hnx]; simp -dsimp -implicitDefEqProofs (maxSteps := 1000000) (disch := first | exact dis | fail) only [foldRn, Int.natCast_add, go_sem], rfl⟩
  · obtain rfl : i = cs.length := by omega
    simp -dsimp -implicitDefEqProofs (maxSteps := 1000000) (disch := first | exact dis | fail) only [ic_ref13_Boxes_Free_b1, rh, go_sem]
    repeat' ((first
      | ((with_reducible refine awpIf_asT ?_ ?_); (focus assumption))
      | ((with_reducible refine awpIf_asF ?_ ?_); (focus assumption))
      | ((with_reducible refine awpGd_tT ?_ ?_); (focus assumption))
      | ((with_reducible refine awpGd_tF ?_ ?_); (focus assumption))
      | ((with_reducible refine awpGd_fF ?_ ?_); (focus assumption))
      | ((with_reducible refine awpGd_fT ?_ ?_); (focus assumption))
      | ((with_reducible apply awpGd_nst); (focus (intro h; replace h := nrm h; simp -dsimp -implicitDefEqProofs (maxSteps := 1000000) (disch := first | exact dis | fail) only [h, rh, go_sem]; rfl)))
      | ((with_reducible apply awpGd_nsf); (focus (intro h; replace h := nrm h; simp -dsimp -implicitDefEqProofs (maxSteps := 1000000) (disch := first | exact dis | fail) only [h, rh, go_sem]; rfl)))
      | ((with_reducible apply gO_t); (focus (intro h; replace h := nrm h; simp -dsimp -implicitDefEqProofs (maxSteps := 1000000) (disch := first | exact dis | fail) only [h, rh, go_sem]; rfl)))
      | ((with_reducible apply gO_f); (focus (intro h; replace h := nrm h; simp -dsimp -implicitDefEqProofs (maxSteps := 1000000) (disch := first | exact dis | fail) only [h, rh, go_sem]; rfl)))
      | ((with_reducible refine chkA_f ?_ ?_ ?_); (focus simp); (focus (intro h; replace h := nrm h; simp -dsimp -implicitDefEqProofs (maxSteps := 1000000) (disch := first | exact dis | fail) only [h, rh, go_sem])))
      | ((with_reducible refine chkA_t ?_ ?_ ?_); (focus simp); (focus (intro h; replace h := nrm h; simp -dsimp -implicitDefEqProofs (maxSteps := 1000000) (disch := first | exact dis | fail) only [h, rh, go_sem])))
      | ((with_reducible refine awpIf_decT ?_ ?_); (focus omega))
      | ((with_reducible refine awpIf_decF ?_ ?_); (focus omega))
      | ((with_reducible first | refine awpIf_dec ?_ ?_ | refine awpIf_ndec ?_ ?_ | refine awpGd_tdec ?_ ?_ | refine awpGd_fdec ?_ ?_ | refine awpGd_tndec ?_ ?_ | refine awpGd_fndec ?_ ?_) <;> intro h <;> (try simp -dsimp only [h]))
      | ((with_reducible first | refine awpIf_cases ?_ ?_ | refine awpGd_cases ?_ ?_ | refine gO_cases ?_ ?_) <;> intro h <;> replace h := nrm h <;> (try simp -dsimp only [h, Bool.not_true, Bool.not_false]))
      | ((with_reducible apply And.intro); (focus omega))) <;> (try simp -dsimp -implicitDefEqProofs (maxSteps := 1000000) (disch := first | exact dis | fail) only [rh, go_sem]))
    exact hQ
theorem RFree_ok (cs : List Cl) (ov : AV) (oe : Option AO) (ev : AV) (ee : Option AO) (os es : List Int) (hn : 1 ≤ cs.length ∧ cs.length ≤ 1000) (ho : ER 3 ov oe os) (he : ER 4 ev ee es) :
    ACall Try.prog f_ref13_Boxes_Free [.ptr 0 0] (rh cs ov oe ev ee) fun r A => r = .int .i64 (freeCnt cs cs.length) ∧ A = rh cs ov oe ev ee := by
  refine acallW fol ok_ref13_Boxes_Free ?_
  simp -dsimp -implicitDefEqProofs (maxSteps := 1000000) (disch := first | exact dis | fail) only [ic_ref13_Boxes_Free, rh, go_sem]
  repeat' ((first
    | ((with_reducible refine awpIf_asT ?_ ?_); (focus assumption))
    | ((with_reducible refine awpIf_asF ?_ ?_); (focus assumption))
    | ((with_reducible refine awpGd_tT ?_ ?_); (focus assumption))
    | ((with_reducible refine awpGd_tF ?_ ?_); (focus assumption))
    | ((with_reducible refine awpGd_fF ?_ ?_); (focus assumption))
    | ((with_reducible refine awpGd_fT ?_ ?_); (focus assumption))
    | ((with_reducible apply awpGd_nst); (focus (intro h; replace h := nrm h; simp -dsimp -implicitDefEqProofs (maxSteps := 1000000) (disch := first | exact dis | fail) only [h, rh, go_sem]; rfl)))
    | ((with_reducible apply awpGd_nsf); (focus (intro h; replace h := nrm h; simp -dsimp -implicitDefEqProofs (maxSteps := 1000000) (disch := first | exact dis | fail) only [h, rh, go_sem]; rfl)))
    | ((with_reducible apply gO_t); (focus (intro h; replace h := nrm h; simp -dsimp -implicitDefEqProofs (maxSteps := 1000000) (disch := first | exact dis | fail) only [h, rh, go_sem]; rfl)))
    | ((with_reducible apply gO_f); (focus (intro h; replace h := nrm h; simp -dsimp -implicitDefEqProofs (maxSteps := 1000000) (disch := first | exact dis | fail) only [h, rh, go_sem]; rfl)))
    | ((with_reducible refine chkA_f ?_ ?_ ?_); (focus simp); (focus (intro h; replace h := nrm h; simp -dsimp -implicitDefEqProofs (maxSteps := 1000000) (disch := first | exact dis | fail) only [h, rh, go_sem])))
    | ((with_reducible refine chkA_t ?_ ?_ ?_); (focus simp); (focus (intro h; replace h := nrm h; simp -dsimp -implicitDefEqProofs (maxSteps := 1000000) (disch := first | exact dis | fail) only [h, rh, go_sem])))
    | ((with_reducible refine awpIf_decT ?_ ?_); (focus omega))
    | ((with_reducible refine awpIf_decF ?_ ?_); (focus omega))
    | ((with_reducible first | refine awpIf_dec ?_ ?_ | refine awpIf_ndec ?_ ?_ | refine awpGd_tdec ?_ ?_ | refine awpGd_fdec ?_ ?_ | refine awpGd_tndec ?_ ?_ | refine awpGd_fndec ?_ ?_) <;> intro h <;> (try simp -dsimp only [h]))
    | ((with_reducible first | refine awpIf_cases ?_ ?_ | refine awpGd_cases ?_ ?_ | refine gO_cases ?_ ?_) <;> intro h <;> replace h := nrm h <;> (try simp -dsimp only [h, Bool.not_true, Bool.not_false]))
    | ((with_reducible apply And.intro); (focus omega))) <;> (try simp -dsimp -implicitDefEqProofs (maxSteps := 1000000) (disch := first | exact dis | fail) only [rh, go_sem]))
  refine RFree_l cs ov oe ev ee hn _ ?_
  simp -dsimp -implicitDefEqProofs (maxSteps := 1000000) (disch := first | exact dis | fail) only [rh, go_sem]
  repeat' ((first
    | ((with_reducible refine awpIf_asT ?_ ?_); (focus assumption))
    | ((with_reducible refine awpIf_asF ?_ ?_); (focus assumption))
    | ((with_reducible refine awpGd_tT ?_ ?_); (focus assumption))
    | ((with_reducible refine awpGd_tF ?_ ?_); (focus assumption))
    | ((with_reducible refine awpGd_fF ?_ ?_); (focus assumption))
    | ((with_reducible refine awpGd_fT ?_ ?_); (focus assumption))
    | ((with_reducible apply awpGd_nst); (focus (intro h; replace h := nrm h; simp -dsimp -implicitDefEqProofs (maxSteps := 1000000) (disch := first | exact dis | fail) only [h, rh, go_sem]; rfl)))
    | ((with_reducible apply awpGd_nsf); (focus (intro h; replace h := nrm h; simp -dsimp -implicitDefEqProofs (maxSteps := 1000000) (disch := first | exact dis | fail) only [h, rh, go_sem]; rfl)))
    | ((with_reducible apply gO_t); (focus (intro h; replace h := nrm h; simp -dsimp -implicitDefEqProofs (maxSteps := 1000000) (disch := first | exact dis | fail) only [h, rh, go_sem]; rfl)))
    | ((with_reducible apply gO_f); (focus (intro h; replace h := nrm h; simp -dsimp -implicitDefEqProofs (maxSteps := 1000000) (disch := first | exact dis | fail) only [h, rh, go_sem]; rfl)))
    | ((with_reducible refine chkA_f ?_ ?_ ?_); (focus simp); (focus (intro h; replace h := nrm h; simp -dsimp -implicitDefEqProofs (maxSteps := 1000000) (disch := first | exact dis | fail) only [h, rh, go_sem])))
    | ((with_reducible refine chkA_t ?_ ?_ ?_); (focus simp); (focus (intro h; replace h := nrm h; simp -dsimp -implicitDefEqProofs (maxSteps := 1000000) (disch := first | exact dis | fail) only [h, rh, go_sem])))
    | ((with_reducible refine awpIf_decT ?_ ?_); (focus omega))
    | ((with_reducible refine awpIf_decF ?_ ?_); (focus omega))
    | ((with_reducible first | refine awpIf_dec ?_ ?_ | refine awpIf_ndec ?_ ?_ | refine awpGd_tdec ?_ ?_ | refine awpGd_fdec ?_ ?_ | refine awpGd_tndec ?_ ?_ | refine awpGd_fndec ?_ ?_) <;> intro h <;> (try simp -dsimp only [h]))
    | ((with_reducible first | refine awpIf_cases ?_ ?_ | refine awpGd_cases ?_ ?_ | refine gO_cases ?_ ?_) <;> intro h <;> replace h := nrm h <;> (try simp -dsimp only [h, Bool.not_true, Bool.not_false]))
    | ((with_reducible apply And.intro); (focus omega))) <;> (try simp -dsimp -implicitDefEqProofs (maxSteps := 1000000) (disch := first | exact dis | fail) only [rh, go_sem]))
  exact fin_eq (B := rh cs ov oe ev ee) (G := []) rfl (rh_wf ho he) rfl

theorem States_l (cs : List Cl) (v0 : AV) (e0 : Option AO) (es : List Int) (puts : Int) (hn : 1 ≤ cs.length ∧ cs.length ≤ 1000) (he : ER 2 v0 e0 es) (Q : IExit → List AV → AHeap → Prop)
    (hQ : ∀ v e, ER 3 v e (cs.map Cl.st) → Q (.exit 0) ([.any, .any, .any, v, .any, .any, .any, .any, .any, .any, .any, .any, .sl 1 9 0 cs.length true, .int .i64 cs.length, .int .i64 cs.length] ++ List.replicate 10 .any) (bh cs v0 e0 puts ++ [e])) :
    AW Try.prog 3 ic_box_Boxes_States_l1 ([.any, .any, .any, .nils, .any, .any, .any, .any, .any, .any, .any, .any, .sl 1 9 0 cs.length true, .int .i64 cs.length, .int .i64 0] ++ List.replicate 10 .any) (bh cs v0 e0 puts) Q := by
  have e1 := fun k => (he.ren (g := fnew 3 [k]) rfl).1
  have e2 := fun k => (he.ren (g := fnew 3 [k]) rfl).2
  refine aw_loop cs.length (fun i ρ A => ∃ v e, ER 3 v e ((cs.take i).map Cl.st) ∧ ρ = [.any, .any, .any, v, .any, .any, .any, .any, .any, .any, .any, .any, .sl 1 9 0 cs.length true, .int .i64 cs.length, .int .i64 i] ++ List.replicate 10 .any ∧ A = bh cs v0 e0 puts ++ [e])
    ⟨some [3], rfl, .nils, none, .inl ⟨rfl, rfl, rfl⟩, by simp -dsimp -implicitDefEqProofs (maxSteps := 1000000) (disch := first | exact dis | fail) only [foldR_eq, bh, go_sem], by simp -dsimp -implicitDefEqProofs (maxSteps := 1000000) (disch := first | exact dis | fail) only [foldA_eq, bh, cav_ren, e1, e2, go_sem]; rfl⟩ ?_
  rintro i ρ A hi ⟨v, e, hv, rfl, rfl⟩
  by_cases hlt : i < cs.length
  · have hx : cs[i]? = some cs[i] := List.getElem?_eq_getElem hlt
    generalize cs[i] = c at hx
    have hft : (cs.take (i + 1)).map Cl.st = (cs.take i).map Cl.st ++ [c.st] := by rw [List.take_add_one, hx]; simp
    have hlf : ((cs.take i).map Cl.st).length ≤ 1000 := by simp; omega
    generalize hfl : (cs.take i).map Cl.st = fl at hv hft hlf
    rcases hv with ⟨rfl, rfl, rfl⟩ | ⟨pf, rfl, rfl⟩
    · skip
      simp -dsimp -implicitDefEqProofs (maxSteps := 1000000) (disch := first | exact dis | fail) only [ic_box_Boxes_States_b1, bh, rows_get, hx, Int.toNat_natCast, cav_eq, go_sem]
      repeat' ((first
        | ((with_reducible refine awpIf_asT ?_ ?_); (focus assumption))
        | ((with_reducible refine awpIf_asF ?_ ?_); (focus assumption))
        | ((with_reducible refine awpGd_tT ?_ ?_); (focus assumption))
        | ((with_reducible refine awpGd_tF ?_ ?_); (focus assumption))
        | ((with_reducible refine awpGd_fF ?_ ?_); (focus assumption))
        | ((with_reducible refine awpGd_fT ?_ ?_); (focus assumption))
        | ((with_reducible apply awpGd_nst); (focus (intro h; replace h := nrm h; simp -dsimp -implicitDefEqProofs (maxSteps := 1000000) (disch := first | exact dis | fail) only [h, bh, rows_get, hx, Int.toNat_natCast, cav_eq, go_sem]; rfl)))
        | ((with_reducible apply awpGd_nsf); (focus (intro h; replace h := nrm h; simp -dsimp -implicitDefEqProofs (maxSteps := 1000000) (disch := first | exact dis | fail) only [h, bh, rows_get, hx, Int.toNat_natCast, cav_eq, go_sem]; rfl)))
        | ((with_reducible apply gO_t); (focus (intro h; replace h := nrm h; simp -dsimp -implicitDefEqProofs (maxSteps := 1000000) (disch := first | exact dis | fail) only [h, bh, rows_get, hx, Int.toNat_natCast, cav_eq, go_sem]; rfl)))
        | ((with_reducible apply gO_f); (focus (intro h; replace h := nrm h; simp -dsimp -implicitDefEqProofs (maxSteps := 1000000) (disch := first | exact dis | fail) only [h, bh, rows_get, hx, Int.toNat_natCast, cav_eq, go_sem]; rfl)))
        | ((with_reducible refine chkA_f ?_ ?_ ?_); (focus simp); (focus (intro h; replace h := nrm h; simp -dsimp -implicitDefEqProofs (maxSteps := 1000000) (disch := first | exact dis | fail) only [h, bh, rows_get, hx, Int.toNat_natCast, cav_eq, go_sem])))
        | ((with_reducible refine chkA_t ?_ ?_ ?_); (focus simp); (focus (intro h; replace h := nrm h; simp -dsimp -implicitDefEqProofs (maxSteps := 1000000) (disch := first | exact dis | fail) only [h, bh, rows_get, hx, Int.toNat_natCast, cav_eq, go_sem])))
        | ((with_reducible refine awpIf_decT ?_ ?_); (focus omega))
        | ((with_reducible refine awpIf_decF ?_ ?_); (focus omega))
        | ((with_reducible first | refine awpIf_dec ?_ ?_ | refine awpIf_ndec ?_ ?_ | refine awpGd_tdec ?_ ?_ | refine awpGd_fdec ?_ ?_ | refine awpGd_tndec ?_ ?_ | refine awpGd_fndec ?_ ?_) <;> intro h <;> (try simp -dsimp only [h]))
        | ((with_reducible first | refine awpIf_cases ?_ ?_ | refine awpGd_cases ?_ ?_ | refine gO_cases ?_ ?_) <;> intro h <;> replace h := nrm h <;> (try simp -dsimp only [h, Bool.not_true, Bool.not_false]))
        | ((with_reducible apply And.intro); (focus omega))) <;> (try simp -dsimp -implicitDefEqProofs (maxSteps := 1000000) (disch := first | exact dis | fail) only [bh, rows_get, hx, Int.toNat_natCast, cav_eq, go_sem]))
      exact ⟨some [6], rfl, .sl 3 1 0 1 false, some (.arr (rows i1 [c.st])), .inr ⟨[], by rw [hft]; rfl, by rw [hft]; rfl⟩, by simp -dsimp -implicitDefEqProofs (maxSteps := 1000000) (disch := first | exact dis | fail) only [foldR_eq, Int.natCast_add, go_sem], by simp -dsimp -implicitDefEqProofs (maxSteps := 1000000) (disch := first | exact dis | fail) only [foldA_eq, bh, cav_ren, i1_one, i1_ren, e1, e2, go_sem]⟩
    · skip
      simp -dsimp -implicitDefEqProofs (maxSteps := 1000000) (disch := first | exact dis | fail) only [ic_box_Boxes_States_b1, bh, rows_get (f := cav), hx, Int.toNat_natCast, cav_eq, appF_some, i1_shown, i1_len, i1_snoc, go_sem]
      repeat' ((first
        | ((with_reducible refine awpIf_asT ?_ ?_); (focus assumption))
        | ((with_reducible refine awpIf_asF ?_ ?_); (focus assumption))
        | ((with_reducible refine awpGd_tT ?_ ?_); (focus assumption))
        | ((with_reducible refine awpGd_tF ?_ ?_); (focus assumption))
        | ((with_reducible refine awpGd_fF ?_ ?_); (focus assumption))
        | ((with_reducible refine awpGd_fT ?_ ?_); (focus assumption))
        | ((with_reducible apply awpGd_nst); (focus (intro h; replace h := nrm h; simp -dsimp -implicitDefEqProofs (maxSteps := 1000000) (disch := first | exact dis | fail) only [h, bh, rows_get (f := cav), hx, Int.toNat_natCast, cav_eq, appF_some, i1_shown, i1_len, i1_snoc, go_sem]; rfl)))
        | ((with_reducible apply awpGd_nsf); (focus (intro h; replace h := nrm h; simp -dsimp -implicitDefEqProofs (maxSteps := 1000000) (disch := first | exact dis | fail) only [h, bh, rows_get (f := cav), hx, Int.toNat_natCast, cav_eq, appF_some, i1_shown, i1_len, i1_snoc, go_sem]; rfl)))
        | ((with_reducible apply gO_t); (focus (intro h; replace h := nrm h; simp -dsimp -implicitDefEqProofs (maxSteps := 1000000) (disch := first | exact dis | fail) only [h, bh, rows_get (f := cav), hx, Int.toNat_natCast, cav_eq, appF_some, i1_shown, i1_len, i1_snoc, go_sem]; rfl)))
        | ((with_reducible apply gO_f); (focus (intro h; replace h := nrm h; simp -dsimp -implicitDefEqProofs (maxSteps := 1000000) (disch := first | exact dis | fail) only [h, bh, rows_get (f := cav), hx, Int.toNat_natCast, cav_eq, appF_some, i1_shown, i1_len, i1_snoc, go_sem]; rfl)))
        | ((with_reducible refine chkA_f ?_ ?_ ?_); (focus simp); (focus (intro h; replace h := nrm h; simp -dsimp -implicitDefEqProofs (maxSteps := 1000000) (disch := first | exact dis | fail) only [h, bh, rows_get (f := cav), hx, Int.toNat_natCast, cav_eq, appF_some, i1_shown, i1_len, i1_snoc, go_sem])))
        | ((with_reducible refine chkA_t ?_ ?_ ?_); (focus simp); (focus (intro h; replace h := nrm h; simp -dsimp -implicitDefEqProofs (maxSteps := 1000000) (disch := first | exact dis | fail) only [h, bh, rows_get (f := cav), hx, Int.toNat_natCast, cav_eq, appF_some, i1_shown, i1_len, i1_snoc, go_sem])))
        | ((with_reducible refine awpIf_decT ?_ ?_); (focus omega))
        | ((with_reducible refine awpIf_decF ?_ ?_); (focus omega))
        | ((with_reducible first | refine awpIf_dec ?_ ?_ | refine awpIf_ndec ?_ ?_ | refine awpGd_tdec ?_ ?_ | refine awpGd_fdec ?_ ?_ | refine awpGd_tndec ?_ ?_ | refine awpGd_fndec ?_ ?_) <;> intro h <;> (try simp -dsimp only [h]))
        | ((with_reducible first | refine awpIf_cases ?_ ?_ | refine awpGd_cases ?_ ?_ | refine gO_cases ?_ ?_) <;> intro h <;> replace h := nrm h <;> (try simp -dsimp only [h, Bool.not_true, Bool.not_false]))
        | ((with_reducible apply And.intro); (focus omega))) <;> (try simp -dsimp -implicitDefEqProofs (maxSteps := 1000000) (disch := first | exact dis | fail) only [bh, rows_get (f := cav), hx, Int.toNat_natCast, cav_eq, appF_some, i1_shown, i1_len, i1_snoc, go_sem]))
      exact ⟨⟨by simp, by omega⟩, hlt, some [6], rfl, .sl 3 1 0 (fl.length + 1) false, some (.arr (rows i1 (fl ++ [c.st]))), .inr ⟨[], by rw [hft]; simp, by rw [hft]; rfl⟩, by simp -dsimp -implicitDefEqProofs (maxSteps := 1000000) (disch := first | exact dis | fail) only [foldR_eq, Int.natCast_add, go_sem], by simp -dsimp -implicitDefEqProofs (maxSteps := 1000000) (disch := first | exact dis | fail) only [foldA_eq, bh, cav_ren, i1_one, i1_ren, e1, e2, go_sem]⟩
  · obtain rfl : i = cs.length := by omega
    rw [List.take_length] at hv
    simp -dsimp -implicitDefEqProofs (maxSteps := 1000000) (disch := first | exact dis | fail) only [ic_box_Boxes_States_b1, bh, go_sem]
    repeat' ((first
      | ((with_reducible refine awpIf_asT ?_ ?_); (focus assumption))
      | ((with_reducible refine awpIf_asF ?_ ?_); (focus assumption))
      | ((with_reducible refine awpGd_tT ?_ ?_); (focus assumption))
      | ((with_reducible refine awpGd_tF ?_ ?_); (focus assumption))
      | ((with_reducible refine awpGd_fF ?_ ?_); (focus assumption))
      | ((with_reducible refine awpGd_fT ?_ ?_); (focus assumption))
      | ((with_reducible apply awpGd_nst); (focus (intro h; replace h := nrm h; simp -dsimp -implicitDefEqProofs (maxSteps := 1000000) (disch := first | exact dis | fail) only [h, bh, go_sem]; rfl)))
      | ((with_reducible apply awpGd_nsf); (focus (intro h; replace h := nrm h; simp -dsimp -implicitDefEqProofs (maxSteps := 1000000) (disch := first | exact dis | fail) only [h, bh, go_sem]; rfl)))
      | ((with_reducible apply gO_t); (focus (intro h; replace h := nrm h; simp -dsimp -implicitDefEqProofs (maxSteps := 1000000) (disch := first | exact dis | fail) only [h, bh, go_sem]; rfl)))
      | ((with_reducible apply gO_f); (focus (intro h; replace h := nrm h; simp -dsimp -implicitDefEqProofs (maxSteps := 1000000) (disch := first | exact dis | fail) only [h, bh, go_sem]; rfl)))
      | ((with_reducible refine chkA_f ?_ ?_ ?_); (focus simp); (focus (intro h; replace h := nrm h; simp -dsimp -implicitDefEqProofs (maxSteps := 1000000) (disch := first | exact dis | fail) only [h, bh, go_sem])))
      | ((with_reducible refine chkA_t ?_ ?_ ?_); (focus simp); (focus (intro h; replace h := nrm h; simp -dsimp -implicitDefEqProofs (maxSteps := 1000000) (disch := first | exact dis | fail) only [h, bh, go_sem])))
      | ((with_reducible refine awpIf_decT ?_ ?_); (focus omega))
      | ((with_reducible refine awpIf_decF ?_ ?_); (focus omega))
      | ((with_reducible first | refine awpIf_dec ?_ ?_ | refine awpIf_ndec ?_ ?_ | refine awpGd_tdec ?_ ?_ | refine awpGd_fdec ?_ ?_ | refine awpGd_tndec ?_ ?_ | refine awpGd_fndec ?_ ?_) <;> intro h <;> (try simp -dsimp only [h]))
      | ((with_reducible first | refine awpIf_cases ?_ ?_ | refine awpGd_cases ?_ ?_ | refine gO_cases ?_ ?_) <;> intro h <;> replace h := nrm h <;> (try simp -dsimp only [h, Bool.not_true, Bool.not_false]))
      | ((with_reducible apply And.intro); (focus omega))) <;> (try simp -dsimp -implicitDefEqProofs (maxSteps := 1000000) (disch := first | exact dis | fail) only [bh, go_sem]))
    exact hQ v e hv
theorem States_ok (cs : List Cl) (v0 : AV) (e0 : Option AO) (es : List Int) (puts : Int) (hn : 1 ≤ cs.length ∧ cs.length ≤ 1000) (he : ER 2 v0 e0 es) :
    ACall Try.prog f_box_Boxes_States [.ptr 0 0] (bh cs v0 e0 puts) fun r A => ∃ e, ER 3 r e (cs.map Cl.st) ∧ A = bh cs v0 e0 puts ++ [e] := by
  refine acallW fol ok_box_Boxes_States ?_
  simp -dsimp -implicitDefEqProofs (maxSteps := 1000000) (disch := first | exact dis | fail) only [ic_box_Boxes_States, bh, eqv_ptr, go_sem]
  repeat' ((first
    | ((with_reducible refine awpIf_asT ?_ ?_); (focus assumption))
    | ((with_reducible refine awpIf_asF ?_ ?_); (focus assumption))
    | ((with_reducible refine awpGd_tT ?_ ?_); (focus assumption))
    | ((with_reducible refine awpGd_tF ?_ ?_); (focus assumption))
    | ((with_reducible refine awpGd_fF ?_ ?_); (focus assumption))
    | ((with_reducible refine awpGd_fT ?_ ?_); (focus assumption))
    | ((with_reducible apply awpGd_nst); (focus (intro h; replace h := nrm h; simp -dsimp -implicitDefEqProofs (maxSteps := 1000000) (disch := first | exact dis | fail) only [h, bh, eqv_ptr, go_sem]; rfl)))
    | ((with_reducible apply awpGd_nsf); (focus (intro h; replace h := nrm h; simp -dsimp -implicitDefEqProofs (maxSteps := 1000000) (disch := first | exact dis | fail) only [h, bh, eqv_ptr, go_sem]; rfl)))
    | ((with_reducible apply gO_t); (focus (intro h; replace h := nrm h; simp -dsimp -implicitDefEqProofs (maxSteps := 1000000) (disch := first | exact dis | fail) only [h, bh, eqv_ptr, go_sem]; rfl)))
    | ((with_reducible apply gO_f); (focus (intro h; replace h := nrm h; simp -dsimp -implicitDefEqProofs (maxSteps := 1000000) (disch := first | exact dis | fail) only [h, bh, eqv_ptr, go_sem]; rfl)))
    | ((with_reducible refine chkA_f ?_ ?_ ?_); (focus simp); (focus (intro h; replace h := nrm h; simp -dsimp -implicitDefEqProofs (maxSteps := 1000000) (disch := first | exact dis | fail) only [h, bh, eqv_ptr, go_sem])))
    | ((with_reducible refine chkA_t ?_ ?_ ?_); (focus simp); (focus (intro h; replace h := nrm h; simp -dsimp -implicitDefEqProofs (maxSteps := 1000000) (disch := first | exact dis | fail) only [h, bh, eqv_ptr, go_sem])))
    | ((with_reducible refine awpIf_decT ?_ ?_); (focus omega))
    | ((with_reducible refine awpIf_decF ?_ ?_); (focus omega))
    | ((with_reducible first | refine awpIf_dec ?_ ?_ | refine awpIf_ndec ?_ ?_ | refine awpGd_tdec ?_ ?_ | refine awpGd_fdec ?_ ?_ | refine awpGd_tndec ?_ ?_ | refine awpGd_fndec ?_ ?_) <;> intro h <;> (try simp -dsimp only [h]))
    | ((with_reducible first | refine awpIf_cases ?_ ?_ | refine awpGd_cases ?_ ?_ | refine gO_cases ?_ ?_) <;> intro h <;> replace h := nrm h <;> (try simp -dsimp only [h, Bool.not_true, Bool.not_false]))
    | ((with_reducible apply And.intro); (focus omega))) <;> (try simp -dsimp -implicitDefEqProofs (maxSteps := 1000000) (disch := first | exact dis | fail) only [bh, eqv_ptr, go_sem]))
  refine States_l cs v0 e0 es puts hn he _ ?_
  intro v e hv
  simp -dsimp -implicitDefEqProofs (maxSteps := 1000000) (disch := first | exact dis | fail) only [bh, go_sem]
  repeat' ((first
    | ((with_reducible refine awpIf_asT ?_ ?_); (focus assumption))
    | ((with_reducible refine awpIf_asF ?_ ?_); (focus assumption))
    | ((with_reducible refine awpGd_tT ?_ ?_); (focus assumption))
    | ((with_reducible refine awpGd_tF ?_ ?_); (focus assumption))
    | ((with_reducible refine awpGd_fF ?_ ?_); (focus assumption))
    | ((with_reducible refine awpGd_fT ?_ ?_); (focus assumption))
    | ((with_reducible apply awpGd_nst); (focus (intro h; replace h := nrm h; simp -dsimp -implicitDefEqProofs (maxSteps := 1000000) (disch := first | exact dis | fail) only [h, bh, go_sem]; rfl)))
    | ((with_reducible apply awpGd_nsf); (focus (intro h; replace h := nrm h; simp -dsimp -implicitDefEqProofs (maxSteps := 1000000) (disch := first | exact dis | fail) only [h, bh, go_sem]; rfl)))
    | ((with_reducible apply gO_t); (focus (intro h; replace h := nrm h; simp -dsimp -implicitDefEqProofs (maxSteps := 1000000) (disch := first | exact dis | fail) only [h, bh, go_sem]; rfl)))
    | ((with_reducible apply gO_f); (focus (intro h; replace h := nrm h; simp -dsimp -implicitDefEqProofs (maxSteps := 1000000) (disch := first | exact dis | fail) only [h, bh, go_sem]; rfl)))
    | ((with_reducible refine chkA_f ?_ ?_ ?_); (focus simp); (focus (intro h; replace h := nrm h; simp -dsimp -implicitDefEqProofs (maxSteps := 1000000) (disch := first | exact dis | fail) only [h, bh, go_sem])))
    | ((with_reducible refine chkA_t ?_ ?_ ?_); (focus simp); (focus (intro h; replace h := nrm h; simp -dsimp -implicitDefEqProofs (maxSteps := 1000000) (disch := first | exact dis | fail) only [h, bh, go_sem])))
    | ((with_reducible refine awpIf_decT ?_ ?_); (focus omega))
    | ((with_reducible refine awpIf_decF ?_ ?_); (focus omega))
    | ((with_reducible first | refine awpIf_dec ?_ ?_ | refine awpIf_ndec ?_ ?_ | refine awpGd_tdec ?_ ?_ | refine awpGd_fdec ?_ ?_ | refine awpGd_tndec ?_ ?_ | refine awpGd_fndec ?_ ?_) <;> intro h <;> (try simp -dsimp only [h]))
    | ((with_reducible first | refine awpIf_cases ?_ ?_ | refine awpGd_cases ?_ ?_ | refine gO_cases ?_ ?_) <;> intro h <;> replace h := nrm h <;> (try simp -dsimp only [h, Bool.not_true, Bool.not_false]))
    | ((with_reducible apply And.intro); (focus omega))) <;> (try simp -dsimp -implicitDefEqProofs (maxSteps := 1000000) (disch := first | exact dis | fail) only [bh, go_sem]))
  exact ⟨none, rfl, e, hv, rfl⟩

theorem Free_l (cs : List Cl) (v0 : AV) (e0 : Option AO) (puts : Int) (pf : List Int) (hn : 1 ≤ cs.length ∧ cs.length ≤ 1000) (Q : IExit → List AV → AHeap → Prop)
    (hQ : Q (.exit 0) ([.any, .any, .any, .int .i64 (freeCnt cs cs.length), .any, .any, .any, .sl 3 1 pf.length cs.length false, .int .i64 cs.length, .int .i64 cs.length] ++ List.replicate 9 .any) (bh cs v0 e0 puts ++ [some (.arr (rows i1 (pf ++ cs.map Cl.st)))])) :
    AW Try.prog 3 ic_box_Boxes_Free_l1 ([.any, .any, .any, .int .i64 0, .any, .any, .any, .sl 3 1 pf.length cs.length false, .int .i64 cs.length, .int .i64 0] ++ List.replicate 9 .any) (bh cs v0 e0 puts ++ [some (.arr (rows i1 (pf ++ cs.map Cl.st)))]) Q := by
  refine aw_loop cs.length (fun i ρ A => ρ = [.any, .any, .any, .int .i64 (freeCnt cs i), .any, .any, .any, .sl 3 1 pf.length cs.length false, .int .i64 cs.length, .int .i64 i] ++ List.replicate 9 .any ∧ A = bh cs v0 e0 puts ++ [some (.arr (rows i1 (pf ++ cs.map Cl.st)))]) ⟨none, rfl, by simp -dsimp -implicitDefEqProofs (maxSteps := 1000000) (disch := first | exact dis | fail) only [foldRn, foldAn, bh, freeCnt, go_sem]⟩ ?_
  rintro i ρ A hi ⟨rfl, rfl⟩
  obtain ⟨hf1, hf2⟩ := freeCnt_le cs i
  by_cases hlt : i < cs.length
  · have hx : cs[i]? = some cs[i] := List.getElem?_eq_getElem hlt
    generalize cs[i] = c at hx
    have hat := i1_at (pre := pf) (es := cs.map Cl.st) (i := i) (x := c.st) (by simp [hx])
    by_cases hst : c.st = 0
    · have hnx : freeCnt cs (i + 1) = freeCnt cs i + 1 := by simp only [freeCnt, hx, if_pos hst]
      simp -dsimp -implicitDefEqProofs (maxSteps := 1000000) (disch := first | exact dis | fail) only [ic_box_Boxes_Free_b1, bh, hat, Int.toNat_natCast, hst, go_sem]
      repeat' ((first
        | ((with_reducible refine awpIf_asT ?_ ?_); (focus assumption))
        | ((with_reducible refine awpIf_asF ?_ ?_); (focus assumption))
        | ((with_reducible refine awpGd_tT ?_ ?_); (focus assumption))
        | ((with_reducible refine awpGd_tF ?_ ?_); (focus assumption))
        | ((with_reducible refine awpGd_fF ?_ ?_); (focus assumption))
        | ((with_reducible refine awpGd_fT ?_ ?_); (focus assumption))
        | ((with_reducible apply awpGd_nst); (focus (intro h; replace h := nrm h; simp -dsimp -implicitDefEqProofs (maxSteps := 1000000) (disch := first | exact dis | fail) only [h, bh, hat, Int.toNat_natCast, hst, go_sem]; rfl)))
        | ((with_reducible apply awpGd_nsf); (focus (intro h; replace h := nrm h; simp -dsimp -implicitDefEqProofs (maxSteps := 1000000) (disch := first | exact dis | fail) only [h, bh, hat, Int.toNat_natCast, hst, go_sem]; rfl)))
        | ((with_reducible apply gO_t); (focus (intro h; replace h := nrm h; simp -dsimp -implicitDefEqProofs (maxSteps := 1000000) (disch := first | exact dis | fail) only [h, bh, hat, Int.toNat_natCast, hst, go_sem]; rfl)))
        | ((with_reducible apply gO_f); (focus (intro h; replace h := nrm h; simp -dsimp -implicitDefEqProofs (maxSteps := 1000000) (disch := first | exact dis | fail) only [h, bh, hat, Int.toNat_natCast, hst, go_sem]; rfl)))
        | ((with_reducible refine chkA_f ?_ ?_ ?_); (focus simp); (focus (intro h; replace h := nrm h; simp -dsimp -implicitDefEqProofs (maxSteps := 1000000) (disch := first | exact dis | fail) only [h, bh, hat, Int.toNat_natCast, hst, go_sem])))
        | ((with_reducible refine chkA_t ?_ ?_ ?_); (focus simp); (focus (intro h; replace h := nrm h; simp -dsimp -implicitDefEqProofs (maxSteps := 1000000) (disch := first | exact dis | fail) only [h, bh, hat, Int.toNat_natCast, hst, go_sem])))
        | ((with_reducible refine awpIf_decT ?_ ?_); (focus omega))
        | ((with_reducible refine awpIf_decF ?_ ?_); (focus omega))
        | ((with_reducible first | refine awpIf_dec ?_ ?_ | refine awpIf_ndec ?_ ?_ | refine awpGd_tdec ?_ ?_ | refine awpGd_fdec ?_ ?_ | refine awpGd_tndec ?_ ?_ | refine awpGd_fndec ?_ ?_) <;> intro h <;> (try simp -dsimp only [h]))
        | ((with_reducible first | refine awpIf_cases ?_ ?_ | refine awpGd_cases ?_ ?_ | refine gO_cases ?_ ?_) <;> intro h <;> replace h := nrm h <;> (try simp -dsimp only [h, Bool.not_true, Bool.not_false]))
        | ((with_reducible apply And.intro); (focus omega))) <;> (try simp -dsimp -implicitDefEqProofs (maxSteps := 1000000) (disch := first | exact dis | fail) only [bh, hat, Int.toNat_natCast, hst, go_sem]))
      exact ⟨none, rfl, by rw [hnx]; simp -dsimp -implicitDefEqProofs (maxSteps := 1000000) (disch := first | exact dis | fail) only [foldRn, Int.natCast_add, go_sem], rfl⟩
    · have hnx : freeCnt cs (i + 1) = freeCnt cs i := by simp only [freeCnt, hx, if_neg hst, Int.add_zero]
      simp -dsimp -implicitDefEqProofs (maxSteps := 1000000) (disch := first | exact dis | fail) only [ic_box_Boxes_Free_b1, bh, hat, Int.toNat_natCast, hst, go_sem]
      repeat' ((first
        | ((with_reducible refine awpIf_asT ?_ ?_); (focus assumption))
        | ((with_reducible refine awpIf_asF ?_ ?_); (focus assumption))
        | ((with_reducible refine awpGd_tT ?_ ?_); (focus assumption))
        | ((with_reducible refine awpGd_tF ?_ ?_); (focus assumption))
        | ((with_reducible refine awpGd_fF ?_ ?_); (focus assumption))
        | ((with_reducible refine awpGd_fT ?_ ?_); (focus assumption))
        | ((with_reducible apply awpGd_nst); (focus (intro h; replace h := nrm h; simp -dsimp -implicitDefEqProofs (maxSteps := 1000000) (disch := first | exact dis | fail) only [h, bh, hat, Int.toNat_natCast, hst, go_sem]; rfl)))
        | ((with_reducible apply awpGd_nsf); (focus (intro h; replace h := nrm h; simp -dsimp -implicitDefEqProofs (maxSteps := 1000000) (disch := first | exact dis | fail) only [h, bh, hat, Int.toNat_natCast, hst, go_sem]; rfl)))
        | ((with_reducible apply gO_t); (focus (intro h; replace h := nrm h; simp -dsimp -implicitDefEqProofs (maxSteps := 1000000) (disch := first | exact dis | fail) only [h, bh, hat, Int.toNat_natCast, hst, go_sem]; rfl)))
        | ((with_reducible apply gO_f); (focus (intro h; replace h := nrm h; simp -dsimp -implicitDefEqProofs (maxSteps := 1000000) (disch := first | exact dis | fail) only [h, bh, hat, Int.toNat_natCast, hst, go_sem]; rfl)))
        | ((with_reducible refine chkA_f ?_ ?_ ?_); (focus simp); (focus (intro h; replace h := nrm h; simp -dsimp -implicitDefEqProofs (maxSteps := 1000000) (disch := first | exact dis | fail) only [h, bh, hat, Int.toNat_natCast, hst, go_sem])))
        | ((with_reducible refine chkA_t ?_ ?_ ?_); (focus simp); (focus (intro h; replace h := nrm h; simp -dsimp -implicitDefEqProofs (maxSteps := 1000000) (disch := first | exact dis | fail) only [h, bh, hat, Int.toNat_natCast, hst, go_sem])))
        | ((with_reducible refine awpIf_decT ?_ ?_); (focus omega))
        | ((with_reducible refine awpIf_decF ?_ ?_); (focus omega))
        | ((with_reducible first | refine awpIf_dec ?_ ?_ | refine awpIf_ndec ?_ ?_ | refine awpGd_tdec ?_ ?_ | refine awpGd_fdec ?_ ?_ | refine awpGd_tndec ?_ ?_ | refine awpGd_fndec ?_ ?_) <;> intro h <;> (try simp -dsimp only [h]))
        | ((with_reducible first | refine awpIf_cases ?_ ?_ | refine awpGd_cases ?_ ?_ | refine gO_cases ?_ ?_) <;> intro h <;> replace h := nrm h <;> (try simp -dsimp only [h, Bool.not_true, Bool.not_false]))
        | ((with_reducible apply And.intro); (focus omega))) <;> (try simp -dsimp -implicitDefEqProofs (maxSteps := 1000000) (disch := first | exact dis | fail) only [bh, hat, Int.toNat_natCast, hst, go_sem]))
      exact ⟨none, rfl, by rw [hnx]; simp -dsimp -implicitDefEqProofs (maxSteps := 1000000) (disch := first | exact dis | fail) only [foldRn, Int.natCast_add, go_sem], rfl⟩
  · obtain rfl : i = cs.length := by omega
    simp -dsimp -implicitDefEqProofs (maxSteps := 1000000) (disch := first | exact dis | fail) only [ic_box_Boxes_Free_b1, bh, go_sem]
    repeat' ((first
      | ((with_reducible refine awpIf_asT ?_ ?_); (focus assumption))
      | ((with_reducible refine awpIf_asF ?_ ?_); (focus assumption))
      | ((with_reducible refine awpGd_tT ?_ ?_); (focus assumption))
      | ((with_reducible refine awpGd_tF ?_ ?_); (focus assumption))
      | ((with_reducible refine awpGd_fF ?_ ?_); (focus assumption))
      | ((with_reducible refine awpGd_fT ?_ ?_); (focus assumption))
      | ((with_reducible apply awpGd_nst); (focus (intro h; replace h := nrm h; simp -dsimp -implicitDefEqProofs (maxSteps := 1000000) (disch := first | exact dis | fail) only [h, bh, go_sem]; rfl)))
      | ((with_reducible apply awpGd_nsf); (focus (intro h; replace h := nrm h; simp -dsimp -implicitDefEqProofs (maxSteps := 1000000) (disch := first | exact dis | fail) only [h, bh, go_sem]; rfl)))
      | ((with_reducible apply gO_t); (focus (intro h; replace h := nrm h; simp -dsimp -implicitDefEqProofs (maxSteps := 1000000) (disch := first | exact dis | fail) only [h, bh, go_sem]; rfl)))
      | ((with_reducible apply gO_f); (focus (intro h; replace h := nrm h; simp -dsimp -implicitDefEqProofs (maxSteps := 1000000) (disch := first | exact dis | fail) only [h, bh, go_sem]; rfl)))
      | ((with_reducible refine chkA_f ?_ ?_ ?_); (focus simp); (focus (intro h; replace h := nrm h; simp -dsimp -implicitDefEqProofs (maxSteps := 1000000) (disch := first | exact dis | fail) only [h, bh, go_sem])))
      | ((with_reducible refine chkA_t ?_ ?_ ?_); (focus simp); (focus (intro h; replace h := nrm h; simp -dsimp -implicitDefEqProofs (maxSteps := 1000000) (disch := first | exact dis | fail) only [h, bh, go_sem])))
      | ((with_reducible refine awpIf_decT ?_ ?_); (focus omega))
      | ((with_reducible refine awpIf_decF ?_ ?_); (focus omega))
      | ((with_reducible first | refine awpIf_dec ?_ ?_ | refine awpIf_ndec ?_ ?_ | refine awpGd_tdec ?_ ?_ | refine awpGd_fdec ?_ ?_ | refine awpGd_tndec ?_ ?_ | refine awpGd_fndec ?_ ?_) <;> intro h <;> (try simp -dsimp only [h]))
      | ((with_reducible first | refine awpIf_cases ?_ ?_ | refine awpGd_cases ?_ ?_ | refine gO_cases ?_ ?_) <;> intro h <;> replace h := nrm h <;> (try simp -dsimp only [h, Bool.not_true, Bool.not_false]))
      | ((with_reducible apply And.intro); (focus omega))) <;> (try simp -dsimp -implicitDefEqProofs (maxSteps := 1000000) (disch := first | exact dis | fail) only [bh, go_sem]))
    exact hQ
theorem Free_ok (cs : List Cl) (v0 : AV) (e0 : Option AO) (es : List Int) (puts : Int) (hn : 1 ≤ cs.length ∧ cs.length ≤ 1000) (he : ER 2 v0 e0 es) :
    ACall Try.prog f_box_Boxes_Free [.ptr 0 0] (bh cs v0 e0 puts) fun r A => r = .int .i64 (freeCnt cs cs.length) ∧ A = bh cs v0 e0 puts := by
  refine acallW fol ok_box_Boxes_Free ?_
  simp -dsimp -implicitDefEqProofs (maxSteps := 1000000) (disch := first | exact dis | fail) only [ic_box_Boxes_Free, go_sem]
  repeat' ((first
    | ((with_reducible refine awpIf_asT ?_ ?_); (focus assumption))
    | ((with_reducible refine awpIf_asF ?_ ?_); (focus assumption))
    | ((with_reducible refine awpGd_tT ?_ ?_); (focus assumption))
    | ((with_reducible refine awpGd_tF ?_ ?_); (focus assumption))
    | ((with_reducible refine awpGd_fF ?_ ?_); (focus assumption))
    | ((with_reducible refine awpGd_fT ?_ ?_); (focus assumption))
    | ((with_reducible apply awpGd_nst); (focus (intro h; replace h := nrm h; simp -dsimp -implicitDefEqProofs (maxSteps := 1000000) (disch := first | exact dis | fail) only [h, go_sem]; rfl)))
    | ((with_reducible apply awpGd_nsf); (focus (intro h; replace h := nrm h; simp -dsimp -implicitDefEqProofs (maxSteps := 1000000) (disch := first | exact dis | fail) only [h, go_sem]; rfl)))
    | ((with_reducible apply gO_t); (focus (intro h; replace h := nrm h; simp -dsimp -implicitDefEqProofs (maxSteps := 1000000) (disch := first | exact dis | fail) only [h, go_sem]; rfl)))
    | ((with_reducible apply gO_f); (focus (intro h; replace h := nrm h; simp -dsimp -implicitDefEqProofs (maxSteps := 1000000) (disch := first | exact dis | fail) only [h, go_sem]; rfl)))
    | ((with_reducible refine chkA_f ?_ ?_ ?_); (focus simp); (focus (intro h; replace h := nrm h; simp -dsimp -implicitDefEqProofs (maxSteps := 1000000) (disch := first | exact dis | fail) only [h, go_sem])))
    | ((with_reducible refine chkA_t ?_ ?_ ?_); (focus simp); (focus (intro h; replace h := nrm h; simp -dsimp -implicitDefEqProofs (maxSteps := 1000000) (disch := first | exact dis | fail) only [h, go_sem])))
    | ((with_reducible refine awpIf_decT ?_ ?_); (focus omega))
    | ((with_reducible refine awpIf_decF ?_ ?_); (focus omega))
    | ((with_reducible first | refine awpIf_dec ?_ ?_ | refine awpIf_ndec ?_ ?_ | refine awpGd_tdec ?_ ?_ | refine awpGd_fdec ?_ ?_ | refine awpGd_tndec ?_ ?_ | refine awpGd_fndec ?_ ?_) <;> intro h <;> (try simp -dsimp only [h]))
    | ((with_reducible first | refine awpIf_cases ?_ ?_ | refine awpGd_cases ?_ ?_ | refine gO_cases ?_ ?_) <;> intro h <;> replace h := nrm h <;> (try simp -dsimp only [h, Bool.not_true, Bool.not_false]))
    | ((with_reducible apply And.intro); (focus omega))) <;> (try simp -dsimp -implicitDefEqProofs (maxSteps := 1000000) (disch := first | exact dis | fail) only [go_sem]))
  refine (States_ok cs v0 e0 es puts hn he).mono ?_
  rintro r A ⟨e, hv, rfl⟩
  rcases hv with ⟨_, _, h⟩ | ⟨pf, rfl, rfl⟩
  · have : cs.length = 0 := by simpa using h
    omega
  · have hml : (cs.map Cl.st).length = cs.length := by simp
    simp -dsimp -implicitDefEqProofs (maxSteps := 1000000) (disch := first | exact dis | fail) only [bh, hml, go_sem]
    repeat' ((first
      | ((with_reducible refine awpIf_asT ?_ ?_); (focus assumption))
      | ((with_reducible refine awpIf_asF ?_ ?_); (focus assumption))
      | ((with_reducible refine awpGd_tT ?_ ?_); (focus assumption))
      | ((with_reducible refine awpGd_tF ?_ ?_); (focus assumption))
      | ((with_reducible refine awpGd_fF ?_ ?_); (focus assumption))
      | ((with_reducible refine awpGd_fT ?_ ?_); (focus assumption))
      | ((with_reducible apply awpGd_nst); (focus (intro h; replace h := nrm h; simp -dsimp -implicitDefEqProofs (maxSteps := 1000000) (disch := first | exact dis | fail) only [h, bh, hml, go_sem]; rfl)))
      | ((with_reducible apply awpGd_nsf); (focus (intro h; replace h := nrm h; simp -dsimp -implicitDefEqProofs (maxSteps := 1000000) (disch := first | exact dis | fail) only [h, bh, hml, go_sem]; rfl)))
      | ((with_reducible apply gO_t); (focus (intro h; replace h := nrm h; simp -dsimp -implicitDefEqProofs (maxSteps := 1000000) (disch := first | exact dis | fail) only [h, bh, hml, go_sem]; rfl)))
      | ((with_reducible apply gO_f); (focus (intro h; replace h := nrm h; simp -dsimp -implicitDefEqProofs (maxSteps := 1000000) (disch := first | exact dis | fail) only [h, bh, hml, go_sem]; rfl)))
      | ((with_reducible refine chkA_f ?_ ?_ ?_); (focus simp); (focus (intro h; replace h := nrm h; simp -dsimp -implicitDefEqProofs (maxSteps := 1000000) (disch := first | exact dis | fail) only [h, bh, hml, go_sem])))
      | ((with_reducible refine chkA_t ?_ ?_ ?_); (focus simp); (focus (intro h; replace h := nrm h; simp -dsimp -implicitDefEqProofs (maxSteps := 1000000) (disch := first | exact dis | fail) only [h, bh, hml, go_sem])))
      | ((with_reducible refine awpIf_decT ?_ ?_); (focus omega))
      | ((with_reducible refine awpIf_decF ?_ ?_); (focus omega))
      | ((with_reducible first | refine awpIf_dec ?_ ?_ | refine awpIf_ndec ?_ ?_ | refine awpGd_tdec ?_ ?_ | refine awpGd_fdec ?_ ?_ | refine awpGd_tndec ?_ ?_ | refine awpGd_fndec ?_ ?_) <;> intro h <;> (try simp -dsimp only [h]))
      | ((with_reducible first | refine awpIf_cases ?_ ?_ | refine awpGd_cases ?_ ?_ | refine gO_cases ?_ ?_) <;> intro h <;> replace h := nrm h <;> (try simp -dsimp only [h, Bool.not_true, Bool.not_false]))
      | ((with_reducible apply And.intro); (focus omega))) <;> (try simp -dsimp -implicitDefEqProofs (maxSteps := 1000000) (disch := first | exact dis | fail) only [bh, hml, go_sem]))
    refine Free_l cs v0 e0 puts pf hn _ ?_
    simp -dsimp -implicitDefEqProofs (maxSteps := 1000000) (disch := first | exact dis | fail) only [bh, go_sem]
    repeat' ((first
      | ((with_reducible refine awpIf_asT ?_ ?_); (focus assumption))
      | ((with_reducible refine awpIf_asF ?_ ?_); (focus assumption))
      | ((with_reducible refine awpGd_tT ?_ ?_); (focus assumption))
      | ((with_reducible refine awpGd_tF ?_ ?_); (focus assumption))
      | ((with_reducible refine awpGd_fF ?_ ?_); (focus assumption))
      | ((with_reducible refine awpGd_fT ?_ ?_); (focus assumption))
      | ((with_reducible apply awpGd_nst); (focus (intro h; replace h := nrm h; simp -dsimp -implicitDefEqProofs (maxSteps := 1000000) (disch := first | exact dis | fail) only [h, bh, go_sem]; rfl)))
      | ((with_reducible apply awpGd_nsf); (focus (intro h; replace h := nrm h; simp -dsimp -implicitDefEqProofs (maxSteps := 1000000) (disch := first | exact dis | fail) only [h, bh, go_sem]; rfl)))
      | ((with_reducible apply gO_t); (focus (intro h; replace h := nrm h; simp -dsimp -implicitDefEqProofs (maxSteps := 1000000) (disch := first | exact dis | fail) only [h, bh, go_sem]; rfl)))
      | ((with_reducible apply gO_f); (focus (intro h; replace h := nrm h; simp -dsimp -implicitDefEqProofs (maxSteps := 1000000) (disch := first | exact dis | fail) only [h, bh, go_sem]; rfl)))
      | ((with_reducible refine chkA_f ?_ ?_ ?_); (focus simp); (focus (intro h; replace h := nrm h; simp -dsimp -implicitDefEqProofs (maxSteps := 1000000) (disch := first | exact dis | fail) only [h, bh, go_sem])))
      | ((with_reducible refine chkA_t ?_ ?_ ?_); (focus simp); (focus (intro h; replace h := nrm h; simp -dsimp -implicitDefEqProofs (maxSteps := 1000000) (disch := first | exact dis | fail) only [h, bh, go_sem])))
      | ((with_reducible refine awpIf_decT ?_ ?_); (focus omega))
      | ((with_reducible refine awpIf_decF ?_ ?_); (focus omega))
      | ((with_reducible first | refine awpIf_dec ?_ ?_ | refine awpIf_ndec ?_ ?_ | refine awpGd_tdec ?_ ?_ | refine awpGd_fdec ?_ ?_ | refine awpGd_tndec ?_ ?_ | refine awpGd_fndec ?_ ?_) <;> intro h <;> (try simp -dsimp only [h]))
      | ((with_reducible first | refine awpIf_cases ?_ ?_ | refine awpGd_cases ?_ ?_ | refine gO_cases ?_ ?_) <;> intro h <;> replace h := nrm h <;> (try simp -dsimp only [h, Bool.not_true, Bool.not_false]))
      | ((with_reducible apply And.intro); (focus omega))) <;> (try simp -dsimp -implicitDefEqProofs (maxSteps := 1000000) (disch := first | exact dis | fail) only [bh, go_sem]))
    exact fin_eq (B := bh cs v0 e0 puts) rfl (bh_wf he) rfl

/-- Two rows that are the same. -/
theorem Ints_ok (cs : List Cl) (pf : List Int) (hn : 1 ≤ cs.length ∧ cs.length ≤ 1000) :
    ACall Try.prog f_ref09_Ints [.sl 0 1 pf.length cs.length false, .sl 1 1 0 cs.length true] [some (.arr (rows i1 (pf ++ cs.map Cl.st))), some (.arr (rows si cs))] fun r A => r = .bool true ∧ A = [some (.arr (rows i1 (pf ++ cs.map Cl.st))), some (.arr (rows si cs))] := by
  refine acallW fol ok_ref09_Ints ?_
  simp -dsimp -implicitDefEqProofs (maxSteps := 1000000) (disch := first | exact dis | fail) only [ic_ref09_Ints, go_sem]
  repeat' ((first
    | ((with_reducible refine awpIf_asT ?_ ?_); (focus assumption))
    | ((with_reducible refine awpIf_asF ?_ ?_); (focus assumption))
    | ((with_reducible refine awpGd_tT ?_ ?_); (focus assumption))
    | ((with_reducible refine awpGd_tF ?_ ?_); (focus assumption))
    | ((with_reducible refine awpGd_fF ?_ ?_); (focus assumption))
    | ((with_reducible refine awpGd_fT ?_ ?_); (focus assumption))
    | ((with_reducible apply awpGd_nst); (focus (intro h; replace h := nrm h; simp -dsimp -implicitDefEqProofs (maxSteps := 1000000) (disch := first | exact dis | fail) only [h, go_sem]; rfl)))
    | ((with_reducible apply awpGd_nsf); (focus (intro h; replace h := nrm h; simp -dsimp -implicitDefEqProofs (maxSteps := 1000000) (disch := first | exact dis | fail) only [h, go_sem]; rfl)))
    | ((with_reducible apply gO_t); (focus (intro h; replace h := nrm h; simp -dsimp -implicitDefEqProofs (maxSteps := 1000000) (disch := first | exact dis | fail) only [h, go_sem]; rfl)))
    | ((with_reducible apply gO_f); (focus (intro h; replace h := nrm h; simp -dsimp -implicitDefEqProofs (maxSteps := 1000000) (disch := first | exact dis | fail) only [h, go_sem]; rfl)))
    | ((with_reducible refine chkA_f ?_ ?_ ?_); (focus simp); (focus (intro h; replace h := nrm h; simp -dsimp -implicitDefEqProofs (maxSteps := 1000000) (disch := first | exact dis | fail) only [h, go_sem])))
    | ((with_reducible refine chkA_t ?_ ?_ ?_); (focus simp); (focus (intro h; replace h := nrm h; simp -dsimp -implicitDefEqProofs (maxSteps := 1000000) (disch := first | exact dis | fail) only [h, go_sem])))
    | ((with_reducible refine awpIf_decT ?_ ?_); (focus omega))
    | ((with_reducible refine awpIf_decF ?_ ?_); (focus omega))
    | ((with_reducible first | refine awpIf_dec ?_ ?_ | refine awpIf_ndec ?_ ?_ | refine awpGd_tdec ?_ ?_ | refine awpGd_fdec ?_ ?_ | refine awpGd_tndec ?_ ?_ | refine awpGd_fndec ?_ ?_) <;> intro h <;> (try simp -dsimp only [h]))
    | ((with_reducible first | refine awpIf_cases ?_ ?_ | refine awpGd_cases ?_ ?_ | refine gO_cases ?_ ?_) <;> intro h <;> replace h := nrm h <;> (try simp -dsimp only [h, Bool.not_true, Bool.not_false]))
    | ((with_reducible apply And.intro); (focus omega))) <;> (try simp -dsimp -implicitDefEqProofs (maxSteps := 1000000) (disch := first | exact dis | fail) only [go_sem]))
  refine aw_loop cs.length (fun i ρ A => ρ = [.sl 0 1 pf.length cs.length false, .sl 1 1 0 cs.length true, .any, .any, .any, .int .i64 i] ++ List.replicate 20 .any ∧ A = [some (.arr (rows i1 (pf ++ cs.map Cl.st))), some (.arr (rows si cs))]) ⟨none, rfl, by simp -dsimp -implicitDefEqProofs (maxSteps := 1000000) (disch := first | exact dis | fail) only [foldRn, foldAn, go_sem]⟩ ?_
  rintro i ρ A hi ⟨rfl, rfl⟩
  by_cases hlt : i < cs.length
  · have hx : cs[i]? = some cs[i] := List.getElem?_eq_getElem hlt
    generalize cs[i] = c at hx
    have hat := i1_at (pre := pf) (es := cs.map Cl.st) (i := i) (x := c.st) (by simp [hx])
    simp -dsimp -implicitDefEqProofs (maxSteps := 1000000) (disch := first | exact dis | fail) only [ic_ref09_Ints_b1, hat, rows_get (f := si), hx, si_eq, Int.toNat_natCast, go_sem]
    repeat' ((first
      | ((with_reducible refine awpIf_asT ?_ ?_); (focus assumption))
      | ((with_reducible refine awpIf_asF ?_ ?_); (focus assumption))
      | ((with_reducible refine awpGd_tT ?_ ?_); (focus assumption))
      | ((with_reducible refine awpGd_tF ?_ ?_); (focus assumption))
      | ((with_reducible refine awpGd_fF ?_ ?_); (focus assumption))
      | ((with_reducible refine awpGd_fT ?_ ?_); (focus assumption))
      | ((with_reducible apply awpGd_nst); (focus (intro h; replace h := nrm h; simp -dsimp -implicitDefEqProofs (maxSteps := 1000000) (disch := first | exact dis | fail) only [h, hat, rows_get (f := si), hx, si_eq, Int.toNat_natCast, go_sem]; rfl)))
      | ((with_reducible apply awpGd_nsf); (focus (intro h; replace h := nrm h; simp -dsimp -implicitDefEqProofs (maxSteps := 1000000) (disch := first | exact dis | fail) only [h, hat, rows_get (f := si), hx, si_eq, Int.toNat_natCast, go_sem]; rfl)))
      | ((with_reducible apply gO_t); (focus (intro h; replace h := nrm h; simp -dsimp -implicitDefEqProofs (maxSteps := 1000000) (disch := first | exact dis | fail) only [h, hat, rows_get (f := si), hx, si_eq, Int.toNat_natCast, go_sem]; rfl)))
      | ((with_reducible apply gO_f); (focus (intro h; replace h := nrm h; simp -dsimp -implicitDefEqProofs (maxSteps := 1000000) (disch := first | exact dis | fail) only [h, hat, rows_get (f := si), hx, si_eq, Int.toNat_natCast, go_sem]; rfl)))
      | ((with_reducible refine chkA_f ?_ ?_ ?_); (focus simp); (focus (intro h; replace h := nrm h; simp -dsimp -implicitDefEqProofs (maxSteps := 1000000) (disch := first | exact dis | fail) only [h, hat, rows_get (f := si), hx, si_eq, Int.toNat_natCast, go_sem])))
      | ((with_reducible refine chkA_t ?_ ?_ ?_); (focus simp); (focus (intro h; replace h := nrm h; simp -dsimp -implicitDefEqProofs (maxSteps := 1000000) (disch := first | exact dis | fail) only [h, hat, rows_get (f := si), hx, si_eq, Int.toNat_natCast, go_sem])))
      | ((with_reducible refine awpIf_decT ?_ ?_); (focus omega))
      | ((with_reducible refine awpIf_decF ?_ ?_); (focus omega))
      | ((with_reducible first | refine awpIf_dec ?_ ?_ | refine awpIf_ndec ?_ ?_ | refine awpGd_tdec ?_ ?_ | refine awpGd_fdec ?_ ?_ | refine awpGd_tndec ?_ ?_ | refine awpGd_fndec ?_ ?_) <;> intro h <;> (try simp -dsimp only [h]))
      | ((with_reducible first | refine awpIf_cases ?_ ?_ | refine awpGd_cases ?_ ?_ | refine gO_cases ?_ ?_) <;> intro h <;> replace h := nrm h <;> (try simp -dsimp only [h, Bool.not_true, Bool.not_false]))
      | ((with_reducible apply And.intro); (focus omega))) <;> (try simp -dsimp -implicitDefEqProofs (maxSteps := 1000000) (disch := first | exact dis | fail) only [hat, rows_get (f := si), hx, si_eq, Int.toNat_natCast, go_sem]))
    exact ⟨none, rfl, by simp -dsimp -implicitDefEqProofs (maxSteps := 1000000) (disch := first | exact dis | fail) only [foldRn, Int.natCast_add, go_sem], rfl⟩
  · obtain rfl : i = cs.length := by omega
    simp -dsimp -implicitDefEqProofs (maxSteps := 1000000) (disch := first | exact dis | fail) only [ic_ref09_Ints_b1, go_sem]
    repeat' ((first
      | ((with_reducible refine awpIf_asT ?_ ?_); (focus assumption))
      | ((with_reducible refine awpIf_asF ?_ ?_); (focus assumption))
      | ((with_reducible refine awpGd_tT ?_ ?_); (focus assumption))
      | ((with_reducible refine awpGd_tF ?_ ?_); (focus assumption))
      | ((with_reducible refine awpGd_fF ?_ ?_); (focus assumption))
      | ((with_reducible refine awpGd_fT ?_ ?_); (focus assumption))
      | ((with_reducible apply awpGd_nst); (focus (intro h; replace h := nrm h; simp -dsimp -implicitDefEqProofs (maxSteps := 1000000) (disch := first | exact dis | fail) only [h, go_sem]; rfl)))
      | ((with_reducible apply awpGd_nsf); (focus (intro h; replace h := nrm h; simp -dsimp -implicitDefEqProofs (maxSteps := 1000000) (disch := first | exact dis | fail) only [h, go_sem]; rfl)))
      | ((with_reducible apply gO_t); (focus (intro h; replace h := nrm h; simp -dsimp -implicitDefEqProofs (maxSteps := 1000000) (disch := first | exact dis | fail) only [h, go_sem]; rfl)))
      | ((with_reducible apply gO_f); (focus (intro h; replace h := nrm h; simp -dsimp -implicitDefEqProofs (maxSteps := 1000000) (disch := first | exact dis | fail) only [h, go_sem]; rfl)))
      | ((with_reducible refine chkA_f ?_ ?_ ?_); (focus simp); (focus (intro h; replace h := nrm h; simp -dsimp -implicitDefEqProofs (maxSteps := 1000000) (disch := first | exact dis | fail) only [h, go_sem])))
      | ((with_reducible refine chkA_t ?_ ?_ ?_); (focus simp); (focus (intro h; replace h := nrm h; simp -dsimp -implicitDefEqProofs (maxSteps := 1000000) (disch := first | exact dis | fail) only [h, go_sem])))
      | ((with_reducible refine awpIf_decT ?_ ?_); (focus omega))
      | ((with_reducible refine awpIf_decF ?_ ?_); (focus omega))
      | ((with_reducible first | refine awpIf_dec ?_ ?_ | refine awpIf_ndec ?_ ?_ | refine awpGd_tdec ?_ ?_ | refine awpGd_fdec ?_ ?_ | refine awpGd_tndec ?_ ?_ | refine awpGd_fndec ?_ ?_) <;> intro h <;> (try simp -dsimp only [h]))
      | ((with_reducible first | refine awpIf_cases ?_ ?_ | refine awpGd_cases ?_ ?_ | refine gO_cases ?_ ?_) <;> intro h <;> replace h := nrm h <;> (try simp -dsimp only [h, Bool.not_true, Bool.not_false]))
      | ((with_reducible apply And.intro); (focus omega))) <;> (try simp -dsimp -implicitDefEqProofs (maxSteps := 1000000) (disch := first | exact dis | fail) only [go_sem]))
    exact ⟨none, rfl, rfl, rfl⟩
end Go.Proofs.Ytkkccabchhnebaa
