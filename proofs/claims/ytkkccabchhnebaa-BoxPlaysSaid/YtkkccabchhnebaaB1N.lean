/- One call of the law, of each kind. Conditions: none. -/
import Derived.Test.YtkkccabchhnebaaB1M
namespace Go.Proofs.Ytkkccabchhnebaa
open Go.SB
attribute [local irreducible] AW OPS ORD
set_option maxRecDepth 100000
set_option maxHeartbeats 4000000
set_option linter.unusedSimpArgs false
set_option linter.unusedVariables false

theorem best_ready {cs : List Cl} (h : 0 ≤ bestAt cs cs.length) : endOk cs (bestAt cs cs.length) = true := by
  rcases bestAt_spec cs cs.length (Nat.le_refl _) with ⟨h1, _⟩ | ⟨b, d, h1, h2, h3, h4, _⟩
  · omega
  · rw [h1]; simp [endOk, h3, h4]
theorem do4_ok (box : Int) (p : Pk) {n : Nat} (hn : n ≤ 100000) {cs : List Cl} {os es : List Int} {puts : Int} {v : AV} {e : Option AO} {ov : AV} {oe : Option AO} {ev : AV} {ee : Option AO} (B : Both n cs os es puts v e ov oe ev ee) :
    ACall Try.prog f_law13_do [.ptr 0 0, .ptr 3 0, .agg (.int .i64 4 :: .int .i64 box :: p.av)] (LH cs v e puts ov oe ev ee) (DoneP n) := by
  refine acallW fol ok_law13_do ?_
  have hp := B.inv.puts0
  have hpn := B.putsN
  have hl := B.inv.len
  have hoN := B.osN
  have heN := B.esN
  obtain ⟨ov1, oe1, ho1, mo⟩ := B.b.move 3
  obtain ⟨ev1, ee1, he1, me⟩ := B.c.move 4
  have hov := fun L => (mo (rn (place [3, 4, 5, 6, 7] L)) rfl).1
  have hoe := fun L => (mo (rn (place [3, 4, 5, 6, 7] L)) rfl).2
  have hev := fun L => (me (rn (place [3, 4, 5, 6, 7] L)) rfl).1
  have hee := fun L => (me (rn (place [3, 4, 5, 6, 7] L)) rfl).2
  have hv := fun L => (B.a.ren (g := rn (place [0, 1, 2] L)) rfl).1
  have he := fun L => (B.a.ren (g := rn (place [0, 1, 2] L)) rfl).2
  have sb : ∀ L T, standsL (rn (place [0, 1, 2] L)) (some (.cells [.sl 1 9 0 cs.length true, v, .int .i64 puts]) :: some (.arr (rows cav cs)) :: e :: T) [0, 1, 2] (bh cs v e puts) := fun L T => by simp -dsimp -implicitDefEqProofs (maxSteps := 1000000) (disch := first | exact dis | fail) only [standsL, bh, hv, he, cav_ren, go_sem]
  have sr : ∀ L x0 x1 x2 T, standsL (rn (place [3, 4, 5, 6, 7] L)) (x0 :: x1 :: x2 :: some (.cells [.sl 4 1 0 cs.length true, .sl 5 7 0 cs.length true, ov, ev]) :: some (.arr (rows si cs)) :: some (.arr (rows sp cs)) :: oe :: ee :: T) [3, 4, 5, 6, 7] (rh cs ov1 oe1 ev1 ee1) := fun L x0 x1 x2 T => by simp -dsimp -implicitDefEqProofs (maxSteps := 1000000) (disch := first | exact dis | fail) only [standsL, rh, hov, hoe, hev, hee, si_ren, sp_ren, go_sem]
  cases es with
  | nil =>
    simp -dsimp -implicitDefEqProofs (maxSteps := 1000000) (disch := first | exact dis | fail) only [ic_law13_do, LH, go_sem]
    repeat' ((first
      | ((with_reducible refine awpIf_asT ?_ ?_); (focus assumption))
      | ((with_reducible refine awpIf_asF ?_ ?_); (focus assumption))
      | ((with_reducible refine awpGd_tT ?_ ?_); (focus assumption))
      | ((with_reducible refine awpGd_tF ?_ ?_); (focus assumption))
      | ((with_reducible refine awpGd_fF ?_ ?_); (focus assumption))
      | ((with_reducible refine awpGd_fT ?_ ?_); (focus assumption))
      | ((with_reducible apply awpGd_nst); (focus (intro h; replace h := nrm h; simp -dsimp -implicitDefEqProofs (maxSteps := 1000000) (disch := first | exact dis | fail) only [h, LH, go_sem]; rfl)))
      | ((with_reducible apply awpGd_nsf); (focus (intro h; replace h := nrm h; simp -dsimp -implicitDefEqProofs (maxSteps := 1000000) (disch := first | exact dis | fail) only [h, LH, go_sem]; rfl)))
      | ((with_reducible apply gO_t); (focus (intro h; replace h := nrm h; simp -dsimp -implicitDefEqProofs (maxSteps := 1000000) (disch := first | exact dis | fail) only [h, LH, go_sem]; rfl)))
      | ((with_reducible apply gO_f); (focus (intro h; replace h := nrm h; simp -dsimp -implicitDefEqProofs (maxSteps := 1000000) (disch := first | exact dis | fail) only [h, LH, go_sem]; rfl)))
      | ((with_reducible refine chkA_f ?_ ?_ ?_); (focus simp); (focus (intro h; replace h := nrm h; simp -dsimp -implicitDefEqProofs (maxSteps := 1000000) (disch := first | exact dis | fail) only [h, LH, go_sem])))
      | ((with_reducible refine chkA_t ?_ ?_ ?_); (focus simp); (focus (intro h; replace h := nrm h; simp -dsimp -implicitDefEqProofs (maxSteps := 1000000) (disch := first | exact dis | fail) only [h, LH, go_sem])))
      | ((with_reducible refine awpIf_decT ?_ ?_); (focus omega))
      | ((with_reducible refine awpIf_decF ?_ ?_); (focus omega))
      | ((with_reducible first | refine awpIf_dec ?_ ?_ | refine awpIf_ndec ?_ ?_ | refine awpGd_tdec ?_ ?_ | refine awpGd_fdec ?_ ?_ | refine awpGd_tndec ?_ ?_ | refine awpGd_fndec ?_ ?_) <;> intro h <;> (try simp -dsimp only [h]))
      | ((with_reducible first | refine awpIf_cases ?_ ?_ | refine awpGd_cases ?_ ?_ | refine gO_cases ?_ ?_) <;> intro h <;> replace h := nrm h <;> (try simp -dsimp only [h, Bool.not_true, Bool.not_false]))
      | ((with_reducible apply And.intro); (focus omega))) <;> (try simp -dsimp -implicitDefEqProofs (maxSteps := 1000000) (disch := first | exact dis | fail) only [LH, go_sem]))
    refine (Take0_ok cs v e puts B.a).at' [0, 1, 2] (by decide) rfl (sb _ _) rfl ?_
    rintro r A ⟨rfl, rfl⟩
    simp -dsimp -implicitDefEqProofs (maxSteps := 1000000) (disch := first | exact dis | fail) only [bh, hv, he, cav_ren, pk0, go_sem]
    repeat' ((first
      | ((with_reducible refine awpIf_asT ?_ ?_); (focus assumption))
      | ((with_reducible refine awpIf_asF ?_ ?_); (focus assumption))
      | ((with_reducible refine awpGd_tT ?_ ?_); (focus assumption))
      | ((with_reducible refine awpGd_tF ?_ ?_); (focus assumption))
      | ((with_reducible refine awpGd_fF ?_ ?_); (focus assumption))
      | ((with_reducible refine awpGd_fT ?_ ?_); (focus assumption))
      | ((with_reducible apply awpGd_nst); (focus (intro h; replace h := nrm h; simp -dsimp -implicitDefEqProofs (maxSteps := 1000000) (disch := first | exact dis | fail) only [h, bh, hv, he, cav_ren, pk0, go_sem]; rfl)))
      | ((with_reducible apply awpGd_nsf); (focus (intro h; replace h := nrm h; simp -dsimp -implicitDefEqProofs (maxSteps := 1000000) (disch := first | exact dis | fail) only [h, bh, hv, he, cav_ren, pk0, go_sem]; rfl)))
      | ((with_reducible apply gO_t); (focus (intro h; replace h := nrm h; simp -dsimp -implicitDefEqProofs (maxSteps := 1000000) (disch := first | exact dis | fail) only [h, bh, hv, he, cav_ren, pk0, go_sem]; rfl)))
      | ((with_reducible apply gO_f); (focus (intro h; replace h := nrm h; simp -dsimp -implicitDefEqProofs (maxSteps := 1000000) (disch := first | exact dis | fail) only [h, bh, hv, he, cav_ren, pk0, go_sem]; rfl)))
      | ((with_reducible refine chkA_f ?_ ?_ ?_); (focus simp); (focus (intro h; replace h := nrm h; simp -dsimp -implicitDefEqProofs (maxSteps := 1000000) (disch := first | exact dis | fail) only [h, bh, hv, he, cav_ren, pk0, go_sem])))
      | ((with_reducible refine chkA_t ?_ ?_ ?_); (focus simp); (focus (intro h; replace h := nrm h; simp -dsimp -implicitDefEqProofs (maxSteps := 1000000) (disch := first | exact dis | fail) only [h, bh, hv, he, cav_ren, pk0, go_sem])))
      | ((with_reducible refine awpIf_decT ?_ ?_); (focus omega))
      | ((with_reducible refine awpIf_decF ?_ ?_); (focus omega))
      | ((with_reducible first | refine awpIf_dec ?_ ?_ | refine awpIf_ndec ?_ ?_ | refine awpGd_tdec ?_ ?_ | refine awpGd_fdec ?_ ?_ | refine awpGd_tndec ?_ ?_ | refine awpGd_fndec ?_ ?_) <;> intro h <;> (try simp -dsimp only [h]))
      | ((with_reducible first | refine awpIf_cases ?_ ?_ | refine awpGd_cases ?_ ?_ | refine gO_cases ?_ ?_) <;> intro h <;> replace h := nrm h <;> (try simp -dsimp only [h, Bool.not_true, Bool.not_false]))
      | ((with_reducible apply And.intro); (focus omega))) <;> (try simp -dsimp -implicitDefEqProofs (maxSteps := 1000000) (disch := first | exact dis | fail) only [bh, hv, he, cav_ren, pk0, go_sem]))
    refine (RTake0_ok cs ov1 oe1 ev1 ee1 os ho1 he1).at' [3, 4, 5, 6, 7] (by decide) rfl (sr _ _ _ _ _) rfl ?_
    rintro r A ⟨rfl, rfl⟩
    simp -dsimp -implicitDefEqProofs (maxSteps := 1000000) (disch := first | exact dis | fail) only [rh, hov, hoe, hev, hee, si_ren, sp_ren, pk0, eqv_bool, eqv_struct, go_sem]
    repeat' ((first
      | ((with_reducible refine awpIf_asT ?_ ?_); (focus assumption))
      | ((with_reducible refine awpIf_asF ?_ ?_); (focus assumption))
      | ((with_reducible refine awpGd_tT ?_ ?_); (focus assumption))
      | ((with_reducible refine awpGd_tF ?_ ?_); (focus assumption))
      | ((with_reducible refine awpGd_fF ?_ ?_); (focus assumption))
      | ((with_reducible refine awpGd_fT ?_ ?_); (focus assumption))
      | ((with_reducible apply awpGd_nst); (focus (intro h; replace h := nrm h; simp -dsimp -implicitDefEqProofs (maxSteps := 1000000) (disch := first | exact dis | fail) only [h, rh, hov, hoe, hev, hee, si_ren, sp_ren, pk0, eqv_bool, eqv_struct, go_sem]; rfl)))
      | ((with_reducible apply awpGd_nsf); (focus (intro h; replace h := nrm h; simp -dsimp -implicitDefEqProofs (maxSteps := 1000000) (disch := first | exact dis | fail) only [h, rh, hov, hoe, hev, hee, si_ren, sp_ren, pk0, eqv_bool, eqv_struct, go_sem]; rfl)))
      | ((with_reducible apply gO_t); (focus (intro h; replace h := nrm h; simp -dsimp -implicitDefEqProofs (maxSteps := 1000000) (disch := first | exact dis | fail) only [h, rh, hov, hoe, hev, hee, si_ren, sp_ren, pk0, eqv_bool, eqv_struct, go_sem]; rfl)))
      | ((with_reducible apply gO_f); (focus (intro h; replace h := nrm h; simp -dsimp -implicitDefEqProofs (maxSteps := 1000000) (disch := first | exact dis | fail) only [h, rh, hov, hoe, hev, hee, si_ren, sp_ren, pk0, eqv_bool, eqv_struct, go_sem]; rfl)))
      | ((with_reducible refine chkA_f ?_ ?_ ?_); (focus simp); (focus (intro h; replace h := nrm h; simp -dsimp -implicitDefEqProofs (maxSteps := 1000000) (disch := first | exact dis | fail) only [h, rh, hov, hoe, hev, hee, si_ren, sp_ren, pk0, eqv_bool, eqv_struct, go_sem])))
      | ((with_reducible refine chkA_t ?_ ?_ ?_); (focus simp); (focus (intro h; replace h := nrm h; simp -dsimp -implicitDefEqProofs (maxSteps := 1000000) (disch := first | exact dis | fail) only [h, rh, hov, hoe, hev, hee, si_ren, sp_ren, pk0, eqv_bool, eqv_struct, go_sem])))
      | ((with_reducible refine awpIf_decT ?_ ?_); (focus omega))
      | ((with_reducible refine awpIf_decF ?_ ?_); (focus omega))
      | ((with_reducible first | refine awpIf_dec ?_ ?_ | refine awpIf_ndec ?_ ?_ | refine awpGd_tdec ?_ ?_ | refine awpGd_fdec ?_ ?_ | refine awpGd_tndec ?_ ?_ | refine awpGd_fndec ?_ ?_) <;> intro h <;> (try simp -dsimp only [h]))
      | ((with_reducible first | refine awpIf_cases ?_ ?_ | refine awpGd_cases ?_ ?_ | refine gO_cases ?_ ?_) <;> intro h <;> replace h := nrm h <;> (try simp -dsimp only [h, Bool.not_true, Bool.not_false]))
      | ((with_reducible apply And.intro); (focus omega))) <;> (try simp -dsimp -implicitDefEqProofs (maxSteps := 1000000) (disch := first | exact dis | fail) only [rh, hov, hoe, hev, hee, si_ren, sp_ren, pk0, eqv_bool, eqv_struct, go_sem]))
    obtain ⟨v1, v2⟩ := B.a.ren (g := fnew 0 [0, 1, 2, 3, 4, 5, 6, 7]) rfl
    obtain ⟨b1, b2⟩ := B.b.ren (g := fnew 0 [0, 1, 2, 3, 4, 5, 6, 7]) rfl
    obtain ⟨c1, c2⟩ := B.c.ren (g := fnew 0 [0, 1, 2, 3, 4, 5, 6, 7]) rfl
    refine ⟨none, rfl, rfl, cs, os, [], puts, v, e, ov, oe, ev, ee, ⟨B.inv, B.a, B.b, B.c, by omega, by omega, by omega⟩, [0, 1, 2, 3, 4, 5, 6, 7], rfl, ⟨rfl, rfl⟩, Nat.le_of_ble_eq_true rfl, ?_⟩
    rw [foldAn, foldA_is]
    simp -dsimp -implicitDefEqProofs (maxSteps := 1000000) (disch := first | exact dis | fail) only [foldA_eq, LH, v1, v2, b1, b2, c1, c2, cav_ren, si_ren, sp_ren, go_sem]
  | cons x es =>
    obtain ⟨x0, x1⟩ := B.inv.esIn x (by simp)
    have hd : cs[x.toNat]? = some cs[x.toNat] := List.getElem?_eq_getElem (by omega)
    generalize cs[x.toNat] = c at hd
    have hx0 : ¬ x < 0 := by omega
    simp only [List.length_cons] at heN
    simp -dsimp -implicitDefEqProofs (maxSteps := 1000000) (disch := first | exact dis | fail) only [ic_law13_do, LH, go_sem]
    repeat' ((first
      | ((with_reducible refine awpIf_asT ?_ ?_); (focus assumption))
      | ((with_reducible refine awpIf_asF ?_ ?_); (focus assumption))
      | ((with_reducible refine awpGd_tT ?_ ?_); (focus assumption))
      | ((with_reducible refine awpGd_tF ?_ ?_); (focus assumption))
      | ((with_reducible refine awpGd_fF ?_ ?_); (focus assumption))
      | ((with_reducible refine awpGd_fT ?_ ?_); (focus assumption))
      | ((with_reducible apply awpGd_nst); (focus (intro h; replace h := nrm h; simp -dsimp -implicitDefEqProofs (maxSteps := 1000000) (disch := first | exact dis | fail) only [h, LH, go_sem]; rfl)))
      | ((with_reducible apply awpGd_nsf); (focus (intro h; replace h := nrm h; simp -dsimp -implicitDefEqProofs (maxSteps := 1000000) (disch := first | exact dis | fail) only [h, LH, go_sem]; rfl)))
      | ((with_reducible apply gO_t); (focus (intro h; replace h := nrm h; simp -dsimp -implicitDefEqProofs (maxSteps := 1000000) (disch := first | exact dis | fail) only [h, LH, go_sem]; rfl)))
      | ((with_reducible apply gO_f); (focus (intro h; replace h := nrm h; simp -dsimp -implicitDefEqProofs (maxSteps := 1000000) (disch := first | exact dis | fail) only [h, LH, go_sem]; rfl)))
      | ((with_reducible refine chkA_f ?_ ?_ ?_); (focus simp); (focus (intro h; replace h := nrm h; simp -dsimp -implicitDefEqProofs (maxSteps := 1000000) (disch := first | exact dis | fail) only [h, LH, go_sem])))
      | ((with_reducible refine chkA_t ?_ ?_ ?_); (focus simp); (focus (intro h; replace h := nrm h; simp -dsimp -implicitDefEqProofs (maxSteps := 1000000) (disch := first | exact dis | fail) only [h, LH, go_sem])))
      | ((with_reducible refine awpIf_decT ?_ ?_); (focus omega))
      | ((with_reducible refine awpIf_decF ?_ ?_); (focus omega))
      | ((with_reducible first | refine awpIf_dec ?_ ?_ | refine awpIf_ndec ?_ ?_ | refine awpGd_tdec ?_ ?_ | refine awpGd_fdec ?_ ?_ | refine awpGd_tndec ?_ ?_ | refine awpGd_fndec ?_ ?_) <;> intro h <;> (try simp -dsimp only [h]))
      | ((with_reducible first | refine awpIf_cases ?_ ?_ | refine awpGd_cases ?_ ?_ | refine gO_cases ?_ ?_) <;> intro h <;> replace h := nrm h <;> (try simp -dsimp only [h, Bool.not_true, Bool.not_false]))
      | ((with_reducible apply And.intro); (focus omega))) <;> (try simp -dsimp -implicitDefEqProofs (maxSteps := 1000000) (disch := first | exact dis | fail) only [LH, go_sem]))
    refine (Take1_ok cs v e es x puts c hl.2 (by omega) x0 hd B.a).at' [0, 1, 2] (by decide) rfl (sb _ _) rfl ?_
    rintro r A ⟨rfl, d, hdd, rfl⟩
    simp -dsimp -implicitDefEqProofs (maxSteps := 1000000) (disch := first | exact dis | fail) only [hdd, cav_ren, i1_ren, go_sem]
    repeat' ((first
      | ((with_reducible refine awpIf_asT ?_ ?_); (focus assumption))
      | ((with_reducible refine awpIf_asF ?_ ?_); (focus assumption))
      | ((with_reducible refine awpGd_tT ?_ ?_); (focus assumption))
      | ((with_reducible refine awpGd_tF ?_ ?_); (focus assumption))
      | ((with_reducible refine awpGd_fF ?_ ?_); (focus assumption))
      | ((with_reducible refine awpGd_fT ?_ ?_); (focus assumption))
      | ((with_reducible apply awpGd_nst); (focus (intro h; replace h := nrm h; simp -dsimp -implicitDefEqProofs (maxSteps := 1000000) (disch := first | exact dis | fail) only [h, hdd, cav_ren, i1_ren, go_sem]; rfl)))
      | ((with_reducible apply awpGd_nsf); (focus (intro h; replace h := nrm h; simp -dsimp -implicitDefEqProofs (maxSteps := 1000000) (disch := first | exact dis | fail) only [h, hdd, cav_ren, i1_ren, go_sem]; rfl)))
      | ((with_reducible apply gO_t); (focus (intro h; replace h := nrm h; simp -dsimp -implicitDefEqProofs (maxSteps := 1000000) (disch := first | exact dis | fail) only [h, hdd, cav_ren, i1_ren, go_sem]; rfl)))
      | ((with_reducible apply gO_f); (focus (intro h; replace h := nrm h; simp -dsimp -implicitDefEqProofs (maxSteps := 1000000) (disch := first | exact dis | fail) only [h, hdd, cav_ren, i1_ren, go_sem]; rfl)))
      | ((with_reducible refine chkA_f ?_ ?_ ?_); (focus simp); (focus (intro h; replace h := nrm h; simp -dsimp -implicitDefEqProofs (maxSteps := 1000000) (disch := first | exact dis | fail) only [h, hdd, cav_ren, i1_ren, go_sem])))
      | ((with_reducible refine chkA_t ?_ ?_ ?_); (focus simp); (focus (intro h; replace h := nrm h; simp -dsimp -implicitDefEqProofs (maxSteps := 1000000) (disch := first | exact dis | fail) only [h, hdd, cav_ren, i1_ren, go_sem])))
      | ((with_reducible refine awpIf_decT ?_ ?_); (focus omega))
      | ((with_reducible refine awpIf_decF ?_ ?_); (focus omega))
      | ((with_reducible first | refine awpIf_dec ?_ ?_ | refine awpIf_ndec ?_ ?_ | refine awpGd_tdec ?_ ?_ | refine awpGd_fdec ?_ ?_ | refine awpGd_tndec ?_ ?_ | refine awpGd_fndec ?_ ?_) <;> intro h <;> (try simp -dsimp only [h]))
      | ((with_reducible first | refine awpIf_cases ?_ ?_ | refine awpGd_cases ?_ ?_ | refine gO_cases ?_ ?_) <;> intro h <;> replace h := nrm h <;> (try simp -dsimp only [h, Bool.not_true, Bool.not_false]))
      | ((with_reducible apply And.intro); (focus omega))) <;> (try simp -dsimp -implicitDefEqProofs (maxSteps := 1000000) (disch := first | exact dis | fail) only [hdd, cav_ren, i1_ren, go_sem]))
    refine (RTake1_ok cs ov1 oe1 ev1 ee1 os es x c hl.2 (by omega) x0 hd ho1 he1).at' [3, 4, 5, 6, 7] (by decide) rfl (sr _ _ _ _ _) rfl ?_
    rintro r A ⟨rfl, v3, hv3, rfl⟩
    simp -dsimp -implicitDefEqProofs (maxSteps := 1000000) (disch := first | exact dis | fail) only [rh, hov, hoe, hev, hee, si_ren, sp_ren, x0, hx0, eqv_bool, eqv_struct, go_sem]
    repeat' ((first
      | ((with_reducible refine awpIf_asT ?_ ?_); (focus assumption))
      | ((with_reducible refine awpIf_asF ?_ ?_); (focus assumption))
      | ((with_reducible refine awpGd_tT ?_ ?_); (focus assumption))
      | ((with_reducible refine awpGd_tF ?_ ?_); (focus assumption))
      | ((with_reducible refine awpGd_fF ?_ ?_); (focus assumption))
      | ((with_reducible refine awpGd_fT ?_ ?_); (focus assumption))
      | ((with_reducible apply awpGd_nst); (focus (intro h; replace h := nrm h; simp -dsimp -implicitDefEqProofs (maxSteps := 1000000) (disch := first | exact dis | fail) only [h, rh, hov, hoe, hev, hee, si_ren, sp_ren, x0, hx0, eqv_bool, eqv_struct, go_sem]; rfl)))
      | ((with_reducible apply awpGd_nsf); (focus (intro h; replace h := nrm h; simp -dsimp -implicitDefEqProofs (maxSteps := 1000000) (disch := first | exact dis | fail) only [h, rh, hov, hoe, hev, hee, si_ren, sp_ren, x0, hx0, eqv_bool, eqv_struct, go_sem]; rfl)))
      | ((with_reducible apply gO_t); (focus (intro h; replace h := nrm h; simp -dsimp -implicitDefEqProofs (maxSteps := 1000000) (disch := first | exact dis | fail) only [h, rh, hov, hoe, hev, hee, si_ren, sp_ren, x0, hx0, eqv_bool, eqv_struct, go_sem]; rfl)))
      | ((with_reducible apply gO_f); (focus (intro h; replace h := nrm h; simp -dsimp -implicitDefEqProofs (maxSteps := 1000000) (disch := first | exact dis | fail) only [h, rh, hov, hoe, hev, hee, si_ren, sp_ren, x0, hx0, eqv_bool, eqv_struct, go_sem]; rfl)))
      | ((with_reducible refine chkA_f ?_ ?_ ?_); (focus simp); (focus (intro h; replace h := nrm h; simp -dsimp -implicitDefEqProofs (maxSteps := 1000000) (disch := first | exact dis | fail) only [h, rh, hov, hoe, hev, hee, si_ren, sp_ren, x0, hx0, eqv_bool, eqv_struct, go_sem])))
      | ((with_reducible refine chkA_t ?_ ?_ ?_); (focus simp); (focus (intro h; replace h := nrm h; simp -dsimp -implicitDefEqProofs (maxSteps := 1000000) (disch := first | exact dis | fail) only [h, rh, hov, hoe, hev, hee, si_ren, sp_ren, x0, hx0, eqv_bool, eqv_struct, go_sem])))
      | ((with_reducible refine awpIf_decT ?_ ?_); (focus omega))
      | ((with_reducible refine awpIf_decF ?_ ?_); (focus omega))
      | ((with_reducible first | refine awpIf_dec ?_ ?_ | refine awpIf_ndec ?_ ?_ | refine awpGd_tdec ?_ ?_ | refine awpGd_fdec ?_ ?_ | refine awpGd_tndec ?_ ?_ | refine awpGd_fndec ?_ ?_) <;> intro h <;> (try simp -dsimp only [h]))
      | ((with_reducible first | refine awpIf_cases ?_ ?_ | refine awpGd_cases ?_ ?_ | refine gO_cases ?_ ?_) <;> intro h <;> replace h := nrm h <;> (try simp -dsimp only [h, Bool.not_true, Bool.not_false]))
      | ((with_reducible apply And.intro); (focus omega))) <;> (try simp -dsimp -implicitDefEqProofs (maxSteps := 1000000) (disch := first | exact dis | fail) only [rh, hov, hoe, hev, hee, si_ren, sp_ren, x0, hx0, eqv_bool, eqv_struct, go_sem]))
    obtain ⟨b1, b2⟩ := B.b.ren (g := fnew 0 [0, 1, 10, 3, 4, 5, 6, 7]) rfl
    obtain ⟨_, c2⟩ := B.c.ren (g := fnew 0 [0, 1, 10, 3, 4, 5, 6, 7]) rfl
    have h3 := (hv3.ren' (g := rn (place [3, 4, 5, 6, 7] 12)) (l' := 7) rfl).ren' (g := fnew 0 [0, 1, 10, 3, 4, 5, 6, 7]) (l' := 7) rfl
    rw [hee, c2] at h3
    have hls : (takeC cs x).length = cs.length := by simp [takeC]
    refine ⟨none, rfl, rfl, takeC cs x, os, es, puts, .sl 2 1 0 es.length false, some (.arr (rows i1 es)), ov, oe, _, ee, ⟨inv_take B.inv, .inr ⟨[], by simp, rfl⟩, B.b, h3, by omega, by omega, by omega⟩, [0, 1, 10, 3, 4, 5, 6, 7], rfl, ⟨rfl, rfl⟩, Nat.le_of_ble_eq_true rfl, ?_⟩
    rw [foldAn, foldA_is]
    simp -dsimp -implicitDefEqProofs (maxSteps := 1000000) (disch := first | exact dis | fail) only [foldA_eq, LH, b1, b2, c2, cav_ren, si_ren, sp_ren, i1_ren, hls, go_sem]
theorem do6_ok (k box : Int) (p : Pk) (hk : k ≠ 0 ∧ k ≠ 1 ∧ k ≠ 2 ∧ k ≠ 3 ∧ k ≠ 4 ∧ k ≠ 5) {n : Nat} (hn : n ≤ 100000) {cs : List Cl} {os es : List Int} {puts : Int} {v : AV} {e : Option AO} {ov : AV} {oe : Option AO} {ev : AV} {ee : Option AO} (B : Both n cs os es puts v e ov oe ev ee) :
    ACall Try.prog f_law13_do [.ptr 0 0, .ptr 3 0, .agg (.int .i64 k :: .int .i64 box :: p.av)] (LH cs v e puts ov oe ev ee) (DoneP n) := by
  refine acallW fol ok_law13_do ?_
  have hp := B.inv.puts0
  have hpn := B.putsN
  have hl := B.inv.len
  have hoN := B.osN
  have heN := B.esN
  obtain ⟨ov1, oe1, ho1, mo⟩ := B.b.move 3
  obtain ⟨ev1, ee1, he1, me⟩ := B.c.move 4
  have hov := fun L => (mo (rn (place [3, 4, 5, 6, 7] L)) rfl).1
  have hoe := fun L => (mo (rn (place [3, 4, 5, 6, 7] L)) rfl).2
  have hev := fun L => (me (rn (place [3, 4, 5, 6, 7] L)) rfl).1
  have hee := fun L => (me (rn (place [3, 4, 5, 6, 7] L)) rfl).2
  have hv := fun L => (B.a.ren (g := rn (place [0, 1, 2] L)) rfl).1
  have he := fun L => (B.a.ren (g := rn (place [0, 1, 2] L)) rfl).2
  have sb : ∀ L T, standsL (rn (place [0, 1, 2] L)) (some (.cells [.sl 1 9 0 cs.length true, v, .int .i64 puts]) :: some (.arr (rows cav cs)) :: e :: T) [0, 1, 2] (bh cs v e puts) := fun L T => by simp -dsimp -implicitDefEqProofs (maxSteps := 1000000) (disch := first | exact dis | fail) only [standsL, bh, hv, he, cav_ren, go_sem]
  have sr : ∀ L x0 x1 x2 T, standsL (rn (place [3, 4, 5, 6, 7] L)) (x0 :: x1 :: x2 :: some (.cells [.sl 4 1 0 cs.length true, .sl 5 7 0 cs.length true, ov, ev]) :: some (.arr (rows si cs)) :: some (.arr (rows sp cs)) :: oe :: ee :: T) [3, 4, 5, 6, 7] (rh cs ov1 oe1 ev1 ee1) := fun L x0 x1 x2 T => by simp -dsimp -implicitDefEqProofs (maxSteps := 1000000) (disch := first | exact dis | fail) only [standsL, rh, hov, hoe, hev, hee, si_ren, sp_ren, go_sem]
  obtain ⟨k0, k1, k2, k3, k4, k5⟩ := hk
  simp -dsimp -implicitDefEqProofs (maxSteps := 1000000) (disch := first | exact dis | fail) only [ic_law13_do, LH, k0, k1, k2, k3, k4, k5, go_sem]
  repeat' ((first
    | ((with_reducible refine awpIf_asT ?_ ?_); (focus assumption))
    | ((with_reducible refine awpIf_asF ?_ ?_); (focus assumption))
    | ((with_reducible refine awpGd_tT ?_ ?_); (focus assumption))
    | ((with_reducible refine awpGd_tF ?_ ?_); (focus assumption))
    | ((with_reducible refine awpGd_fF ?_ ?_); (focus assumption))
    | ((with_reducible refine awpGd_fT ?_ ?_); (focus assumption))
    | ((with_reducible apply awpGd_nst); (focus (intro h; replace h := nrm h; simp -dsimp -implicitDefEqProofs (maxSteps := 1000000) (disch := first | exact dis | fail) only [h, LH, k0, k1, k2, k3, k4, k5, go_sem]; rfl)))
    | ((with_reducible apply awpGd_nsf); (focus (intro h; replace h := nrm h; simp -dsimp -implicitDefEqProofs (maxSteps := 1000000) (disch := first | exact dis | fail) only [h, LH, k0, k1, k2, k3, k4, k5, go_sem]; rfl)))
    | ((with_reducible apply gO_t); (focus (intro h; replace h := nrm h; simp -dsimp -implicitDefEqProofs (maxSteps := 1000000) (disch := first | exact dis | fail) only [h, LH, k0, k1, k2, k3, k4, k5, go_sem]; rfl)))
    | ((with_reducible apply gO_f); (focus (intro h; replace h := nrm h; simp -dsimp -implicitDefEqProofs (maxSteps := 1000000) (disch := first | exact dis | fail) only [h, LH, k0, k1, k2, k3, k4, k5, go_sem]; rfl)))
    | ((with_reducible refine chkA_f ?_ ?_ ?_); (focus simp); (focus (intro h; replace h := nrm h; simp -dsimp -implicitDefEqProofs (maxSteps := 1000000) (disch := first | exact dis | fail) only [h, LH, k0, k1, k2, k3, k4, k5, go_sem])))
    | ((with_reducible refine chkA_t ?_ ?_ ?_); (focus simp); (focus (intro h; replace h := nrm h; simp -dsimp -implicitDefEqProofs (maxSteps := 1000000) (disch := first | exact dis | fail) only [h, LH, k0, k1, k2, k3, k4, k5, go_sem])))
    | ((with_reducible refine awpIf_decT ?_ ?_); (focus omega))
    | ((with_reducible refine awpIf_decF ?_ ?_); (focus omega))
    | ((with_reducible first | refine awpIf_dec ?_ ?_ | refine awpIf_ndec ?_ ?_ | refine awpGd_tdec ?_ ?_ | refine awpGd_fdec ?_ ?_ | refine awpGd_tndec ?_ ?_ | refine awpGd_fndec ?_ ?_) <;> intro h <;> (try simp -dsimp only [h]))
    | ((with_reducible first | refine awpIf_cases ?_ ?_ | refine awpGd_cases ?_ ?_ | refine gO_cases ?_ ?_) <;> intro h <;> replace h := nrm h <;> (try simp -dsimp only [h, Bool.not_true, Bool.not_false]))
    | ((with_reducible apply And.intro); (focus omega))) <;> (try simp -dsimp -implicitDefEqProofs (maxSteps := 1000000) (disch := first | exact dis | fail) only [LH, k0, k1, k2, k3, k4, k5, go_sem]))
  obtain ⟨v1, v2⟩ := B.a.ren (g := fnew 0 [0, 1, 2, 3, 4, 5, 6, 7]) rfl
  obtain ⟨b1, b2⟩ := B.b.ren (g := fnew 0 [0, 1, 2, 3, 4, 5, 6, 7]) rfl
  obtain ⟨c1, c2⟩ := B.c.ren (g := fnew 0 [0, 1, 2, 3, 4, 5, 6, 7]) rfl
  refine ⟨none, rfl, rfl, cs, os, es, puts, v, e, ov, oe, ev, ee, ⟨B.inv, B.a, B.b, B.c, by omega, by omega, by omega⟩, [0, 1, 2, 3, 4, 5, 6, 7], rfl, ⟨rfl, rfl⟩, Nat.le_of_ble_eq_true rfl, ?_⟩
  rw [foldAn, foldA_is]
  simp -dsimp -implicitDefEqProofs (maxSteps := 1000000) (disch := first | exact dis | fail) only [foldA_eq, LH, v1, v2, b1, b2, c1, c2, cav_ren, si_ren, sp_ren, go_sem]
theorem do5_ok (box : Int) (p : Pk) {n : Nat} (hn : n ≤ 100000) {cs : List Cl} {os es : List Int} {puts : Int} {v : AV} {e : Option AO} {ov : AV} {oe : Option AO} {ev : AV} {ee : Option AO} (B : Both n cs os es puts v e ov oe ev ee) :
    ACall Try.prog f_law13_do [.ptr 0 0, .ptr 3 0, .agg (.int .i64 5 :: .int .i64 box :: p.av)] (LH cs v e puts ov oe ev ee) (DoneP n) := by
  refine acallW fol ok_law13_do ?_
  have hp := B.inv.puts0
  have hpn := B.putsN
  have hl := B.inv.len
  have hoN := B.osN
  have heN := B.esN
  obtain ⟨ov1, oe1, ho1, mo⟩ := B.b.move 3
  obtain ⟨ev1, ee1, he1, me⟩ := B.c.move 4
  have hov := fun L => (mo (rn (place [3, 4, 5, 6, 7] L)) rfl).1
  have hoe := fun L => (mo (rn (place [3, 4, 5, 6, 7] L)) rfl).2
  have hev := fun L => (me (rn (place [3, 4, 5, 6, 7] L)) rfl).1
  have hee := fun L => (me (rn (place [3, 4, 5, 6, 7] L)) rfl).2
  have hv := fun L => (B.a.ren (g := rn (place [0, 1, 2] L)) rfl).1
  have he := fun L => (B.a.ren (g := rn (place [0, 1, 2] L)) rfl).2
  have sb : ∀ L T, standsL (rn (place [0, 1, 2] L)) (some (.cells [.sl 1 9 0 cs.length true, v, .int .i64 puts]) :: some (.arr (rows cav cs)) :: e :: T) [0, 1, 2] (bh cs v e puts) := fun L T => by simp -dsimp -implicitDefEqProofs (maxSteps := 1000000) (disch := first | exact dis | fail) only [standsL, bh, hv, he, cav_ren, go_sem]
  have sr : ∀ L x0 x1 x2 T, standsL (rn (place [3, 4, 5, 6, 7] L)) (x0 :: x1 :: x2 :: some (.cells [.sl 4 1 0 cs.length true, .sl 5 7 0 cs.length true, ov, ev]) :: some (.arr (rows si cs)) :: some (.arr (rows sp cs)) :: oe :: ee :: T) [3, 4, 5, 6, 7] (rh cs ov1 oe1 ev1 ee1) := fun L x0 x1 x2 T => by simp -dsimp -implicitDefEqProofs (maxSteps := 1000000) (disch := first | exact dis | fail) only [standsL, rh, hov, hoe, hev, hee, si_ren, sp_ren, go_sem]
  obtain ⟨hb1, hb2⟩ := bestAt_le cs cs.length (Nat.le_refl _)
  have hbr := (best_eq B.inv).symm
  have hd0 : (bestAt cs cs.length).toNat < cs.length := by omega
  have hd : cs[(bestAt cs cs.length).toNat]? = some cs[(bestAt cs cs.length).toNat] := List.getElem?_eq_getElem hd0
  generalize cs[(bestAt cs cs.length).toNat] = d at hd
  by_cases hb : bestAt cs cs.length < 0
  · have hbv : bestV cs = .tup [.int .i64 0, .agg pk0.av, .bool false] := by simp only [bestV, hd, if_pos hb]
    have hb0 : ¬ (0 ≤ bestAt cs cs.length) := by omega
    simp -dsimp -implicitDefEqProofs (maxSteps := 1000000) (disch := first | exact dis | fail) only [ic_law13_do, LH, go_sem]
    repeat' ((first
      | ((with_reducible refine awpIf_asT ?_ ?_); (focus assumption))
      | ((with_reducible refine awpIf_asF ?_ ?_); (focus assumption))
      | ((with_reducible refine awpGd_tT ?_ ?_); (focus assumption))
      | ((with_reducible refine awpGd_tF ?_ ?_); (focus assumption))
      | ((with_reducible refine awpGd_fF ?_ ?_); (focus assumption))
      | ((with_reducible refine awpGd_fT ?_ ?_); (focus assumption))
      | ((with_reducible apply awpGd_nst); (focus (intro h; replace h := nrm h; simp -dsimp -implicitDefEqProofs (maxSteps := 1000000) (disch := first | exact dis | fail) only [h, LH, go_sem]; rfl)))
      | ((with_reducible apply awpGd_nsf); (focus (intro h; replace h := nrm h; simp -dsimp -implicitDefEqProofs (maxSteps := 1000000) (disch := first | exact dis | fail) only [h, LH, go_sem]; rfl)))
      | ((with_reducible apply gO_t); (focus (intro h; replace h := nrm h; simp -dsimp -implicitDefEqProofs (maxSteps := 1000000) (disch := first | exact dis | fail) only [h, LH, go_sem]; rfl)))
      | ((with_reducible apply gO_f); (focus (intro h; replace h := nrm h; simp -dsimp -implicitDefEqProofs (maxSteps := 1000000) (disch := first | exact dis | fail) only [h, LH, go_sem]; rfl)))
      | ((with_reducible refine chkA_f ?_ ?_ ?_); (focus simp); (focus (intro h; replace h := nrm h; simp -dsimp -implicitDefEqProofs (maxSteps := 1000000) (disch := first | exact dis | fail) only [h, LH, go_sem])))
      | ((with_reducible refine chkA_t ?_ ?_ ?_); (focus simp); (focus (intro h; replace h := nrm h; simp -dsimp -implicitDefEqProofs (maxSteps := 1000000) (disch := first | exact dis | fail) only [h, LH, go_sem])))
      | ((with_reducible refine awpIf_decT ?_ ?_); (focus omega))
      | ((with_reducible refine awpIf_decF ?_ ?_); (focus omega))
      | ((with_reducible first | refine awpIf_dec ?_ ?_ | refine awpIf_ndec ?_ ?_ | refine awpGd_tdec ?_ ?_ | refine awpGd_fdec ?_ ?_ | refine awpGd_tndec ?_ ?_ | refine awpGd_fndec ?_ ?_) <;> intro h <;> (try simp -dsimp only [h]))
      | ((with_reducible first | refine awpIf_cases ?_ ?_ | refine awpGd_cases ?_ ?_ | refine gO_cases ?_ ?_) <;> intro h <;> replace h := nrm h <;> (try simp -dsimp only [h, Bool.not_true, Bool.not_false]))
      | ((with_reducible apply And.intro); (focus omega))) <;> (try simp -dsimp -implicitDefEqProofs (maxSteps := 1000000) (disch := first | exact dis | fail) only [LH, go_sem]))
    refine (Best_ok cs v e es puts hl B.a).at' [0, 1, 2] (by decide) rfl (sb _ _) rfl ?_
    rintro r A ⟨rfl, rfl⟩
    simp -dsimp -implicitDefEqProofs (maxSteps := 1000000) (disch := first | exact dis | fail) only [bh, hv, he, cav_ren, hbv, pk0, go_sem]
    repeat' ((first
      | ((with_reducible refine awpIf_asT ?_ ?_); (focus assumption))
      | ((with_reducible refine awpIf_asF ?_ ?_); (focus assumption))
      | ((with_reducible refine awpGd_tT ?_ ?_); (focus assumption))
      | ((with_reducible refine awpGd_tF ?_ ?_); (focus assumption))
      | ((with_reducible refine awpGd_fF ?_ ?_); (focus assumption))
      | ((with_reducible refine awpGd_fT ?_ ?_); (focus assumption))
      | ((with_reducible apply awpGd_nst); (focus (intro h; replace h := nrm h; simp -dsimp -implicitDefEqProofs (maxSteps := 1000000) (disch := first | exact dis | fail) only [h, bh, hv, he, cav_ren, hbv, pk0, go_sem]; rfl)))
      | ((with_reducible apply awpGd_nsf); (focus (intro h; replace h := nrm h; simp -dsimp -implicitDefEqProofs (maxSteps := 1000000) (disch := first | exact dis | fail) only [h, bh, hv, he, cav_ren, hbv, pk0, go_sem]; rfl)))
      | ((with_reducible apply gO_t); (focus (intro h; replace h := nrm h; simp -dsimp -implicitDefEqProofs (maxSteps := 1000000) (disch := first | exact dis | fail) only [h, bh, hv, he, cav_ren, hbv, pk0, go_sem]; rfl)))
      | ((with_reducible apply gO_f); (focus (intro h; replace h := nrm h; simp -dsimp -implicitDefEqProofs (maxSteps := 1000000) (disch := first | exact dis | fail) only [h, bh, hv, he, cav_ren, hbv, pk0, go_sem]; rfl)))
      | ((with_reducible refine chkA_f ?_ ?_ ?_); (focus simp); (focus (intro h; replace h := nrm h; simp -dsimp -implicitDefEqProofs (maxSteps := 1000000) (disch := first | exact dis | fail) only [h, bh, hv, he, cav_ren, hbv, pk0, go_sem])))
      | ((with_reducible refine chkA_t ?_ ?_ ?_); (focus simp); (focus (intro h; replace h := nrm h; simp -dsimp -implicitDefEqProofs (maxSteps := 1000000) (disch := first | exact dis | fail) only [h, bh, hv, he, cav_ren, hbv, pk0, go_sem])))
      | ((with_reducible refine awpIf_decT ?_ ?_); (focus omega))
      | ((with_reducible refine awpIf_decF ?_ ?_); (focus omega))
      | ((with_reducible first | refine awpIf_dec ?_ ?_ | refine awpIf_ndec ?_ ?_ | refine awpGd_tdec ?_ ?_ | refine awpGd_fdec ?_ ?_ | refine awpGd_tndec ?_ ?_ | refine awpGd_fndec ?_ ?_) <;> intro h <;> (try simp -dsimp only [h]))
      | ((with_reducible first | refine awpIf_cases ?_ ?_ | refine awpGd_cases ?_ ?_ | refine gO_cases ?_ ?_) <;> intro h <;> replace h := nrm h <;> (try simp -dsimp only [h, Bool.not_true, Bool.not_false]))
      | ((with_reducible apply And.intro); (focus omega))) <;> (try simp -dsimp -implicitDefEqProofs (maxSteps := 1000000) (disch := first | exact dis | fail) only [bh, hv, he, cav_ren, hbv, pk0, go_sem]))
    refine (RBest_ok cs ov1 oe1 ev1 ee1 os es hl (by omega) B.inv.osIn ho1 he1).at' [3, 4, 5, 6, 7] (by decide) rfl (sr _ _ _ _ _) rfl ?_
    rintro r A ⟨rfl, rfl⟩
    simp -dsimp -implicitDefEqProofs (maxSteps := 1000000) (disch := first | exact dis | fail) only [rh, hov, hoe, hev, hee, si_ren, sp_ren, hbr, hb, hb0, eqv_bool, eqv_struct, go_sem]
    repeat' ((first
      | ((with_reducible refine awpIf_asT ?_ ?_); (focus assumption))
      | ((with_reducible refine awpIf_asF ?_ ?_); (focus assumption))
      | ((with_reducible refine awpGd_tT ?_ ?_); (focus assumption))
      | ((with_reducible refine awpGd_tF ?_ ?_); (focus assumption))
      | ((with_reducible refine awpGd_fF ?_ ?_); (focus assumption))
      | ((with_reducible refine awpGd_fT ?_ ?_); (focus assumption))
      | ((with_reducible apply awpGd_nst); (focus (intro h; replace h := nrm h; simp -dsimp -implicitDefEqProofs (maxSteps := 1000000) (disch := first | exact dis | fail) only [h, rh, hov, hoe, hev, hee, si_ren, sp_ren, hbr, hb, hb0, eqv_bool, eqv_struct, go_sem]; rfl)))
      | ((with_reducible apply awpGd_nsf); (focus (intro h; replace h := nrm h; simp -dsimp -implicitDefEqProofs (maxSteps := 1000000) (disch := first | exact dis | fail) only [h, rh, hov, hoe, hev, hee, si_ren, sp_ren, hbr, hb, hb0, eqv_bool, eqv_struct, go_sem]; rfl)))
      | ((with_reducible apply gO_t); (focus (intro h; replace h := nrm h; simp -dsimp -implicitDefEqProofs (maxSteps := 1000000) (disch := first | exact dis | fail) only [h, rh, hov, hoe, hev, hee, si_ren, sp_ren, hbr, hb, hb0, eqv_bool, eqv_struct, go_sem]; rfl)))
      | ((with_reducible apply gO_f); (focus (intro h; replace h := nrm h; simp -dsimp -implicitDefEqProofs (maxSteps := 1000000) (disch := first | exact dis | fail) only [h, rh, hov, hoe, hev, hee, si_ren, sp_ren, hbr, hb, hb0, eqv_bool, eqv_struct, go_sem]; rfl)))
      | ((with_reducible refine chkA_f ?_ ?_ ?_); (focus simp); (focus (intro h; replace h := nrm h; simp -dsimp -implicitDefEqProofs (maxSteps := 1000000) (disch := first | exact dis | fail) only [h, rh, hov, hoe, hev, hee, si_ren, sp_ren, hbr, hb, hb0, eqv_bool, eqv_struct, go_sem])))
      | ((with_reducible refine chkA_t ?_ ?_ ?_); (focus simp); (focus (intro h; replace h := nrm h; simp -dsimp -implicitDefEqProofs (maxSteps := 1000000) (disch := first | exact dis | fail) only [h, rh, hov, hoe, hev, hee, si_ren, sp_ren, hbr, hb, hb0, eqv_bool, eqv_struct, go_sem])))
      | ((with_reducible refine awpIf_decT ?_ ?_); (focus omega))
      | ((with_reducible refine awpIf_decF ?_ ?_); (focus omega))
      | ((with_reducible first | refine awpIf_dec ?_ ?_ | refine awpIf_ndec ?_ ?_ | refine awpGd_tdec ?_ ?_ | refine awpGd_fdec ?_ ?_ | refine awpGd_tndec ?_ ?_ | refine awpGd_fndec ?_ ?_) <;> intro h <;> (try simp -dsimp only [h]))
      | ((with_reducible first | refine awpIf_cases ?_ ?_ | refine awpGd_cases ?_ ?_ | refine gO_cases ?_ ?_) <;> intro h <;> replace h := nrm h <;> (try simp -dsimp only [h, Bool.not_true, Bool.not_false]))
      | ((with_reducible apply And.intro); (focus omega))) <;> (try simp -dsimp -implicitDefEqProofs (maxSteps := 1000000) (disch := first | exact dis | fail) only [rh, hov, hoe, hev, hee, si_ren, sp_ren, hbr, hb, hb0, eqv_bool, eqv_struct, go_sem]))
    obtain ⟨v1, v2⟩ := B.a.ren (g := fnew 0 [0, 1, 2, 3, 4, 5, 6, 7]) rfl
    obtain ⟨b1, b2⟩ := B.b.ren (g := fnew 0 [0, 1, 2, 3, 4, 5, 6, 7]) rfl
    obtain ⟨c1, c2⟩ := B.c.ren (g := fnew 0 [0, 1, 2, 3, 4, 5, 6, 7]) rfl
    refine ⟨none, rfl, rfl, cs, os, es, puts, v, e, ov, oe, ev, ee, ⟨B.inv, B.a, B.b, B.c, by omega, by omega, by omega⟩, [0, 1, 2, 3, 4, 5, 6, 7], rfl, ⟨rfl, rfl⟩, Nat.le_of_ble_eq_true rfl, ?_⟩
    rw [foldAn, foldA_is]
    simp -dsimp -implicitDefEqProofs (maxSteps := 1000000) (disch := first | exact dis | fail) only [foldA_eq, LH, v1, v2, b1, b2, c1, c2, cav_ren, si_ren, sp_ren, go_sem]
  · have hbv : bestV cs = .tup [.int .i64 (bestAt cs cs.length), .agg d.pk.av, .bool true] := by simp only [bestV, hd, if_neg hb]
    have hb0 : 0 ≤ bestAt cs cs.length := by omega
    have hbk : endOk cs (bestAt cs cs.length) = true := best_ready hb0
    simp -dsimp -implicitDefEqProofs (maxSteps := 1000000) (disch := first | exact dis | fail) only [ic_law13_do, LH, go_sem]
    repeat' ((first
      | ((with_reducible refine awpIf_asT ?_ ?_); (focus assumption))
      | ((with_reducible refine awpIf_asF ?_ ?_); (focus assumption))
      | ((with_reducible refine awpGd_tT ?_ ?_); (focus assumption))
      | ((with_reducible refine awpGd_tF ?_ ?_); (focus assumption))
      | ((with_reducible refine awpGd_fF ?_ ?_); (focus assumption))
      | ((with_reducible refine awpGd_fT ?_ ?_); (focus assumption))
      | ((with_reducible apply awpGd_nst); (focus (intro h; replace h := nrm h; simp -dsimp -implicitDefEqProofs (maxSteps := 1000000) (disch := first | exact dis | fail) only [h, LH, go_sem]; rfl)))
      | ((with_reducible apply awpGd_nsf); (focus (intro h; replace h := nrm h; simp -dsimp -implicitDefEqProofs (maxSteps := 1000000) (disch := first | exact dis | fail) only [h, LH, go_sem]; rfl)))
      | ((with_reducible apply gO_t); (focus (intro h; replace h := nrm h; simp -dsimp -implicitDefEqProofs (maxSteps := 1000000) (disch := first | exact dis | fail) only [h, LH, go_sem]; rfl)))
      | ((with_reducible apply gO_f); (focus (intro h; replace h := nrm h; simp -dsimp -implicitDefEqProofs (maxSteps := 1000000) (disch := first | exact dis | fail) only [h, LH, go_sem]; rfl)))
      | ((with_reducible refine chkA_f ?_ ?_ ?_); (focus simp); (focus (intro h; replace h := nrm h; simp -dsimp -implicitDefEqProofs (maxSteps := 1000000) (disch := first | exact dis | fail) only [h, LH, go_sem])))
      | ((with_reducible refine chkA_t ?_ ?_ ?_); (focus simp); (focus (intro h; replace h := nrm h; simp -dsimp -implicitDefEqProofs (maxSteps := 1000000) (disch := first | exact dis | fail) only [h, LH, go_sem])))
      | ((with_reducible refine awpIf_decT ?_ ?_); (focus omega))
      | ((with_reducible refine awpIf_decF ?_ ?_); (focus omega))
      | ((with_reducible first | refine awpIf_dec ?_ ?_ | refine awpIf_ndec ?_ ?_ | refine awpGd_tdec ?_ ?_ | refine awpGd_fdec ?_ ?_ | refine awpGd_tndec ?_ ?_ | refine awpGd_fndec ?_ ?_) <;> intro h <;> (try simp -dsimp only [h]))
      | ((with_reducible first | refine awpIf_cases ?_ ?_ | refine awpGd_cases ?_ ?_ | refine gO_cases ?_ ?_) <;> intro h <;> replace h := nrm h <;> (try simp -dsimp only [h, Bool.not_true, Bool.not_false]))
      | ((with_reducible apply And.intro); (focus omega))) <;> (try simp -dsimp -implicitDefEqProofs (maxSteps := 1000000) (disch := first | exact dis | fail) only [LH, go_sem]))
    refine (Best_ok cs v e es puts hl B.a).at' [0, 1, 2] (by decide) rfl (sb _ _) rfl ?_
    rintro r A ⟨rfl, rfl⟩
    simp -dsimp -implicitDefEqProofs (maxSteps := 1000000) (disch := first | exact dis | fail) only [bh, hv, he, cav_ren, hbv, go_sem]
    repeat' ((first
      | ((with_reducible refine awpIf_asT ?_ ?_); (focus assumption))
      | ((with_reducible refine awpIf_asF ?_ ?_); (focus assumption))
      | ((with_reducible refine awpGd_tT ?_ ?_); (focus assumption))
      | ((with_reducible refine awpGd_tF ?_ ?_); (focus assumption))
      | ((with_reducible refine awpGd_fF ?_ ?_); (focus assumption))
      | ((with_reducible refine awpGd_fT ?_ ?_); (focus assumption))
      | ((with_reducible apply awpGd_nst); (focus (intro h; replace h := nrm h; simp -dsimp -implicitDefEqProofs (maxSteps := 1000000) (disch := first | exact dis | fail) only [h, bh, hv, he, cav_ren, hbv, go_sem]; rfl)))
      | ((with_reducible apply awpGd_nsf); (focus (intro h; replace h := nrm h; simp -dsimp -implicitDefEqProofs (maxSteps := 1000000) (disch := first | exact dis | fail) only [h, bh, hv, he, cav_ren, hbv, go_sem]; rfl)))
      | ((with_reducible apply gO_t); (focus (intro h; replace h := nrm h; simp -dsimp -implicitDefEqProofs (maxSteps := 1000000) (disch := first | exact dis | fail) only [h, bh, hv, he, cav_ren, hbv, go_sem]; rfl)))
      | ((with_reducible apply gO_f); (focus (intro h; replace h := nrm h; simp -dsimp -implicitDefEqProofs (maxSteps := 1000000) (disch := first | exact dis | fail) only [h, bh, hv, he, cav_ren, hbv, go_sem]; rfl)))
      | ((with_reducible refine chkA_f ?_ ?_ ?_); (focus simp); (focus (intro h; replace h := nrm h; simp -dsimp -implicitDefEqProofs (maxSteps := 1000000) (disch := first | exact dis | fail) only [h, bh, hv, he, cav_ren, hbv, go_sem])))
      | ((with_reducible refine chkA_t ?_ ?_ ?_); (focus simp); (focus (intro h; replace h := nrm h; simp -dsimp -implicitDefEqProofs (maxSteps := 1000000) (disch := first | exact dis | fail) only [h, bh, hv, he, cav_ren, hbv, go_sem])))
      | ((with_reducible refine awpIf_decT ?_ ?_); (focus omega))
      | ((with_reducible refine awpIf_decF ?_ ?_); (focus omega))
      | ((with_reducible first | refine awpIf_dec ?_ ?_ | refine awpIf_ndec ?_ ?_ | refine awpGd_tdec ?_ ?_ | refine awpGd_fdec ?_ ?_ | refine awpGd_tndec ?_ ?_ | refine awpGd_fndec ?_ ?_) <;> intro h <;> (try simp -dsimp only [h]))
      | ((with_reducible first | refine awpIf_cases ?_ ?_ | refine awpGd_cases ?_ ?_ | refine gO_cases ?_ ?_) <;> intro h <;> replace h := nrm h <;> (try simp -dsimp only [h, Bool.not_true, Bool.not_false]))
      | ((with_reducible apply And.intro); (focus omega))) <;> (try simp -dsimp -implicitDefEqProofs (maxSteps := 1000000) (disch := first | exact dis | fail) only [bh, hv, he, cav_ren, hbv, go_sem]))
    refine (RBest_ok cs ov1 oe1 ev1 ee1 os es hl (by omega) B.inv.osIn ho1 he1).at' [3, 4, 5, 6, 7] (by decide) rfl (sr _ _ _ _ _) rfl ?_
    rintro r A ⟨rfl, rfl⟩
    simp -dsimp -implicitDefEqProofs (maxSteps := 1000000) (disch := first | exact dis | fail) only [rh, hov, hoe, hev, hee, si_ren, sp_ren, hbr, hb, hb0, eqv_bool, eqv_struct, go_sem]
    repeat' ((first
      | ((with_reducible refine awpIf_asT ?_ ?_); (focus assumption))
      | ((with_reducible refine awpIf_asF ?_ ?_); (focus assumption))
      | ((with_reducible refine awpGd_tT ?_ ?_); (focus assumption))
      | ((with_reducible refine awpGd_tF ?_ ?_); (focus assumption))
      | ((with_reducible refine awpGd_fF ?_ ?_); (focus assumption))
      | ((with_reducible refine awpGd_fT ?_ ?_); (focus assumption))
      | ((with_reducible apply awpGd_nst); (focus (intro h; replace h := nrm h; simp -dsimp -implicitDefEqProofs (maxSteps := 1000000) (disch := first | exact dis | fail) only [h, rh, hov, hoe, hev, hee, si_ren, sp_ren, hbr, hb, hb0, eqv_bool, eqv_struct, go_sem]; rfl)))
      | ((with_reducible apply awpGd_nsf); (focus (intro h; replace h := nrm h; simp -dsimp -implicitDefEqProofs (maxSteps := 1000000) (disch := first | exact dis | fail) only [h, rh, hov, hoe, hev, hee, si_ren, sp_ren, hbr, hb, hb0, eqv_bool, eqv_struct, go_sem]; rfl)))
      | ((with_reducible apply gO_t); (focus (intro h; replace h := nrm h; simp -dsimp -implicitDefEqProofs (maxSteps := 1000000) (disch := first | exact dis | fail) only [h, rh, hov, hoe, hev, hee, si_ren, sp_ren, hbr, hb, hb0, eqv_bool, eqv_struct, go_sem]; rfl)))
      | ((with_reducible apply gO_f); (focus (intro h; replace h := nrm h; simp -dsimp -implicitDefEqProofs (maxSteps := 1000000) (disch := first | exact dis | fail) only [h, rh, hov, hoe, hev, hee, si_ren, sp_ren, hbr, hb, hb0, eqv_bool, eqv_struct, go_sem]; rfl)))
      | ((with_reducible refine chkA_f ?_ ?_ ?_); (focus simp); (focus (intro h; replace h := nrm h; simp -dsimp -implicitDefEqProofs (maxSteps := 1000000) (disch := first | exact dis | fail) only [h, rh, hov, hoe, hev, hee, si_ren, sp_ren, hbr, hb, hb0, eqv_bool, eqv_struct, go_sem])))
      | ((with_reducible refine chkA_t ?_ ?_ ?_); (focus simp); (focus (intro h; replace h := nrm h; simp -dsimp -implicitDefEqProofs (maxSteps := 1000000) (disch := first | exact dis | fail) only [h, rh, hov, hoe, hev, hee, si_ren, sp_ren, hbr, hb, hb0, eqv_bool, eqv_struct, go_sem])))
      | ((with_reducible refine awpIf_decT ?_ ?_); (focus omega))
      | ((with_reducible refine awpIf_decF ?_ ?_); (focus omega))
      | ((with_reducible first | refine awpIf_dec ?_ ?_ | refine awpIf_ndec ?_ ?_ | refine awpGd_tdec ?_ ?_ | refine awpGd_fdec ?_ ?_ | refine awpGd_tndec ?_ ?_ | refine awpGd_fndec ?_ ?_) <;> intro h <;> (try simp -dsimp only [h]))
      | ((with_reducible first | refine awpIf_cases ?_ ?_ | refine awpGd_cases ?_ ?_ | refine gO_cases ?_ ?_) <;> intro h <;> replace h := nrm h <;> (try simp -dsimp only [h, Bool.not_true, Bool.not_false]))
      | ((with_reducible apply And.intro); (focus omega))) <;> (try simp -dsimp -implicitDefEqProofs (maxSteps := 1000000) (disch := first | exact dis | fail) only [rh, hov, hoe, hev, hee, si_ren, sp_ren, hbr, hb, hb0, eqv_bool, eqv_struct, go_sem]))
    refine (Sent_ok cs v e es puts (bestAt cs cs.length) hl.2 (by omega) B.a).at' [0, 1, 2] (by decide) rfl (sb _ _) rfl ?_
    rintro r A (⟨h, rfl, rfl⟩ | ⟨h, rfl, d4, hd4, rfl⟩)
    · rw [hbk] at h; cases h
    · skip
      simp -dsimp -implicitDefEqProofs (maxSteps := 1000000) (disch := first | exact dis | fail) only [hd4, cav_ren, i1_ren, go_sem]
      repeat' ((first
        | ((with_reducible refine awpIf_asT ?_ ?_); (focus assumption))
        | ((with_reducible refine awpIf_asF ?_ ?_); (focus assumption))
        | ((with_reducible refine awpGd_tT ?_ ?_); (focus assumption))
        | ((with_reducible refine awpGd_tF ?_ ?_); (focus assumption))
        | ((with_reducible refine awpGd_fF ?_ ?_); (focus assumption))
        | ((with_reducible refine awpGd_fT ?_ ?_); (focus assumption))
        | ((with_reducible apply awpGd_nst); (focus (intro h; replace h := nrm h; simp -dsimp -implicitDefEqProofs (maxSteps := 1000000) (disch := first | exact dis | fail) only [h, hd4, cav_ren, i1_ren, go_sem]; rfl)))
        | ((with_reducible apply awpGd_nsf); (focus (intro h; replace h := nrm h; simp -dsimp -implicitDefEqProofs (maxSteps := 1000000) (disch := first | exact dis | fail) only [h, hd4, cav_ren, i1_ren, go_sem]; rfl)))
        | ((with_reducible apply gO_t); (focus (intro h; replace h := nrm h; simp -dsimp -implicitDefEqProofs (maxSteps := 1000000) (disch := first | exact dis | fail) only [h, hd4, cav_ren, i1_ren, go_sem]; rfl)))
        | ((with_reducible apply gO_f); (focus (intro h; replace h := nrm h; simp -dsimp -implicitDefEqProofs (maxSteps := 1000000) (disch := first | exact dis | fail) only [h, hd4, cav_ren, i1_ren, go_sem]; rfl)))
        | ((with_reducible refine chkA_f ?_ ?_ ?_); (focus simp); (focus (intro h; replace h := nrm h; simp -dsimp -implicitDefEqProofs (maxSteps := 1000000) (disch := first | exact dis | fail) only [h, hd4, cav_ren, i1_ren, go_sem])))
        | ((with_reducible refine chkA_t ?_ ?_ ?_); (focus simp); (focus (intro h; replace h := nrm h; simp -dsimp -implicitDefEqProofs (maxSteps := 1000000) (disch := first | exact dis | fail) only [h, hd4, cav_ren, i1_ren, go_sem])))
        | ((with_reducible refine awpIf_decT ?_ ?_); (focus omega))
        | ((with_reducible refine awpIf_decF ?_ ?_); (focus omega))
        | ((with_reducible first | refine awpIf_dec ?_ ?_ | refine awpIf_ndec ?_ ?_ | refine awpGd_tdec ?_ ?_ | refine awpGd_fdec ?_ ?_ | refine awpGd_tndec ?_ ?_ | refine awpGd_fndec ?_ ?_) <;> intro h <;> (try simp -dsimp only [h]))
        | ((with_reducible first | refine awpIf_cases ?_ ?_ | refine awpGd_cases ?_ ?_ | refine gO_cases ?_ ?_) <;> intro h <;> replace h := nrm h <;> (try simp -dsimp only [h, Bool.not_true, Bool.not_false]))
        | ((with_reducible apply And.intro); (focus omega))) <;> (try simp -dsimp -implicitDefEqProofs (maxSteps := 1000000) (disch := first | exact dis | fail) only [hd4, cav_ren, i1_ren, go_sem]))
      refine (REnd_c cs ov1 oe1 ev1 ee1 os es (bestAt cs cs.length) 2 hl (by omega) (by omega) ho1 he1 hbk).at' [3, 4, 5, 6, 7] (by decide) rfl (sr _ _ _ _ _) rfl ?_
      rintro r A ⟨rfl, d1, d2, v2, e2, hd1, hd2, hv2, rfl⟩
      simp -dsimp -implicitDefEqProofs (maxSteps := 1000000) (disch := first | exact dis | fail) only [hd1, hd2, si_ren, sp_ren, i1_ren, go_sem]
      repeat' ((first
        | ((with_reducible refine awpIf_asT ?_ ?_); (focus assumption))
        | ((with_reducible refine awpIf_asF ?_ ?_); (focus assumption))
        | ((with_reducible refine awpGd_tT ?_ ?_); (focus assumption))
        | ((with_reducible refine awpGd_tF ?_ ?_); (focus assumption))
        | ((with_reducible refine awpGd_fF ?_ ?_); (focus assumption))
        | ((with_reducible refine awpGd_fT ?_ ?_); (focus assumption))
        | ((with_reducible apply awpGd_nst); (focus (intro h; replace h := nrm h; simp -dsimp -implicitDefEqProofs (maxSteps := 1000000) (disch := first | exact dis | fail) only [h, hd1, hd2, si_ren, sp_ren, i1_ren, go_sem]; rfl)))
        | ((with_reducible apply awpGd_nsf); (focus (intro h; replace h := nrm h; simp -dsimp -implicitDefEqProofs (maxSteps := 1000000) (disch := first | exact dis | fail) only [h, hd1, hd2, si_ren, sp_ren, i1_ren, go_sem]; rfl)))
        | ((with_reducible apply gO_t); (focus (intro h; replace h := nrm h; simp -dsimp -implicitDefEqProofs (maxSteps := 1000000) (disch := first | exact dis | fail) only [h, hd1, hd2, si_ren, sp_ren, i1_ren, go_sem]; rfl)))
        | ((with_reducible apply gO_f); (focus (intro h; replace h := nrm h; simp -dsimp -implicitDefEqProofs (maxSteps := 1000000) (disch := first | exact dis | fail) only [h, hd1, hd2, si_ren, sp_ren, i1_ren, go_sem]; rfl)))
        | ((with_reducible refine chkA_f ?_ ?_ ?_); (focus simp); (focus (intro h; replace h := nrm h; simp -dsimp -implicitDefEqProofs (maxSteps := 1000000) (disch := first | exact dis | fail) only [h, hd1, hd2, si_ren, sp_ren, i1_ren, go_sem])))
        | ((with_reducible refine chkA_t ?_ ?_ ?_); (focus simp); (focus (intro h; replace h := nrm h; simp -dsimp -implicitDefEqProofs (maxSteps := 1000000) (disch := first | exact dis | fail) only [h, hd1, hd2, si_ren, sp_ren, i1_ren, go_sem])))
        | ((with_reducible refine awpIf_decT ?_ ?_); (focus omega))
        | ((with_reducible refine awpIf_decF ?_ ?_); (focus omega))
        | ((with_reducible first | refine awpIf_dec ?_ ?_ | refine awpIf_ndec ?_ ?_ | refine awpGd_tdec ?_ ?_ | refine awpGd_fdec ?_ ?_ | refine awpGd_tndec ?_ ?_ | refine awpGd_fndec ?_ ?_) <;> intro h <;> (try simp -dsimp only [h]))
        | ((with_reducible first | refine awpIf_cases ?_ ?_ | refine awpGd_cases ?_ ?_ | refine gO_cases ?_ ?_) <;> intro h <;> replace h := nrm h <;> (try simp -dsimp only [h, Bool.not_true, Bool.not_false]))
        | ((with_reducible apply And.intro); (focus omega))) <;> (try simp -dsimp -implicitDefEqProofs (maxSteps := 1000000) (disch := first | exact dis | fail) only [hd1, hd2, si_ren, sp_ren, i1_ren, go_sem]))
      have h3 := (hv2.ren' (g := rn (place [3, 4, 5, 6, 7] 11)) (l' := 11) rfl).ren' (g := fnew 0 [0, 1, 10, 3, 4, 5, 11, 12]) (l' := 6) rfl
      refine ⟨none, rfl, rfl, endC cs (bestAt cs cs.length) 2, os.filter (fun x => !decide (x = (bestAt cs cs.length))), es ++ [bestAt cs cs.length], puts, .sl 2 1 0 (es.length + 1) false, some (.arr (rows i1 (es ++ [bestAt cs cs.length]))), _, _, .sl 7 1 0 (es.length + 1) false, some (.arr (rows i1 (es ++ [bestAt cs cs.length]))), ⟨inv_end B.inv hbk (by decide), .inr ⟨[], by simp, rfl⟩, h3, .inr ⟨[], by simp, rfl⟩, by have := List.length_filter_le (fun x => !decide (x = bestAt cs cs.length)) os; omega, by simp; omega, by omega⟩, [0, 1, 10, 3, 4, 5, 11, 12], rfl, ⟨rfl, rfl⟩, Nat.le_of_ble_eq_true rfl, ?_⟩
      rw [foldAn, foldA_is]
      simp -dsimp -implicitDefEqProofs (maxSteps := 1000000) (disch := first | exact dis | fail) only [foldA_eq, LH, cav_ren, si_ren, sp_ren, i1_ren, endC_len, go_sem]
end Go.Proofs.Ytkkccabchhnebaa
