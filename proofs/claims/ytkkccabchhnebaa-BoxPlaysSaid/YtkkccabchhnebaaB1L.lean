/- One call of the law: box and the document answer alike. Conditions: none. -/
import Derived.Test.YtkkccabchhnebaaB1K
import Derived.Test.YtkkccabchhnebaaFwSd
namespace Go.Proofs.Ytkkccabchhnebaa
open Go.SB
attribute [local irreducible] AW OPS ORD
set_option maxRecDepth 100000
set_option maxHeartbeats 4000000
set_option linter.unusedSimpArgs false
set_option linter.unusedVariables false

theorem ER.move {l : Nat} {v : AV} {e : Option AO} {es : List Int} (h : ER l v e es) (l' : Nat) : ∃ v' e', ER l' v' e' es ∧ ∀ g : Nat → Option Nat, g l' = some l → AV.ren g v' = v ∧ e'.map (AO.ren g) = e := by
  rcases h with ⟨rfl, rfl, h⟩ | ⟨pre, rfl, rfl⟩
  · exact ⟨.nils, none, .inl ⟨rfl, rfl, h⟩, fun g _ => ⟨rfl, rfl⟩⟩
  · refine ⟨.sl l' 1 pre.length es.length false, some (.arr (rows i1 (pre ++ es))), .inr ⟨pre, rfl, rfl⟩, fun g hg => ?_⟩
    rw [ren_sl, hg]
    exact ⟨rfl, congrArg some i1_ren⟩
/-- Both, as the law holds them. -/
def LH (cs : List Cl) (v : AV) (e : Option AO) (puts : Int) (ov : AV) (oe : Option AO) (ev : AV) (ee : Option AO) : AHeap :=
  [some (.cells [.sl 1 9 0 cs.length true, v, .int .i64 puts]), some (.arr (rows cav cs)), e,
   some (.cells [.sl 4 1 0 cs.length true, .sl 5 7 0 cs.length true, ov, ev]), some (.arr (rows si cs)), some (.arr (rows sp cs)), oe, ee]
theorem foldA_is {n : Nat} {ks : List Nat} {A : AHeap} : foldA n ks A = foldAo n (some ks) A := rfl
structure Both (n : Nat) (cs : List Cl) (os es : List Int) (puts : Int) (v : AV) (e : Option AO) (ov : AV) (oe : Option AO) (ev : AV) (ee : Option AO) : Prop where
  inv : Inv cs os es puts
  a : ER 2 v e es
  b : ER 6 ov oe os
  c : ER 7 ev ee es
  osN : os.length ≤ n
  esN : es.length ≤ n
  putsN : puts ≤ n
/-- Behind a call: it was answered alike, and both stand as before it. -/
def DoneP (n : Nat) (r : AV) (A : AHeap) : Prop := r = .bool true ∧ ∃ cs os es puts v e ov oe ev ee, Both (n + 1) cs os es puts v e ov oe ev ee ∧ ∃ ks : List Nat, okKeep 0 ks = true ∧ (ks.idxOf? 0 = some 0 ∧ ks.idxOf? 3 = some 3) ∧ 8 ≤ A.length ∧ foldA 0 ks A = LH cs v e puts ov oe ev ee

theorem do0_ok (box : Int) (p : Pk) {n : Nat} (hn : n ≤ 100000) {cs : List Cl} {os es : List Int} {puts : Int} {v : AV} {e : Option AO} {ov : AV} {oe : Option AO} {ev : AV} {ee : Option AO} (B : Both n cs os es puts v e ov oe ev ee) :
    ACall Try.prog f_law13_do [.ptr 0 0, .ptr 3 0, .agg (.int .i64 0 :: .int .i64 box :: p.av)] (LH cs v e puts ov oe ev ee) (DoneP n) := by
  refine acallW fol ok_law13_do ?_
  have hp := B.inv.puts0
  have hpn := B.putsN
  have hl := B.inv.len
  obtain ⟨ov1, oe1, ho1, mo⟩ := B.b.move 3
  obtain ⟨ev1, ee1, he1, me⟩ := B.c.move 4
  have hov := fun L => (mo (rn (place [3, 4, 5, 6, 7] L)) rfl).1
  have hoe := fun L => (mo (rn (place [3, 4, 5, 6, 7] L)) rfl).2
  have hev := fun L => (me (rn (place [3, 4, 5, 6, 7] L)) rfl).1
  have hee := fun L => (me (rn (place [3, 4, 5, 6, 7] L)) rfl).2
  have hv := fun L => (B.a.ren (g := rn (place [0, 1, 2] L)) rfl).1
  have he := fun L => (B.a.ren (g := rn (place [0, 1, 2] L)) rfl).2
  have sb : ∀ L T, standsL (rn (place [0, 1, 2] L)) (some (.cells [.sl 1 9 0 cs.length true, v, .int .i64 puts]) :: some (.arr (rows cav cs)) :: e :: T) [0, 1, 2] (bh cs v e puts) := fun L T => by simp -dsimp -implicitDefEqProofs (maxSteps := 1000000) (disch := first | exact dis | fail) only [standsL, bh, hv, he, cav_ren, go_sem]
  have sr : ∀ L x0 x1 x2 T, standsL (rn (place [3, 4, 5, 6, 7] L)) (x0 :: x1 :: x2 :: some (.cells [.sl 4 1 0 cs.length true, .sl 5 7 0 cs.length true, ov, ev]) :: some (.arr (rows si cs)) :: some (.arr (rows sp cs)) :: oe :: ee :: T) [3, 4, 5, 6, 7] (rh cs ov1 oe1 ev1 ee1) := fun L x0 x1 x2 T => by simp -dsimp -implicitDefEqProofs (maxSteps := 1000000) (disch := first | exact dis | fail) only [standsL, rh, hov, hoe, hev, hee, si_ren, sp_ren, go_sem]
  by_cases hk : keyR p.fr < 0
  · skip
    simp -dsimp -implicitDefEqProofs (maxSteps := 1000000) (disch := first | exact dis | fail) only [ic_law13_do, LH, go_sem]
    repeat' ((first
      | ((with_reducible refine awpIf_asT ?_ ?_); (focus assumption))
      | ((with_reducible refine awpIf_asF ?_ ?_); (focus assumption))
      | ((with_reducible refine awpGd_tT ?_ ?_); (focus assumption))
      | ((with_reducible refine awpGd_tF ?_ ?_); (focus assumption))
      | ((with_reducible refine awpGd_fF ?_ ?_); (focus assumption))
      | ((with_reducible refine awpGd_fT ?_ ?_); (focus assumption))
      | ((with_reducible apply awpGd_nst); (focus (intro h; replace h := nrm h; simp -dsimp -implicitDefEqProofs (maxSteps := 1000000) (disch := first | exact dis | fail) only [h, LH, go_sem]; rfl)))
      | ((with_reducible apply awpGd_nsf); (focus (intro h; replace h := nrm h; simp -dsimp -implicitDefEqProofs (maxSteps := 1000000) (disch := first | exact dis | fail) only [h, LH, go_sem]; rfl)))
      | ((with_reducible apply gO_t); (focus (intro h; replace h := nrm h; simp -dsimp -implicitDefEqProofs (maxSteps := 1000000) (disch := first | exact dis | fail) only [h, LH, go_sem]; rfl)))
      | ((with_reducible apply gO_f); (focus (intro h; replace h := nrm h; simp -dsimp -implicitDefEqProofs (maxSteps := 1000000) (disch := first | exact dis | fail) only [h, LH, go_sem]; rfl)))
      | ((with_reducible refine chkA_f ?_ ?_ ?_); (focus simp); (focus (intro h; replace h := nrm h; simp -dsimp -implicitDefEqProofs (maxSteps := 1000000) (disch := first | exact dis | fail) only [h, LH, go_sem])))
      | ((with_reducible refine chkA_t ?_ ?_ ?_); (focus simp); (focus (intro h; replace h := nrm h; simp -dsimp -implicitDefEqProofs (maxSteps := 1000000) (disch := first | exact dis | fail) only [h, LH, go_sem])))
      | ((with_reducible refine awpIf_decT ?_ ?_); (focus omega))
      | ((with_reducible refine awpIf_decF ?_ ?_); (focus omega))
      | ((with_reducible first | refine awpIf_dec ?_ ?_ | refine awpIf_ndec ?_ ?_ | refine awpGd_tdec ?_ ?_ | refine awpGd_fdec ?_ ?_ | refine awpGd_tndec ?_ ?_ | refine awpGd_fndec ?_ ?_) <;> intro h <;> (try simp -dsimp only [h]))
      | ((with_reducible first | refine awpIf_cases ?_ ?_ | refine awpGd_cases ?_ ?_ | refine gO_cases ?_ ?_) <;> intro h <;> replace h := nrm h <;> (try simp -dsimp only [h, Bool.not_true, Bool.not_false]))
      | ((with_reducible apply And.intro); (focus omega))) <;> (try simp -dsimp -implicitDefEqProofs (maxSteps := 1000000) (disch := first | exact dis | fail) only [LH, go_sem]))
    refine (Put_ok cs p v e es puts hl.2 ⟨hp, by omega⟩ B.a).at' [0, 1, 2] (by decide) rfl (sb _ _) rfl ?_
    rintro r A ⟨rfl, rfl⟩
    simp -dsimp -implicitDefEqProofs (maxSteps := 1000000) (disch := first | exact dis | fail) only [bh, hv, he, cav_ren, putE, putC, putN, hk, go_sem]
    repeat' ((first
      | ((with_reducible refine awpIf_asT ?_ ?_); (focus assumption))
      | ((with_reducible refine awpIf_asF ?_ ?_); (focus assumption))
      | ((with_reducible refine awpGd_tT ?_ ?_); (focus assumption))
      | ((with_reducible refine awpGd_tF ?_ ?_); (focus assumption))
      | ((with_reducible refine awpGd_fF ?_ ?_); (focus assumption))
      | ((with_reducible refine awpGd_fT ?_ ?_); (focus assumption))
      | ((with_reducible apply awpGd_nst); (focus (intro h; replace h := nrm h; simp -dsimp -implicitDefEqProofs (maxSteps := 1000000) (disch := first | exact dis | fail) only [h, bh, hv, he, cav_ren, putE, putC, putN, hk, go_sem]; rfl)))
      | ((with_reducible apply awpGd_nsf); (focus (intro h; replace h := nrm h; simp -dsimp -implicitDefEqProofs (maxSteps := 1000000) (disch := first | exact dis | fail) only [h, bh, hv, he, cav_ren, putE, putC, putN, hk, go_sem]; rfl)))
      | ((with_reducible apply gO_t); (focus (intro h; replace h := nrm h; simp -dsimp -implicitDefEqProofs (maxSteps := 1000000) (disch := first | exact dis | fail) only [h, bh, hv, he, cav_ren, putE, putC, putN, hk, go_sem]; rfl)))
      | ((with_reducible apply gO_f); (focus (intro h; replace h := nrm h; simp -dsimp -implicitDefEqProofs (maxSteps := 1000000) (disch := first | exact dis | fail) only [h, bh, hv, he, cav_ren, putE, putC, putN, hk, go_sem]; rfl)))
      | ((with_reducible refine chkA_f ?_ ?_ ?_); (focus simp); (focus (intro h; replace h := nrm h; simp -dsimp -implicitDefEqProofs (maxSteps := 1000000) (disch := first | exact dis | fail) only [h, bh, hv, he, cav_ren, putE, putC, putN, hk, go_sem])))
      | ((with_reducible refine chkA_t ?_ ?_ ?_); (focus simp); (focus (intro h; replace h := nrm h; simp -dsimp -implicitDefEqProofs (maxSteps := 1000000) (disch := first | exact dis | fail) only [h, bh, hv, he, cav_ren, putE, putC, putN, hk, go_sem])))
      | ((with_reducible refine awpIf_decT ?_ ?_); (focus omega))
      | ((with_reducible refine awpIf_decF ?_ ?_); (focus omega))
      | ((with_reducible first | refine awpIf_dec ?_ ?_ | refine awpIf_ndec ?_ ?_ | refine awpGd_tdec ?_ ?_ | refine awpGd_fdec ?_ ?_ | refine awpGd_tndec ?_ ?_ | refine awpGd_fndec ?_ ?_) <;> intro h <;> (try simp -dsimp only [h]))
      | ((with_reducible first | refine awpIf_cases ?_ ?_ | refine awpGd_cases ?_ ?_ | refine gO_cases ?_ ?_) <;> intro h <;> replace h := nrm h <;> (try simp -dsimp only [h, Bool.not_true, Bool.not_false]))
      | ((with_reducible apply And.intro); (focus omega))) <;> (try simp -dsimp -implicitDefEqProofs (maxSteps := 1000000) (disch := first | exact dis | fail) only [bh, hv, he, cav_ren, putE, putC, putN, hk, go_sem]))
    refine (RPut_a cs p ov1 oe1 ev1 ee1 os es ho1 he1 hk).at' [3, 4, 5, 6, 7] (by decide) rfl (sr _ _ _ _ _) rfl ?_
    rintro r A ⟨rfl, rfl⟩
    simp -dsimp -implicitDefEqProofs (maxSteps := 1000000) (disch := first | exact dis | fail) only [rh, hov, hoe, hev, hee, si_ren, sp_ren, go_sem]
    repeat' ((first
      | ((with_reducible refine awpIf_asT ?_ ?_); (focus assumption))
      | ((with_reducible refine awpIf_asF ?_ ?_); (focus assumption))
      | ((with_reducible refine awpGd_tT ?_ ?_); (focus assumption))
      | ((with_reducible refine awpGd_tF ?_ ?_); (focus assumption))
      | ((with_reducible refine awpGd_fF ?_ ?_); (focus assumption))
      | ((with_reducible refine awpGd_fT ?_ ?_); (focus assumption))
      | ((with_reducible apply awpGd_nst); (focus (intro h; replace h := nrm h; simp -dsimp -implicitDefEqProofs (maxSteps := 1000000) (disch := first | exact dis | fail) only [h, rh, hov, hoe, hev, hee, si_ren, sp_ren, go_sem]; rfl)))
      | ((with_reducible apply awpGd_nsf); (focus (intro h; replace h := nrm h; simp -dsimp -implicitDefEqProofs (maxSteps := 1000000) (disch := first | exact dis | fail) only [h, rh, hov, hoe, hev, hee, si_ren, sp_ren, go_sem]; rfl)))
      | ((with_reducible apply gO_t); (focus (intro h; replace h := nrm h; simp -dsimp -implicitDefEqProofs (maxSteps := 1000000) (disch := first | exact dis | fail) only [h, rh, hov, hoe, hev, hee, si_ren, sp_ren, go_sem]; rfl)))
      | ((with_reducible apply gO_f); (focus (intro h; replace h := nrm h; simp -dsimp -implicitDefEqProofs (maxSteps := 1000000) (disch := first | exact dis | fail) only [h, rh, hov, hoe, hev, hee, si_ren, sp_ren, go_sem]; rfl)))
      | ((with_reducible refine chkA_f ?_ ?_ ?_); (focus simp); (focus (intro h; replace h := nrm h; simp -dsimp -implicitDefEqProofs (maxSteps := 1000000) (disch := first | exact dis | fail) only [h, rh, hov, hoe, hev, hee, si_ren, sp_ren, go_sem])))
      | ((with_reducible refine chkA_t ?_ ?_ ?_); (focus simp); (focus (intro h; replace h := nrm h; simp -dsimp -implicitDefEqProofs (maxSteps := 1000000) (disch := first | exact dis | fail) only [h, rh, hov, hoe, hev, hee, si_ren, sp_ren, go_sem])))
      | ((with_reducible refine awpIf_decT ?_ ?_); (focus omega))
      | ((with_reducible refine awpIf_decF ?_ ?_); (focus omega))
      | ((with_reducible first | refine awpIf_dec ?_ ?_ | refine awpIf_ndec ?_ ?_ | refine awpGd_tdec ?_ ?_ | refine awpGd_fdec ?_ ?_ | refine awpGd_tndec ?_ ?_ | refine awpGd_fndec ?_ ?_) <;> intro h <;> (try simp -dsimp only [h]))
      | ((with_reducible first | refine awpIf_cases ?_ ?_ | refine awpGd_cases ?_ ?_ | refine gO_cases ?_ ?_) <;> intro h <;> replace h := nrm h <;> (try simp -dsimp only [h, Bool.not_true, Bool.not_false]))
      | ((with_reducible apply And.intro); (focus omega))) <;> (try simp -dsimp -implicitDefEqProofs (maxSteps := 1000000) (disch := first | exact dis | fail) only [rh, hov, hoe, hev, hee, si_ren, sp_ren, go_sem]))
    obtain ⟨v1, v2⟩ := B.a.ren (g := fnew 0 [0, 1, 2, 3, 4, 5, 6, 7]) rfl
    obtain ⟨b1, b2⟩ := B.b.ren (g := fnew 0 [0, 1, 2, 3, 4, 5, 6, 7]) rfl
    obtain ⟨c1, c2⟩ := B.c.ren (g := fnew 0 [0, 1, 2, 3, 4, 5, 6, 7]) rfl
    refine ⟨none, rfl, rfl, cs, os, es, puts, v, e, ov, oe, ev, ee, ⟨B.inv, B.a, B.b, B.c, by have := B.osN; omega, by have := B.esN; omega, by omega⟩, [0, 1, 2, 3, 4, 5, 6, 7], rfl, ⟨rfl, rfl⟩, Nat.le_of_ble_eq_true rfl, ?_⟩
    rw [foldAn, foldA_is]
    simp -dsimp -implicitDefEqProofs (maxSteps := 1000000) (disch := first | exact dis | fail) only [foldA_eq, LH, v1, v2, b1, b2, c1, c2, cav_ren, si_ren, sp_ren, go_sem]
  · cases hf : freeAt cs 0 with
    | none =>
      simp -dsimp -implicitDefEqProofs (maxSteps := 1000000) (disch := first | exact dis | fail) only [ic_law13_do, LH, go_sem]
      repeat' ((first
        | ((with_reducible refine awpIf_asT ?_ ?_); (focus assumption))
        | ((with_reducible refine awpIf_asF ?_ ?_); (focus assumption))
        | ((with_reducible refine awpGd_tT ?_ ?_); (focus assumption))
        | ((with_reducible refine awpGd_tF ?_ ?_); (focus assumption))
        | ((with_reducible refine awpGd_fF ?_ ?_); (focus assumption))
        | ((with_reducible refine awpGd_fT ?_ ?_); (focus assumption))
        | ((with_reducible apply awpGd_nst); (focus (intro h; replace h := nrm h; simp -dsimp -implicitDefEqProofs (maxSteps := 1000000) (disch := first | exact dis | fail) only [h, LH, go_sem]; rfl)))
        | ((with_reducible apply awpGd_nsf); (focus (intro h; replace h := nrm h; simp -dsimp -implicitDefEqProofs (maxSteps := 1000000) (disch := first | exact dis | fail) only [h, LH, go_sem]; rfl)))
        | ((with_reducible apply gO_t); (focus (intro h; replace h := nrm h; simp -dsimp -implicitDefEqProofs (maxSteps := 1000000) (disch := first | exact dis | fail) only [h, LH, go_sem]; rfl)))
        | ((with_reducible apply gO_f); (focus (intro h; replace h := nrm h; simp -dsimp -implicitDefEqProofs (maxSteps := 1000000) (disch := first | exact dis | fail) only [h, LH, go_sem]; rfl)))
        | ((with_reducible refine chkA_f ?_ ?_ ?_); (focus simp); (focus (intro h; replace h := nrm h; simp -dsimp -implicitDefEqProofs (maxSteps := 1000000) (disch := first | exact dis | fail) only [h, LH, go_sem])))
        | ((with_reducible refine chkA_t ?_ ?_ ?_); (focus simp); (focus (intro h; replace h := nrm h; simp -dsimp -implicitDefEqProofs (maxSteps := 1000000) (disch := first | exact dis | fail) only [h, LH, go_sem])))
        | ((with_reducible refine awpIf_decT ?_ ?_); (focus omega))
        | ((with_reducible refine awpIf_decF ?_ ?_); (focus omega))
        | ((with_reducible first | refine awpIf_dec ?_ ?_ | refine awpIf_ndec ?_ ?_ | refine awpGd_tdec ?_ ?_ | refine awpGd_fdec ?_ ?_ | refine awpGd_tndec ?_ ?_ | refine awpGd_fndec ?_ ?_) <;> intro h <;> (try simp -dsimp only [h]))
        | ((with_reducible first | refine awpIf_cases ?_ ?_ | refine awpGd_cases ?_ ?_ | refine gO_cases ?_ ?_) <;> intro h <;> replace h := nrm h <;> (try simp -dsimp only [h, Bool.not_true, Bool.not_false]))
        | ((with_reducible apply And.intro); (focus omega))) <;> (try simp -dsimp -implicitDefEqProofs (maxSteps := 1000000) (disch := first | exact dis | fail) only [LH, go_sem]))
      refine (Put_ok cs p v e es puts hl.2 ⟨hp, by omega⟩ B.a).at' [0, 1, 2] (by decide) rfl (sb _ _) rfl ?_
      rintro r A ⟨rfl, rfl⟩
      simp -dsimp -implicitDefEqProofs (maxSteps := 1000000) (disch := first | exact dis | fail) only [bh, hv, he, cav_ren, putE, putC, putN, hk, hf, go_sem]
      repeat' ((first
        | ((with_reducible refine awpIf_asT ?_ ?_); (focus assumption))
        | ((with_reducible refine awpIf_asF ?_ ?_); (focus assumption))
        | ((with_reducible refine awpGd_tT ?_ ?_); (focus assumption))
        | ((with_reducible refine awpGd_tF ?_ ?_); (focus assumption))
        | ((with_reducible refine awpGd_fF ?_ ?_); (focus assumption))
        | ((with_reducible refine awpGd_fT ?_ ?_); (focus assumption))
        | ((with_reducible apply awpGd_nst); (focus (intro h; replace h := nrm h; simp -dsimp -implicitDefEqProofs (maxSteps := 1000000) (disch := first | exact dis | fail) only [h, bh, hv, he, cav_ren, putE, putC, putN, hk, hf, go_sem]; rfl)))
        | ((with_reducible apply awpGd_nsf); (focus (intro h; replace h := nrm h; simp -dsimp -implicitDefEqProofs (maxSteps := 1000000) (disch := first | exact dis | fail) only [h, bh, hv, he, cav_ren, putE, putC, putN, hk, hf, go_sem]; rfl)))
        | ((with_reducible apply gO_t); (focus (intro h; replace h := nrm h; simp -dsimp -implicitDefEqProofs (maxSteps := 1000000) (disch := first | exact dis | fail) only [h, bh, hv, he, cav_ren, putE, putC, putN, hk, hf, go_sem]; rfl)))
        | ((with_reducible apply gO_f); (focus (intro h; replace h := nrm h; simp -dsimp -implicitDefEqProofs (maxSteps := 1000000) (disch := first | exact dis | fail) only [h, bh, hv, he, cav_ren, putE, putC, putN, hk, hf, go_sem]; rfl)))
        | ((with_reducible refine chkA_f ?_ ?_ ?_); (focus simp); (focus (intro h; replace h := nrm h; simp -dsimp -implicitDefEqProofs (maxSteps := 1000000) (disch := first | exact dis | fail) only [h, bh, hv, he, cav_ren, putE, putC, putN, hk, hf, go_sem])))
        | ((with_reducible refine chkA_t ?_ ?_ ?_); (focus simp); (focus (intro h; replace h := nrm h; simp -dsimp -implicitDefEqProofs (maxSteps := 1000000) (disch := first | exact dis | fail) only [h, bh, hv, he, cav_ren, putE, putC, putN, hk, hf, go_sem])))
        | ((with_reducible refine awpIf_decT ?_ ?_); (focus omega))
        | ((with_reducible refine awpIf_decF ?_ ?_); (focus omega))
        | ((with_reducible first | refine awpIf_dec ?_ ?_ | refine awpIf_ndec ?_ ?_ | refine awpGd_tdec ?_ ?_ | refine awpGd_fdec ?_ ?_ | refine awpGd_tndec ?_ ?_ | refine awpGd_fndec ?_ ?_) <;> intro h <;> (try simp -dsimp only [h]))
        | ((with_reducible first | refine awpIf_cases ?_ ?_ | refine awpGd_cases ?_ ?_ | refine gO_cases ?_ ?_) <;> intro h <;> replace h := nrm h <;> (try simp -dsimp only [h, Bool.not_true, Bool.not_false]))
        | ((with_reducible apply And.intro); (focus omega))) <;> (try simp -dsimp -implicitDefEqProofs (maxSteps := 1000000) (disch := first | exact dis | fail) only [bh, hv, he, cav_ren, putE, putC, putN, hk, hf, go_sem]))
      refine (RPut_b cs p ov1 oe1 ev1 ee1 os es hl ho1 he1 hk hf).at' [3, 4, 5, 6, 7] (by decide) rfl (sr _ _ _ _ _) rfl ?_
      rintro r A ⟨rfl, rfl⟩
      simp -dsimp -implicitDefEqProofs (maxSteps := 1000000) (disch := first | exact dis | fail) only [rh, hov, hoe, hev, hee, si_ren, sp_ren, go_sem]
      repeat' ((first
        | ((with_reducible refine awpIf_asT ?_ ?_); (focus assumption))
        | ((with_reducible refine awpIf_asF ?_ ?_); (focus assumption))
        | ((with_reducible refine awpGd_tT ?_ ?_); (focus assumption))
        | ((with_reducible refine awpGd_tF ?_ ?_); (focus assumption))
        | ((with_reducible refine awpGd_fF ?_ ?_); (focus assumption))
        | ((with_reducible refine awpGd_fT ?_ ?_); (focus assumption))
        | ((with_reducible apply awpGd_nst); (focus (intro h; replace h := nrm h; simp -dsimp -implicitDefEqProofs (maxSteps := 1000000) (disch := first | exact dis | fail) only [h, rh, hov, hoe, hev, hee, si_ren, sp_ren, go_sem]; rfl)))
        | ((with_reducible apply awpGd_nsf); (focus (intro h; replace h := nrm h; simp -dsimp -implicitDefEqProofs (maxSteps := 1000000) (disch := first | exact dis | fail) only [h, rh, hov, hoe, hev, hee, si_ren, sp_ren, go_sem]; rfl)))
        | ((with_reducible apply gO_t); (focus (intro h; replace h := nrm h; simp -dsimp -implicitDefEqProofs (maxSteps := 1000000) (disch := first | exact dis | fail) only [h, rh, hov, hoe, hev, hee, si_ren, sp_ren, go_sem]; rfl)))
        | ((with_reducible apply gO_f); (focus (intro h; replace h := nrm h; simp -dsimp -implicitDefEqProofs (maxSteps := 1000000) (disch := first | exact dis | fail) only [h, rh, hov, hoe, hev, hee, si_ren, sp_ren, go_sem]; rfl)))
        | ((with_reducible refine chkA_f ?_ ?_ ?_); (focus simp); (focus (intro h; replace h := nrm h; simp -dsimp -implicitDefEqProofs (maxSteps := 1000000) (disch := first | exact dis | fail) only [h, rh, hov, hoe, hev, hee, si_ren, sp_ren, go_sem])))
        | ((with_reducible refine chkA_t ?_ ?_ ?_); (focus simp); (focus (intro h; replace h := nrm h; simp -dsimp -implicitDefEqProofs (maxSteps := 1000000) (disch := first | exact dis | fail) only [h, rh, hov, hoe, hev, hee, si_ren, sp_ren, go_sem])))
        | ((with_reducible refine awpIf_decT ?_ ?_); (focus omega))
        | ((with_reducible refine awpIf_decF ?_ ?_); (focus omega))
        | ((with_reducible first | refine awpIf_dec ?_ ?_ | refine awpIf_ndec ?_ ?_ | refine awpGd_tdec ?_ ?_ | refine awpGd_fdec ?_ ?_ | refine awpGd_tndec ?_ ?_ | refine awpGd_fndec ?_ ?_) <;> intro h <;> (try simp -dsimp only [h]))
        | ((with_reducible first | refine awpIf_cases ?_ ?_ | refine awpGd_cases ?_ ?_ | refine gO_cases ?_ ?_) <;> intro h <;> replace h := nrm h <;> (try simp -dsimp only [h, Bool.not_true, Bool.not_false]))
        | ((with_reducible apply And.intro); (focus omega))) <;> (try simp -dsimp -implicitDefEqProofs (maxSteps := 1000000) (disch := first | exact dis | fail) only [rh, hov, hoe, hev, hee, si_ren, sp_ren, go_sem]))
      obtain ⟨v1, v2⟩ := B.a.ren (g := fnew 0 [0, 1, 2, 3, 4, 5, 6, 7]) rfl
      obtain ⟨b1, b2⟩ := B.b.ren (g := fnew 0 [0, 1, 2, 3, 4, 5, 6, 7]) rfl
      obtain ⟨c1, c2⟩ := B.c.ren (g := fnew 0 [0, 1, 2, 3, 4, 5, 6, 7]) rfl
      refine ⟨none, rfl, rfl, cs, os, es, puts, v, e, ov, oe, ev, ee, ⟨B.inv, B.a, B.b, B.c, by have := B.osN; omega, by have := B.esN; omega, by omega⟩, [0, 1, 2, 3, 4, 5, 6, 7], rfl, ⟨rfl, rfl⟩, Nat.le_of_ble_eq_true rfl, ?_⟩
      rw [foldAn, foldA_is]
      simp -dsimp -implicitDefEqProofs (maxSteps := 1000000) (disch := first | exact dis | fail) only [foldA_eq, LH, v1, v2, b1, b2, c1, c2, cav_ren, si_ren, sp_ren, go_sem]
    | some k =>
      have hls : (cs.set k ⟨1, p, puts⟩).length = cs.length := by simp
      simp -dsimp -implicitDefEqProofs (maxSteps := 1000000) (disch := first | exact dis | fail) only [ic_law13_do, LH, go_sem]
      repeat' ((first
        | ((with_reducible refine awpIf_asT ?_ ?_); (focus assumption))
        | ((with_reducible refine awpIf_asF ?_ ?_); (focus assumption))
        | ((with_reducible refine awpGd_tT ?_ ?_); (focus assumption))
        | ((with_reducible refine awpGd_tF ?_ ?_); (focus assumption))
        | ((with_reducible refine awpGd_fF ?_ ?_); (focus assumption))
        | ((with_reducible refine awpGd_fT ?_ ?_); (focus assumption))
        | ((with_reducible apply awpGd_nst); (focus (intro h; replace h := nrm h; simp -dsimp -implicitDefEqProofs (maxSteps := 1000000) (disch := first | exact dis | fail) only [h, LH, go_sem]; rfl)))
        | ((with_reducible apply awpGd_nsf); (focus (intro h; replace h := nrm h; simp -dsimp -implicitDefEqProofs (maxSteps := 1000000) (disch := first | exact dis | fail) only [h, LH, go_sem]; rfl)))
        | ((with_reducible apply gO_t); (focus (intro h; replace h := nrm h; simp -dsimp -implicitDefEqProofs (maxSteps := 1000000) (disch := first | exact dis | fail) only [h, LH, go_sem]; rfl)))
        | ((with_reducible apply gO_f); (focus (intro h; replace h := nrm h; simp -dsimp -implicitDefEqProofs (maxSteps := 1000000) (disch := first | exact dis | fail) only [h, LH, go_sem]; rfl)))
        | ((with_reducible refine chkA_f ?_ ?_ ?_); (focus simp); (focus (intro h; replace h := nrm h; simp -dsimp -implicitDefEqProofs (maxSteps := 1000000) (disch := first | exact dis | fail) only [h, LH, go_sem])))
        | ((with_reducible refine chkA_t ?_ ?_ ?_); (focus simp); (focus (intro h; replace h := nrm h; simp -dsimp -implicitDefEqProofs (maxSteps := 1000000) (disch := first | exact dis | fail) only [h, LH, go_sem])))
        | ((with_reducible refine awpIf_decT ?_ ?_); (focus omega))
        | ((with_reducible refine awpIf_decF ?_ ?_); (focus omega))
        | ((with_reducible first | refine awpIf_dec ?_ ?_ | refine awpIf_ndec ?_ ?_ | refine awpGd_tdec ?_ ?_ | refine awpGd_fdec ?_ ?_ | refine awpGd_tndec ?_ ?_ | refine awpGd_fndec ?_ ?_) <;> intro h <;> (try simp -dsimp only [h]))
        | ((with_reducible first | refine awpIf_cases ?_ ?_ | refine awpGd_cases ?_ ?_ | refine gO_cases ?_ ?_) <;> intro h <;> replace h := nrm h <;> (try simp -dsimp only [h, Bool.not_true, Bool.not_false]))
        | ((with_reducible apply And.intro); (focus omega))) <;> (try simp -dsimp -implicitDefEqProofs (maxSteps := 1000000) (disch := first | exact dis | fail) only [LH, go_sem]))
      refine (Put_ok cs p v e es puts hl.2 ⟨hp, by omega⟩ B.a).at' [0, 1, 2] (by decide) rfl (sb _ _) rfl ?_
      rintro r A ⟨rfl, rfl⟩
      simp -dsimp -implicitDefEqProofs (maxSteps := 1000000) (disch := first | exact dis | fail) only [bh, hv, he, cav_ren, putE, putC, putN, hk, hf, hls, go_sem]
      repeat' ((first
        | ((with_reducible refine awpIf_asT ?_ ?_); (focus assumption))
        | ((with_reducible refine awpIf_asF ?_ ?_); (focus assumption))
        | ((with_reducible refine awpGd_tT ?_ ?_); (focus assumption))
        | ((with_reducible refine awpGd_tF ?_ ?_); (focus assumption))
        | ((with_reducible refine awpGd_fF ?_ ?_); (focus assumption))
        | ((with_reducible refine awpGd_fT ?_ ?_); (focus assumption))
        | ((with_reducible apply awpGd_nst); (focus (intro h; replace h := nrm h; simp -dsimp -implicitDefEqProofs (maxSteps := 1000000) (disch := first | exact dis | fail) only [h, bh, hv, he, cav_ren, putE, putC, putN, hk, hf, hls, go_sem]; rfl)))
        | ((with_reducible apply awpGd_nsf); (focus (intro h; replace h := nrm h; simp -dsimp -implicitDefEqProofs (maxSteps := 1000000) (disch := first | exact dis | fail) only [h, bh, hv, he, cav_ren, putE, putC, putN, hk, hf, hls, go_sem]; rfl)))
        | ((with_reducible apply gO_t); (focus (intro h; replace h := nrm h; simp -dsimp -implicitDefEqProofs (maxSteps := 1000000) (disch := first | exact dis | fail) only [h, bh, hv, he, cav_ren, putE, putC, putN, hk, hf, hls, go_sem]; rfl)))
        | ((with_reducible apply gO_f); (focus (intro h; replace h := nrm h; simp -dsimp -implicitDefEqProofs (maxSteps := 1000000) (disch := first | exact dis | fail) only [h, bh, hv, he, cav_ren, putE, putC, putN, hk, hf, hls, go_sem]; rfl)))
        | ((with_reducible refine chkA_f ?_ ?_ ?_); (focus simp); (focus (intro h; replace h := nrm h; simp -dsimp -implicitDefEqProofs (maxSteps := 1000000) (disch := first | exact dis | fail) only [h, bh, hv, he, cav_ren, putE, putC, putN, hk, hf, hls, go_sem])))
        | ((with_reducible refine chkA_t ?_ ?_ ?_); (focus simp); (focus (intro h; replace h := nrm h; simp -dsimp -implicitDefEqProofs (maxSteps := 1000000) (disch := first | exact dis | fail) only [h, bh, hv, he, cav_ren, putE, putC, putN, hk, hf, hls, go_sem])))
        | ((with_reducible refine awpIf_decT ?_ ?_); (focus omega))
        | ((with_reducible refine awpIf_decF ?_ ?_); (focus omega))
        | ((with_reducible first | refine awpIf_dec ?_ ?_ | refine awpIf_ndec ?_ ?_ | refine awpGd_tdec ?_ ?_ | refine awpGd_fdec ?_ ?_ | refine awpGd_tndec ?_ ?_ | refine awpGd_fndec ?_ ?_) <;> intro h <;> (try simp -dsimp only [h]))
        | ((with_reducible first | refine awpIf_cases ?_ ?_ | refine awpGd_cases ?_ ?_ | refine gO_cases ?_ ?_) <;> intro h <;> replace h := nrm h <;> (try simp -dsimp only [h, Bool.not_true, Bool.not_false]))
        | ((with_reducible apply And.intro); (focus omega))) <;> (try simp -dsimp -implicitDefEqProofs (maxSteps := 1000000) (disch := first | exact dis | fail) only [bh, hv, he, cav_ren, putE, putC, putN, hk, hf, hls, go_sem]))
      refine (RPut_c cs p ov1 oe1 ev1 ee1 os es puts k hl (by have := B.osN; omega) ho1 he1 hk hf).at' [3, 4, 5, 6, 7] (by decide) rfl (sr _ _ _ _ _) rfl ?_
      rintro r A ⟨rfl, d, hd, rfl⟩
      simp -dsimp -implicitDefEqProofs (maxSteps := 1000000) (disch := first | exact dis | fail) only [rh, hov, hoe, hev, hee, si_ren, sp_ren, i1_ren, hd, go_sem]
      repeat' ((first
        | ((with_reducible refine awpIf_asT ?_ ?_); (focus assumption))
        | ((with_reducible refine awpIf_asF ?_ ?_); (focus assumption))
        | ((with_reducible refine awpGd_tT ?_ ?_); (focus assumption))
        | ((with_reducible refine awpGd_tF ?_ ?_); (focus assumption))
        | ((with_reducible refine awpGd_fF ?_ ?_); (focus assumption))
        | ((with_reducible refine awpGd_fT ?_ ?_); (focus assumption))
        | ((with_reducible apply awpGd_nst); (focus (intro h; replace h := nrm h; simp -dsimp -implicitDefEqProofs (maxSteps := 1000000) (disch := first | exact dis | fail) only [h, rh, hov, hoe, hev, hee, si_ren, sp_ren, i1_ren, hd, go_sem]; rfl)))
        | ((with_reducible apply awpGd_nsf); (focus (intro h; replace h := nrm h; simp -dsimp -implicitDefEqProofs (maxSteps := 1000000) (disch := first | exact dis | fail) only [h, rh, hov, hoe, hev, hee, si_ren, sp_ren, i1_ren, hd, go_sem]; rfl)))
        | ((with_reducible apply gO_t); (focus (intro h; replace h := nrm h; simp -dsimp -implicitDefEqProofs (maxSteps := 1000000) (disch := first | exact dis | fail) only [h, rh, hov, hoe, hev, hee, si_ren, sp_ren, i1_ren, hd, go_sem]; rfl)))
        | ((with_reducible apply gO_f); (focus (intro h; replace h := nrm h; simp -dsimp -implicitDefEqProofs (maxSteps := 1000000) (disch := first | exact dis | fail) only [h, rh, hov, hoe, hev, hee, si_ren, sp_ren, i1_ren, hd, go_sem]; rfl)))
        | ((with_reducible refine chkA_f ?_ ?_ ?_); (focus simp); (focus (intro h; replace h := nrm h; simp -dsimp -implicitDefEqProofs (maxSteps := 1000000) (disch := first | exact dis | fail) only [h, rh, hov, hoe, hev, hee, si_ren, sp_ren, i1_ren, hd, go_sem])))
        | ((with_reducible refine chkA_t ?_ ?_ ?_); (focus simp); (focus (intro h; replace h := nrm h; simp -dsimp -implicitDefEqProofs (maxSteps := 1000000) (disch := first | exact dis | fail) only [h, rh, hov, hoe, hev, hee, si_ren, sp_ren, i1_ren, hd, go_sem])))
        | ((with_reducible refine awpIf_decT ?_ ?_); (focus omega))
        | ((with_reducible refine awpIf_decF ?_ ?_); (focus omega))
        | ((with_reducible first | refine awpIf_dec ?_ ?_ | refine awpIf_ndec ?_ ?_ | refine awpGd_tdec ?_ ?_ | refine awpGd_fdec ?_ ?_ | refine awpGd_tndec ?_ ?_ | refine awpGd_fndec ?_ ?_) <;> intro h <;> (try simp -dsimp only [h]))
        | ((with_reducible first | refine awpIf_cases ?_ ?_ | refine awpGd_cases ?_ ?_ | refine gO_cases ?_ ?_) <;> intro h <;> replace h := nrm h <;> (try simp -dsimp only [h, Bool.not_true, Bool.not_false]))
        | ((with_reducible apply And.intro); (focus omega))) <;> (try simp -dsimp -implicitDefEqProofs (maxSteps := 1000000) (disch := first | exact dis | fail) only [rh, hov, hoe, hev, hee, si_ren, sp_ren, i1_ren, hd, go_sem]))
      obtain ⟨v1, v2⟩ := B.a.ren (g := fnew 0 [0, 1, 2, 3, 4, 5, 9, 7]) rfl
      obtain ⟨c1, c2⟩ := B.c.ren (g := fnew 0 [0, 1, 2, 3, 4, 5, 9, 7]) rfl
      refine ⟨none, rfl, rfl, cs.set k ⟨1, p, puts⟩, os ++ [(k : Int)], es, puts + 1, v, e, .sl 6 1 0 (os.length + 1) false, some (.arr (rows i1 (os ++ [(k : Int)]))), ev, ee, ⟨inv_put B.inv p hf, B.a, .inr ⟨[], by simp, rfl⟩, B.c, by have := B.osN; simp; omega, by have := B.esN; omega, by omega⟩, [0, 1, 2, 3, 4, 5, 9, 7], rfl, ⟨rfl, rfl⟩, Nat.le_of_ble_eq_true rfl, ?_⟩
      rw [foldAn, foldA_is]
      simp -dsimp -implicitDefEqProofs (maxSteps := 1000000) (disch := first | exact dis | fail) only [foldA_eq, LH, v1, v2, c1, c2, cav_ren, si_ren, sp_ren, i1_ren, hls, go_sem]

theorem ER.ren' {l l' : Nat} {v : AV} {e : Option AO} {es : List Int} (h : ER l v e es) {g : Nat → Option Nat} (hg : g l = some l') : ER l' (AV.ren g v) (e.map (AO.ren g)) es := by
  rcases h with ⟨rfl, rfl, h⟩ | ⟨pre, rfl, rfl⟩
  · exact .inl ⟨rfl, rfl, h⟩
  · rw [ren_sl, hg]
    exact .inr ⟨pre, rfl, congrArg some i1_ren⟩
end Go.Proofs.Ytkkccabchhnebaa
