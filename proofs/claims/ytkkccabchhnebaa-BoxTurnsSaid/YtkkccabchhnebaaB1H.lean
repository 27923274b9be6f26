/- ref13: what its functions do. Conditions: none. -/
import Derived.Test.YtkkccabchhnebaaB1G
namespace Go.Proofs.Ytkkccabchhnebaa
open Go.SB
attribute [local irreducible] AW OPS ORD
set_option maxRecDepth 100000
set_option maxHeartbeats 4000000
set_option linter.unusedSimpArgs false
set_option linter.unusedVariables false

def si (c : Cl) : List AV := [.int .i64 c.st]
def sp (c : Cl) : List AV := c.pk.av
theorem si_eq (c : Cl) : si c = [.int .i64 c.st] := rfl
theorem sp_eq (c : Cl) : sp c = c.pk.av := rfl
theorem si_ren {g : Nat → Option Nat} {xs : List Cl} : AO.ren g (.arr (rows si xs)) = .arr (rows si xs) := rows_ren (fun _ => rfl) g xs
theorem sp_ren {g : Nat → Option Nat} {xs : List Cl} : AO.ren g (.arr (rows sp xs)) = .arr (rows sp xs) := rows_ren (fun _ => rfl) g xs
def rh (cs : List Cl) (ov : AV) (oe : Option AO) (ev : AV) (ee : Option AO) : AHeap :=
  [some (.cells [.sl 1 1 0 cs.length true, .sl 2 7 0 cs.length true, ov, ev]), some (.arr (rows si cs)), some (.arr (rows sp cs)), oe, ee]
theorem rh_wf {cs : List Cl} {ov : AV} {oe : Option AO} {ev : AV} {ee : Option AO} {os es : List Int} (h : ER 3 ov oe os) (k : ER 4 ev ee es) : WF 5 (rh cs ov oe ev ee) := by
  intro g hg
  obtain ⟨h1, h2⟩ := h.ren (hg 3 (by decide))
  obtain ⟨k1, k2⟩ := k.ren (hg 4 (by decide))
  simp only [rh, List.map_cons, List.map_nil, omap_some, aoren_cells, ren_sl, hg 1 (by decide), hg 2 (by decide), renTo_some, h1, h2, k1, k2, si_ren, sp_ren]

theorem RPut_a (cs : List Cl) (p : Pk) (ov : AV) (oe : Option AO) (ev : AV) (ee : Option AO) (os es : List Int) (ho : ER 3 ov oe os) (he : ER 4 ev ee es) (hk : keyR p.fr < 0) :
    ACall Try.prog f_ref13_Boxes_Put [.ptr 0 0, .agg p.av] (rh cs ov oe ev ee) fun r A => r = .tup [.int .i64 0, .int .i64 4] ∧ A = rh cs ov oe ev ee := by
  refine acallW fol ok_ref13_Boxes_Put ?_
  simp -dsimp -implicitDefEqProofs (maxSteps := 1000000) (disch := first | exact dis | fail) only [ic_ref13_Boxes_Put, rh, hk, go_sem]
  repeat' ((first
    | ((with_reducible refine PCall.ac (RKey_ok p.fr) ?_ ?_ ?_); rfl; rfl)
    | ((with_reducible refine awpIf_asT ?_ ?_); (focus assumption))
    | ((with_reducible refine awpIf_asF ?_ ?_); (focus assumption))
    | ((with_reducible refine awpGd_tT ?_ ?_); (focus assumption))
    | ((with_reducible refine awpGd_tF ?_ ?_); (focus assumption))
    | ((with_reducible refine awpGd_fF ?_ ?_); (focus assumption))
    | ((with_reducible refine awpGd_fT ?_ ?_); (focus assumption))
    | ((with_reducible apply awpGd_nst); (focus (intro h; replace h := nrm h; simp -dsimp -implicitDefEqProofs (maxSteps := 1000000) (disch := first | exact dis | fail) only [h, rh, hk, go_sem]; rfl)))
    | ((with_reducible apply awpGd_nsf); (focus (intro h; replace h := nrm h; simp -dsimp -implicitDefEqProofs (maxSteps := 1000000) (disch := first | exact dis | fail) only [h, rh, hk, go_sem]; rfl)))
    | ((with_reducible apply gO_t); (focus (intro h; replace h := nrm h; simp -dsimp -implicitDefEqProofs (maxSteps := 1000000) (disch := first | exact dis | fail) only [h, rh, hk, go_sem]; rfl)))
    | ((with_reducible apply gO_f); (focus (intro h; replace h := nrm h; simp -dsimp -implicitDefEqProofs (maxSteps := 1000000) (disch := first | exact dis | fail) only [h, rh, hk, go_sem]; rfl)))
    | ((with_reducible refine awpGd_pct (RKey_ok p.fr) ?_ ?_ ?_ ?_); (focus (intro h; replace h := nrm h; simp -dsimp only [h, rh, hk, go_sem]; first | done | exact ⟨rfl, rfl⟩ | exact rfl)); (focus rfl); (focus rfl))
    | ((with_reducible refine awpGd_pcf (RKey_ok p.fr) ?_ ?_ ?_ ?_); (focus (intro h; replace h := nrm h; simp -dsimp only [h, rh, hk, go_sem]; first | done | exact ⟨rfl, rfl⟩ | exact rfl)); (focus rfl); (focus rfl))
    | ((with_reducible refine chkA_f ?_ ?_ ?_); (focus simp); (focus (intro h; replace h := nrm h; simp -dsimp -implicitDefEqProofs (maxSteps := 1000000) (disch := first | exact dis | fail) only [h, rh, hk, go_sem])))
    | ((with_reducible refine chkA_t ?_ ?_ ?_); (focus simp); (focus (intro h; replace h := nrm h; simp -dsimp -implicitDefEqProofs (maxSteps := 1000000) (disch := first | exact dis | fail) only [h, rh, hk, go_sem])))
    | ((with_reducible refine awpIf_decT ?_ ?_); (focus omega))
    | ((with_reducible refine awpIf_decF ?_ ?_); (focus omega))
    | ((with_reducible first | refine awpIf_dec ?_ ?_ | refine awpIf_ndec ?_ ?_ | refine awpGd_tdec ?_ ?_ | refine awpGd_fdec ?_ ?_ | refine awpGd_tndec ?_ ?_ | refine awpGd_fndec ?_ ?_) <;> intro h <;> (try simp -dsimp only [h]))
    | ((with_reducible first | refine awpIf_cases ?_ ?_ | refine awpGd_cases ?_ ?_ | refine gO_cases ?_ ?_) <;> intro h <;> replace h := nrm h <;> (try simp -dsimp only [h, Bool.not_true, Bool.not_false]))
    | ((with_reducible apply And.intro); (focus omega))) <;> (try simp -dsimp -implicitDefEqProofs (maxSteps := 1000000) (disch := first | exact dis | fail) only [rh, hk, go_sem]))
  exact fin_eq (B := rh cs ov oe ev ee) rfl (rh_wf ho he) rfl
theorem RPut_lb (cs : List Cl) (p : Pk) (ov : AV) (oe : Option AO) (ev : AV) (ee : Option AO) (hn : 1 ≤ cs.length ∧ cs.length ≤ 1000) (hf : freeAt cs 0 = none) (Q : IExit → List AV → AHeap → Prop)
    (hQ : Q (.exit 0) ([.ptr 0 0, .any, .any, .ptr 5 0, .any, .any, .int .i64 cs.length] ++ List.replicate 45 .any) (rh cs ov oe ev ee ++ [some (.cells p.av)])) :
    AW Try.prog 5 ic_ref13_Boxes_Put_l1 ([.ptr 0 0, .any, .any, .ptr 5 0, .any, .any, .int .i64 0] ++ List.replicate 45 .any) (rh cs ov oe ev ee ++ [some (.cells p.av)]) Q := by
  refine aw_loop cs.length (fun i ρ A => ρ = [.ptr 0 0, .any, .any, .ptr 5 0, .any, .any, .int .i64 i] ++ List.replicate 45 .any ∧ A = rh cs ov oe ev ee ++ [some (.cells p.av)] ∧ freeAt (cs.drop i) i = none) ⟨none, rfl, by simp -dsimp -implicitDefEqProofs (maxSteps := 1000000) (disch := first | exact dis | fail) only [foldRn, foldAn, rh, hf, go_sem]⟩ ?_
  rintro i ρ A hi ⟨rfl, rfl, hc⟩
  by_cases hlt : i < cs.length
  · have hx : cs[i]? = some cs[i] := List.getElem?_eq_getElem hlt
    rw [freeAt_step hx] at hc
    generalize cs[i] = c at hx hc
    by_cases hst : c.st = 0
    · rw [if_pos hst] at hc; exact absurd hc (by simp)
    · rw [if_neg hst] at hc
      simp -dsimp -implicitDefEqProofs (maxSteps := 1000000) (disch := first | exact dis | fail) only [ic_ref13_Boxes_Put_b1, rh, rows_get, hx, Int.toNat_natCast, si_eq, hst, go_sem]
      repeat' ((first
        | ((with_reducible refine awpIf_asT ?_ ?_); (focus assumption))
        | ((with_reducible refine awpIf_asF ?_ ?_); (focus assumption))
        | ((with_reducible refine awpGd_tT ?_ ?_); (focus assumption))
        | ((with_reducible refine awpGd_tF ?_ ?_); (focus assumption))
        | ((with_reducible refine awpGd_fF ?_ ?_); (focus assumption))
        | ((with_reducible refine awpGd_fT ?_ ?_); (focus assumption))
        | ((with_reducible apply awpGd_nst); (focus (intro h; replace h := nrm h; simp -dsimp -implicitDefEqProofs (maxSteps := 1000000) (disch := first | exact dis | fail) only [h, rh, rows_get, hx, Int.toNat_natCast, si_eq, hst, go_sem]; rfl)))
        | ((with_reducible apply awpGd_nsf); (focus (intro h; replace h := nrm h; simp -dsimp -implicitDefEqProofs (maxSteps := 1000000) (disch := first | exact dis | fail) only [h, rh, rows_get, hx, Int.toNat_natCast, si_eq, hst, go_sem]; rfl)))
        | ((with_reducible apply gO_t); (focus (intro h; replace h := nrm h; simp -dsimp -implicitDefEqProofs (maxSteps := 1000000) (disch := first | exact dis | fail) only [h, rh, rows_get, hx, Int.toNat_natCast, si_eq, hst, go_sem]; rfl)))
        | ((with_reducible apply gO_f); (focus (intro h; replace h := nrm h; simp -dsimp -implicitDefEqProofs (maxSteps := 1000000) (disch := first | exact dis | fail) only [h, rh, rows_get, hx, Int.toNat_natCast, si_eq, hst, go_sem]; rfl)))
        | ((with_reducible refine chkA_f ?_ ?_ ?_); (focus simp); (focus (intro h; replace h := nrm h; simp -dsimp -implicitDefEqProofs (maxSteps := 1000000) (disch := first | exact dis | fail) only [h, rh, rows_get, hx, Int.toNat_natCast, si_eq, hst, go_sem])))
        | ((with_reducible refine chkA_t ?_ ?_ ?_); (focus simp); (focus (intro h; replace h := nrm h; simp -dsimp -implicitDefEqProofs (maxSteps := 1000000) (disch := first | exact dis | fail) only [h, rh, rows_get, hx, Int.toNat_natCast, si_eq, hst, go_sem])))
        | ((with_reducible refine awpIf_decT ?_ ?_); (focus omega))
        | ((with_reducible refine awpIf_decF ?_ ?_); (focus omega))
        | ((with_reducible first | refine awpIf_dec ?_ ?_ | refine awpIf_ndec ?_ ?_ | refine awpGd_tdec ?_ ?_ | refine awpGd_fdec ?_ ?_ | refine awpGd_tndec ?_ ?_ | refine awpGd_fndec ?_ ?_) <;> intro h <;> (try simp -dsimp only [h]))
        | ((with_reducible first | refine awpIf_cases ?_ ?_ | refine awpGd_cases ?_ ?_ | refine gO_cases ?_ ?_) <;> intro h <;> replace h := nrm h <;> (try simp -dsimp only [h, Bool.not_true, Bool.not_false]))
        | ((with_reducible apply And.intro); (focus omega))) <;> (try simp -dsimp -implicitDefEqProofs (maxSteps := 1000000) (disch := first | exact dis | fail) only [rh, rows_get, hx, Int.toNat_natCast, si_eq, hst, go_sem]))
      exact ⟨none, rfl, by simp -dsimp -implicitDefEqProofs (maxSteps := 1000000) (disch := first | exact dis | fail) only [foldRn, Int.natCast_add, go_sem], rfl, hc⟩
  · obtain rfl : i = cs.length := by omega
    simp -dsimp -implicitDefEqProofs (maxSteps := 1000000) (disch := first | exact dis | fail) only [ic_ref13_Boxes_Put_b1, rh, go_sem]
    repeat' ((first
      | ((with_reducible refine awpIf_asT ?_ ?_); (focus assumption))
      | ((with_reducible refine awpIf_asF ?_ ?_); (focus assumption))
      | ((with_reducible refine awpGd_tT ?_ ?_); (focus assumption))
      | ((with_reducible refine awpGd_tF ?_ ?_); (focus assumption))
      | ((with_reducible refine awpGd_fF ?_ ?_); (focus assumption))
      | ((with_reducible refine awpGd_fT ?_ ?_); (focus assumption))
      | ((with_reducible apply awpGd_nst); (focus (intro h; replace h := nrm h; simp -dsimp -implicitDefEqProofs (maxSteps := 1000000) (disch := first | exact dis | fail) only [h, rh, go_sem]; rfl)))
      | ((with_reducible apply awpGd_nsf); (focus (intro h; replace h := nrm h; simp -dsimp -implicitDefEqProofs (maxSteps := 1000000) (disch := first | exact dis | fail) only [h, rh, go_sem]; rfl)))
      | ((with_reducible apply gO_t); (focus (intro h; replace h := nrm h; simp -dsimp -implicitDefEqProofs (maxSteps := 1000000) (disch := first | exact dis | fail) only [h, rh, go_sem]; rfl)))
      | ((with_reducible apply gO_f); (focus (intro h; replace h := nrm h; simp -dsimp -implicitDefEqProofs (maxSteps := 1000000) (disch := first | exact dis | fail) only [h, rh, go_sem]; rfl)))
      | ((with_reducible refine chkA_f ?_ ?_ ?_); (focus simp); (focus (intro h; replace h := nrm h; simp -dsimp -implicitDefEqProofs (maxSteps := 1000000) (disch := first | exact dis | fail) only [h, rh, go_sem])))
      | ((with_reducible refine chkA_t ?_ ?_ ?_); (focus simp); (focus (intro h; replace h := nrm h; simp -dsimp -implicitDefEqProofs (maxSteps := 1000000) (disch := first | exact dis | fail) only [h, rh, go_sem])))
      | ((with_reducible refine awpIf_decT ?_ ?_); (focus omega))
      | ((with_reducible refine awpIf_decF ?_ ?_); (focus omega))
      | ((with_reducible first | refine awpIf_dec ?_ ?_ | refine awpIf_ndec ?_ ?_ | refine awpGd_tdec ?_ ?_ | refine awpGd_fdec ?_ ?_ | refine awpGd_tndec ?_ ?_ | refine awpGd_fndec ?_ ?_) <;> intro h <;> (try simp -dsimp only [h]))
      | ((with_reducible first | refine awpIf_cases ?_ ?_ | refine awpGd_cases ?_ ?_ | refine gO_cases ?_ ?_) <;> intro h <;> replace h := nrm h <;> (try simp -dsimp only [h, Bool.not_true, Bool.not_false]))
      | ((with_reducible apply And.intro); (focus omega))) <;> (try simp -dsimp -implicitDefEqProofs (maxSteps := 1000000) (disch := first | exact dis | fail) only [rh, go_sem]))
    exact hQ
theorem RPut_b (cs : List Cl) (p : Pk) (ov : AV) (oe : Option AO) (ev : AV) (ee : Option AO) (os es : List Int) (hn : 1 ≤ cs.length ∧ cs.length ≤ 1000) (ho : ER 3 ov oe os) (he : ER 4 ev ee es) (hk : ¬ keyR p.fr < 0) (hf : freeAt cs 0 = none) :
    ACall Try.prog f_ref13_Boxes_Put [.ptr 0 0, .agg p.av] (rh cs ov oe ev ee) fun r A => r = .tup [.int .i64 0, .int .i64 5] ∧ A = rh cs ov oe ev ee := by
  refine acallW fol ok_ref13_Boxes_Put ?_
  simp -dsimp -implicitDefEqProofs (maxSteps := 1000000) (disch := first | exact dis | fail) only [ic_ref13_Boxes_Put, rh, hk, go_sem]
  repeat' ((first
    | ((with_reducible refine PCall.ac (RKey_ok p.fr) ?_ ?_ ?_); rfl; rfl)
    | ((with_reducible refine awpIf_asT ?_ ?_); (focus assumption))
    | ((with_reducible refine awpIf_asF ?_ ?_); (focus assumption))
    | ((with_reducible refine awpGd_tT ?_ ?_); (focus assumption))
    | ((with_reducible refine awpGd_tF ?_ ?_); (focus assumption))
    | ((with_reducible refine awpGd_fF ?_ ?_); (focus assumption))
    | ((with_reducible refine awpGd_fT ?_ ?_); (focus assumption))
    | ((with_reducible apply awpGd_nst); (focus (intro h; replace h := nrm h; simp -dsimp -implicitDefEqProofs (maxSteps := 1000000) (disch := first | exact dis | fail) only [h, rh, hk, go_sem]; rfl)))
    | ((with_reducible apply awpGd_nsf); (focus (intro h; replace h := nrm h; simp -dsimp -implicitDefEqProofs (maxSteps := 1000000) (disch := first | exact dis | fail) only [h, rh, hk, go_sem]; rfl)))
    | ((with_reducible apply gO_t); (focus (intro h; replace h := nrm h; simp -dsimp -implicitDefEqProofs (maxSteps := 1000000) (disch := first | exact dis | fail) only [h, rh, hk, go_sem]; rfl)))
    | ((with_reducible apply gO_f); (focus (intro h; replace h := nrm h; simp -dsimp -implicitDefEqProofs (maxSteps := 1000000) (disch := first | exact dis | fail) only [h, rh, hk, go_sem]; rfl)))
    | ((with_reducible refine awpGd_pct (RKey_ok p.fr) ?_ ?_ ?_ ?_); (focus (intro h; replace h := nrm h; simp -dsimp only [h, rh, hk, go_sem]; first | done | exact ⟨rfl, rfl⟩ | exact rfl)); (focus rfl); (focus rfl))
    | ((with_reducible refine awpGd_pcf (RKey_ok p.fr) ?_ ?_ ?_ ?_); (focus (intro h; replace h := nrm h; simp -dsimp only [h, rh, hk, go_sem]; first | done | exact ⟨rfl, rfl⟩ | exact rfl)); (focus rfl); (focus rfl))
    | ((with_reducible refine chkA_f ?_ ?_ ?_); (focus simp); (focus (intro h; replace h := nrm h; simp -dsimp -implicitDefEqProofs (maxSteps := 1000000) (disch := first | exact dis | fail) only [h, rh, hk, go_sem])))
    | ((with_reducible refine chkA_t ?_ ?_ ?_); (focus simp); (focus (intro h; replace h := nrm h; simp -dsimp -implicitDefEqProofs (maxSteps := 1000000) (disch := first | exact dis | fail) only [h, rh, hk, go_sem])))
    | ((with_reducible refine awpIf_decT ?_ ?_); (focus omega))
    | ((with_reducible refine awpIf_decF ?_ ?_); (focus omega))
    | ((with_reducible first | refine awpIf_dec ?_ ?_ | refine awpIf_ndec ?_ ?_ | refine awpGd_tdec ?_ ?_ | refine awpGd_fdec ?_ ?_ | refine awpGd_tndec ?_ ?_ | refine awpGd_fndec ?_ ?_) <;> intro h <;> (try simp -dsimp only [h]))
    | ((with_reducible first | refine awpIf_cases ?_ ?_ | refine awpGd_cases ?_ ?_ | refine gO_cases ?_ ?_) <;> intro h <;> replace h := nrm h <;> (try simp -dsimp only [h, Bool.not_true, Bool.not_false]))
    | ((with_reducible apply And.intro); (focus omega))) <;> (try simp -dsimp -implicitDefEqProofs (maxSteps := 1000000) (disch := first | exact dis | fail) only [rh, hk, go_sem]))
  refine RPut_lb cs p ov oe ev ee hn hf _ ?_
  simp -dsimp -implicitDefEqProofs (maxSteps := 1000000) (disch := first | exact dis | fail) only [rh, go_sem]
  repeat' ((first
    | ((with_reducible refine awpIf_asT ?_ ?_); (focus assumption))
    | ((with_reducible refine awpIf_asF ?_ ?_); (focus assumption))
    | ((with_reducible refine awpGd_tT ?_ ?_); (focus assumption))
    | ((with_reducible refine awpGd_tF ?_ ?_); (focus assumption))
    | ((with_reducible refine awpGd_fF ?_ ?_); (focus assumption))
    | ((with_reducible refine awpGd_fT ?_ ?_); (focus assumption))
    | ((with_reducible apply awpGd_nst); (focus (intro h; replace h := nrm h; simp -dsimp -implicitDefEqProofs (maxSteps := 1000000) (disch := first | exact dis | fail) only [h, rh, go_sem]; rfl)))
    | ((with_reducible apply awpGd_nsf); (focus (intro h; replace h := nrm h; simp -dsimp -implicitDefEqProofs (maxSteps := 1000000) (disch := first | exact dis | fail) only [h, rh, go_sem]; rfl)))
    | ((with_reducible apply gO_t); (focus (intro h; replace h := nrm h; simp -dsimp -implicitDefEqProofs (maxSteps := 1000000) (disch := first | exact dis | fail) only [h, rh, go_sem]; rfl)))
    | ((with_reducible apply gO_f); (focus (intro h; replace h := nrm h; simp -dsimp -implicitDefEqProofs (maxSteps := 1000000) (disch := first | exact dis | fail) only [h, rh, go_sem]; rfl)))
    | ((with_reducible refine chkA_f ?_ ?_ ?_); (focus simp); (focus (intro h; replace h := nrm h; simp -dsimp -implicitDefEqProofs (maxSteps := 1000000) (disch := first | exact dis | fail) only [h, rh, go_sem])))
    | ((with_reducible refine chkA_t ?_ ?_ ?_); (focus simp); (focus (intro h; replace h := nrm h; simp -dsimp -implicitDefEqProofs (maxSteps := 1000000) (disch := first | exact dis | fail) only [h, rh, go_sem])))
    | ((with_reducible refine awpIf_decT ?_ ?_); (focus omega))
    | ((with_reducible refine awpIf_decF ?_ ?_); (focus omega))
    | ((with_reducible first | refine awpIf_dec ?_ ?_ | refine awpIf_ndec ?_ ?_ | refine awpGd_tdec ?_ ?_ | refine awpGd_fdec ?_ ?_ | refine awpGd_tndec ?_ ?_ | refine awpGd_fndec ?_ ?_) <;> intro h <;> (try simp -dsimp only [h]))
    | ((with_reducible first | refine awpIf_cases ?_ ?_ | refine awpGd_cases ?_ ?_ | refine gO_cases ?_ ?_) <;> intro h <;> replace h := nrm h <;> (try simp -dsimp only [h, Bool.not_true, Bool.not_false]))
    | ((with_reducible apply And.intro); (focus omega))) <;> (try simp -dsimp -implicitDefEqProofs (maxSteps := 1000000) (disch := first | exact dis | fail) only [rh, go_sem]))
  exact fin_eq (B := rh cs ov oe ev ee) rfl (rh_wf ho he) rfl

theorem RPut_lc (cs : List Cl) (p : Pk) (ov : AV) (oe : Option AO) (ev : AV) (ee : Option AO) (os : List Int) (puts : Int) (k : Nat) (hn : 1 ≤ cs.length ∧ cs.length ≤ 1000) (hos : os.length ≤ 1000000) (ho : ER 3 ov oe os) (hf : freeAt cs 0 = some k) (Q : IExit → List AV → AHeap → Prop)
    (hQ : ∀ ρ, ρ.getD 4 .any = .int .i64 k → ρ.getD 5 .any = .int .i64 0 → ∀ d, (∀ g, Option.map (AO.ren g) d = d) → Q .ret ρ [some (.cells [.sl 1 1 0 cs.length true, .sl 2 7 0 cs.length true, .sl 7 1 0 (os.length + 1) false, ev]), some (.arr (rows si (cs.set k ⟨1, p, puts⟩))), some (.arr (rows sp (cs.set k ⟨1, p, puts⟩))), d, ee, some (.cells p.av), some (.arr (rows i1 [(k : Int)])), some (.arr (rows i1 (os ++ [(k : Int)])))]) :
    AW Try.prog 5 ic_ref13_Boxes_Put_l1 ([.ptr 0 0, .any, .any, .ptr 5 0, .any, .any, .int .i64 0] ++ List.replicate 45 .any) (rh cs ov oe ev ee ++ [some (.cells p.av)]) Q := by
  refine aw_loop cs.length (fun i ρ A => ρ = [.ptr 0 0, .any, .any, .ptr 5 0, .any, .any, .int .i64 i] ++ List.replicate 45 .any ∧ A = rh cs ov oe ev ee ++ [some (.cells p.av)] ∧ freeAt (cs.drop i) i = some k) ⟨none, rfl, by simp -dsimp -implicitDefEqProofs (maxSteps := 1000000) (disch := first | exact dis | fail) only [foldRn, foldAn, rh, hf, go_sem]⟩ ?_
  rintro i ρ A hi ⟨rfl, rfl, hc⟩
  by_cases hlt : i < cs.length
  · have hx : cs[i]? = some cs[i] := List.getElem?_eq_getElem hlt
    rw [freeAt_step hx] at hc
    generalize cs[i] = c at hx hc
    by_cases hst : c.st = 0
    · rw [if_pos hst] at hc
      obtain rfl : i = k := Option.some.inj hc
      have hsi : (rows si cs).set i [.int .i64 1] = rows si (cs.set i ⟨1, p, puts⟩) := rows_set (f := si) (x := ⟨1, p, puts⟩)
      have hsp : (rows sp cs).set i [.int .i64 p.fr.id, .int .i64 p.fr.fl, .int .i64 p.fr.len, .str p.fr.data, .int .i64 p.frm, .int .i64 p.tag, .bool p.loop] = rows sp (cs.set i ⟨1, p, puts⟩) := rows_set (f := sp) (x := ⟨1, p, puts⟩)
      rcases ho with ⟨rfl, rfl, rfl⟩ | ⟨pre, rfl, rfl⟩
      · skip
        simp -dsimp -implicitDefEqProofs (maxSteps := 1000000) (disch := first | exact dis | fail) only [ic_ref13_Boxes_Put_b1, rh, rows_get, hx, Int.toNat_natCast, si_eq, sp_eq, hsi, hsp, hst, go_sem]
        repeat' ((first
          | ((with_reducible refine awpIf_asT ?_ ?_); (focus assumption))
          | ((with_reducible refine awpIf_asF ?_ ?_); (focus assumption))
          | ((with_reducible refine awpGd_tT ?_ ?_); (focus assumption))
          | ((with_reducible refine awpGd_tF ?_ ?_); (focus assumption))
          | ((with_reducible refine awpGd_fF ?_ ?_); (focus assumption))
          | ((with_reducible refine awpGd_fT ?_ ?_); (focus assumption))
          | ((with_reducible apply awpGd_nst); (focus (intro h; replace h := nrm h; simp -dsimp -implicitDefEqProofs (maxSteps := 1000000) (disch := first | exact dis | fail) only [h, rh, rows_get, hx, Int.toNat_natCast, si_eq, sp_eq, hsi, hsp, hst, go_sem]; rfl)))
          | ((with_reducible apply awpGd_nsf); (focus (intro h; replace h := nrm h; simp -dsimp -implicitDefEqProofs (maxSteps := 1000000) (disch := first | exact dis | fail) only [h, rh, rows_get, hx, Int.toNat_natCast, si_eq, sp_eq, hsi, hsp, hst, go_sem]; rfl)))
          | ((with_reducible apply gO_t); (focus (intro h; replace h := nrm h; simp -dsimp -implicitDefEqProofs (maxSteps := 1000000) (disch := first | exact dis | fail) only [h, rh, rows_get, hx, Int.toNat_natCast, si_eq, sp_eq, hsi, hsp, hst, go_sem]; rfl)))
          | ((with_reducible apply gO_f); (focus (intro h; replace h := nrm h; simp -dsimp -implicitDefEqProofs (maxSteps := 1000000) (disch := first | exact dis | fail) only [h, rh, rows_get, hx, Int.toNat_natCast, si_eq, sp_eq, hsi, hsp, hst, go_sem]; rfl)))
          | ((with_reducible refine chkA_f ?_ ?_ ?_); (focus simp); (focus (intro h; replace h := nrm h; simp -dsimp -implicitDefEqProofs (maxSteps := 1000000) (disch := first | exact dis | fail) only [h, rh, rows_get, hx, Int.toNat_natCast, si_eq, sp_eq, hsi, hsp, hst, go_sem])))
          | ((with_reducible refine chkA_t ?_ ?_ ?_); (focus simp); (focus (intro h; replace h := nrm h; simp -dsimp -implicitDefEqProofs (maxSteps := 1000000) (disch := first | exact dis | fail) only [h, rh, rows_get, hx, Int.toNat_natCast, si_eq, sp_eq, hsi, hsp, hst, go_sem])))
          | ((with_reducible refine awpIf_decT ?_ ?_); (focus omega))
          | ((with_reducible refine awpIf_decF ?_ ?_); (focus omega))
          | ((with_reducible first | refine awpIf_dec ?_ ?_ | refine awpIf_ndec ?_ ?_ | refine awpGd_tdec ?_ ?_ | refine awpGd_fdec ?_ ?_ | refine awpGd_tndec ?_ ?_ | refine awpGd_fndec ?_ ?_) <;> intro h <;> (try simp -dsimp only [h]))
          | ((with_reducible first | refine awpIf_cases ?_ ?_ | refine awpGd_cases ?_ ?_ | refine gO_cases ?_ ?_) <;> intro h <;> replace h := nrm h <;> (try simp -dsimp only [h, Bool.not_true, Bool.not_false]))
          | ((with_reducible apply And.intro); (focus omega))) <;> (try simp -dsimp -implicitDefEqProofs (maxSteps := 1000000) (disch := first | exact dis | fail) only [rh, rows_get, hx, Int.toNat_natCast, si_eq, sp_eq, hsi, hsp, hst, go_sem]))
        exact hQ _ rfl rfl none (fun _ => rfl)
      · skip
        simp -dsimp -implicitDefEqProofs (maxSteps := 1000000) (disch := first | exact dis | fail) only [ic_ref13_Boxes_Put_b1, rh, rows_get, hx, Int.toNat_natCast, si_eq, sp_eq, hsi, hsp, hst, appF_some, i1_shown, i1_len, i1_snoc, go_sem]
        repeat' ((first
          | ((with_reducible refine awpIf_asT ?_ ?_); (focus assumption))
          | ((with_reducible refine awpIf_asF ?_ ?_); (focus assumption))
          | ((with_reducible refine awpGd_tT ?_ ?_); (focus assumption))
          | ((with_reducible refine awpGd_tF ?_ ?_); (focus assumption))
          | ((with_reducible refine awpGd_fF ?_ ?_); (focus assumption))
          | ((with_reducible refine awpGd_fT ?_ ?_); (focus assumption))
          | ((with_reducible apply awpGd_nst); (focus (intro h; replace h := nrm h; simp -dsimp -implicitDefEqProofs (maxSteps := 1000000) (disch := first | exact dis | fail) only [h, rh, rows_get, hx, Int.toNat_natCast, si_eq, sp_eq, hsi, hsp, hst, appF_some, i1_shown, i1_len, i1_snoc, go_sem]; rfl)))
          | ((with_reducible apply awpGd_nsf); (focus (intro h; replace h := nrm h; simp -dsimp -implicitDefEqProofs (maxSteps := 1000000) (disch := first | exact dis | fail) only [h, rh, rows_get, hx, Int.toNat_natCast, si_eq, sp_eq, hsi, hsp, hst, appF_some, i1_shown, i1_len, i1_snoc, go_sem]; rfl)))
          | ((with_reducible apply gO_t); (focus (intro h; replace h := nrm h; simp -dsimp -implicitDefEqProofs (maxSteps := 1000000) (disch := first | exact dis | fail) only [h, rh, rows_get, hx, Int.toNat_natCast, si_eq, sp_eq, hsi, hsp, hst, appF_some, i1_shown, i1_len, i1_snoc, go_sem]; rfl)))
          | ((with_reducible apply gO_f); (focus (intro h; replace h := nrm h; simp -dsimp -implicitDefEqProofs (maxSteps := 1000000) (disch := first | exact dis | fail) only [h, rh, rows_get, hx, Int.toNat_natCast, si_eq, sp_eq, hsi, hsp, hst, appF_some, i1_shown, i1_len, i1_snoc, go_sem]; rfl)))
          | ((with_reducible refine chkA_f ?_ ?_ ?_); (focus simp); (focus (intro h; replace h := nrm h; simp -dsimp -implicitDefEqProofs (maxSteps := 1000000) (disch := first | exact dis | fail) only [h, rh, rows_get, hx, Int.toNat_natCast, si_eq, sp_eq, hsi, hsp, hst, appF_some, i1_shown, i1_len, i1_snoc, go_sem])))
          | ((with_reducible refine chkA_t ?_ ?_ ?_); (focus simp); (focus (intro h; replace h := nrm h; simp -dsimp -implicitDefEqProofs (maxSteps := 1000000) (disch := first | exact dis | fail) only [h, rh, rows_get, hx, Int.toNat_natCast, si_eq, sp_eq, hsi, hsp, hst, appF_some, i1_shown, i1_len, i1_snoc, go_sem])))
          | ((with_reducible refine awpIf_decT ?_ ?_); (focus omega))
          | ((with_reducible refine awpIf_decF ?_ ?_); (focus omega))
          | ((with_reducible first | refine awpIf_dec ?_ ?_ | refine awpIf_ndec ?_ ?_ | refine awpGd_tdec ?_ ?_ | refine awpGd_fdec ?_ ?_ | refine awpGd_tndec ?_ ?_ | refine awpGd_fndec ?_ ?_) <;> intro h <;> (try simp -dsimp only [h]))
          | ((with_reducible first | refine awpIf_cases ?_ ?_ | refine awpGd_cases ?_ ?_ | refine gO_cases ?_ ?_) <;> intro h <;> replace h := nrm h <;> (try simp -dsimp only [h, Bool.not_true, Bool.not_false]))
          | ((with_reducible apply And.intro); (focus omega))) <;> (try simp -dsimp -implicitDefEqProofs (maxSteps := 1000000) (disch := first | exact dis | fail) only [rh, rows_get, hx, Int.toNat_natCast, si_eq, sp_eq, hsi, hsp, hst, appF_some, i1_shown, i1_len, i1_snoc, go_sem]))
        exact ⟨⟨by simp, by omega⟩, hQ _ rfl rfl (some .dead) (fun _ => rfl)⟩
    · rw [if_neg hst] at hc
      simp -dsimp -implicitDefEqProofs (maxSteps := 1000000) (disch := first | exact dis | fail) only [ic_ref13_Boxes_Put_b1, rh, rows_get, hx, Int.toNat_natCast, si_eq, hst, go_sem]
      repeat' ((first
        | ((with_reducible refine awpIf_asT ?_ ?_); (focus assumption))
        | ((with_reducible refine awpIf_asF ?_ ?_); (focus assumption))
        | ((with_reducible refine awpGd_tT ?_ ?_); (focus assumption))
        | ((with_reducible refine awpGd_tF ?_ ?_); (focus assumption))
        | ((with_reducible refine awpGd_fF ?_ ?_); (focus assumption))
        | ((with_reducible refine awpGd_fT ?_ ?_); (focus assumption))
        | ((with_reducible apply awpGd_nst); (focus (intro h; replace h := nrm h; simp -dsimp -implicitDefEqProofs (maxSteps := 1000000) (disch := first | exact dis | fail) only [h, rh, rows_get, hx, Int.toNat_natCast, si_eq, hst, go_sem]; rfl)))
        | ((with_reducible apply awpGd_nsf); (focus (intro h; replace h := nrm h; simp -dsimp -implicitDefEqProofs (maxSteps := 1000000) (disch := first | exact dis | fail) only [h, rh, rows_get, hx, Int.toNat_natCast, si_eq, hst, go_sem]; rfl)))
        | ((with_reducible apply gO_t); (focus (intro h; replace h := nrm h; simp -dsimp -implicitDefEqProofs (maxSteps := 1000000) (disch := first | exact dis | fail) only [h, rh, rows_get, hx, Int.toNat_natCast, si_eq, hst, go_sem]; rfl)))
        | ((with_reducible apply gO_f); (focus (intro h; replace h := nrm h; simp -dsimp -implicitDefEqProofs (maxSteps := 1000000) (disch := first | exact dis | fail) only [h, rh, rows_get, hx, Int.toNat_natCast, si_eq, hst, go_sem]; rfl)))
        | ((with_reducible refine chkA_f ?_ ?_ ?_); (focus simp); (focus (intro h; replace h := nrm h; simp -dsimp -implicitDefEqProofs (maxSteps := 1000000) (disch := first | exact dis | fail) only [h, rh, rows_get, hx, Int.toNat_natCast, si_eq, hst, go_sem])))
        | ((with_reducible refine chkA_t ?_ ?_ ?_); (focus simp); (focus (intro h; replace h := nrm h; simp -dsimp -implicitDefEqProofs (maxSteps := 1000000) (disch := first | exact dis | fail) only [h, rh, rows_get, hx, Int.toNat_natCast, si_eq, hst, go_sem])))
        | ((with_reducible refine awpIf_decT ?_ ?_); (focus omega))
        | ((with_reducible refine awpIf_decF ?_ ?_); (focus omega))
        | ((with_reducible first | refine awpIf_dec ?_ ?_ | refine awpIf_ndec ?_ ?_ | refine awpGd_tdec ?_ ?_ | refine awpGd_fdec ?_ ?_ | refine awpGd_tndec ?_ ?_ | refine awpGd_fndec ?_ ?_) <;> intro h <;> (try simp -dsimp only [h]))
        | ((with_reducible first | refine awpIf_cases ?_ ?_ | refine awpGd_cases ?_ ?_ | refine gO_cases ?_ ?_) <;> intro h <;> replace h := nrm h <;> (try simp -dsimp only [h, Bool.not_true, Bool.not_false]))
        | ((with_reducible apply And.intro); (focus omega))) <;> (try simp -dsimp -implicitDefEqProofs (maxSteps := 1000000) (disch := first | exact dis | fail) only [rh, rows_get, hx, Int.toNat_natCast, si_eq, hst, go_sem]))
      exact ⟨none, rfl, by simp -dsimp -implicitDefEqProofs (maxSteps := 1000000) (disch := first | exact dis | fail) only [foldRn, Int.natCast_add, go_sem], rfl, hc⟩
  · rw [List.drop_eq_nil_of_le (by omega)] at hc; exact absurd hc (by simp [freeAt])
theorem RPut_c (cs : List Cl) (p : Pk) (ov : AV) (oe : Option AO) (ev : AV) (ee : Option AO) (os es : List Int) (puts : Int) (k : Nat) (hn : 1 ≤ cs.length ∧ cs.length ≤ 1000) (hos : os.length ≤ 1000000) (ho : ER 3 ov oe os) (he : ER 4 ev ee es) (hk : ¬ keyR p.fr < 0) (hf : freeAt cs 0 = some k) :
    ACall Try.prog f_ref13_Boxes_Put [.ptr 0 0, .agg p.av] (rh cs ov oe ev ee) fun r A => r = .tup [.int .i64 k, .int .i64 0] ∧
      ∃ d, (∀ g, Option.map (AO.ren g) d = d) ∧ A = [some (.cells [.sl 1 1 0 cs.length true, .sl 2 7 0 cs.length true, .sl 5 1 0 (os.length + 1) false, ev]), some (.arr (rows si (cs.set k ⟨1, p, puts⟩))), some (.arr (rows sp (cs.set k ⟨1, p, puts⟩))), d, ee, some (.arr (rows i1 (os ++ [(k : Int)])))] := by
  refine acallW fol ok_ref13_Boxes_Put ?_
  obtain ⟨e1, e2⟩ := he.ren (g := fnew 5 [7]) rfl
  simp -dsimp -implicitDefEqProofs (maxSteps := 1000000) (disch := first | exact dis | fail) only [ic_ref13_Boxes_Put, rh, hk, go_sem]
  repeat' ((first
    | ((with_reducible refine PCall.ac (RKey_ok p.fr) ?_ ?_ ?_); rfl; rfl)
    | ((with_reducible refine awpIf_asT ?_ ?_); (focus assumption))
    | ((with_reducible refine awpIf_asF ?_ ?_); (focus assumption))
    | ((with_reducible refine awpGd_tT ?_ ?_); (focus assumption))
    | ((with_reducible refine awpGd_tF ?_ ?_); (focus assumption))
    | ((with_reducible refine awpGd_fF ?_ ?_); (focus assumption))
    | ((with_reducible refine awpGd_fT ?_ ?_); (focus assumption))
    | ((with_reducible apply awpGd_nst); (focus (intro h; replace h := nrm h; simp -dsimp -implicitDefEqProofs (maxSteps := 1000000) (disch := first | exact dis | fail) only [h, rh, hk, go_sem]; rfl)))
    | ((with_reducible apply awpGd_nsf); (focus (intro h; replace h := nrm h; simp -dsimp -implicitDefEqProofs (maxSteps := 1000000) (disch := first | exact dis | fail) only [h, rh, hk, go_sem]; rfl)))
    | ((with_reducible apply gO_t); (focus (intro h; replace h := nrm h; simp -dsimp -implicitDefEqProofs (maxSteps := 1000000) (disch := first | exact dis | fail) only [h, rh, hk, go_sem]; rfl)))
    | ((with_reducible apply gO_f); (focus (intro h; replace h := nrm h; simp -dsimp -implicitDefEqProofs (maxSteps := 1000000) (disch := first | exact dis | fail) only [h, rh, hk, go_sem]; rfl)))
    | ((with_reducible refine awpGd_pct (RKey_ok p.fr) ?_ ?_ ?_ ?_); (focus (intro h; replace h := nrm h; simp -dsimp only [h, rh, hk, go_sem]; first | done | exact ⟨rfl, rfl⟩ | exact rfl)); (focus rfl); (focus rfl))
    | ((with_reducible refine awpGd_pcf (RKey_ok p.fr) ?_ ?_ ?_ ?_); (focus (intro h; replace h := nrm h; simp -dsimp only [h, rh, hk, go_sem]; first | done | exact ⟨rfl, rfl⟩ | exact rfl)); (focus rfl); (focus rfl))
    | ((with_reducible refine chkA_f ?_ ?_ ?_); (focus simp); (focus (intro h; replace h := nrm h; simp -dsimp -implicitDefEqProofs (maxSteps := 1000000) (disch := first | exact dis | fail) only [h, rh, hk, go_sem])))
    | ((with_reducible refine chkA_t ?_ ?_ ?_); (focus simp); (focus (intro h; replace h := nrm h; simp -dsimp -implicitDefEqProofs (maxSteps := 1000000) (disch := first | exact dis | fail) only [h, rh, hk, go_sem])))
    | ((with_reducible refine awpIf_decT ?_ ?_); (focus omega))
    | ((with_reducible refine awpIf_decF ?_ ?_); (focus omega))
    | ((with_reducible first | refine awpIf_dec ?_ ?_ | refine awpIf_ndec ?_ ?_ | refine awpGd_tdec ?_ ?_ | refine awpGd_fdec ?_ ?_ | refine awpGd_tndec ?_ ?_ | refine awpGd_fndec ?_ ?_) <;> intro h <;> (try simp -dsimp only [h]))
    | ((with_reducible first | refine awpIf_cases ?_ ?_ | refine awpGd_cases ?_ ?_ | refine gO_cases ?_ ?_) <;> intro h <;> replace h := nrm h <;> (try simp -dsimp only [h, Bool.not_true, Bool.not_false]))
    | ((with_reducible apply And.intro); (focus omega))) <;> (try simp -dsimp -implicitDefEqProofs (maxSteps := 1000000) (disch := first | exact dis | fail) only [rh, hk, go_sem]))
  refine RPut_lc cs p ov oe ev ee os puts k hn hos ho hf _ ?_
  intro ρ h4 h5 d hd
  simp -dsimp -implicitDefEqProofs (maxSteps := 1000000) (disch := first | exact dis | fail) only [rh, h4, h5, go_sem]
  repeat' ((first
    | ((with_reducible refine awpIf_asT ?_ ?_); (focus assumption))
    | ((with_reducible refine awpIf_asF ?_ ?_); (focus assumption))
    | ((with_reducible refine awpGd_tT ?_ ?_); (focus assumption))
    | ((with_reducible refine awpGd_tF ?_ ?_); (focus assumption))
    | ((with_reducible refine awpGd_fF ?_ ?_); (focus assumption))
    | ((with_reducible refine awpGd_fT ?_ ?_); (focus assumption))
    | ((with_reducible apply awpGd_nst); (focus (intro h; replace h := nrm h; simp -dsimp -implicitDefEqProofs (maxSteps := 1000000) (disch := first | exact dis | fail) only [h, rh, h4, h5, go_sem]; rfl)))
    | ((with_reducible apply awpGd_nsf); (focus (intro h; replace h := nrm h; simp -dsimp -implicitDefEqProofs (maxSteps := 1000000) (disch := first | exact dis | fail) only [h, rh, h4, h5, go_sem]; rfl)))
    | ((with_reducible apply gO_t); (focus (intro h; replace h := nrm h; simp -dsimp -implicitDefEqProofs (maxSteps := 1000000) (disch := first | exact dis | fail) only [h, rh, h4, h5, go_sem]; rfl)))
    | ((with_reducible apply gO_f); (focus (intro h; replace h := nrm h; simp -dsimp -implicitDefEqProofs (maxSteps := 1000000) (disch := first | exact dis | fail) only [h, rh, h4, h5, go_sem]; rfl)))
    | ((with_reducible refine chkA_f ?_ ?_ ?_); (focus simp); (focus (intro h; replace h := nrm h; simp -dsimp -implicitDefEqProofs (maxSteps := 1000000) (disch := first | exact dis | fail) only [h, rh, h4, h5, go_sem])))
    | ((with_reducible refine chkA_t ?_ ?_ ?_); (focus simp); (focus (intro h; replace h := nrm h; simp -dsimp -implicitDefEqProofs (maxSteps := 1000000) (disch := first | exact dis | fail) only [h, rh, h4, h5, go_sem])))
    | ((with_reducible refine awpIf_decT ?_ ?_); (focus omega))
    | ((with_reducible refine awpIf_decF ?_ ?_); (focus omega))
    | ((with_reducible first | refine awpIf_dec ?_ ?_ | refine awpIf_ndec ?_ ?_ | refine awpGd_tdec ?_ ?_ | refine awpGd_fdec ?_ ?_ | refine awpGd_tndec ?_ ?_ | refine awpGd_fndec ?_ ?_) <;> intro h <;> (try simp -dsimp only [h]))
    | ((with_reducible first | refine awpIf_cases ?_ ?_ | refine awpGd_cases ?_ ?_ | refine gO_cases ?_ ?_) <;> intro h <;> replace h := nrm h <;> (try simp -dsimp only [h, Bool.not_true, Bool.not_false]))
    | ((with_reducible apply And.intro); (focus omega))) <;> (try simp -dsimp -implicitDefEqProofs (maxSteps := 1000000) (disch := first | exact dis | fail) only [rh, h4, h5, go_sem]))
  exact ⟨some [7], rfl, rfl, d, hd, by simp -dsimp -implicitDefEqProofs (maxSteps := 1000000) (disch := first | exact dis | fail) only [foldA_eq, si_ren, sp_ren, i1_ren, e1, e2, hd, go_sem]⟩
end Go.Proofs.Ytkkccabchhnebaa
