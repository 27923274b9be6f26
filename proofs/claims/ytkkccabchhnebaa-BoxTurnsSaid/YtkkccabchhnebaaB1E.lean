/- box: what its functions do. Conditions: none. -/
import Derived.Test.YtkkccabchhnebaaB1D
namespace Go.Proofs.Ytkkccabchhnebaa
open Go.SB
attribute [local irreducible] AW OPS ORD
set_option maxRecDepth 100000
set_option maxHeartbeats 4000000
set_option linter.unusedSimpArgs false
set_option linter.unusedVariables false

theorem foldRn {n : Nat} {ρ : List AV} : foldRo n none ρ = ρ := rfl
theorem foldAn {n : Nat} {A : AHeap} : foldAo n none A = A := rfl

/-- A packet. -/
structure Pk where
  fr : Fr
  frm : Int
  tag : Int
  loop : Bool
abbrev Pk.av (p : Pk) : List AV := [.int .i64 p.fr.id, .int .i64 p.fr.fl, .int .i64 p.fr.len, .str p.fr.data, .int .i64 p.frm, .int .i64 p.tag, .bool p.loop]
/-- A mailbox. -/
structure Cl where
  st : Int
  pk : Pk
  since : Int
abbrev Cl.av (c : Cl) : List AV := [.int .i64 c.st, .int .i64 c.pk.fr.id, .int .i64 c.pk.fr.fl, .int .i64 c.pk.fr.len, .str c.pk.fr.data, .int .i64 c.pk.frm, .int .i64 c.pk.tag, .bool c.pk.loop, .int .i64 c.since]
def cav (c : Cl) : List AV := c.av
theorem cav_flat (c : Cl) : AV.flatL (cav c) = true := rfl
theorem cav_ren {g : Nat → Option Nat} {xs : List Cl} : AO.ren g (.arr (rows cav xs)) = .arr (rows cav xs) := rows_ren cav_flat g xs
theorem cav_eq (c : Cl) : cav c = c.av := rfl

/-- A row of numbers: none, or at l, behind some that are no longer shown. -/
def ER (l : Nat) (v : AV) (e : Option AO) (es : List Int) : Prop := (v = .nils ∧ e = none ∧ es = []) ∨ ∃ pre, v = .sl l 1 pre.length es.length false ∧ e = some (.arr (rows i1 (pre ++ es)))
theorem ER.ren {l : Nat} {v : AV} {e : Option AO} {es : List Int} (h : ER l v e es) {g : Nat → Option Nat} (hg : g l = some l) : AV.ren g v = v ∧ e.map (AO.ren g) = e := by
  rcases h with ⟨rfl, rfl, _⟩ | ⟨pre, rfl, rfl⟩
  · exact ⟨rfl, rfl⟩
  · rw [ren_sl, hg]
    exact ⟨rfl, congrArg some i1_ren⟩

/-- What stands by itself: kept as it is, if its first n places are. -/
def WF (n : Nat) (B : AHeap) : Prop := ∀ g : Nat → Option Nat, (∀ l, l < n → g l = some l) → B.map (fun o => o.map (AO.ren g)) = B
theorem fin_drop {n : Nat} {B G : AHeap} {r : AV} {K : AV → AHeap → Prop} (hB : B.length = n) (hw : WF n B) (hr : AV.flat r = true) (hk : K r B) : ∃ ks, okKeepO n ks = true ∧ K (foldVo n ks r) (foldAo n ks (B ++ G)) := by
  refine ⟨some [], rfl, ?_⟩
  have hg : ∀ l, l < n → fnew n [] l = some l := fun l h => by simp [fnew, h]
  rw [foldV_eq, AV.ren_flat _ hr, foldA_eq]
  subst hB
  rw [List.take_left, List.map_nil, List.append_nil, hw _ hg]
  exact hk

theorem fin_eq {n : Nat} {B G : AHeap} {r : AV} (hB : B.length = n) (hw : WF n B) (hr : AV.flat r = true) : ∃ ks, okKeepO n ks = true ∧ foldVo n ks r = r ∧ foldAo n ks (B ++ G) = B :=
  fin_drop (K := fun v A => v = r ∧ A = B) hB hw hr ⟨rfl, rfl⟩

theorem fold_keep1 {n : Nat} {B G : AHeap} {x : Option AO} (hB : B.length = n) (hw : WF n B) (hx : ∀ g, x.map (AO.ren g) = x) : foldAo n (some [n]) (B ++ x :: G) = B ++ [x] := by
  subst hB
  rw [foldA_eq, List.take_left]
  have hg : ∀ l, l < B.length → fnew B.length [B.length] l = some l := fun l h => by simp [fnew, h]
  simp only [List.map_append, List.map_cons, List.map_nil, hw _ hg]
  congr 1
  rw [List.getElem?_append_right (Nat.le_refl _), Nat.sub_self, List.getElem?_cons_zero]
  cases x with
  | none => rfl
  | some o => exact congrArg (fun y => [y]) (hx _)

def bh (cs : List Cl) (v : AV) (e : Option AO) (puts : Int) : AHeap := [some (.cells [.sl 1 9 0 cs.length true, v, .int .i64 puts]), some (.arr (rows cav cs)), e]
theorem bh_wf {cs : List Cl} {v : AV} {e : Option AO} {es : List Int} {puts : Int} (h : ER 2 v e es) : WF 3 (bh cs v e puts) := by
  intro g hg
  obtain ⟨h1, h2⟩ := h.ren (hg 2 (by decide))
  simp only [bh, List.map_cons, List.map_nil, omap_some, aoren_cells, ren_sl, hg 1 (by decide), renTo_some, h1, h2, ren_int, cav_ren]

theorem Put1_ok (c : Cl) : PCall Try.prog f_box_Boxes_Put_1 [.agg c.av] (.bool (decide (c.st = 0))) := by
  refine pcall_of fol ok_box_Boxes_Put_1 rfl ?_
  simp -dsimp -implicitDefEqProofs (maxSteps := 1000000) (disch := first | exact dis | fail) only [ic_box_Boxes_Put_1, go_sem]
  repeat' ((first
    | ((with_reducible refine awpIf_asT ?_ ?_); (focus assumption))
    | ((with_reducible refine awpIf_asF ?_ ?_); (focus assumption))
    | ((with_reducible refine awpGd_tT ?_ ?_); (focus assumption))
    | ((with_reducible refine awpGd_tF ?_ ?_); (focus assumption))
    | ((with_reducible refine awpGd_fF ?_ ?_); (focus assumption))
    | ((with_reducible refine awpGd_fT ?_ ?_); (focus assumption))
    | ((with_reducible apply awpGd_nst); (focus (intro h; replace h := nrm h; simp -dsimp -implicitDefEqProofs (maxSteps := 1000000) (disch := first | exact dis | fail) only [h, go_sem]; rfl)))
    | ((with_reducible apply awpGd_nsf); (focus (intro h; replace h := nrm h; simp -dsimp -implicitDefEqProofs (maxSteps := 1000000) (disch := first | exact dis | fail) only [h, go_sem]; rfl)))
    | ((with_reducible apply gO_t); (focus (intro h; replace h := nrm h; simp -dsimp -implicitDefEqProofs (maxSteps := 1000000) (disch := first | exact dis | fail) only [h, go_sem]; rfl)))
    | ((with_reducible apply gO_f); (focus (intro h; replace h := nrm h; simp -dsimp -implicitDefEqProofs (maxSteps := 1000000) (disch := first | exact dis | fail) only [h, go_sem]; rfl)))
    | ((with_reducible refine chkA_f ?_ ?_ ?_); (focus simp); (focus (intro h; replace h := nrm h; simp -dsimp -implicitDefEqProofs (maxSteps := 1000000) (disch := first | exact dis | fail) only [h, go_sem])))
    | ((with_reducible refine chkA_t ?_ ?_ ?_); (focus simp); (focus (intro h; replace h := nrm h; simp -dsimp -implicitDefEqProofs (maxSteps := 1000000) (disch := first | exact dis | fail) only [h, go_sem])))
    | ((with_reducible refine awpIf_decT ?_ ?_); (focus omega))
    | ((with_reducible refine awpIf_decF ?_ ?_); (focus omega))
    | ((with_reducible first | refine awpIf_dec ?_ ?_ | refine awpIf_ndec ?_ ?_ | refine awpGd_tdec ?_ ?_ | refine awpGd_fdec ?_ ?_ | refine awpGd_tndec ?_ ?_ | refine awpGd_fndec ?_ ?_) <;> intro h <;> (try simp -dsimp only [h]))
    | ((with_reducible first | refine awpIf_cases ?_ ?_ | refine awpGd_cases ?_ ?_ | refine gO_cases ?_ ?_) <;> intro h <;> replace h := nrm h <;> (try simp -dsimp only [h, Bool.not_true, Bool.not_false]))
    | ((with_reducible apply And.intro); (focus omega))) <;> (try simp -dsimp -implicitDefEqProofs (maxSteps := 1000000) (disch := first | exact dis | fail) only [go_sem]))
/-- The first that is free. -/
def freeAt : List Cl → Nat → Option Nat
  | [], _ => none
  | c :: cs, i => if c.st = 0 then some i else freeAt cs (i + 1)
def freeV (cs : List Cl) : Int := match freeAt cs 0 with | some i => i | none => -1
theorem freeAt_step {cs : List Cl} {i : Nat} {c : Cl} (h : cs[i]? = some c) : freeAt (cs.drop i) i = if c.st = 0 then some i else freeAt (cs.drop (i + 1)) (i + 1) := by
  have hlt : i < cs.length := (List.getElem?_eq_some_iff.1 h).1
  rw [List.drop_eq_getElem_cons hlt]
  have : cs[i] = c := by rw [List.getElem?_eq_getElem hlt] at h; exact Option.some.inj h
  rw [this]; rfl
theorem IndexFunc_ok (cs : List Cl) (hn : cs.length ≤ 1000) : ACall Try.prog f_slices_IndexFunc_of_cell [.sl 0 9 0 cs.length true, .fn f_box_Boxes_Put_1 [] []] [some (.arr (rows cav cs))] fun r A => r = .int .i64 (freeV cs) ∧ A = [some (.arr (rows cav cs))] := by
  refine acallW fol ok_slices_IndexFunc_of_cell ?_
  simp -dsimp -implicitDefEqProofs (maxSteps := 1000000) (disch := first | exact dis | fail) only [ic_slices_IndexFunc_of_cell, go_sem]
  repeat' ((first
    | ((with_reducible refine awpIf_asT ?_ ?_); (focus assumption))
    | ((with_reducible refine awpIf_asF ?_ ?_); (focus assumption))
    | ((with_reducible refine awpGd_tT ?_ ?_); (focus assumption))
    | ((with_reducible refine awpGd_tF ?_ ?_); (focus assumption))
    | ((with_reducible refine awpGd_fF ?_ ?_); (focus assumption))
    | ((with_reducible refine awpGd_fT ?_ ?_); (focus assumption))
    | ((with_reducible apply awpGd_nst); (focus (intro h; replace h := nrm h; simp -dsimp -implicitDefEqProofs (maxSteps := 1000000) (disch := first | exact dis | fail) only [h, go_sem]; rfl)))
    | ((with_reducible apply awpGd_nsf); (focus (intro h; replace h := nrm h; simp -dsimp -implicitDefEqProofs (maxSteps := 1000000) (disch := first | exact dis | fail) only [h, go_sem]; rfl)))
    | ((with_reducible apply gO_t); (focus (intro h; replace h := nrm h; simp -dsimp -implicitDefEqProofs (maxSteps := 1000000) (disch := first | exact dis | fail) only [h, go_sem]; rfl)))
    | ((with_reducible apply gO_f); (focus (intro h; replace h := nrm h; simp -dsimp -implicitDefEqProofs (maxSteps := 1000000) (disch := first | exact dis | fail) only [h, go_sem]; rfl)))
    | ((with_reducible refine chkA_f ?_ ?_ ?_); (focus simp); (focus (intro h; replace h := nrm h; simp -dsimp -implicitDefEqProofs (maxSteps := 1000000) (disch := first | exact dis | fail) only [h, go_sem])))
    | ((with_reducible refine chkA_t ?_ ?_ ?_); (focus simp); (focus (intro h; replace h := nrm h; simp -dsimp -implicitDefEqProofs (maxSteps := 1000000) (disch := first | exact dis | fail) only [h, go_sem])))
    | ((with_reducible refine awpIf_decT ?_ ?_); (focus omega))
    | ((with_reducible refine awpIf_decF ?_ ?_); (focus omega))
    | ((with_reducible first | refine awpIf_dec ?_ ?_ | refine awpIf_ndec ?_ ?_ | refine awpGd_tdec ?_ ?_ | refine awpGd_fdec ?_ ?_ | refine awpGd_tndec ?_ ?_ | refine awpGd_fndec ?_ ?_) <;> intro h <;> (try simp -dsimp only [h]))
    | ((with_reducible first | refine awpIf_cases ?_ ?_ | refine awpGd_cases ?_ ?_ | refine gO_cases ?_ ?_) <;> intro h <;> replace h := nrm h <;> (try simp -dsimp only [h, Bool.not_true, Bool.not_false]))
    | ((with_reducible apply And.intro); (focus omega))) <;> (try simp -dsimp -implicitDefEqProofs (maxSteps := 1000000) (disch := first | exact dis | fail) only [go_sem]))
  refine aw_loop cs.length (fun i ρ A => ρ = [.sl 0 9 0 cs.length true, .fn f_box_Boxes_Put_1 [] [], .any, .any, .any, .any, .any, .int .i64 cs.length, .int .i64 i] ++ List.replicate 10 .any ∧ A = [some (.arr (rows cav cs))] ∧ freeAt (cs.drop i) i = freeAt cs 0) ⟨none, rfl, rfl, rfl, rfl⟩ ?_
  rintro i ρ A hi ⟨rfl, rfl, hc⟩
  rcases Nat.lt_or_ge i cs.length with hlt | hge
  · have hx : cs[i]? = some cs[i] := List.getElem?_eq_getElem hlt
    rw [freeAt_step hx] at hc
    simp -dsimp -implicitDefEqProofs (maxSteps := 1000000) (disch := first | exact dis | fail) only [ic_slices_IndexFunc_of_cell_b1, rows_get, hx, Int.toNat_natCast, cav_eq, go_sem]
    repeat' ((first
      | ((with_reducible refine PCall.ac (Put1_ok _) ?_ ?_ ?_); rfl; rfl)
      | ((with_reducible refine awpIf_asT ?_ ?_); (focus assumption))
      | ((with_reducible refine awpIf_asF ?_ ?_); (focus assumption))
      | ((with_reducible refine awpGd_tT ?_ ?_); (focus assumption))
      | ((with_reducible refine awpGd_tF ?_ ?_); (focus assumption))
      | ((with_reducible refine awpGd_fF ?_ ?_); (focus assumption))
      | ((with_reducible refine awpGd_fT ?_ ?_); (focus assumption))
      | ((with_reducible apply awpGd_nst); (focus (intro h; replace h := nrm h; simp -dsimp -implicitDefEqProofs (maxSteps := 1000000) (disch := first | exact dis | fail) only [h, rows_get, hx, Int.toNat_natCast, cav_eq, go_sem]; rfl)))
      | ((with_reducible apply awpGd_nsf); (focus (intro h; replace h := nrm h; simp -dsimp -implicitDefEqProofs (maxSteps := 1000000) (disch := first | exact dis | fail) only [h, rows_get, hx, Int.toNat_natCast, cav_eq, go_sem]; rfl)))
      | ((with_reducible apply gO_t); (focus (intro h; replace h := nrm h; simp -dsimp -implicitDefEqProofs (maxSteps := 1000000) (disch := first | exact dis | fail) only [h, rows_get, hx, Int.toNat_natCast, cav_eq, go_sem]; rfl)))
      | ((with_reducible apply gO_f); (focus (intro h; replace h := nrm h; simp -dsimp -implicitDefEqProofs (maxSteps := 1000000) (disch := first | exact dis | fail) only [h, rows_get, hx, Int.toNat_natCast, cav_eq, go_sem]; rfl)))
      | ((with_reducible refine awpGd_pct (Put1_ok _) ?_ ?_ ?_ ?_); (focus (intro h; replace h := nrm h; simp -dsimp only [h, rows_get, hx, Int.toNat_natCast, cav_eq, go_sem]; first | done | exact ⟨rfl, rfl⟩ | exact rfl)); (focus rfl); (focus rfl))
      | ((with_reducible refine awpGd_pcf (Put1_ok _) ?_ ?_ ?_ ?_); (focus (intro h; replace h := nrm h; simp -dsimp only [h, rows_get, hx, Int.toNat_natCast, cav_eq, go_sem]; first | done | exact ⟨rfl, rfl⟩ | exact rfl)); (focus rfl); (focus rfl))
      | ((with_reducible refine chkA_f ?_ ?_ ?_); (focus simp); (focus (intro h; replace h := nrm h; simp -dsimp -implicitDefEqProofs (maxSteps := 1000000) (disch := first | exact dis | fail) only [h, rows_get, hx, Int.toNat_natCast, cav_eq, go_sem])))
      | ((with_reducible refine chkA_t ?_ ?_ ?_); (focus simp); (focus (intro h; replace h := nrm h; simp -dsimp -implicitDefEqProofs (maxSteps := 1000000) (disch := first | exact dis | fail) only [h, rows_get, hx, Int.toNat_natCast, cav_eq, go_sem])))
      | ((with_reducible refine awpIf_decT ?_ ?_); (focus omega))
      | ((with_reducible refine awpIf_decF ?_ ?_); (focus omega))
      | ((with_reducible first | refine awpIf_dec ?_ ?_ | refine awpIf_ndec ?_ ?_ | refine awpGd_tdec ?_ ?_ | refine awpGd_fdec ?_ ?_ | refine awpGd_tndec ?_ ?_ | refine awpGd_fndec ?_ ?_) <;> intro h <;> (try simp -dsimp only [h]))
      | ((with_reducible first | refine awpIf_cases ?_ ?_ | refine awpGd_cases ?_ ?_ | refine gO_cases ?_ ?_) <;> intro h <;> replace h := nrm h <;> (try simp -dsimp only [h, Bool.not_true, Bool.not_false]))
      | ((with_reducible apply And.intro); (focus omega))) <;> (try simp -dsimp -implicitDefEqProofs (maxSteps := 1000000) (disch := first | exact dis | fail) only [rows_get, hx, Int.toNat_natCast, cav_eq, go_sem]))
    · rw [if_pos ‹_›] at hc
      exact ⟨none, rfl, by simp only [freeV, ← hc]; rfl, rfl⟩
    · rw [if_neg ‹_›] at hc
      exact ⟨none, rfl, rfl, rfl, hc⟩
  · have hd : cs.drop i = [] := List.drop_eq_nil_of_le hge
    rw [hd] at hc
    simp -dsimp -implicitDefEqProofs (maxSteps := 1000000) (disch := first | exact dis | fail) only [ic_slices_IndexFunc_of_cell_b1, go_sem]
    repeat' ((first
      | ((with_reducible refine awpIf_asT ?_ ?_); (focus assumption))
      | ((with_reducible refine awpIf_asF ?_ ?_); (focus assumption))
      | ((with_reducible refine awpGd_tT ?_ ?_); (focus assumption))
      | ((with_reducible refine awpGd_tF ?_ ?_); (focus assumption))
      | ((with_reducible refine awpGd_fF ?_ ?_); (focus assumption))
      | ((with_reducible refine awpGd_fT ?_ ?_); (focus assumption))
      | ((with_reducible apply awpGd_nst); (focus (intro h; replace h := nrm h; simp -dsimp -implicitDefEqProofs (maxSteps := 1000000) (disch := first | exact dis | fail) only [h, go_sem]; rfl)))
      | ((with_reducible apply awpGd_nsf); (focus (intro h; replace h := nrm h; simp -dsimp -implicitDefEqProofs (maxSteps := 1000000) (disch := first | exact dis | fail) only [h, go_sem]; rfl)))
      | ((with_reducible apply gO_t); (focus (intro h; replace h := nrm h; simp -dsimp -implicitDefEqProofs (maxSteps := 1000000) (disch := first | exact dis | fail) only [h, go_sem]; rfl)))
      | ((with_reducible apply gO_f); (focus (intro h; replace h := nrm h; simp -dsimp -implicitDefEqProofs (maxSteps := 1000000) (disch := first | exact dis | fail) only [h, go_sem]; rfl)))
      | ((with_reducible refine chkA_f ?_ ?_ ?_); (focus simp); (focus (intro h; replace h := nrm h; simp -dsimp -implicitDefEqProofs (maxSteps := 1000000) (disch := first | exact dis | fail) only [h, go_sem])))
      | ((with_reducible refine chkA_t ?_ ?_ ?_); (focus simp); (focus (intro h; replace h := nrm h; simp -dsimp -implicitDefEqProofs (maxSteps := 1000000) (disch := first | exact dis | fail) only [h, go_sem])))
      | ((with_reducible refine awpIf_decT ?_ ?_); (focus omega))
      | ((with_reducible refine awpIf_decF ?_ ?_); (focus omega))
      | ((with_reducible first | refine awpIf_dec ?_ ?_ | refine awpIf_ndec ?_ ?_ | refine awpGd_tdec ?_ ?_ | refine awpGd_fdec ?_ ?_ | refine awpGd_tndec ?_ ?_ | refine awpGd_fndec ?_ ?_) <;> intro h <;> (try simp -dsimp only [h]))
      | ((with_reducible first | refine awpIf_cases ?_ ?_ | refine awpGd_cases ?_ ?_ | refine gO_cases ?_ ?_) <;> intro h <;> replace h := nrm h <;> (try simp -dsimp only [h, Bool.not_true, Bool.not_false]))
      | ((with_reducible apply And.intro); (focus omega))) <;> (try simp -dsimp -implicitDefEqProofs (maxSteps := 1000000) (disch := first | exact dis | fail) only [go_sem]))
    exact ⟨none, rfl, by simp only [freeV, ← hc, freeAt]; rfl, rfl⟩

theorem freeAt_some : ∀ {cs : List Cl} {k i : Nat}, freeAt cs k = some i → k ≤ i ∧ ∃ c, cs[i - k]? = some c ∧ c.st = 0
  | [], k, i, h => by cases h
  | c :: cs, k, i, h => by
    unfold freeAt at h
    by_cases e : c.st = 0
    · rw [if_pos e] at h; cases h; exact ⟨Nat.le_refl _, c, by simp, e⟩
    · rw [if_neg e] at h
      obtain ⟨h1, d, h2, h3⟩ := freeAt_some h
      refine ⟨by omega, d, ?_, h3⟩
      rw [show i - k = (i - (k + 1)) + 1 by omega]
      simpa using h2
theorem cav_set {cs : List Cl} {i : Nat} {st id fl len frm tag since : Int} {data : List UInt8} {loop : Bool} :
    (rows cav cs).set i [.int .i64 st, .int .i64 id, .int .i64 fl, .int .i64 len, .str data, .int .i64 frm, .int .i64 tag, .bool loop, .int .i64 since] = rows cav (cs.set i ⟨st, ⟨⟨id, fl, len, data⟩, frm, tag, loop⟩, since⟩) :=
  rows_set (f := cav) (x := ⟨st, ⟨⟨id, fl, len, data⟩, frm, tag, loop⟩, since⟩)

/-- What Put does. -/
def putE (cs : List Cl) (p : Pk) : Int × Int := if keyR p.fr < 0 then (0, 4) else match freeAt cs 0 with | some i => ((i : Int), 0) | none => (0, 5)
def putC (cs : List Cl) (p : Pk) (puts : Int) : List Cl := if keyR p.fr < 0 then cs else match freeAt cs 0 with | some i => cs.set i ⟨1, p, puts⟩ | none => cs
def putN (cs : List Cl) (p : Pk) (puts : Int) : Int := if keyR p.fr < 0 then puts else match freeAt cs 0 with | some _ => puts + 1 | none => puts
theorem FKey_ok (f : Fr) : PCall Try.prog f_frame_Key [.agg f.av] (.int .i64 (keyR f)) := key_eq f ▸ Key_ok f
theorem Put_ok (cs : List Cl) (p : Pk) (v : AV) (e : Option AO) (es : List Int) (puts : Int) (hn : cs.length ≤ 1000) (hp : 0 ≤ puts ∧ puts ≤ 1000000) (he : ER 2 v e es) :
    ACall Try.prog f_box_Boxes_Put [.ptr 0 0, .agg p.av] (bh cs v e puts) fun r A => r = .tup [.int .i64 (putE cs p).1, .int .i64 (putE cs p).2] ∧ A = bh (putC cs p puts) v e (putN cs p puts) := by
  refine acallW fol ok_box_Boxes_Put ?_
  by_cases hk : keyR p.fr < 0
  · skip
    simp -dsimp -implicitDefEqProofs (maxSteps := 1000000) (disch := first | exact dis | fail) only [ic_box_Boxes_Put, bh, eqv_ptr, hk, go_sem]
    repeat' ((first
      | ((with_reducible refine PCall.ac (FKey_ok p.fr) ?_ ?_ ?_); rfl; rfl)
      | ((with_reducible refine awpIf_asT ?_ ?_); (focus assumption))
      | ((with_reducible refine awpIf_asF ?_ ?_); (focus assumption))
      | ((with_reducible refine awpGd_tT ?_ ?_); (focus assumption))
      | ((with_reducible refine awpGd_tF ?_ ?_); (focus assumption))
      | ((with_reducible refine awpGd_fF ?_ ?_); (focus assumption))
      | ((with_reducible refine awpGd_fT ?_ ?_); (focus assumption))
      | ((with_reducible apply awpGd_nst); (focus (intro h; replace h := nrm h; simp -dsimp -implicitDefEqProofs (maxSteps := 1000000) (disch := first | exact dis | fail) only [h, bh, eqv_ptr, hk, go_sem]; rfl)))
      | ((with_reducible apply awpGd_nsf); (focus (intro h; replace h := nrm h; simp -dsimp -implicitDefEqProofs (maxSteps := 1000000) (disch := first | exact dis | fail) only [h, bh, eqv_ptr, hk, go_sem]; rfl)))
      | ((with_reducible apply gO_t); (focus (intro h; replace h := nrm h; simp -dsimp -implicitDefEqProofs (maxSteps := 1000000) (disch := first | exact dis | fail) only [h, bh, eqv_ptr, hk, go_sem]; rfl)))
      | ((with_reducible apply gO_f); (focus (intro h; replace h := nrm h; simp -dsimp -implicitDefEqProofs (maxSteps := 1000000) (disch := first | exact dis | fail) only [h, bh, eqv_ptr, hk, go_sem]; rfl)))
      | ((with_reducible refine awpGd_pct (FKey_ok p.fr) ?_ ?_ ?_ ?_); (focus (intro h; replace h := nrm h; simp -dsimp only [h, bh, eqv_ptr, hk, go_sem]; first | done | exact ⟨rfl, rfl⟩ | exact rfl)); (focus rfl); (focus rfl))
      | ((with_reducible refine awpGd_pcf (FKey_ok p.fr) ?_ ?_ ?_ ?_); (focus (intro h; replace h := nrm h; simp -dsimp only [h, bh, eqv_ptr, hk, go_sem]; first | done | exact ⟨rfl, rfl⟩ | exact rfl)); (focus rfl); (focus rfl))
      | ((with_reducible refine chkA_f ?_ ?_ ?_); (focus simp); (focus (intro h; replace h := nrm h; simp -dsimp -implicitDefEqProofs (maxSteps := 1000000) (disch := first | exact dis | fail) only [h, bh, eqv_ptr, hk, go_sem])))
      | ((with_reducible refine chkA_t ?_ ?_ ?_); (focus simp); (focus (intro h; replace h := nrm h; simp -dsimp -implicitDefEqProofs (maxSteps := 1000000) (disch := first | exact dis | fail) only [h, bh, eqv_ptr, hk, go_sem])))
      | ((with_reducible refine awpIf_decT ?_ ?_); (focus omega))
      | ((with_reducible refine awpIf_decF ?_ ?_); (focus omega))
      | ((with_reducible first | refine awpIf_dec ?_ ?_ | refine awpIf_ndec ?_ ?_ | refine awpGd_tdec ?_ ?_ | refine awpGd_fdec ?_ ?_ | refine awpGd_tndec ?_ ?_ | refine awpGd_fndec ?_ ?_) <;> intro h <;> (try simp -dsimp only [h]))
      | ((with_reducible first | refine awpIf_cases ?_ ?_ | refine awpGd_cases ?_ ?_ | refine gO_cases ?_ ?_) <;> intro h <;> replace h := nrm h <;> (try simp -dsimp only [h, Bool.not_true, Bool.not_false]))
      | ((with_reducible apply And.intro); (focus omega))) <;> (try simp -dsimp -implicitDefEqProofs (maxSteps := 1000000) (disch := first | exact dis | fail) only [bh, eqv_ptr, hk, go_sem]))
    simp only [putE, putC, putN, if_pos hk]
    exact fin_eq (B := bh cs v e puts) rfl (bh_wf he) rfl
  · cases hf : freeAt cs 0 with
    | none =>
      have hv : freeV cs = -1 := by simp only [freeV, hf]
      simp -dsimp -implicitDefEqProofs (maxSteps := 1000000) (disch := first | exact dis | fail) only [ic_box_Boxes_Put, bh, eqv_ptr, hk, hv, cav_ren, go_sem]
      repeat' ((first
        | ((with_reducible refine PCall.ac (FKey_ok p.fr) ?_ ?_ ?_); rfl; rfl)
        | (refine (IndexFunc_ok cs hn).at' [1] (by simp) rfl ⟨congrArg (fun x => some (some x)) cav_ren.symm, trivial⟩ rfl ?_; (rintro r A ⟨rfl, rfl⟩))
        | ((with_reducible refine awpIf_asT ?_ ?_); (focus assumption))
        | ((with_reducible refine awpIf_asF ?_ ?_); (focus assumption))
        | ((with_reducible refine awpGd_tT ?_ ?_); (focus assumption))
        | ((with_reducible refine awpGd_tF ?_ ?_); (focus assumption))
        | ((with_reducible refine awpGd_fF ?_ ?_); (focus assumption))
        | ((with_reducible refine awpGd_fT ?_ ?_); (focus assumption))
        | ((with_reducible apply awpGd_nst); (focus (intro h; replace h := nrm h; simp -dsimp -implicitDefEqProofs (maxSteps := 1000000) (disch := first | exact dis | fail) only [h, bh, eqv_ptr, hk, hv, cav_ren, go_sem]; rfl)))
        | ((with_reducible apply awpGd_nsf); (focus (intro h; replace h := nrm h; simp -dsimp -implicitDefEqProofs (maxSteps := 1000000) (disch := first | exact dis | fail) only [h, bh, eqv_ptr, hk, hv, cav_ren, go_sem]; rfl)))
        | ((with_reducible apply gO_t); (focus (intro h; replace h := nrm h; simp -dsimp -implicitDefEqProofs (maxSteps := 1000000) (disch := first | exact dis | fail) only [h, bh, eqv_ptr, hk, hv, cav_ren, go_sem]; rfl)))
        | ((with_reducible apply gO_f); (focus (intro h; replace h := nrm h; simp -dsimp -implicitDefEqProofs (maxSteps := 1000000) (disch := first | exact dis | fail) only [h, bh, eqv_ptr, hk, hv, cav_ren, go_sem]; rfl)))
        | ((with_reducible refine awpGd_pct (FKey_ok p.fr) ?_ ?_ ?_ ?_); (focus (intro h; replace h := nrm h; simp -dsimp only [h, bh, eqv_ptr, hk, hv, cav_ren, go_sem]; first | done | exact ⟨rfl, rfl⟩ | exact rfl)); (focus rfl); (focus rfl))
        | ((with_reducible refine awpGd_pcf (FKey_ok p.fr) ?_ ?_ ?_ ?_); (focus (intro h; replace h := nrm h; simp -dsimp only [h, bh, eqv_ptr, hk, hv, cav_ren, go_sem]; first | done | exact ⟨rfl, rfl⟩ | exact rfl)); (focus rfl); (focus rfl))
        | ((with_reducible refine chkA_f ?_ ?_ ?_); (focus simp); (focus (intro h; replace h := nrm h; simp -dsimp -implicitDefEqProofs (maxSteps := 1000000) (disch := first | exact dis | fail) only [h, bh, eqv_ptr, hk, hv, cav_ren, go_sem])))
        | ((with_reducible refine chkA_t ?_ ?_ ?_); (focus simp); (focus (intro h; replace h := nrm h; simp -dsimp -implicitDefEqProofs (maxSteps := 1000000) (disch := first | exact dis | fail) only [h, bh, eqv_ptr, hk, hv, cav_ren, go_sem])))
        | ((with_reducible refine awpIf_decT ?_ ?_); (focus omega))
        | ((with_reducible refine awpIf_decF ?_ ?_); (focus omega))
        | ((with_reducible first | refine awpIf_dec ?_ ?_ | refine awpIf_ndec ?_ ?_ | refine awpGd_tdec ?_ ?_ | refine awpGd_fdec ?_ ?_ | refine awpGd_tndec ?_ ?_ | refine awpGd_fndec ?_ ?_) <;> intro h <;> (try simp -dsimp only [h]))
        | ((with_reducible first | refine awpIf_cases ?_ ?_ | refine awpGd_cases ?_ ?_ | refine gO_cases ?_ ?_) <;> intro h <;> replace h := nrm h <;> (try simp -dsimp only [h, Bool.not_true, Bool.not_false]))
        | ((with_reducible apply And.intro); (focus omega))) <;> (try simp -dsimp -implicitDefEqProofs (maxSteps := 1000000) (disch := first | exact dis | fail) only [bh, eqv_ptr, hk, hv, cav_ren, go_sem]))
      simp only [putE, putC, putN, if_neg hk, hf]
      exact fin_eq (B := bh cs v e puts) rfl (bh_wf he) rfl
    | some i =>
      have hv : freeV cs = (i : Int) := by simp only [freeV, hf]
      obtain ⟨_, c, hx, hc⟩ := freeAt_some hf
      rw [Nat.sub_zero] at hx
      have hlt : i < cs.length := (List.getElem?_eq_some_iff.1 hx).1
      simp -dsimp -implicitDefEqProofs (maxSteps := 1000000) (disch := first | exact dis | fail) only [ic_box_Boxes_Put, bh, eqv_ptr, hk, hv, hx, rows_get, cav_eq, cav_ren, cav_set, Int.toNat_natCast, go_sem]
      repeat' ((first
        | ((with_reducible refine PCall.ac (FKey_ok p.fr) ?_ ?_ ?_); rfl; rfl)
        | (refine (IndexFunc_ok cs hn).at' [1] (by simp) rfl ⟨congrArg (fun x => some (some x)) cav_ren.symm, trivial⟩ rfl ?_; (rintro r A ⟨rfl, rfl⟩))
        | ((with_reducible refine awpIf_asT ?_ ?_); (focus assumption))
        | ((with_reducible refine awpIf_asF ?_ ?_); (focus assumption))
        | ((with_reducible refine awpGd_tT ?_ ?_); (focus assumption))
        | ((with_reducible refine awpGd_tF ?_ ?_); (focus assumption))
        | ((with_reducible refine awpGd_fF ?_ ?_); (focus assumption))
        | ((with_reducible refine awpGd_fT ?_ ?_); (focus assumption))
        | ((with_reducible apply awpGd_nst); (focus (intro h; replace h := nrm h; simp -dsimp -implicitDefEqProofs (maxSteps := 1000000) (disch := first | exact dis | fail) only [h, bh, eqv_ptr, hk, hv, hx, rows_get, cav_eq, cav_ren, cav_set, Int.toNat_natCast, go_sem]; rfl)))
        | ((with_reducible apply awpGd_nsf); (focus (intro h; replace h := nrm h; simp -dsimp -implicitDefEqProofs (maxSteps := 1000000) (disch := first | exact dis | fail) only [h, bh, eqv_ptr, hk, hv, hx, rows_get, cav_eq, cav_ren, cav_set, Int.toNat_natCast, go_sem]; rfl)))
        | ((with_reducible apply gO_t); (focus (intro h; replace h := nrm h; simp -dsimp -implicitDefEqProofs (maxSteps := 1000000) (disch := first | exact dis | fail) only [h, bh, eqv_ptr, hk, hv, hx, rows_get, cav_eq, cav_ren, cav_set, Int.toNat_natCast, go_sem]; rfl)))
        | ((with_reducible apply gO_f); (focus (intro h; replace h := nrm h; simp -dsimp -implicitDefEqProofs (maxSteps := 1000000) (disch := first | exact dis | fail) only [h, bh, eqv_ptr, hk, hv, hx, rows_get, cav_eq, cav_ren, cav_set, Int.toNat_natCast, go_sem]; rfl)))
        | ((with_reducible refine awpGd_pct (FKey_ok p.fr) ?_ ?_ ?_ ?_); (focus (intro h; replace h := nrm h; simp -dsimp only [h, bh, eqv_ptr, hk, hv, hx, rows_get, cav_eq, cav_ren, cav_set, Int.toNat_natCast, go_sem]; first | done | exact ⟨rfl, rfl⟩ | exact rfl)); (focus rfl); (focus rfl))
        | ((with_reducible refine awpGd_pcf (FKey_ok p.fr) ?_ ?_ ?_ ?_); (focus (intro h; replace h := nrm h; simp -dsimp only [h, bh, eqv_ptr, hk, hv, hx, rows_get, cav_eq, cav_ren, cav_set, Int.toNat_natCast, go_sem]; first | done | exact ⟨rfl, rfl⟩ | exact rfl)); (focus rfl); (focus rfl))
        | ((with_reducible refine chkA_f ?_ ?_ ?_); (focus simp); (focus (intro h; replace h := nrm h; simp -dsimp -implicitDefEqProofs (maxSteps := 1000000) (disch := first | exact dis | fail) only [h, bh, eqv_ptr, hk, hv, hx, rows_get, cav_eq, cav_ren, cav_set, Int.toNat_natCast, go_sem])))
        | ((with_reducible refine chkA_t ?_ ?_ ?_); (focus simp); (focus (intro h; replace h := nrm h; simp -dsimp -implicitDefEqProofs (maxSteps := 1000000) (disch := first | exact dis | fail) only [h, bh, eqv_ptr, hk, hv, hx, rows_get, cav_eq, cav_ren, cav_set, Int.toNat_natCast, go_sem])))
        | ((with_reducible refine awpIf_decT ?_ ?_); (focus omega))
        | ((with_reducible refine awpIf_decF ?_ ?_); (focus omega))
        | ((with_reducible first | refine awpIf_dec ?_ ?_ | refine awpIf_ndec ?_ ?_ | refine awpGd_tdec ?_ ?_ | refine awpGd_fdec ?_ ?_ | refine awpGd_tndec ?_ ?_ | refine awpGd_fndec ?_ ?_) <;> intro h <;> (try simp -dsimp only [h]))
        | ((with_reducible first | refine awpIf_cases ?_ ?_ | refine awpGd_cases ?_ ?_ | refine gO_cases ?_ ?_) <;> intro h <;> replace h := nrm h <;> (try simp -dsimp only [h, Bool.not_true, Bool.not_false]))
        | ((with_reducible apply And.intro); (focus omega))) <;> (try simp -dsimp -implicitDefEqProofs (maxSteps := 1000000) (disch := first | exact dis | fail) only [bh, eqv_ptr, hk, hv, hx, rows_get, cav_eq, cav_ren, cav_set, Int.toNat_natCast, go_sem]))
      simp only [putE, putC, putN, if_neg hk, hf]
      have hl : cs.length = (cs.set i ⟨1, p, puts⟩).length := by simp
      rw [hl]
      exact fin_eq (B := bh (cs.set i ⟨1, p, puts⟩) v e (puts + 1)) rfl (bh_wf he) rfl

end Go.Proofs.Ytkkccabchhnebaa
