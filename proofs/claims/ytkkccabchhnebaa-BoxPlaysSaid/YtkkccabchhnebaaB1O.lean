/- The law's calls gone through: few, and BoxPlays. Conditions: none. -/
import Derived.Test.YtkkccabchhnebaaB1N
namespace Go.Proofs.Ytkkccabchhnebaa
open Go.SB
attribute [local irreducible] AW OPS ORD
set_option maxRecDepth 100000
set_option maxHeartbeats 4000000
set_option linter.unusedSimpArgs false
set_option linter.unusedVariables false

/-- A call that is asked for. -/
structure OpD where
  kind : Int
  box : Int
  pk : Pk
abbrev OpD.av (o : OpD) : List AV := [.int .i64 o.kind, .int .i64 o.box, .int .i64 o.pk.fr.id, .int .i64 o.pk.fr.fl, .int .i64 o.pk.fr.len, .str o.pk.fr.data, .int .i64 o.pk.frm, .int .i64 o.pk.tag, .bool o.pk.loop]
def oav (o : OpD) : List AV := o.av
theorem oav_eq (o : OpD) : oav o = o.av := rfl
theorem do_ok (o : OpD) {n : Nat} (hn : n ≤ 100000) {cs : List Cl} {os es : List Int} {puts : Int} {v : AV} {e : Option AO} {ov : AV} {oe : Option AO} {ev : AV} {ee : Option AO} (B : Both n cs os es puts v e ov oe ev ee) :
    ACall Try.prog f_law13_do [.ptr 0 0, .ptr 3 0, .agg o.av] (LH cs v e puts ov oe ev ee) (DoneP n) := by
  obtain ⟨k, box, p⟩ := o
  by_cases h0 : k = 0
  · subst h0; exact do0_ok box p hn B
  by_cases h1 : k = 1
  · subst h1; exact do1_ok box p hn B
  by_cases h2 : k = 2
  · subst h2; exact do2_ok box p hn B
  by_cases h3 : k = 3
  · subst h3; exact do3_ok box p hn B
  by_cases h4 : k = 4
  · subst h4; exact do4_ok box p hn B
  by_cases h5 : k = 5
  · subst h5; exact do5_ok box p hn B
  exact do6_ok k box p ⟨h0, h1, h2, h3, h4, h5⟩ hn B

theorem ps_at {l : List OpD} {i : Nat} {o : OpD} (h : l[i]? = some o) : (l.map oav).getD i [] = o.av := by
  simp [List.getD, h, oav_eq]
theorem few_ok (l : List OpD) : ACall Try.prog f_law13_few [.ps 9 (l.map oav)] [] fun r A => (∃ b, r = .bool b ∧ (b = true → l.length ≤ 400)) ∧ A = [] := by
  refine acallW fol ok_law13_few ?_
  simp -dsimp -implicitDefEqProofs (maxSteps := 1000000) (disch := first | exact dis | fail) only [ic_law13_few, go_sem]
  repeat' ((first
    | ((with_reducible refine awpIf_asT ?_ ?_); (focus assumption))
    | ((with_reducible refine awpIf_asF ?_ ?_); (focus assumption))
    | ((with_reducible refine awpGd_tT ?_ ?_); (focus assumption))
    | ((with_reducible refine awpGd_tF ?_ ?_); (focus assumption))
    | ((with_reducible refine awpGd_fF ?_ ?_); (focus assumption))
    | ((with_reducible refine awpGd_fT ?_ ?_); (focus assumption))
    | ((with_reducible apply awpGd_nst); (focus (intro h; replace h := nrm h; simp -dsimp -implicitDefEqProofs (maxSteps := 1000000) (disch := first | exact dis | fail) only [h, go_sem]; rfl)))
    | ((with_reducible apply awpGd_nsf); (focus (intro h; replace h := nrm h; simp -dsimp -implicitDefEqProofs (maxSteps := 1000000) (disch := first | exact dis | fail) only [h, go_sem]; rfl)))
    | ((with_reducible apply gO_t); (focus (intro h; replace h := nrm h; simp -dsimp -implicitDefEqProofs (maxSteps := 1000000) (disch := first | exact dis | fail) only [h, go_sem]; rfl)))
    | ((with_reducible apply gO_f); (focus (intro h; replace h := nrm h; simp -dsimp -implicitDefEqProofs (maxSteps := 1000000) (disch := first | exact dis | fail) only [h, go_sem]; rfl)))
    | ((with_reducible refine chkA_f ?_ ?_ ?_); (focus simp); (focus (intro h; replace h := nrm h; simp -dsimp -implicitDefEqProofs (maxSteps := 1000000) (disch := first | exact dis | fail) only [h, go_sem])))
    | ((with_reducible refine chkA_t ?_ ?_ ?_); (focus simp); (focus (intro h; replace h := nrm h; simp -dsimp -implicitDefEqProofs (maxSteps := 1000000) (disch := first | exact dis | fail) only [h, go_sem])))
    | ((with_reducible refine awpIf_decT ?_ ?_); (focus omega))
    | ((with_reducible refine awpIf_decF ?_ ?_); (focus omega))
    | ((with_reducible first | refine awpIf_dec ?_ ?_ | refine awpIf_ndec ?_ ?_ | refine awpGd_tdec ?_ ?_ | refine awpGd_fdec ?_ ?_ | refine awpGd_tndec ?_ ?_ | refine awpGd_fndec ?_ ?_) <;> intro h <;> (try simp -dsimp only [h]))
    | ((with_reducible first | refine awpIf_cases ?_ ?_ | refine awpGd_cases ?_ ?_ | refine gO_cases ?_ ?_) <;> intro h <;> replace h := nrm h <;> (try simp -dsimp only [h, Bool.not_true, Bool.not_false]))
    | ((with_reducible apply And.intro); (focus omega))) <;> (try simp -dsimp -implicitDefEqProofs (maxSteps := 1000000) (disch := first | exact dis | fail) only [go_sem]))
  refine aw_loop l.length (fun i ρ A => ∃ n : Int, 0 ≤ n ∧ n ≤ 5000 * i ∧ i ≤ 401 ∧ ρ = [.ps 9 (l.map oav), .any, .any, .int .i64 n, .int .i64 i] ++ List.replicate 28 .any ∧ A = []) ⟨none, rfl, 0, by omega, by omega, by omega, by simp -dsimp -implicitDefEqProofs (maxSteps := 1000000) (disch := first | exact dis | fail) only [foldRn, go_sem], rfl⟩ ?_
  rintro i ρ A hi ⟨n, hn0, hn1, hi4, rfl, rfl⟩
  have hml : (l.map oav).length = l.length := by simp
  by_cases hlt : i < l.length
  · have hx : l[i]? = some l[i] := List.getElem?_eq_getElem hlt
    generalize l[i] = o at hx
    have hat := ps_at hx
    by_cases h4 : i ≤ 400
    · have hmin : 0 ≤ min (o.pk.fr.data.length : Int) 5000 ∧ min (o.pk.fr.data.length : Int) 5000 ≤ 5000 := by omega
      have c1 : (i : Int) < l.length := by omega
      have c2 : (i : Int) ≤ 400 := by omega
      simp -dsimp -implicitDefEqProofs (maxSteps := 1000000) (disch := first | exact dis | fail) only [ic_law13_few_b1, hml, hat, Int.toNat_natCast, c1, c2, go_sem]
      repeat' ((first
        | ((with_reducible refine awpIf_asT ?_ ?_); (focus assumption))
        | ((with_reducible refine awpIf_asF ?_ ?_); (focus assumption))
        | ((with_reducible refine awpGd_tT ?_ ?_); (focus assumption))
        | ((with_reducible refine awpGd_tF ?_ ?_); (focus assumption))
        | ((with_reducible refine awpGd_fF ?_ ?_); (focus assumption))
        | ((with_reducible refine awpGd_fT ?_ ?_); (focus assumption))
        | ((with_reducible apply awpGd_nst); (focus (intro h; replace h := nrm h; simp -dsimp -implicitDefEqProofs (maxSteps := 1000000) (disch := first | exact dis | fail) only [h, hml, hat, Int.toNat_natCast, c1, c2, go_sem]; rfl)))
        | ((with_reducible apply awpGd_nsf); (focus (intro h; replace h := nrm h; simp -dsimp -implicitDefEqProofs (maxSteps := 1000000) (disch := first | exact dis | fail) only [h, hml, hat, Int.toNat_natCast, c1, c2, go_sem]; rfl)))
        | ((with_reducible apply gO_t); (focus (intro h; replace h := nrm h; simp -dsimp -implicitDefEqProofs (maxSteps := 1000000) (disch := first | exact dis | fail) only [h, hml, hat, Int.toNat_natCast, c1, c2, go_sem]; rfl)))
        | ((with_reducible apply gO_f); (focus (intro h; replace h := nrm h; simp -dsimp -implicitDefEqProofs (maxSteps := 1000000) (disch := first | exact dis | fail) only [h, hml, hat, Int.toNat_natCast, c1, c2, go_sem]; rfl)))
        | ((with_reducible refine chkA_f ?_ ?_ ?_); (focus simp); (focus (intro h; replace h := nrm h; simp -dsimp -implicitDefEqProofs (maxSteps := 1000000) (disch := first | exact dis | fail) only [h, hml, hat, Int.toNat_natCast, c1, c2, go_sem])))
        | ((with_reducible refine chkA_t ?_ ?_ ?_); (focus simp); (focus (intro h; replace h := nrm h; simp -dsimp -implicitDefEqProofs (maxSteps := 1000000) (disch := first | exact dis | fail) only [h, hml, hat, Int.toNat_natCast, c1, c2, go_sem])))
        | ((with_reducible refine awpIf_decT ?_ ?_); (focus omega))
        | ((with_reducible refine awpIf_decF ?_ ?_); (focus omega))
        | ((with_reducible first | refine awpIf_dec ?_ ?_ | refine awpIf_ndec ?_ ?_ | refine awpGd_tdec ?_ ?_ | refine awpGd_fdec ?_ ?_ | refine awpGd_tndec ?_ ?_ | refine awpGd_fndec ?_ ?_) <;> intro h <;> (try simp -dsimp only [h]))
        | ((with_reducible first | refine awpIf_cases ?_ ?_ | refine awpGd_cases ?_ ?_ | refine gO_cases ?_ ?_) <;> intro h <;> replace h := nrm h <;> (try simp -dsimp only [h, Bool.not_true, Bool.not_false]))
        | ((with_reducible apply And.intro); (focus omega))) <;> (try simp -dsimp -implicitDefEqProofs (maxSteps := 1000000) (disch := first | exact dis | fail) only [hml, hat, Int.toNat_natCast, c1, c2, go_sem]))
      exact ⟨none, rfl, n + min (o.pk.fr.data.length : Int) 5000, by omega, by omega, by omega, by simp -dsimp -implicitDefEqProofs (maxSteps := 1000000) (disch := first | exact dis | fail) only [foldRn, Int.natCast_add, go_sem], rfl⟩
    · have c1 : (i : Int) < l.length := by omega
      have c2 : ¬ (i : Int) ≤ 400 := by omega
      simp -dsimp -implicitDefEqProofs (maxSteps := 1000000) (disch := first | exact dis | fail) only [ic_law13_few_b1, hml, Int.toNat_natCast, c1, c2, go_sem]
      repeat' ((first
        | ((with_reducible refine awpIf_asT ?_ ?_); (focus assumption))
        | ((with_reducible refine awpIf_asF ?_ ?_); (focus assumption))
        | ((with_reducible refine awpGd_tT ?_ ?_); (focus assumption))
        | ((with_reducible refine awpGd_tF ?_ ?_); (focus assumption))
        | ((with_reducible refine awpGd_fF ?_ ?_); (focus assumption))
        | ((with_reducible refine awpGd_fT ?_ ?_); (focus assumption))
        | ((with_reducible apply awpGd_nst); (focus (intro h; replace h := nrm h; simp -dsimp -implicitDefEqProofs (maxSteps := 1000000) (disch := first | exact dis | fail) only [h, hml, Int.toNat_natCast, c1, c2, go_sem]; rfl)))
        | ((with_reducible apply awpGd_nsf); (focus (intro h; replace h := nrm h; simp -dsimp -implicitDefEqProofs (maxSteps := 1000000) (disch := first | exact dis | fail) only [h, hml, Int.toNat_natCast, c1, c2, go_sem]; rfl)))
        | ((with_reducible apply gO_t); (focus (intro h; replace h := nrm h; simp -dsimp -implicitDefEqProofs (maxSteps := 1000000) (disch := first | exact dis | fail) only [h, hml, Int.toNat_natCast, c1, c2, go_sem]; rfl)))
        | ((with_reducible apply gO_f); (focus (intro h; replace h := nrm h; simp -dsimp -implicitDefEqProofs (maxSteps := 1000000) (disch := first | exact dis | fail) only [h, hml, Int.toNat_natCast, c1, c2, go_sem]; rfl)))
        | ((with_reducible refine chkA_f ?_ ?_ ?_); (focus simp); (focus (intro h; replace h := nrm h; simp -dsimp -implicitDefEqProofs (maxSteps := 1000000) (disch := first | exact dis | fail) only [h, hml, Int.toNat_natCast, c1, c2, go_sem])))
        | ((with_reducible refine chkA_t ?_ ?_ ?_); (focus simp); (focus (intro h; replace h := nrm h; simp -dsimp -implicitDefEqProofs (maxSteps := 1000000) (disch := first | exact dis | fail) only [h, hml, Int.toNat_natCast, c1, c2, go_sem])))
        | ((with_reducible refine awpIf_decT ?_ ?_); (focus omega))
        | ((with_reducible refine awpIf_decF ?_ ?_); (focus omega))
        | ((with_reducible first | refine awpIf_dec ?_ ?_ | refine awpIf_ndec ?_ ?_ | refine awpGd_tdec ?_ ?_ | refine awpGd_fdec ?_ ?_ | refine awpGd_tndec ?_ ?_ | refine awpGd_fndec ?_ ?_) <;> intro h <;> (try simp -dsimp only [h]))
        | ((with_reducible first | refine awpIf_cases ?_ ?_ | refine awpGd_cases ?_ ?_ | refine gO_cases ?_ ?_) <;> intro h <;> replace h := nrm h <;> (try simp -dsimp only [h, Bool.not_true, Bool.not_false]))
        | ((with_reducible apply And.intro); (focus omega))) <;> (try simp -dsimp -implicitDefEqProofs (maxSteps := 1000000) (disch := first | exact dis | fail) only [hml, Int.toNat_natCast, c1, c2, go_sem]))
      exact ⟨none, rfl, ⟨_, rfl, fun h => by simp at h; omega⟩, rfl⟩
  · have c1 : ¬ (i : Int) < l.length := by omega
    simp -dsimp -implicitDefEqProofs (maxSteps := 1000000) (disch := first | exact dis | fail) only [ic_law13_few_b1, hml, c1, go_sem]
    repeat' ((first
      | ((with_reducible refine awpIf_asT ?_ ?_); (focus assumption))
      | ((with_reducible refine awpIf_asF ?_ ?_); (focus assumption))
      | ((with_reducible refine awpGd_tT ?_ ?_); (focus assumption))
      | ((with_reducible refine awpGd_tF ?_ ?_); (focus assumption))
      | ((with_reducible refine awpGd_fF ?_ ?_); (focus assumption))
      | ((with_reducible refine awpGd_fT ?_ ?_); (focus assumption))
      | ((with_reducible apply awpGd_nst); (focus (intro h; replace h := nrm h; simp -dsimp -implicitDefEqProofs (maxSteps := 1000000) (disch := first | exact dis | fail) only [h, hml, c1, go_sem]; rfl)))
      | ((with_reducible apply awpGd_nsf); (focus (intro h; replace h := nrm h; simp -dsimp -implicitDefEqProofs (maxSteps := 1000000) (disch := first | exact dis | fail) only [h, hml, c1, go_sem]; rfl)))
      | ((with_reducible apply gO_t); (focus (intro h; replace h := nrm h; simp -dsimp -implicitDefEqProofs (maxSteps := 1000000) (disch := first | exact dis | fail) only [h, hml, c1, go_sem]; rfl)))
      | ((with_reducible apply gO_f); (focus (intro h; replace h := nrm h; simp -dsimp -implicitDefEqProofs (maxSteps := 1000000) (disch := first | exact dis | fail) only [h, hml, c1, go_sem]; rfl)))
      | ((with_reducible refine chkA_f ?_ ?_ ?_); (focus simp); (focus (intro h; replace h := nrm h; simp -dsimp -implicitDefEqProofs (maxSteps := 1000000) (disch := first | exact dis | fail) only [h, hml, c1, go_sem])))
      | ((with_reducible refine chkA_t ?_ ?_ ?_); (focus simp); (focus (intro h; replace h := nrm h; simp -dsimp -implicitDefEqProofs (maxSteps := 1000000) (disch := first | exact dis | fail) only [h, hml, c1, go_sem])))
      | ((with_reducible refine awpIf_decT ?_ ?_); (focus omega))
      | ((with_reducible refine awpIf_decF ?_ ?_); (focus omega))
      | ((with_reducible first | refine awpIf_dec ?_ ?_ | refine awpIf_ndec ?_ ?_ | refine awpGd_tdec ?_ ?_ | refine awpGd_fdec ?_ ?_ | refine awpGd_tndec ?_ ?_ | refine awpGd_fndec ?_ ?_) <;> intro h <;> (try simp -dsimp only [h]))
      | ((with_reducible first | refine awpIf_cases ?_ ?_ | refine awpGd_cases ?_ ?_ | refine gO_cases ?_ ?_) <;> intro h <;> replace h := nrm h <;> (try simp -dsimp only [h, Bool.not_true, Bool.not_false]))
      | ((with_reducible apply And.intro); (focus omega))) <;> (try simp -dsimp -implicitDefEqProofs (maxSteps := 1000000) (disch := first | exact dis | fail) only [hml, c1, go_sem]))
    exact ⟨none, rfl, ⟨_, rfl, fun h => by simp at h; omega⟩, rfl⟩
theorem nodup_map {h : Nat → Nat} (hi : ∀ a b, h a = h b → a = b) : ∀ {ks : List Nat}, ks.Nodup → (ks.map h).Nodup
  | [], _ => List.nodup_nil
  | k :: ks, hk => by
    obtain ⟨h1, h2⟩ := List.nodup_cons.1 hk
    rw [List.map_cons]
    refine List.nodup_cons.2 ⟨fun hm => ?_, nodup_map hi h2⟩
    obtain ⟨x, hx, he⟩ := List.mem_map.1 hm
    exact h1 (hi _ _ he ▸ hx)
theorem ps_flatLL : ∀ (l : List OpD), AV.flatLL (l.map oav) = true
  | [] => rfl
  | o :: l => by
    rw [List.map_cons]
    show (AV.flatL (oav o) && AV.flatLL (l.map oav)) = true
    rw [ps_flatLL l, Bool.and_true]; rfl
theorem ps_ren {g : Nat → Option Nat} {l : List OpD} : AV.ren g (.ps 9 (l.map oav)) = .ps 9 (l.map oav) := AV.ren_flat g (v := .ps 9 (l.map oav)) (ps_flatLL l)
theorem alive_ok : PCall Try.prog f_law13_alive [] (.bool true) := pcall_ev (by kernel_rfl)
/-- The calls, one behind the other. -/
theorem Plays_l (l : List OpD) (hl : l.length ≤ 400) (m : Int) (Q : IExit → List AV → AHeap → Prop)
    (hQ : ∀ n cs os es puts v e ov oe ev ee, Both n cs os es puts v e ov oe ev ee → n ≤ 400 → Q (.exit 0) ([.any, .any, .any, .any, .any, .ptr 0 0, .ptr 3 0, .any, .any, .any, .any, .any, .any, .any, .any, .any, .any, .ps 9 (l.map oav), .int .i64 l.length, .int .i64 l.length] ++ List.replicate 26 .any) (LH cs v e puts ov oe ev ee)) :
    AW Try.prog 0 ic_law13_BoxPlays_l1 ([.any, .any, .any, .any, .any, .ptr 0 0, .ptr 2 0, .any, .any, .any, .any, .any, .any, .any, .any, .any, .any, .ps 9 (l.map oav), .int .i64 l.length, .int .i64 0] ++ List.replicate 26 .any)
      [some (.cells [.sl 1 9 0 (manyN m) true, .nils, .int .i64 0]), some (.arr (rows cav (List.replicate (manyN m) cl0))), some (.cells [.sl 3 1 0 (manyN m) true, .sl 4 7 0 (manyN m) true, .nils, .nils]), some (.arr (rows si (List.replicate (manyN m) cl0))), some (.arr (rows sp (List.replicate (manyN m) cl0)))] Q := by
  have hml : (l.map oav).length = l.length := by simp
  refine aw_loop l.length (fun i ρ A => ∃ cs os es puts v e ov oe ev ee, Both i cs os es puts v e ov oe ev ee ∧ ρ = [.any, .any, .any, .any, .any, .ptr 0 0, .ptr 3 0, .any, .any, .any, .any, .any, .any, .any, .any, .any, .any, .ps 9 (l.map oav), .int .i64 l.length, .int .i64 i] ++ List.replicate 26 .any ∧ A = LH cs v e puts ov oe ev ee)
    ⟨some [0, 1, 5, 2, 3, 4, 6, 7], rfl, List.replicate (manyN m) cl0, [], [], 0, .nils, none, .nils, none, .nils, none, ⟨inv_new m, .inl ⟨rfl, rfl, rfl⟩, .inl ⟨rfl, rfl, rfl⟩, .inl ⟨rfl, rfl, rfl⟩, by simp, by simp, by simp⟩, ?_, ?_⟩ ?_
  · skip
    simp -dsimp -implicitDefEqProofs (maxSteps := 1000000) (disch := first | exact dis | fail) only [foldR_eq, ps_ren, go_sem]
  · skip
    simp -dsimp -implicitDefEqProofs (maxSteps := 1000000) (disch := first | exact dis | fail) only [foldA_eq, LH, cav_ren, si_ren, sp_ren, List.length_replicate, List.getElem?_nil, Option.join_none, go_sem]
  rintro i ρ A hi ⟨cs, os, es, puts, v, e, ov, oe, ev, ee, B, rfl, rfl⟩
  by_cases hlt : i < l.length
  · have hx : l[i]? = some l[i] := List.getElem?_eq_getElem hlt
    generalize l[i] = o at hx
    have hat := ps_at hx
    have c1 : (i : Int) < l.length := by omega
    simp -dsimp -implicitDefEqProofs (maxSteps := 1000000) (disch := first | exact dis | fail) only [ic_law13_BoxPlays_b1, LH, hml, hat, Int.toNat_natCast, c1, go_sem]
    repeat' ((first
      | ((with_reducible refine awpIf_asT ?_ ?_); (focus assumption))
      | ((with_reducible refine awpIf_asF ?_ ?_); (focus assumption))
      | ((with_reducible refine awpGd_tT ?_ ?_); (focus assumption))
      | ((with_reducible refine awpGd_tF ?_ ?_); (focus assumption))
      | ((with_reducible refine awpGd_fF ?_ ?_); (focus assumption))
      | ((with_reducible refine awpGd_fT ?_ ?_); (focus assumption))
      | ((with_reducible apply awpGd_nst); (focus (intro h; replace h := nrm h; simp -dsimp -implicitDefEqProofs (maxSteps := 1000000) (disch := first | exact dis | fail) only [h, LH, hml, hat, Int.toNat_natCast, c1, go_sem]; rfl)))
      | ((with_reducible apply awpGd_nsf); (focus (intro h; replace h := nrm h; simp -dsimp -implicitDefEqProofs (maxSteps := 1000000) (disch := first | exact dis | fail) only [h, LH, hml, hat, Int.toNat_natCast, c1, go_sem]; rfl)))
      | ((with_reducible apply gO_t); (focus (intro h; replace h := nrm h; simp -dsimp -implicitDefEqProofs (maxSteps := 1000000) (disch := first | exact dis | fail) only [h, LH, hml, hat, Int.toNat_natCast, c1, go_sem]; rfl)))
      | ((with_reducible apply gO_f); (focus (intro h; replace h := nrm h; simp -dsimp -implicitDefEqProofs (maxSteps := 1000000) (disch := first | exact dis | fail) only [h, LH, hml, hat, Int.toNat_natCast, c1, go_sem]; rfl)))
      | ((with_reducible refine chkA_f ?_ ?_ ?_); (focus simp); (focus (intro h; replace h := nrm h; simp -dsimp -implicitDefEqProofs (maxSteps := 1000000) (disch := first | exact dis | fail) only [h, LH, hml, hat, Int.toNat_natCast, c1, go_sem])))
      | ((with_reducible refine chkA_t ?_ ?_ ?_); (focus simp); (focus (intro h; replace h := nrm h; simp -dsimp -implicitDefEqProofs (maxSteps := 1000000) (disch := first | exact dis | fail) only [h, LH, hml, hat, Int.toNat_natCast, c1, go_sem])))
      | ((with_reducible refine awpIf_decT ?_ ?_); (focus omega))
      | ((with_reducible refine awpIf_decF ?_ ?_); (focus omega))
      | ((with_reducible first | refine awpIf_dec ?_ ?_ | refine awpIf_ndec ?_ ?_ | refine awpGd_tdec ?_ ?_ | refine awpGd_fdec ?_ ?_ | refine awpGd_tndec ?_ ?_ | refine awpGd_fndec ?_ ?_) <;> intro h <;> (try simp -dsimp only [h]))
      | ((with_reducible first | refine awpIf_cases ?_ ?_ | refine awpGd_cases ?_ ?_ | refine gO_cases ?_ ?_) <;> intro h <;> replace h := nrm h <;> (try simp -dsimp only [h, Bool.not_true, Bool.not_false]))
      | ((with_reducible apply And.intro); (focus omega))) <;> (try simp -dsimp -implicitDefEqProofs (maxSteps := 1000000) (disch := first | exact dis | fail) only [LH, hml, hat, Int.toNat_natCast, c1, go_sem]))
    have hv := fun L => (B.a.ren (g := rn (place [0, 1, 2, 3, 4, 5, 6, 7] L)) rfl).1
    have he := fun L => (B.a.ren (g := rn (place [0, 1, 2, 3, 4, 5, 6, 7] L)) rfl).2
    have hov := fun L => (B.b.ren (g := rn (place [0, 1, 2, 3, 4, 5, 6, 7] L)) rfl).1
    have hoe := fun L => (B.b.ren (g := rn (place [0, 1, 2, 3, 4, 5, 6, 7] L)) rfl).2
    have hev := fun L => (B.c.ren (g := rn (place [0, 1, 2, 3, 4, 5, 6, 7] L)) rfl).1
    have hee := fun L => (B.c.ren (g := rn (place [0, 1, 2, 3, 4, 5, 6, 7] L)) rfl).2
    refine (do_ok o (by omega) B).at' [0, 1, 2, 3, 4, 5, 6, 7] (by decide) rfl (by simp -dsimp -implicitDefEqProofs (maxSteps := 1000000) (disch := first | exact dis | fail) only [standsL, LH, hv, he, hov, hoe, hev, hee, cav_ren, si_ren, sp_ren, go_sem]) rfl ?_
    rintro r A' ⟨rfl, cs', os', es', puts', v', e', ov', oe', ev', ee', B', ks, hks, ⟨k0, k3⟩, h8, hA⟩
    have hff := fold_frame (js := [0, 1, 2, 3, 4, 5, 6, 7]) (ks := ks) (A := A') (B := LH cs v e puts ov oe ev ee ++ [some (.cells o.av)]) (by decide) (by simp [LH]) h8
    have hinj : ∀ a b, place [0, 1, 2, 3, 4, 5, 6, 7] 9 a = place [0, 1, 2, 3, 4, 5, 6, 7] 9 b → a = b := fun a b h => place_inj (top := 9) (js := [0, 1, 2, 3, 4, 5, 6, 7]) (by decide) (by decide) h
    have hk' : (ks.map (place [0, 1, 2, 3, 4, 5, 6, 7] 9)).Nodup := nodup_map hinj (okKeep_iff.1 hks)
    have hq0 : (ks.map (place [0, 1, 2, 3, 4, 5, 6, 7] 9)).idxOf? 0 = some 0 := (idxOf_map hinj 0 ks).trans k0
    have hq3 : (ks.map (place [0, 1, 2, 3, 4, 5, 6, 7] 9)).idxOf? 3 = some 3 := (idxOf_map hinj 3 ks).trans k3
    simp -dsimp -implicitDefEqProofs (maxSteps := 1000000) (disch := first | exact dis | fail) only [go_sem]
    repeat' ((first
      | ((with_reducible refine awpIf_asT ?_ ?_); (focus assumption))
      | ((with_reducible refine awpIf_asF ?_ ?_); (focus assumption))
      | ((with_reducible refine awpGd_tT ?_ ?_); (focus assumption))
      | ((with_reducible refine awpGd_tF ?_ ?_); (focus assumption))
      | ((with_reducible refine awpGd_fF ?_ ?_); (focus assumption))
      | ((with_reducible refine awpGd_fT ?_ ?_); (focus assumption))
      | ((with_reducible apply awpGd_nst); (focus (intro h; replace h := nrm h; simp -dsimp -implicitDefEqProofs (maxSteps := 1000000) (disch := first | exact dis | fail) only [h, go_sem]; rfl)))
      | ((with_reducible apply awpGd_nsf); (focus (intro h; replace h := nrm h; simp -dsimp -implicitDefEqProofs (maxSteps := 1000000) (disch := first | exact dis | fail) only [h, go_sem]; rfl)))
      | ((with_reducible apply gO_t); (focus (intro h; replace h := nrm h; simp -dsimp -implicitDefEqProofs (maxSteps := 1000000) (disch := first | exact dis | fail) only [h, go_sem]; rfl)))
      | ((with_reducible apply gO_f); (focus (intro h; replace h := nrm h; simp -dsimp -implicitDefEqProofs (maxSteps := 1000000) (disch := first | exact dis | fail) only [h, go_sem]; rfl)))
      | ((with_reducible refine chkA_f ?_ ?_ ?_); (focus simp); (focus (intro h; replace h := nrm h; simp -dsimp -implicitDefEqProofs (maxSteps := 1000000) (disch := first | exact dis | fail) only [h, go_sem])))
      | ((with_reducible refine chkA_t ?_ ?_ ?_); (focus simp); (focus (intro h; replace h := nrm h; simp -dsimp -implicitDefEqProofs (maxSteps := 1000000) (disch := first | exact dis | fail) only [h, go_sem])))
      | ((with_reducible refine awpIf_decT ?_ ?_); (focus omega))
      | ((with_reducible refine awpIf_decF ?_ ?_); (focus omega))
      | ((with_reducible first | refine awpIf_dec ?_ ?_ | refine awpIf_ndec ?_ ?_ | refine awpGd_tdec ?_ ?_ | refine awpGd_fdec ?_ ?_ | refine awpGd_tndec ?_ ?_ | refine awpGd_fndec ?_ ?_) <;> intro h <;> (try simp -dsimp only [h]))
      | ((with_reducible first | refine awpIf_cases ?_ ?_ | refine awpGd_cases ?_ ?_ | refine gO_cases ?_ ?_) <;> intro h <;> replace h := nrm h <;> (try simp -dsimp only [h, Bool.not_true, Bool.not_false]))
      | ((with_reducible apply And.intro); (focus omega))) <;> (try simp -dsimp -implicitDefEqProofs (maxSteps := 1000000) (disch := first | exact dis | fail) only [go_sem]))
    exact ⟨some (ks.map (place [0, 1, 2, 3, 4, 5, 6, 7] 9)), okKeep_iff.2 hk', cs', os', es', puts', v', e', ov', oe', ev', ee', B', by simp -dsimp -implicitDefEqProofs (maxSteps := 1000000) (disch := first | exact dis | fail) only [foldR_eq, hq0, hq3, ps_ren, Int.natCast_add, go_sem], hff.trans hA⟩
  · obtain rfl : i = l.length := by omega
    simp -dsimp -implicitDefEqProofs (maxSteps := 1000000) (disch := first | exact dis | fail) only [ic_law13_BoxPlays_b1, LH, go_sem]
    repeat' ((first
      | ((with_reducible refine awpIf_asT ?_ ?_); (focus assumption))
      | ((with_reducible refine awpIf_asF ?_ ?_); (focus assumption))
      | ((with_reducible refine awpGd_tT ?_ ?_); (focus assumption))
      | ((with_reducible refine awpGd_tF ?_ ?_); (focus assumption))
      | ((with_reducible refine awpGd_fF ?_ ?_); (focus assumption))
      | ((with_reducible refine awpGd_fT ?_ ?_); (focus assumption))
      | ((with_reducible apply awpGd_nst); (focus (intro h; replace h := nrm h; simp -dsimp -implicitDefEqProofs (maxSteps := 1000000) (disch := first | exact dis | fail) only [h, LH, go_sem]; rfl)))
      | ((with_reducible apply awpGd_nsf); (focus (intro h; replace h := nrm h; simp -dsimp -implicitDefEqProofs (maxSteps := 1000000) (disch := first | exact dis | fail) only [h, LH, go_sem]; rfl)))
      | ((with_reducible apply gO_t); (focus (intro h; replace h := nrm h; simp -dsimp -implicitDefEqProofs (maxSteps := 1000000) (disch := first | exact dis | fail) only [h, LH, go_sem]; rfl)))
      | ((with_reducible apply gO_f); (focus (intro h; replace h := nrm h; simp -dsimp -implicitDefEqProofs (maxSteps := 1000000) (disch := first | exact dis | fail) only [h, LH, go_sem]; rfl)))
      | ((with_reducible refine chkA_f ?_ ?_ ?_); (focus simp); (focus (intro h; replace h := nrm h; simp -dsimp -implicitDefEqProofs (maxSteps := 1000000) (disch := first | exact dis | fail) only [h, LH, go_sem])))
      | ((with_reducible refine chkA_t ?_ ?_ ?_); (focus simp); (focus (intro h; replace h := nrm h; simp -dsimp -implicitDefEqProofs (maxSteps := 1000000) (disch := first | exact dis | fail) only [h, LH, go_sem])))
      | ((with_reducible refine awpIf_decT ?_ ?_); (focus omega))
      | ((with_reducible refine awpIf_decF ?_ ?_); (focus omega))
      | ((with_reducible first | refine awpIf_dec ?_ ?_ | refine awpIf_ndec ?_ ?_ | refine awpGd_tdec ?_ ?_ | refine awpGd_fdec ?_ ?_ | refine awpGd_tndec ?_ ?_ | refine awpGd_fndec ?_ ?_) <;> intro h <;> (try simp -dsimp only [h]))
      | ((with_reducible first | refine awpIf_cases ?_ ?_ | refine awpGd_cases ?_ ?_ | refine gO_cases ?_ ?_) <;> intro h <;> replace h := nrm h <;> (try simp -dsimp only [h, Bool.not_true, Bool.not_false]))
      | ((with_reducible apply And.intro); (focus omega))) <;> (try simp -dsimp -implicitDefEqProofs (maxSteps := 1000000) (disch := first | exact dis | fail) only [LH, go_sem]))
    exact hQ _ _ _ _ _ _ _ _ _ _ _ B hl
theorem Plays_call (m : Int) (l : List OpD) : ACall Try.prog f_law13_BoxPlays [.int .i64 m, .ps 9 (l.map oav)] [] fun r _ => r = .bool true := by
  refine acallW fol ok_law13_BoxPlays ?_
  simp -dsimp -implicitDefEqProofs (maxSteps := 1000000) (disch := first | exact dis | fail) only [ic_law13_BoxPlays, go_sem]
  repeat' ((first
    | ((with_reducible refine awpIf_asT ?_ ?_); (focus assumption))
    | ((with_reducible refine awpIf_asF ?_ ?_); (focus assumption))
    | ((with_reducible refine awpGd_tT ?_ ?_); (focus assumption))
    | ((with_reducible refine awpGd_tF ?_ ?_); (focus assumption))
    | ((with_reducible refine awpGd_fF ?_ ?_); (focus assumption))
    | ((with_reducible refine awpGd_fT ?_ ?_); (focus assumption))
    | ((with_reducible apply awpGd_nst); (focus (intro h; replace h := nrm h; simp -dsimp -implicitDefEqProofs (maxSteps := 1000000) (disch := first | exact dis | fail) only [h, go_sem]; rfl)))
    | ((with_reducible apply awpGd_nsf); (focus (intro h; replace h := nrm h; simp -dsimp -implicitDefEqProofs (maxSteps := 1000000) (disch := first | exact dis | fail) only [h, go_sem]; rfl)))
    | ((with_reducible apply gO_t); (focus (intro h; replace h := nrm h; simp -dsimp -implicitDefEqProofs (maxSteps := 1000000) (disch := first | exact dis | fail) only [h, go_sem]; rfl)))
    | ((with_reducible apply gO_f); (focus (intro h; replace h := nrm h; simp -dsimp -implicitDefEqProofs (maxSteps := 1000000) (disch := first | exact dis | fail) only [h, go_sem]; rfl)))
    | ((with_reducible refine chkA_f ?_ ?_ ?_); (focus simp); (focus (intro h; replace h := nrm h; simp -dsimp -implicitDefEqProofs (maxSteps := 1000000) (disch := first | exact dis | fail) only [h, go_sem])))
    | ((with_reducible refine chkA_t ?_ ?_ ?_); (focus simp); (focus (intro h; replace h := nrm h; simp -dsimp -implicitDefEqProofs (maxSteps := 1000000) (disch := first | exact dis | fail) only [h, go_sem])))
    | ((with_reducible refine awpIf_decT ?_ ?_); (focus omega))
    | ((with_reducible refine awpIf_decF ?_ ?_); (focus omega))
    | ((with_reducible first | refine awpIf_dec ?_ ?_ | refine awpIf_ndec ?_ ?_ | refine awpGd_tdec ?_ ?_ | refine awpGd_fdec ?_ ?_ | refine awpGd_tndec ?_ ?_ | refine awpGd_fndec ?_ ?_) <;> intro h <;> (try simp -dsimp only [h]))
    | ((with_reducible first | refine awpIf_cases ?_ ?_ | refine awpGd_cases ?_ ?_ | refine gO_cases ?_ ?_) <;> intro h <;> replace h := nrm h <;> (try simp -dsimp only [h, Bool.not_true, Bool.not_false]))
    | ((with_reducible apply And.intro); (focus omega))) <;> (try simp -dsimp -implicitDefEqProofs (maxSteps := 1000000) (disch := first | exact dis | fail) only [go_sem]))
  refine (few_ok l).mono ?_
  rintro r A ⟨⟨b, rfl, hb⟩, rfl⟩
  cases b with
  | false =>
    simp -dsimp -implicitDefEqProofs (maxSteps := 1000000) (disch := first | exact dis | fail) only [rtup_1, go_sem]
    repeat' ((first
      | ((with_reducible refine PCall.ac alive_ok ?_ ?_ ?_); rfl; rfl)
      | ((with_reducible refine awpIf_asT ?_ ?_); (focus assumption))
      | ((with_reducible refine awpIf_asF ?_ ?_); (focus assumption))
      | ((with_reducible refine awpGd_tT ?_ ?_); (focus assumption))
      | ((with_reducible refine awpGd_tF ?_ ?_); (focus assumption))
      | ((with_reducible refine awpGd_fF ?_ ?_); (focus assumption))
      | ((with_reducible refine awpGd_fT ?_ ?_); (focus assumption))
      | ((with_reducible apply awpGd_nst); (focus (intro h; replace h := nrm h; simp -dsimp -implicitDefEqProofs (maxSteps := 1000000) (disch := first | exact dis | fail) only [h, rtup_1, go_sem]; rfl)))
      | ((with_reducible apply awpGd_nsf); (focus (intro h; replace h := nrm h; simp -dsimp -implicitDefEqProofs (maxSteps := 1000000) (disch := first | exact dis | fail) only [h, rtup_1, go_sem]; rfl)))
      | ((with_reducible apply gO_t); (focus (intro h; replace h := nrm h; simp -dsimp -implicitDefEqProofs (maxSteps := 1000000) (disch := first | exact dis | fail) only [h, rtup_1, go_sem]; rfl)))
      | ((with_reducible apply gO_f); (focus (intro h; replace h := nrm h; simp -dsimp -implicitDefEqProofs (maxSteps := 1000000) (disch := first | exact dis | fail) only [h, rtup_1, go_sem]; rfl)))
      | ((with_reducible refine awpGd_pct alive_ok ?_ ?_ ?_ ?_); (focus (intro h; replace h := nrm h; simp -dsimp only [h, rtup_1, go_sem]; first | done | exact ⟨rfl, rfl⟩ | exact rfl)); (focus rfl); (focus rfl))
      | ((with_reducible refine awpGd_pcf alive_ok ?_ ?_ ?_ ?_); (focus (intro h; replace h := nrm h; simp -dsimp only [h, rtup_1, go_sem]; first | done | exact ⟨rfl, rfl⟩ | exact rfl)); (focus rfl); (focus rfl))
      | ((with_reducible refine chkA_f ?_ ?_ ?_); (focus simp); (focus (intro h; replace h := nrm h; simp -dsimp -implicitDefEqProofs (maxSteps := 1000000) (disch := first | exact dis | fail) only [h, rtup_1, go_sem])))
      | ((with_reducible refine chkA_t ?_ ?_ ?_); (focus simp); (focus (intro h; replace h := nrm h; simp -dsimp -implicitDefEqProofs (maxSteps := 1000000) (disch := first | exact dis | fail) only [h, rtup_1, go_sem])))
      | ((with_reducible refine awpIf_decT ?_ ?_); (focus omega))
      | ((with_reducible refine awpIf_decF ?_ ?_); (focus omega))
      | ((with_reducible first | refine awpIf_dec ?_ ?_ | refine awpIf_ndec ?_ ?_ | refine awpGd_tdec ?_ ?_ | refine awpGd_fdec ?_ ?_ | refine awpGd_tndec ?_ ?_ | refine awpGd_fndec ?_ ?_) <;> intro h <;> (try simp -dsimp only [h]))
      | ((with_reducible first | refine awpIf_cases ?_ ?_ | refine awpGd_cases ?_ ?_ | refine gO_cases ?_ ?_) <;> intro h <;> replace h := nrm h <;> (try simp -dsimp only [h, Bool.not_true, Bool.not_false]))
      | ((with_reducible apply And.intro); (focus omega))) <;> (try simp -dsimp -implicitDefEqProofs (maxSteps := 1000000) (disch := first | exact dis | fail) only [rtup_1, go_sem]))
    exact ⟨none, rfl, rfl⟩
  | true =>
    have hl := hb rfl
    simp -dsimp -implicitDefEqProofs (maxSteps := 1000000) (disch := first | exact dis | fail) only [go_sem]
    repeat' ((first
      | ((with_reducible refine awpIf_asT ?_ ?_); (focus assumption))
      | ((with_reducible refine awpIf_asF ?_ ?_); (focus assumption))
      | ((with_reducible refine awpGd_tT ?_ ?_); (focus assumption))
      | ((with_reducible refine awpGd_tF ?_ ?_); (focus assumption))
      | ((with_reducible refine awpGd_fF ?_ ?_); (focus assumption))
      | ((with_reducible refine awpGd_fT ?_ ?_); (focus assumption))
      | ((with_reducible apply awpGd_nst); (focus (intro h; replace h := nrm h; simp -dsimp -implicitDefEqProofs (maxSteps := 1000000) (disch := first | exact dis | fail) only [h, go_sem]; rfl)))
      | ((with_reducible apply awpGd_nsf); (focus (intro h; replace h := nrm h; simp -dsimp -implicitDefEqProofs (maxSteps := 1000000) (disch := first | exact dis | fail) only [h, go_sem]; rfl)))
      | ((with_reducible apply gO_t); (focus (intro h; replace h := nrm h; simp -dsimp -implicitDefEqProofs (maxSteps := 1000000) (disch := first | exact dis | fail) only [h, go_sem]; rfl)))
      | ((with_reducible apply gO_f); (focus (intro h; replace h := nrm h; simp -dsimp -implicitDefEqProofs (maxSteps := 1000000) (disch := first | exact dis | fail) only [h, go_sem]; rfl)))
      | ((with_reducible refine chkA_f ?_ ?_ ?_); (focus simp); (focus (intro h; replace h := nrm h; simp -dsimp -implicitDefEqProofs (maxSteps := 1000000) (disch := first | exact dis | fail) only [h, go_sem])))
      | ((with_reducible refine chkA_t ?_ ?_ ?_); (focus simp); (focus (intro h; replace h := nrm h; simp -dsimp -implicitDefEqProofs (maxSteps := 1000000) (disch := first | exact dis | fail) only [h, go_sem])))
      | ((with_reducible refine awpIf_decT ?_ ?_); (focus omega))
      | ((with_reducible refine awpIf_decF ?_ ?_); (focus omega))
      | ((with_reducible first | refine awpIf_dec ?_ ?_ | refine awpIf_ndec ?_ ?_ | refine awpGd_tdec ?_ ?_ | refine awpGd_fdec ?_ ?_ | refine awpGd_tndec ?_ ?_ | refine awpGd_fndec ?_ ?_) <;> intro h <;> (try simp -dsimp only [h]))
      | ((with_reducible first | refine awpIf_cases ?_ ?_ | refine awpGd_cases ?_ ?_ | refine gO_cases ?_ ?_) <;> intro h <;> replace h := nrm h <;> (try simp -dsimp only [h, Bool.not_true, Bool.not_false]))
      | ((with_reducible apply And.intro); (focus omega))) <;> (try simp -dsimp -implicitDefEqProofs (maxSteps := 1000000) (disch := first | exact dis | fail) only [go_sem]))
    refine (New_ok m).mono ?_
    rintro r A ⟨rfl, rfl⟩
    simp -dsimp -implicitDefEqProofs (maxSteps := 1000000) (disch := first | exact dis | fail) only [go_sem]
    repeat' ((first
      | ((with_reducible refine awpIf_asT ?_ ?_); (focus assumption))
      | ((with_reducible refine awpIf_asF ?_ ?_); (focus assumption))
      | ((with_reducible refine awpGd_tT ?_ ?_); (focus assumption))
      | ((with_reducible refine awpGd_tF ?_ ?_); (focus assumption))
      | ((with_reducible refine awpGd_fF ?_ ?_); (focus assumption))
      | ((with_reducible refine awpGd_fT ?_ ?_); (focus assumption))
      | ((with_reducible apply awpGd_nst); (focus (intro h; replace h := nrm h; simp -dsimp -implicitDefEqProofs (maxSteps := 1000000) (disch := first | exact dis | fail) only [h, go_sem]; rfl)))
      | ((with_reducible apply awpGd_nsf); (focus (intro h; replace h := nrm h; simp -dsimp -implicitDefEqProofs (maxSteps := 1000000) (disch := first | exact dis | fail) only [h, go_sem]; rfl)))
      | ((with_reducible apply gO_t); (focus (intro h; replace h := nrm h; simp -dsimp -implicitDefEqProofs (maxSteps := 1000000) (disch := first | exact dis | fail) only [h, go_sem]; rfl)))
      | ((with_reducible apply gO_f); (focus (intro h; replace h := nrm h; simp -dsimp -implicitDefEqProofs (maxSteps := 1000000) (disch := first | exact dis | fail) only [h, go_sem]; rfl)))
      | ((with_reducible refine chkA_f ?_ ?_ ?_); (focus simp); (focus (intro h; replace h := nrm h; simp -dsimp -implicitDefEqProofs (maxSteps := 1000000) (disch := first | exact dis | fail) only [h, go_sem])))
      | ((with_reducible refine chkA_t ?_ ?_ ?_); (focus simp); (focus (intro h; replace h := nrm h; simp -dsimp -implicitDefEqProofs (maxSteps := 1000000) (disch := first | exact dis | fail) only [h, go_sem])))
      | ((with_reducible refine awpIf_decT ?_ ?_); (focus omega))
      | ((with_reducible refine awpIf_decF ?_ ?_); (focus omega))
      | ((with_reducible first | refine awpIf_dec ?_ ?_ | refine awpIf_ndec ?_ ?_ | refine awpGd_tdec ?_ ?_ | refine awpGd_fdec ?_ ?_ | refine awpGd_tndec ?_ ?_ | refine awpGd_fndec ?_ ?_) <;> intro h <;> (try simp -dsimp only [h]))
      | ((with_reducible first | refine awpIf_cases ?_ ?_ | refine awpGd_cases ?_ ?_ | refine gO_cases ?_ ?_) <;> intro h <;> replace h := nrm h <;> (try simp -dsimp only [h, Bool.not_true, Bool.not_false]))
      | ((with_reducible apply And.intro); (focus omega))) <;> (try simp -dsimp -implicitDefEqProofs (maxSteps := 1000000) (disch := first | exact dis | fail) only [go_sem]))
    refine (RNew_ok m).at' [] (by decide) rfl trivial rfl ?_
    rintro r A ⟨rfl, rfl⟩
    have hml : (l.map oav).length = l.length := by simp
    simp -dsimp -implicitDefEqProofs (maxSteps := 1000000) (disch := first | exact dis | fail) only [hml, cav_ren, si_ren, sp_ren, go_sem]
    repeat' ((first
      | ((with_reducible refine awpIf_asT ?_ ?_); (focus assumption))
      | ((with_reducible refine awpIf_asF ?_ ?_); (focus assumption))
      | ((with_reducible refine awpGd_tT ?_ ?_); (focus assumption))
      | ((with_reducible refine awpGd_tF ?_ ?_); (focus assumption))
      | ((with_reducible refine awpGd_fF ?_ ?_); (focus assumption))
      | ((with_reducible refine awpGd_fT ?_ ?_); (focus assumption))
      | ((with_reducible apply awpGd_nst); (focus (intro h; replace h := nrm h; simp -dsimp -implicitDefEqProofs (maxSteps := 1000000) (disch := first | exact dis | fail) only [h, hml, cav_ren, si_ren, sp_ren, go_sem]; rfl)))
      | ((with_reducible apply awpGd_nsf); (focus (intro h; replace h := nrm h; simp -dsimp -implicitDefEqProofs (maxSteps := 1000000) (disch := first | exact dis | fail) only [h, hml, cav_ren, si_ren, sp_ren, go_sem]; rfl)))
      | ((with_reducible apply gO_t); (focus (intro h; replace h := nrm h; simp -dsimp -implicitDefEqProofs (maxSteps := 1000000) (disch := first | exact dis | fail) only [h, hml, cav_ren, si_ren, sp_ren, go_sem]; rfl)))
      | ((with_reducible apply gO_f); (focus (intro h; replace h := nrm h; simp -dsimp -implicitDefEqProofs (maxSteps := 1000000) (disch := first | exact dis | fail) only [h, hml, cav_ren, si_ren, sp_ren, go_sem]; rfl)))
      | ((with_reducible refine chkA_f ?_ ?_ ?_); (focus simp); (focus (intro h; replace h := nrm h; simp -dsimp -implicitDefEqProofs (maxSteps := 1000000) (disch := first | exact dis | fail) only [h, hml, cav_ren, si_ren, sp_ren, go_sem])))
      | ((with_reducible refine chkA_t ?_ ?_ ?_); (focus simp); (focus (intro h; replace h := nrm h; simp -dsimp -implicitDefEqProofs (maxSteps := 1000000) (disch := first | exact dis | fail) only [h, hml, cav_ren, si_ren, sp_ren, go_sem])))
      | ((with_reducible refine awpIf_decT ?_ ?_); (focus omega))
      | ((with_reducible refine awpIf_decF ?_ ?_); (focus omega))
      | ((with_reducible first | refine awpIf_dec ?_ ?_ | refine awpIf_ndec ?_ ?_ | refine awpGd_tdec ?_ ?_ | refine awpGd_fdec ?_ ?_ | refine awpGd_tndec ?_ ?_ | refine awpGd_fndec ?_ ?_) <;> intro h <;> (try simp -dsimp only [h]))
      | ((with_reducible first | refine awpIf_cases ?_ ?_ | refine awpGd_cases ?_ ?_ | refine gO_cases ?_ ?_) <;> intro h <;> replace h := nrm h <;> (try simp -dsimp only [h, Bool.not_true, Bool.not_false]))
      | ((with_reducible apply And.intro); (focus omega))) <;> (try simp -dsimp -implicitDefEqProofs (maxSteps := 1000000) (disch := first | exact dis | fail) only [hml, cav_ren, si_ren, sp_ren, go_sem]))
    refine Plays_l l hl m _ ?_
    intro n cs os es puts v e ov oe ev ee B hn
    have hlen := B.inv.len
    obtain ⟨ov1, oe1, ho1, mo⟩ := B.b.move 3
    obtain ⟨ev1, ee1, he1, me⟩ := B.c.move 4
    have hov := fun L => (mo (rn (place [3, 4, 5, 6, 7] L)) rfl).1
    have hoe := fun L => (mo (rn (place [3, 4, 5, 6, 7] L)) rfl).2
    have hev := fun L => (me (rn (place [3, 4, 5, 6, 7] L)) rfl).1
    have hee := fun L => (me (rn (place [3, 4, 5, 6, 7] L)) rfl).2
    have hv := fun L => (B.a.ren (g := rn (place [0, 1, 2] L)) rfl).1
    have he := fun L => (B.a.ren (g := rn (place [0, 1, 2] L)) rfl).2
    have sb : ∀ L T, standsL (rn (place [0, 1, 2] L)) (some (.cells [.sl 1 9 0 cs.length true, v, .int .i64 puts]) :: some (.arr (rows cav cs)) :: e :: T) [0, 1, 2] (bh cs v e puts) := fun L T => by simp -dsimp -implicitDefEqProofs (maxSteps := 1000000) (disch := first | exact dis | fail) only [standsL, bh, hv, he, cav_ren, go_sem]
    have sr : ∀ L x0 x1 x2 T, standsL (rn (place [3, 4, 5, 6, 7] L)) (x0 :: x1 :: x2 :: some (.cells [.sl 4 1 0 cs.length true, .sl 5 7 0 cs.length true, ov, ev]) :: some (.arr (rows si cs)) :: some (.arr (rows sp cs)) :: oe :: ee :: T) [3, 4, 5, 6, 7] (rh cs ov1 oe1 ev1 ee1) := fun L x0 x1 x2 T => by simp -dsimp -implicitDefEqProofs (maxSteps := 1000000) (disch := first | exact dis | fail) only [standsL, rh, hov, hoe, hev, hee, si_ren, sp_ren, go_sem]
    have hml2 : (cs.map Cl.st).length = cs.length := by simp
    simp -dsimp -implicitDefEqProofs (maxSteps := 1000000) (disch := first | exact dis | fail) only [LH, go_sem]
    repeat' ((first
      | ((with_reducible refine awpIf_asT ?_ ?_); (focus assumption))
      | ((with_reducible refine awpIf_asF ?_ ?_); (focus assumption))
      | ((with_reducible refine awpGd_tT ?_ ?_); (focus assumption))
      | ((with_reducible refine awpGd_tF ?_ ?_); (focus assumption))
      | ((with_reducible refine awpGd_fF ?_ ?_); (focus assumption))
      | ((with_reducible refine awpGd_fT ?_ ?_); (focus assumption))
      | ((with_reducible apply awpGd_nst); (focus (intro h; replace h := nrm h; simp -dsimp -implicitDefEqProofs (maxSteps := 1000000) (disch := first | exact dis | fail) only [h, LH, go_sem]; rfl)))
      | ((with_reducible apply awpGd_nsf); (focus (intro h; replace h := nrm h; simp -dsimp -implicitDefEqProofs (maxSteps := 1000000) (disch := first | exact dis | fail) only [h, LH, go_sem]; rfl)))
      | ((with_reducible apply gO_t); (focus (intro h; replace h := nrm h; simp -dsimp -implicitDefEqProofs (maxSteps := 1000000) (disch := first | exact dis | fail) only [h, LH, go_sem]; rfl)))
      | ((with_reducible apply gO_f); (focus (intro h; replace h := nrm h; simp -dsimp -implicitDefEqProofs (maxSteps := 1000000) (disch := first | exact dis | fail) only [h, LH, go_sem]; rfl)))
      | ((with_reducible refine chkA_f ?_ ?_ ?_); (focus simp); (focus (intro h; replace h := nrm h; simp -dsimp -implicitDefEqProofs (maxSteps := 1000000) (disch := first | exact dis | fail) only [h, LH, go_sem])))
      | ((with_reducible refine chkA_t ?_ ?_ ?_); (focus simp); (focus (intro h; replace h := nrm h; simp -dsimp -implicitDefEqProofs (maxSteps := 1000000) (disch := first | exact dis | fail) only [h, LH, go_sem])))
      | ((with_reducible refine awpIf_decT ?_ ?_); (focus omega))
      | ((with_reducible refine awpIf_decF ?_ ?_); (focus omega))
      | ((with_reducible first | refine awpIf_dec ?_ ?_ | refine awpIf_ndec ?_ ?_ | refine awpGd_tdec ?_ ?_ | refine awpGd_fdec ?_ ?_ | refine awpGd_tndec ?_ ?_ | refine awpGd_fndec ?_ ?_) <;> intro h <;> (try simp -dsimp only [h]))
      | ((with_reducible first | refine awpIf_cases ?_ ?_ | refine awpGd_cases ?_ ?_ | refine gO_cases ?_ ?_) <;> intro h <;> replace h := nrm h <;> (try simp -dsimp only [h, Bool.not_true, Bool.not_false]))
      | ((with_reducible apply And.intro); (focus omega))) <;> (try simp -dsimp -implicitDefEqProofs (maxSteps := 1000000) (disch := first | exact dis | fail) only [LH, go_sem]))
    refine (States_ok cs v e es puts hlen B.a).at' [0, 1, 2] (by decide) rfl (sb _ _) rfl ?_
    rintro r A ⟨e1, hv1, rfl⟩
    rcases hv1 with ⟨_, _, h⟩ | ⟨pf, rfl, rfl⟩
    · have : cs.length = 0 := by simpa using h
      omega
    · skip
      simp -dsimp -implicitDefEqProofs (maxSteps := 1000000) (disch := first | exact dis | fail) only [bh, hv, he, cav_ren, i1_ren, hml2, go_sem]
      repeat' ((first
        | ((with_reducible refine awpIf_asT ?_ ?_); (focus assumption))
        | ((with_reducible refine awpIf_asF ?_ ?_); (focus assumption))
        | ((with_reducible refine awpGd_tT ?_ ?_); (focus assumption))
        | ((with_reducible refine awpGd_tF ?_ ?_); (focus assumption))
        | ((with_reducible refine awpGd_fF ?_ ?_); (focus assumption))
        | ((with_reducible refine awpGd_fT ?_ ?_); (focus assumption))
        | ((with_reducible apply awpGd_nst); (focus (intro h; replace h := nrm h; simp -dsimp -implicitDefEqProofs (maxSteps := 1000000) (disch := first | exact dis | fail) only [h, bh, hv, he, cav_ren, i1_ren, hml2, go_sem]; rfl)))
        | ((with_reducible apply awpGd_nsf); (focus (intro h; replace h := nrm h; simp -dsimp -implicitDefEqProofs (maxSteps := 1000000) (disch := first | exact dis | fail) only [h, bh, hv, he, cav_ren, i1_ren, hml2, go_sem]; rfl)))
        | ((with_reducible apply gO_t); (focus (intro h; replace h := nrm h; simp -dsimp -implicitDefEqProofs (maxSteps := 1000000) (disch := first | exact dis | fail) only [h, bh, hv, he, cav_ren, i1_ren, hml2, go_sem]; rfl)))
        | ((with_reducible apply gO_f); (focus (intro h; replace h := nrm h; simp -dsimp -implicitDefEqProofs (maxSteps := 1000000) (disch := first | exact dis | fail) only [h, bh, hv, he, cav_ren, i1_ren, hml2, go_sem]; rfl)))
        | ((with_reducible refine chkA_f ?_ ?_ ?_); (focus simp); (focus (intro h; replace h := nrm h; simp -dsimp -implicitDefEqProofs (maxSteps := 1000000) (disch := first | exact dis | fail) only [h, bh, hv, he, cav_ren, i1_ren, hml2, go_sem])))
        | ((with_reducible refine chkA_t ?_ ?_ ?_); (focus simp); (focus (intro h; replace h := nrm h; simp -dsimp -implicitDefEqProofs (maxSteps := 1000000) (disch := first | exact dis | fail) only [h, bh, hv, he, cav_ren, i1_ren, hml2, go_sem])))
        | ((with_reducible refine awpIf_decT ?_ ?_); (focus omega))
        | ((with_reducible refine awpIf_decF ?_ ?_); (focus omega))
        | ((with_reducible first | refine awpIf_dec ?_ ?_ | refine awpIf_ndec ?_ ?_ | refine awpGd_tdec ?_ ?_ | refine awpGd_fdec ?_ ?_ | refine awpGd_tndec ?_ ?_ | refine awpGd_fndec ?_ ?_) <;> intro h <;> (try simp -dsimp only [h]))
        | ((with_reducible first | refine awpIf_cases ?_ ?_ | refine awpGd_cases ?_ ?_ | refine gO_cases ?_ ?_) <;> intro h <;> replace h := nrm h <;> (try simp -dsimp only [h, Bool.not_true, Bool.not_false]))
        | ((with_reducible apply And.intro); (focus omega))) <;> (try simp -dsimp -implicitDefEqProofs (maxSteps := 1000000) (disch := first | exact dis | fail) only [bh, hv, he, cav_ren, i1_ren, hml2, go_sem]))
      refine (Ints_ok cs pf hlen).at' [8, 4] (by decide) rfl (by simp -dsimp -implicitDefEqProofs (maxSteps := 1000000) (disch := first | exact dis | fail) only [standsL, i1_ren, si_ren, go_sem]) rfl ?_
      rintro r A ⟨rfl, rfl⟩
      simp -dsimp -implicitDefEqProofs (maxSteps := 1000000) (disch := first | exact dis | fail) only [i1_ren, si_ren, go_sem]
      repeat' ((first
        | ((with_reducible refine awpIf_asT ?_ ?_); (focus assumption))
        | ((with_reducible refine awpIf_asF ?_ ?_); (focus assumption))
        | ((with_reducible refine awpGd_tT ?_ ?_); (focus assumption))
        | ((with_reducible refine awpGd_tF ?_ ?_); (focus assumption))
        | ((with_reducible refine awpGd_fF ?_ ?_); (focus assumption))
        | ((with_reducible refine awpGd_fT ?_ ?_); (focus assumption))
        | ((with_reducible apply awpGd_nst); (focus (intro h; replace h := nrm h; simp -dsimp -implicitDefEqProofs (maxSteps := 1000000) (disch := first | exact dis | fail) only [h, i1_ren, si_ren, go_sem]; rfl)))
        | ((with_reducible apply awpGd_nsf); (focus (intro h; replace h := nrm h; simp -dsimp -implicitDefEqProofs (maxSteps := 1000000) (disch := first | exact dis | fail) only [h, i1_ren, si_ren, go_sem]; rfl)))
        | ((with_reducible apply gO_t); (focus (intro h; replace h := nrm h; simp -dsimp -implicitDefEqProofs (maxSteps := 1000000) (disch := first | exact dis | fail) only [h, i1_ren, si_ren, go_sem]; rfl)))
        | ((with_reducible apply gO_f); (focus (intro h; replace h := nrm h; simp -dsimp -implicitDefEqProofs (maxSteps := 1000000) (disch := first | exact dis | fail) only [h, i1_ren, si_ren, go_sem]; rfl)))
        | ((with_reducible refine chkA_f ?_ ?_ ?_); (focus simp); (focus (intro h; replace h := nrm h; simp -dsimp -implicitDefEqProofs (maxSteps := 1000000) (disch := first | exact dis | fail) only [h, i1_ren, si_ren, go_sem])))
        | ((with_reducible refine chkA_t ?_ ?_ ?_); (focus simp); (focus (intro h; replace h := nrm h; simp -dsimp -implicitDefEqProofs (maxSteps := 1000000) (disch := first | exact dis | fail) only [h, i1_ren, si_ren, go_sem])))
        | ((with_reducible refine awpIf_decT ?_ ?_); (focus omega))
        | ((with_reducible refine awpIf_decF ?_ ?_); (focus omega))
        | ((with_reducible first | refine awpIf_dec ?_ ?_ | refine awpIf_ndec ?_ ?_ | refine awpGd_tdec ?_ ?_ | refine awpGd_fdec ?_ ?_ | refine awpGd_tndec ?_ ?_ | refine awpGd_fndec ?_ ?_) <;> intro h <;> (try simp -dsimp only [h]))
        | ((with_reducible first | refine awpIf_cases ?_ ?_ | refine awpGd_cases ?_ ?_ | refine gO_cases ?_ ?_) <;> intro h <;> replace h := nrm h <;> (try simp -dsimp only [h, Bool.not_true, Bool.not_false]))
        | ((with_reducible apply And.intro); (focus omega))) <;> (try simp -dsimp -implicitDefEqProofs (maxSteps := 1000000) (disch := first | exact dis | fail) only [i1_ren, si_ren, go_sem]))
      refine (Free_ok cs v e es puts hlen B.a).at' [0, 1, 2] (by decide) rfl (sb _ _) rfl ?_
      rintro r A ⟨rfl, rfl⟩
      simp -dsimp -implicitDefEqProofs (maxSteps := 1000000) (disch := first | exact dis | fail) only [bh, hv, he, cav_ren, go_sem]
      repeat' ((first
        | ((with_reducible refine awpIf_asT ?_ ?_); (focus assumption))
        | ((with_reducible refine awpIf_asF ?_ ?_); (focus assumption))
        | ((with_reducible refine awpGd_tT ?_ ?_); (focus assumption))
        | ((with_reducible refine awpGd_tF ?_ ?_); (focus assumption))
        | ((with_reducible refine awpGd_fF ?_ ?_); (focus assumption))
        | ((with_reducible refine awpGd_fT ?_ ?_); (focus assumption))
        | ((with_reducible apply awpGd_nst); (focus (intro h; replace h := nrm h; simp -dsimp -implicitDefEqProofs (maxSteps := 1000000) (disch := first | exact dis | fail) only [h, bh, hv, he, cav_ren, go_sem]; rfl)))
        | ((with_reducible apply awpGd_nsf); (focus (intro h; replace h := nrm h; simp -dsimp -implicitDefEqProofs (maxSteps := 1000000) (disch := first | exact dis | fail) only [h, bh, hv, he, cav_ren, go_sem]; rfl)))
        | ((with_reducible apply gO_t); (focus (intro h; replace h := nrm h; simp -dsimp -implicitDefEqProofs (maxSteps := 1000000) (disch := first | exact dis | fail) only [h, bh, hv, he, cav_ren, go_sem]; rfl)))
        | ((with_reducible apply gO_f); (focus (intro h; replace h := nrm h; simp -dsimp -implicitDefEqProofs (maxSteps := 1000000) (disch := first | exact dis | fail) only [h, bh, hv, he, cav_ren, go_sem]; rfl)))
        | ((with_reducible refine chkA_f ?_ ?_ ?_); (focus simp); (focus (intro h; replace h := nrm h; simp -dsimp -implicitDefEqProofs (maxSteps := 1000000) (disch := first | exact dis | fail) only [h, bh, hv, he, cav_ren, go_sem])))
        | ((with_reducible refine chkA_t ?_ ?_ ?_); (focus simp); (focus (intro h; replace h := nrm h; simp -dsimp -implicitDefEqProofs (maxSteps := 1000000) (disch := first | exact dis | fail) only [h, bh, hv, he, cav_ren, go_sem])))
        | ((with_reducible refine awpIf_decT ?_ ?_); (focus omega))
        | ((with_reducible refine awpIf_decF ?_ ?_); (focus omega))
        | ((with_reducible first | refine awpIf_dec ?_ ?_ | refine awpIf_ndec ?_ ?_ | refine awpGd_tdec ?_ ?_ | refine awpGd_fdec ?_ ?_ | refine awpGd_tndec ?_ ?_ | refine awpGd_fndec ?_ ?_) <;> intro h <;> (try simp -dsimp only [h]))
        | ((with_reducible first | refine awpIf_cases ?_ ?_ | refine awpGd_cases ?_ ?_ | refine gO_cases ?_ ?_) <;> intro h <;> replace h := nrm h <;> (try simp -dsimp only [h, Bool.not_true, Bool.not_false]))
        | ((with_reducible apply And.intro); (focus omega))) <;> (try simp -dsimp -implicitDefEqProofs (maxSteps := 1000000) (disch := first | exact dis | fail) only [bh, hv, he, cav_ren, go_sem]))
      refine (RFree_ok cs ov1 oe1 ev1 ee1 os es hlen ho1 he1).at' [3, 4, 5, 6, 7] (by decide) rfl (sr _ _ _ _ _) rfl ?_
      rintro r A ⟨rfl, rfl⟩
      simp -dsimp -implicitDefEqProofs (maxSteps := 1000000) (disch := first | exact dis | fail) only [rh, hov, hoe, hev, hee, si_ren, sp_ren, go_sem]
      repeat' ((first
        | ((with_reducible refine PCall.ac alive_ok ?_ ?_ ?_); rfl; rfl)
        | ((with_reducible refine awpIf_asT ?_ ?_); (focus assumption))
        | ((with_reducible refine awpIf_asF ?_ ?_); (focus assumption))
        | ((with_reducible refine awpGd_tT ?_ ?_); (focus assumption))
        | ((with_reducible refine awpGd_tF ?_ ?_); (focus assumption))
        | ((with_reducible refine awpGd_fF ?_ ?_); (focus assumption))
        | ((with_reducible refine awpGd_fT ?_ ?_); (focus assumption))
        | ((with_reducible apply awpGd_nst); (focus (intro h; replace h := nrm h; simp -dsimp -implicitDefEqProofs (maxSteps := 1000000) (disch := first | exact dis | fail) only [h, rh, hov, hoe, hev, hee, si_ren, sp_ren, go_sem]; rfl)))
        | ((with_reducible apply awpGd_nsf); (focus (intro h; replace h := nrm h; simp -dsimp -implicitDefEqProofs (maxSteps := 1000000) (disch := first | exact dis | fail) only [h, rh, hov, hoe, hev, hee, si_ren, sp_ren, go_sem]; rfl)))
        | ((with_reducible apply gO_t); (focus (intro h; replace h := nrm h; simp -dsimp -implicitDefEqProofs (maxSteps := 1000000) (disch := first | exact dis | fail) only [h, rh, hov, hoe, hev, hee, si_ren, sp_ren, go_sem]; rfl)))
        | ((with_reducible apply gO_f); (focus (intro h; replace h := nrm h; simp -dsimp -implicitDefEqProofs (maxSteps := 1000000) (disch := first | exact dis | fail) only [h, rh, hov, hoe, hev, hee, si_ren, sp_ren, go_sem]; rfl)))
        | ((with_reducible refine awpGd_pct alive_ok ?_ ?_ ?_ ?_); (focus (intro h; replace h := nrm h; simp -dsimp only [h, rh, hov, hoe, hev, hee, si_ren, sp_ren, go_sem]; first | done | exact ⟨rfl, rfl⟩ | exact rfl)); (focus rfl); (focus rfl))
        | ((with_reducible refine awpGd_pcf alive_ok ?_ ?_ ?_ ?_); (focus (intro h; replace h := nrm h; simp -dsimp only [h, rh, hov, hoe, hev, hee, si_ren, sp_ren, go_sem]; first | done | exact ⟨rfl, rfl⟩ | exact rfl)); (focus rfl); (focus rfl))
        | ((with_reducible refine chkA_f ?_ ?_ ?_); (focus simp); (focus (intro h; replace h := nrm h; simp -dsimp -implicitDefEqProofs (maxSteps := 1000000) (disch := first | exact dis | fail) only [h, rh, hov, hoe, hev, hee, si_ren, sp_ren, go_sem])))
        | ((with_reducible refine chkA_t ?_ ?_ ?_); (focus simp); (focus (intro h; replace h := nrm h; simp -dsimp -implicitDefEqProofs (maxSteps := 1000000) (disch := first | exact dis | fail) only [h, rh, hov, hoe, hev, hee, si_ren, sp_ren, go_sem])))
        | ((with_reducible refine awpIf_decT ?_ ?_); (focus omega))
        | ((with_reducible refine awpIf_decF ?_ ?_); (focus omega))
        | ((with_reducible first | refine awpIf_dec ?_ ?_ | refine awpIf_ndec ?_ ?_ | refine awpGd_tdec ?_ ?_ | refine awpGd_fdec ?_ ?_ | refine awpGd_tndec ?_ ?_ | refine awpGd_fndec ?_ ?_) <;> intro h <;> (try simp -dsimp only [h]))
        | ((with_reducible first | refine awpIf_cases ?_ ?_ | refine awpGd_cases ?_ ?_ | refine gO_cases ?_ ?_) <;> intro h <;> replace h := nrm h <;> (try simp -dsimp only [h, Bool.not_true, Bool.not_false]))
        | ((with_reducible apply And.intro); (focus omega))) <;> (try simp -dsimp -implicitDefEqProofs (maxSteps := 1000000) (disch := first | exact dis | fail) only [rh, hov, hoe, hev, hee, si_ren, sp_ren, go_sem]))
      exact ⟨none, rfl, rfl⟩
end Go.Proofs.Ytkkccabchhnebaa
