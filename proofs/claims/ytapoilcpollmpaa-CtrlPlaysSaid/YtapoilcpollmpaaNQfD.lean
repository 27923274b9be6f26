/- QfD, put together. Conditions: none. -/
import Derived.Test.YtapoilcpollmpaaNQfC
/- filters: any of them; a copy. -/
section
namespace Go.Proofs.Ytapoilcpollmpaa
open Go.SB
attribute [local irreducible] HW HSS HAS HRQ HEO HOP HCK
set_option maxRecDepth 100000
set_option maxHeartbeats 4000000
set_option linter.unusedSimpArgs false
set_option pp.deepTerms.threshold 6

def cntM (xs : List Fi) (f : Fr) (i : Nat) : Nat := (xs.take i).countP fun x => matchB x f
theorem cntM_step {xs : List Fi} {f : Fr} {i : Nat} {x : Fi} (h : xs[i]? = some x) : cntM xs f (i + 1) = cntM xs f i + if matchB x f then 1 else 0 := by
  unfold cntM
  rw [List.take_add_one, h, List.countP_append]
  simp [List.countP_cons]
theorem cntM_le {xs : List Fi} {f : Fr} {i : Nat} : cntM xs f i ≤ i := by
  unfold cntM
  have := List.countP_le_length (p := fun x => matchB x f) (l := xs.take i)
  rw [List.length_take] at this
  omega
def anyB (xs : List Fi) (f : Fr) : Bool := xs.any fun x => matchB x f
theorem cntM_any {xs : List Fi} {f : Fr} : decide (0 < (cntM xs f xs.length : Int)) = anyB xs f := by
  unfold cntM anyB
  rw [List.take_length, Bool.eq_iff_iff, decide_eq_true_iff, List.any_eq_true]
  rw [show (0 < ((xs.countP fun x => matchB x f : Nat) : Int)) ↔ 0 < xs.countP fun x => matchB x f by omega, List.countP_pos_iff]
theorem Any_ok (xs : List Fi) (hx : ∀ x, x ∈ xs → FiOk x) (hn : xs.length ≤ 1000) (f : Fr) : PCall Try.prog f_ref05_Any [.ps 3 (rows fiv xs), .bool false, .agg f.av] (.bool (anyB xs f)) := by
  refine pcallI ok_ref05_Any ?_
  have hr := trivial
  try simp -dsimp -implicitDefEqProofs (maxSteps := 1000000) (disch := first | exact dis | fail) only [hc_ref05_Any, Fr.av, go_sem]
  repeat' ((first | (with_reducible first | refine w_if ?_ ?_ | refine w_gt ?_ ?_ | refine w_gf ?_ ?_ | refine w_io ?_ ?_ | refine w_gdt ?_ ?_ | refine w_gdf ?_ ?_ | refine w_ite ?_ ?_) <;> intro h <;> (try rw [h]) <;> replace hr := And.intro h hr <;> replace h := nrm h <;> try (first | (exfalso; omega) | exact (bx h (by assumption)).elim | exact (bx (by assumption) h).elim) | ((with_reducible refine And.intro ?_ ?_); (focus omega))) <;> try simp -dsimp -implicitDefEqProofs (maxSteps := 1000000) (disch := first | exact dis | fail) only [Fr.av, go_sem])
  refine hw_loop xs.length (fun i ρ A => ρ = rg 10 [(0, .ps 3 (rows fiv xs)), (1, .bool false), (3, .ptr 0 0), (5, .int .i64 (cntM xs f i)), (6, .int .i64 i)] ∧ A = [some (.cells f.av)]) ⟨none, rfl, rfl, rfl⟩ ?_
  rintro i ρ A hi ⟨rfl, rfl⟩
  by_cases hlt : i < xs.length
  · have hx1 : xs[i]? = some xs[i] := List.getElem?_eq_getElem hlt
    have hm := RMatch_ok xs[i] (hx _ (List.getElem_mem hlt)) f
    generalize xs[i] = x at hx1 hm
    have hd : (rows fiv xs).getD i [] = x.av := by simp [List.getD, rows_get, hx1, fiv]
    have hs := cntM_step (f := f) hx1
    have hle := cntM_le (xs := xs) (f := f) (i := i)
    generalize matchB x f = b at hm hs
    cases b
    · have hr := trivial
      try simp -dsimp -implicitDefEqProofs (maxSteps := 1000000) (disch := first | exact dis | fail) only [hc_ref05_Any_b1, Fr.av, Int.toNat_natCast, hd, Fi.av, go_sem]
      repeat' ((first | (with_reducible refine PCall.aci hm ?_) | (with_reducible first | refine w_if ?_ ?_ | refine w_gt ?_ ?_ | refine w_gf ?_ ?_ | refine w_io ?_ ?_ | refine w_gdt ?_ ?_ | refine w_gdf ?_ ?_ | refine w_ite ?_ ?_) <;> intro h <;> (try rw [h]) <;> replace hr := And.intro h hr <;> replace h := nrm h <;> try (first | (exfalso; omega) | exact (bx h (by assumption)).elim | exact (bx (by assumption) h).elim) | ((with_reducible refine And.intro ?_ ?_); (focus omega))) <;> try simp -dsimp -implicitDefEqProofs (maxSteps := 1000000) (disch := first | exact dis | fail) only [Fr.av, Int.toNat_natCast, hd, Fi.av, go_sem])
      exact ⟨none, rfl, by simp [foldRo, hs], rfl⟩
    · have hr := trivial
      try simp -dsimp -implicitDefEqProofs (maxSteps := 1000000) (disch := first | exact dis | fail) only [hc_ref05_Any_b1, Fr.av, Int.toNat_natCast, hd, Fi.av, go_sem]
      repeat' ((first | (with_reducible refine PCall.aci hm ?_) | (with_reducible first | refine w_if ?_ ?_ | refine w_gt ?_ ?_ | refine w_gf ?_ ?_ | refine w_io ?_ ?_ | refine w_gdt ?_ ?_ | refine w_gdf ?_ ?_ | refine w_ite ?_ ?_) <;> intro h <;> (try rw [h]) <;> replace hr := And.intro h hr <;> replace h := nrm h <;> try (first | (exfalso; omega) | exact (bx h (by assumption)).elim | exact (bx (by assumption) h).elim) | ((with_reducible refine And.intro ?_ ?_); (focus omega))) <;> try simp -dsimp -implicitDefEqProofs (maxSteps := 1000000) (disch := first | exact dis | fail) only [Fr.av, Int.toNat_natCast, hd, Fi.av, go_sem])
      exact ⟨none, rfl, by simp [foldRo, hs], rfl⟩
  · obtain rfl : i = xs.length := by omega
    have hle := cntM_any (xs := xs) (f := f)
    have hr := trivial
    try simp -dsimp -implicitDefEqProofs (maxSteps := 1000000) (disch := first | exact dis | fail) only [hc_ref05_Any_b1, Fr.av, hle, go_sem]
    repeat' ((first | (with_reducible first | refine w_if ?_ ?_ | refine w_gt ?_ ?_ | refine w_gf ?_ ?_ | refine w_io ?_ ?_ | refine w_gdt ?_ ?_ | refine w_gdf ?_ ?_ | refine w_ite ?_ ?_) <;> intro h <;> (try rw [h]) <;> replace hr := And.intro h hr <;> replace h := nrm h <;> try (first | (exfalso; omega) | exact (bx h (by assumption)).elim | exact (bx (by assumption) h).elim) | ((with_reducible refine And.intro ?_ ?_); (focus omega))) <;> try simp -dsimp -implicitDefEqProofs (maxSteps := 1000000) (disch := first | exact dis | fail) only [Fr.av, hle, go_sem])
    all_goals skip
theorem lets1_ok (x : Fi) (f : Fr) : ACall Try.prog f_ctrl_Ctrl_lets_1 [.agg x.av, .ptr 0 0] [some (.cells f.av)] fun r A => r = .bool (matchB x f) ∧ A = [some (.cells f.av)] := by
  refine acallH ok_ctrl_Ctrl_lets_1 ?_
  have hr := trivial
  try simp -dsimp -implicitDefEqProofs (maxSteps := 1000000) (disch := first | exact dis | fail) only [hc_ctrl_Ctrl_lets_1, Fr.av, Fi.av, go_sem]
  repeat' ((first | (with_reducible refine PCall.aci (Match_ok x f) ?_) | (with_reducible first | refine w_if ?_ ?_ | refine w_gt ?_ ?_ | refine w_gf ?_ ?_ | refine w_io ?_ ?_ | refine w_gdt ?_ ?_ | refine w_gdf ?_ ?_ | refine w_ite ?_ ?_) <;> intro h <;> (try rw [h]) <;> replace hr := And.intro h hr <;> replace h := nrm h <;> try (first | (exfalso; omega) | exact (bx h (by assumption)).elim | exact (bx (by assumption) h).elim) | ((with_reducible refine And.intro ?_ ?_); (focus omega))) <;> try simp -dsimp -implicitDefEqProofs (maxSteps := 1000000) (disch := first | exact dis | fail) only [Fr.av, Fi.av, go_sem])
  exact ⟨some [], rfl, rfl, by simp only [foldA_eq, go_sem]⟩
def FH (xs : List Fi) (f : Fr) : AHeap := [some (.arr (rows fiv xs)), some (.cells f.av)]
theorem FIndex_ok (xs : List Fi) (hn : xs.length ≤ 1000) (f : Fr) (t : Bool) : ACall Try.prog f_slices_IndexFunc_of_Filter [.sl 0 3 0 xs.length t, .fn f_ctrl_Ctrl_lets_1 [] [.ptr 1 0]] (FH xs f) fun r A => (∃ n : Int, r = .int .i64 n ∧ decide (0 ≤ n) = anyB xs f) ∧ A = FH xs f := by
  refine acallH ok_slices_IndexFunc_of_Filter ?_
  have hr := trivial
  try simp -dsimp -implicitDefEqProofs (maxSteps := 1000000) (disch := first | exact dis | fail) only [hc_slices_IndexFunc_of_Filter, FH, go_sem]
  repeat' ((first | (with_reducible first | refine w_if ?_ ?_ | refine w_gt ?_ ?_ | refine w_gf ?_ ?_ | refine w_io ?_ ?_ | refine w_gdt ?_ ?_ | refine w_gdf ?_ ?_ | refine w_ite ?_ ?_) <;> intro h <;> (try rw [h]) <;> replace hr := And.intro h hr <;> replace h := nrm h <;> try (first | (exfalso; omega) | exact (bx h (by assumption)).elim | exact (bx (by assumption) h).elim) | ((with_reducible refine And.intro ?_ ?_); (focus omega))) <;> try simp -dsimp -implicitDefEqProofs (maxSteps := 1000000) (disch := first | exact dis | fail) only [FH, go_sem])
  refine hw_loop xs.length (fun i ρ A => ρ = rg 8 [(0, .sl 0 3 0 xs.length t), (1, .fn f_ctrl_Ctrl_lets_1 [] [.ptr 1 0]), (4, .int .i64 xs.length), (5, .int .i64 i)] ∧ A = FH xs f ∧ anyB (xs.drop i) f = anyB xs f) ⟨none, rfl, rfl, rfl, rfl⟩ ?_
  rintro i ρ A hi ⟨rfl, rfl, hc⟩
  by_cases hlt : i < xs.length
  · have hx1 : xs[i]? = some xs[i] := List.getElem?_eq_getElem hlt
    have hm := lets1_ok xs[i] f
    rw [List.drop_eq_getElem_cons hlt] at hc
    generalize xs[i] = x at hx1 hm hc
    have hcc : anyB (x :: xs.drop (i + 1)) f = (matchB x f || anyB (xs.drop (i + 1)) f) := by simp [anyB]
    rw [hcc] at hc
    generalize matchB x f = b at hm hc
    cases b
    · have hr := trivial
      try simp -dsimp -implicitDefEqProofs (maxSteps := 1000000) (disch := first | exact dis | fail) only [hc_slices_IndexFunc_of_Filter_b1, FH, Int.toNat_natCast, rows_get, hx1, fiv_eq, Fi.av, go_sem]
      repeat' ((first | ((with_reducible refine ACall.atE (hm) [1] ?_ ?_ ?_ ?_ ?_); (focus decide); (focus rfl); (focus (simp -dsimp -implicitDefEqProofs (maxSteps := 1000000) (disch := first | exact dis | fail) only [standsL, FH, Int.toNat_natCast, rows_get, hx1, fiv_eq, Fi.av, go_sem]; done)); (focus (first | rfl | (simp -dsimp -implicitDefEqProofs (maxSteps := 1000000) (disch := first | exact dis | fail) only [FH, Int.toNat_natCast, rows_get, hx1, fiv_eq, Fi.av, go_sem]; done)))) | (with_reducible first | refine w_if ?_ ?_ | refine w_gt ?_ ?_ | refine w_gf ?_ ?_ | refine w_io ?_ ?_ | refine w_gdt ?_ ?_ | refine w_gdf ?_ ?_ | refine w_ite ?_ ?_) <;> intro h <;> (try rw [h]) <;> replace hr := And.intro h hr <;> replace h := nrm h <;> try (first | (exfalso; omega) | exact (bx h (by assumption)).elim | exact (bx (by assumption) h).elim) | ((with_reducible refine And.intro ?_ ?_); (focus omega))) <;> try simp -dsimp -implicitDefEqProofs (maxSteps := 1000000) (disch := first | exact dis | fail) only [FH, Int.toNat_natCast, rows_get, hx1, fiv_eq, Fi.av, go_sem])
      exact ⟨none, rfl, rfl, rfl, by rw [← hc]; rfl⟩
    · have hr := trivial
      try simp -dsimp -implicitDefEqProofs (maxSteps := 1000000) (disch := first | exact dis | fail) only [hc_slices_IndexFunc_of_Filter_b1, FH, Int.toNat_natCast, rows_get, hx1, fiv_eq, Fi.av, go_sem]
      repeat' ((first | ((with_reducible refine ACall.atE (hm) [1] ?_ ?_ ?_ ?_ ?_); (focus decide); (focus rfl); (focus (simp -dsimp -implicitDefEqProofs (maxSteps := 1000000) (disch := first | exact dis | fail) only [standsL, FH, Int.toNat_natCast, rows_get, hx1, fiv_eq, Fi.av, go_sem]; done)); (focus (first | rfl | (simp -dsimp -implicitDefEqProofs (maxSteps := 1000000) (disch := first | exact dis | fail) only [FH, Int.toNat_natCast, rows_get, hx1, fiv_eq, Fi.av, go_sem]; done)))) | (with_reducible first | refine w_if ?_ ?_ | refine w_gt ?_ ?_ | refine w_gf ?_ ?_ | refine w_io ?_ ?_ | refine w_gdt ?_ ?_ | refine w_gdf ?_ ?_ | refine w_ite ?_ ?_) <;> intro h <;> (try rw [h]) <;> replace hr := And.intro h hr <;> replace h := nrm h <;> try (first | (exfalso; omega) | exact (bx h (by assumption)).elim | exact (bx (by assumption) h).elim) | ((with_reducible refine And.intro ?_ ?_); (focus omega))) <;> try simp -dsimp -implicitDefEqProofs (maxSteps := 1000000) (disch := first | exact dis | fail) only [FH, Int.toNat_natCast, rows_get, hx1, fiv_eq, Fi.av, go_sem])
      exact ⟨none, rfl, ⟨_, rfl, by rw [← hc, Bool.true_or, decide_eq_true_iff]; omega⟩, rfl⟩
  · obtain rfl : i = xs.length := by omega
    rw [List.drop_length] at hc
    have hr := trivial
    try simp -dsimp -implicitDefEqProofs (maxSteps := 1000000) (disch := first | exact dis | fail) only [hc_slices_IndexFunc_of_Filter_b1, FH, go_sem]
    repeat' ((first | (with_reducible first | refine w_if ?_ ?_ | refine w_gt ?_ ?_ | refine w_gf ?_ ?_ | refine w_io ?_ ?_ | refine w_gdt ?_ ?_ | refine w_gdf ?_ ?_ | refine w_ite ?_ ?_) <;> intro h <;> (try rw [h]) <;> replace hr := And.intro h hr <;> replace h := nrm h <;> try (first | (exfalso; omega) | exact (bx h (by assumption)).elim | exact (bx (by assumption) h).elim) | ((with_reducible refine And.intro ?_ ?_); (focus omega))) <;> try simp -dsimp -implicitDefEqProofs (maxSteps := 1000000) (disch := first | exact dis | fail) only [FH, go_sem])
    exact ⟨none, rfl, ⟨_, rfl, by rw [← hc]; rfl⟩, rfl⟩
theorem nilS_raw {a : Addr} {n c : Nat} : AV.nilS (.raw (.slice (some a) n c)) = some false := rfl
theorem elems_raw {A : AHeap} {z : Nat} {a : Addr} {c : Nat} : elemsOf A z (.raw (.slice (some a) 0 c)) = some [] := rfl
theorem ren_raw {g : Nat → Option Nat} {v : Value} : AV.ren g (.raw v) = .raw v := rfl
theorem FClone_ok (xs : List Fi) (hn : xs.length ≤ 1000) : ACall Try.prog f_slices_Clone_of_Filter [.ps 3 (rows fiv xs)] [] fun r A => r = .sl 0 3 0 xs.length false ∧ A = [some (.arr (rows fiv xs))] := by
  by_cases h0 : xs = []
  · subst h0
    refine acall_ps0 (pre := []) (post := []) (acall_emp (A := []) (z := 3) (by decide) ?_) fun a c => ?_
    · refine acallH ok_slices_Clone_of_Filter ?_
      have hr := trivial
      try simp -dsimp -implicitDefEqProofs (maxSteps := 1000000) (disch := first | exact dis | fail) only [hc_slices_Clone_of_Filter, eqv_slice, List.nil_append, go_sem]
      repeat' ((first | (with_reducible first | refine w_if ?_ ?_ | refine w_gt ?_ ?_ | refine w_gf ?_ ?_ | refine w_io ?_ ?_ | refine w_gdt ?_ ?_ | refine w_gdf ?_ ?_ | refine w_ite ?_ ?_) <;> intro h <;> (try rw [h]) <;> replace hr := And.intro h hr <;> replace h := nrm h <;> try (first | (exfalso; omega) | exact (bx h (by assumption)).elim | exact (bx (by assumption) h).elim) | ((with_reducible refine And.intro ?_ ?_); (focus omega))) <;> try simp -dsimp -implicitDefEqProofs (maxSteps := 1000000) (disch := first | exact dis | fail) only [eqv_slice, List.nil_append, go_sem])
      exact ⟨some [], rfl, .inl rfl, by simp only [foldA_eq, go_sem]⟩
    · refine acallH ok_slices_Clone_of_Filter ?_
      have hr := trivial
      try simp -dsimp -implicitDefEqProofs (maxSteps := 1000000) (disch := first | exact dis | fail) only [hc_slices_Clone_of_Filter, eqv_slice, List.nil_append, nilS_raw, elems_raw, go_sem]
      repeat' ((first | (with_reducible first | refine w_if ?_ ?_ | refine w_gt ?_ ?_ | refine w_gf ?_ ?_ | refine w_io ?_ ?_ | refine w_gdt ?_ ?_ | refine w_gdf ?_ ?_ | refine w_ite ?_ ?_) <;> intro h <;> (try rw [h]) <;> replace hr := And.intro h hr <;> replace h := nrm h <;> try (first | (exfalso; omega) | exact (bx h (by assumption)).elim | exact (bx (by assumption) h).elim) | ((with_reducible refine And.intro ?_ ?_); (focus omega))) <;> try simp -dsimp -implicitDefEqProofs (maxSteps := 1000000) (disch := first | exact dis | fail) only [eqv_slice, List.nil_append, nilS_raw, elems_raw, go_sem])
      exact ⟨some [1], rfl, rfl, by simp only [foldA_eq, go_sem]; rfl⟩
  · have hl : 0 < xs.length := by cases xs; exact absurd rfl h0; simp
    refine acallH ok_slices_Clone_of_Filter ?_
    have hr := trivial
    try simp -dsimp -implicitDefEqProofs (maxSteps := 1000000) (disch := first | exact dis | fail) only [hc_slices_Clone_of_Filter, eqv_slice, go_sem]
    repeat' ((first | (with_reducible first | refine w_if ?_ ?_ | refine w_gt ?_ ?_ | refine w_gf ?_ ?_ | refine w_io ?_ ?_ | refine w_gdt ?_ ?_ | refine w_gdf ?_ ?_ | refine w_ite ?_ ?_) <;> intro h <;> (try rw [h]) <;> replace hr := And.intro h hr <;> replace h := nrm h <;> try (first | (exfalso; omega) | exact (bx h (by assumption)).elim | exact (bx (by assumption) h).elim) | ((with_reducible refine And.intro ?_ ?_); (focus omega))) <;> try simp -dsimp -implicitDefEqProofs (maxSteps := 1000000) (disch := first | exact dis | fail) only [eqv_slice, go_sem])
    exact ⟨some [1], rfl, rfl, by simp only [foldA_eq, go_sem]⟩
theorem FContains_ok (xs : List Fi) (hn : xs.length ≤ 1000) (f : Fr) (t : Bool) : ACall Try.prog f_slices_ContainsFunc_of_Filter [.sl 0 3 0 xs.length t, .fn f_ctrl_Ctrl_lets_1 [] [.ptr 1 0]] (FH xs f) fun r A => r = .bool (anyB xs f) ∧ A = FH xs f := by
  refine acallH ok_slices_ContainsFunc_of_Filter ?_
  have hr := trivial
  try simp -dsimp -implicitDefEqProofs (maxSteps := 1000000) (disch := first | exact dis | fail) only [hc_slices_ContainsFunc_of_Filter, FH, go_sem]
  repeat' ((first | (with_reducible first | refine w_if ?_ ?_ | refine w_gt ?_ ?_ | refine w_gf ?_ ?_ | refine w_io ?_ ?_ | refine w_gdt ?_ ?_ | refine w_gdf ?_ ?_ | refine w_ite ?_ ?_) <;> intro h <;> (try rw [h]) <;> replace hr := And.intro h hr <;> replace h := nrm h <;> try (first | (exfalso; omega) | exact (bx h (by assumption)).elim | exact (bx (by assumption) h).elim) | ((with_reducible refine And.intro ?_ ?_); (focus omega))) <;> try simp -dsimp -implicitDefEqProofs (maxSteps := 1000000) (disch := first | exact dis | fail) only [FH, go_sem])
  refine (FIndex_ok xs hn f t).at' [0, 1] (by decide) rfl (by simp only [standsL, FH, go_sem]) (by simp only [FH, go_sem]) ?_
  rintro r A ⟨⟨n, rfl, hv⟩, rfl⟩
  have hr := trivial
  try simp -dsimp -implicitDefEqProofs (maxSteps := 1000000) (disch := first | exact dis | fail) only [FH, hv, go_sem]
  repeat' ((first | (with_reducible first | refine w_if ?_ ?_ | refine w_gt ?_ ?_ | refine w_gf ?_ ?_ | refine w_io ?_ ?_ | refine w_gdt ?_ ?_ | refine w_gdf ?_ ?_ | refine w_ite ?_ ?_) <;> intro h <;> (try rw [h]) <;> replace hr := And.intro h hr <;> replace h := nrm h <;> try (first | (exfalso; omega) | exact (bx h (by assumption)).elim | exact (bx (by assumption) h).elim) | ((with_reducible refine And.intro ?_ ?_); (focus omega))) <;> try simp -dsimp -implicitDefEqProofs (maxSteps := 1000000) (disch := first | exact dis | fail) only [FH, hv, go_sem])
  exact ⟨none, rfl, rfl, rfl⟩
end Go.Proofs.Ytapoilcpollmpaa
end
