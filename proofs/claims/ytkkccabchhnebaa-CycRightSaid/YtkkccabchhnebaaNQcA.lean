/- QcA, put together. Conditions: none. -/
import Derived.Test.YtkkccabchhnebaaNQD
import Derived.Test.YtkkccabchhnebaaNQIc
/- cyc and ref22: what the functions answer that set nothing. -/
section
namespace Go.Proofs.Ytkkccabchhnebaa
open Go.SB
attribute [local irreducible] HW HSS HAS HRQ HEO HOP HCK
set_option maxRecDepth 100000
set_option maxHeartbeats 4000000
set_option linter.unusedSimpArgs false
set_option pp.deepTerms.threshold 6

def frv (f : Fr) : List AV := f.av
theorem frv_eq (f : Fr) : frv f = f.av := rfl
instance : Flt frv := ⟨fun _ => rfl⟩
/-- A job. -/
structure Jb where
  id : Int
  count : Int
  first : Int
  second : Int
  frs : List Fr
  now : Bool
  tell : Bool
abbrev Jb.av (j : Jb) : List AV := [.int .i64 j.id, .int .i64 j.count, .int .i64 j.first, .int .i64 j.second, .ps 4 (rows frv j.frs), .bool j.now, .bool j.tell]

def cntB (n : Int) : Bool := decide (0 ≤ n) && decide (n ≤ 1099511627776)
theorem count_ok (n : Int) : PCall Try.prog f_cyc_count [.int .i64 n] (.bool (cntB n)) := by
  refine pcallH ok_cyc_count rfl ?_
  have hr := trivial
  simp -dsimp -implicitDefEqProofs (maxSteps := 1000000) (disch := first | exact dis | fail) only [hc_cyc_count, cntB, go_sem]
  repeat' ((first | (with_reducible first | refine w_if ?_ ?_ | refine w_gt ?_ ?_ | refine w_gf ?_ ?_ | refine w_io ?_ ?_ | refine w_gdt ?_ ?_ | refine w_gdf ?_ ?_ | refine w_ite ?_ ?_) <;> intro h <;> (try rw [h]) <;> replace hr := And.intro h hr <;> replace h := nrm h <;> try (first | (exfalso; omega) | exact (bx h (by assumption)).elim | exact (bx (by assumption) h).elim) | ((with_reducible refine And.intro ?_ ?_); (focus omega))) <;> try simp -dsimp -implicitDefEqProofs (maxSteps := 1000000) (disch := first | exact dis | fail) only [cntB, go_sem])
theorem rcount_ok (n : Int) : PCall Try.prog f_ref22_count [.int .i64 n] (.bool (cntB n)) := by
  refine pcallH ok_ref22_count rfl ?_
  have hr := trivial
  simp -dsimp -implicitDefEqProofs (maxSteps := 1000000) (disch := first | exact dis | fail) only [hc_ref22_count, cntB, go_sem]
  repeat' ((first | (with_reducible first | refine w_if ?_ ?_ | refine w_gt ?_ ?_ | refine w_gf ?_ ?_ | refine w_io ?_ ?_ | refine w_gdt ?_ ?_ | refine w_gdf ?_ ?_ | refine w_ite ?_ ?_) <;> intro h <;> (try rw [h]) <;> replace hr := And.intro h hr <;> replace h := nrm h <;> try (first | (exfalso; omega) | exact (bx h (by assumption)).elim | exact (bx (by assumption) h).elim) | ((with_reducible refine And.intro ?_ ?_); (focus omega))) <;> try simp -dsimp -implicitDefEqProofs (maxSteps := 1000000) (disch := first | exact dis | fail) only [cntB, go_sem])
theorem Right1_ok (f : Fr) : PCall Try.prog f_cyc_Right_1 [.agg f.av] (.bool (decide (keyR f < 0))) := by
  refine pcallH ok_cyc_Right_1 rfl ?_
  have hk : PCall Try.prog f_frame_Key [.agg f.av] (.int .i64 (keyR f)) := key_eq f ▸ Key_ok f
  have hr := trivial
  simp -dsimp -implicitDefEqProofs (maxSteps := 1000000) (disch := first | exact dis | fail) only [hc_cyc_Right_1, Fr.av, go_sem]
  repeat' ((first | (with_reducible refine PCall.aci hk ?_) | (with_reducible first | refine w_if ?_ ?_ | refine w_gt ?_ ?_ | refine w_gf ?_ ?_ | refine w_io ?_ ?_ | refine w_gdt ?_ ?_ | refine w_gdf ?_ ?_ | refine w_ite ?_ ?_) <;> intro h <;> (try rw [h]) <;> replace hr := And.intro h hr <;> replace h := nrm h <;> try (first | (exfalso; omega) | exact (bx h (by assumption)).elim | exact (bx (by assumption) h).elim) | ((with_reducible refine And.intro ?_ ?_); (focus omega))) <;> try simp -dsimp -implicitDefEqProofs (maxSteps := 1000000) (disch := first | exact dis | fail) only [Fr.av, go_sem])
/-- The first frame that may not be sent. -/
def badAt : List Fr → Nat → Option Nat
  | [], _ => none
  | f :: fs, i => if keyR f < 0 then some i else badAt fs (i + 1)
theorem badAt_step {fs : List Fr} {i : Nat} {f : Fr} (h : fs[i]? = some f) : badAt (fs.drop i) i = if keyR f < 0 then some i else badAt (fs.drop (i + 1)) (i + 1) := by
  have hlt : i < fs.length := (List.getElem?_eq_some_iff.1 h).1
  rw [List.drop_eq_getElem_cons hlt]
  have : fs[i] = f := by rw [List.getElem?_eq_getElem hlt] at h; exact Option.some.inj h
  rw [this]; rfl
def badV (fs : List Fr) : Int := match badAt fs 0 with | some i => i | none => -1
theorem Index_ok (fs : List Fr) (hn : fs.length ≤ 1000) : PCall Try.prog f_slices_IndexFunc_of_Frame [.ps 4 (rows frv fs), .fn f_cyc_Right_1 [] []] (.int .i64 (badV fs)) := by
  refine pcallH ok_slices_IndexFunc_of_Frame rfl ?_
  have hr := trivial
  simp -dsimp -implicitDefEqProofs (maxSteps := 1000000) (disch := first | exact dis | fail) only [hc_slices_IndexFunc_of_Frame, go_sem]
  repeat' ((first | (with_reducible first | refine w_if ?_ ?_ | refine w_gt ?_ ?_ | refine w_gf ?_ ?_ | refine w_io ?_ ?_ | refine w_gdt ?_ ?_ | refine w_gdf ?_ ?_ | refine w_ite ?_ ?_) <;> intro h <;> (try rw [h]) <;> replace hr := And.intro h hr <;> replace h := nrm h <;> try (first | (exfalso; omega) | exact (bx h (by assumption)).elim | exact (bx (by assumption) h).elim) | ((with_reducible refine And.intro ?_ ?_); (focus omega))) <;> try simp -dsimp -implicitDefEqProofs (maxSteps := 1000000) (disch := first | exact dis | fail) only [go_sem])
  refine hw_loop fs.length (fun i ρ A => ρ = rg 8 [(0, .ps 4 (rows frv fs)), (1, .fn f_cyc_Right_1 [] []), (4, .int .i64 fs.length), (5, .int .i64 i)] ∧ A = [] ∧ badAt (fs.drop i) i = badAt fs 0) ⟨none, rfl, rfl, rfl, rfl⟩ ?_
  rintro i ρ A hi ⟨rfl, rfl, hc⟩
  by_cases hlt : i < fs.length
  · have hx : fs[i]? = some fs[i] := List.getElem?_eq_getElem hlt
    generalize fs[i] = f at hx
    rw [badAt_step hx] at hc
    have hd : (rows frv fs).getD i [] = f.av := by simp [List.getD, rows_get, hx, frv]
    have hr := trivial
    simp -dsimp -implicitDefEqProofs (maxSteps := 1000000) (disch := first | exact dis | fail) only [hc_slices_IndexFunc_of_Frame_b1, Int.toNat_natCast, hd, go_sem]
    repeat' ((first | (with_reducible refine PCall.aci (Right1_ok f) ?_) | (with_reducible first | refine w_if ?_ ?_ | refine w_gt ?_ ?_ | refine w_gf ?_ ?_ | refine w_io ?_ ?_ | refine w_gdt ?_ ?_ | refine w_gdf ?_ ?_ | refine w_ite ?_ ?_) <;> intro h <;> (try rw [h]) <;> replace hr := And.intro h hr <;> replace h := nrm h <;> try (first | (exfalso; omega) | exact (bx h (by assumption)).elim | exact (bx (by assumption) h).elim) | ((with_reducible refine And.intro ?_ ?_); (focus omega))) <;> try simp -dsimp -implicitDefEqProofs (maxSteps := 1000000) (disch := first | exact dis | fail) only [Int.toNat_natCast, hd, go_sem])
    · rw [if_pos ‹_›] at hc
      simp only [badV, ← hc]
    · rw [if_neg ‹_›] at hc
      exact ⟨none, rfl, rfl, rfl, hc⟩
  · have hd : fs.drop i = [] := List.drop_eq_nil_of_le (by omega)
    rw [hd] at hc
    have hr := trivial
    simp -dsimp -implicitDefEqProofs (maxSteps := 1000000) (disch := first | exact dis | fail) only [hc_slices_IndexFunc_of_Frame_b1, go_sem]
    repeat' ((first | (with_reducible first | refine w_if ?_ ?_ | refine w_gt ?_ ?_ | refine w_gf ?_ ?_ | refine w_io ?_ ?_ | refine w_gdt ?_ ?_ | refine w_gdf ?_ ?_ | refine w_ite ?_ ?_) <;> intro h <;> (try rw [h]) <;> replace hr := And.intro h hr <;> replace h := nrm h <;> try (first | (exfalso; omega) | exact (bx h (by assumption)).elim | exact (bx (by assumption) h).elim) | ((with_reducible refine And.intro ?_ ?_); (focus omega))) <;> try simp -dsimp -implicitDefEqProofs (maxSteps := 1000000) (disch := first | exact dis | fail) only [go_sem])
    simp only [badV, ← hc, badAt]
def badB (fs : List Fr) : Bool := decide (0 ≤ badV fs)
theorem Contains_ok (fs : List Fr) (hn : fs.length ≤ 1000) : PCall Try.prog f_slices_ContainsFunc_of_Frame [.ps 4 (rows frv fs), .fn f_cyc_Right_1 [] []] (.bool (badB fs)) := by
  refine pcallH ok_slices_ContainsFunc_of_Frame rfl ?_
  have hr := trivial
  simp -dsimp -implicitDefEqProofs (maxSteps := 1000000) (disch := first | exact dis | fail) only [hc_slices_ContainsFunc_of_Frame, badB, go_sem]
  repeat' ((first | (with_reducible refine PCall.aci (Index_ok fs hn) ?_) | (with_reducible first | refine w_if ?_ ?_ | refine w_gt ?_ ?_ | refine w_gf ?_ ?_ | refine w_io ?_ ?_ | refine w_gdt ?_ ?_ | refine w_gdf ?_ ?_ | refine w_ite ?_ ?_) <;> intro h <;> (try rw [h]) <;> replace hr := And.intro h hr <;> replace h := nrm h <;> try (first | (exfalso; omega) | exact (bx h (by assumption)).elim | exact (bx (by assumption) h).elim) | ((with_reducible refine And.intro ?_ ?_); (focus omega))) <;> try simp -dsimp -implicitDefEqProofs (maxSteps := 1000000) (disch := first | exact dis | fail) only [badB, go_sem])
def jobE (j : Jb) : Int := if 256 < j.frs.length then 9 else if j.frs.length = 0 ∨ cntB j.count = false ∨ cntB j.first = false ∨ cntB j.second = false then 2 else if badB j.frs then 4 else 0
theorem JRight_ok (j : Jb) : PCall Try.prog f_cyc_Right [.agg j.av] (.int .i64 (jobE j)) := by
  refine pcallH ok_cyc_Right rfl ?_
  by_cases h1 : 256 < j.frs.length
  · have hr := trivial
    simp -dsimp -implicitDefEqProofs (maxSteps := 1000000) (disch := first | exact dis | fail) only [hc_cyc_Right, Jb.av, h1, go_sem]
    repeat' ((first | (with_reducible refine PCall.aci (count_ok _) ?_) | (with_reducible first | refine w_if ?_ ?_ | refine w_gt ?_ ?_ | refine w_gf ?_ ?_ | refine w_io ?_ ?_ | refine w_gdt ?_ ?_ | refine w_gdf ?_ ?_ | refine w_ite ?_ ?_) <;> intro h <;> (try rw [h]) <;> replace hr := And.intro h hr <;> replace h := nrm h <;> try (first | (exfalso; omega) | exact (bx h (by assumption)).elim | exact (bx (by assumption) h).elim) | ((with_reducible refine And.intro ?_ ?_); (focus omega))) <;> try simp -dsimp -implicitDefEqProofs (maxSteps := 1000000) (disch := first | exact dis | fail) only [Jb.av, h1, go_sem])
    simp only [jobE, if_pos h1]
  · have hn : j.frs.length ≤ 1000 := by omega
    have hr := trivial
    simp -dsimp -implicitDefEqProofs (maxSteps := 1000000) (disch := first | exact dis | fail) only [hc_cyc_Right, Jb.av, h1, go_sem]
    repeat' ((first | (with_reducible refine PCall.aci (count_ok _) ?_) | (with_reducible refine PCall.aci (Contains_ok j.frs hn) ?_) | (with_reducible first | refine w_if ?_ ?_ | refine w_gt ?_ ?_ | refine w_gf ?_ ?_ | refine w_io ?_ ?_ | refine w_gdt ?_ ?_ | refine w_gdf ?_ ?_ | refine w_ite ?_ ?_) <;> intro h <;> (try rw [h]) <;> replace hr := And.intro h hr <;> replace h := nrm h <;> try (first | (exfalso; omega) | exact (bx h (by assumption)).elim | exact (bx (by assumption) h).elim) | ((with_reducible refine And.intro ?_ ?_); (focus omega))) <;> try simp -dsimp -implicitDefEqProofs (maxSteps := 1000000) (disch := first | exact dis | fail) only [Jb.av, h1, go_sem])
    all_goals simp_all [jobE]
theorem RJRight_ok (j : Jb) : PCall Try.prog f_ref22_Right [.agg j.av] (.int .i64 (jobE j)) := by
  refine pcallH ok_ref22_Right rfl ?_
  by_cases h1 : 256 < j.frs.length
  · have hr := trivial
    simp -dsimp -implicitDefEqProofs (maxSteps := 1000000) (disch := first | exact dis | fail) only [hc_ref22_Right, Jb.av, h1, go_sem]
    repeat' ((first | (with_reducible refine PCall.aci (rcount_ok _) ?_) | (with_reducible first | refine w_if ?_ ?_ | refine w_gt ?_ ?_ | refine w_gf ?_ ?_ | refine w_io ?_ ?_ | refine w_gdt ?_ ?_ | refine w_gdf ?_ ?_ | refine w_ite ?_ ?_) <;> intro h <;> (try rw [h]) <;> replace hr := And.intro h hr <;> replace h := nrm h <;> try (first | (exfalso; omega) | exact (bx h (by assumption)).elim | exact (bx (by assumption) h).elim) | ((with_reducible refine And.intro ?_ ?_); (focus omega))) <;> try simp -dsimp -implicitDefEqProofs (maxSteps := 1000000) (disch := first | exact dis | fail) only [Jb.av, h1, go_sem])
    simp only [jobE, if_pos h1]
  · have hr := trivial
    simp -dsimp -implicitDefEqProofs (maxSteps := 1000000) (disch := first | exact dis | fail) only [hc_ref22_Right, Jb.av, h1, go_sem]
    repeat' ((first | (with_reducible refine PCall.aci (rcount_ok _) ?_) | (with_reducible first | refine w_if ?_ ?_ | refine w_gt ?_ ?_ | refine w_gf ?_ ?_ | refine w_io ?_ ?_ | refine w_gdt ?_ ?_ | refine w_gdf ?_ ?_ | refine w_ite ?_ ?_) <;> intro h <;> (try rw [h]) <;> replace hr := And.intro h hr <;> replace h := nrm h <;> try (first | (exfalso; omega) | exact (bx h (by assumption)).elim | exact (bx (by assumption) h).elim) | ((with_reducible refine And.intro ?_ ?_); (focus omega))) <;> try simp -dsimp -implicitDefEqProofs (maxSteps := 1000000) (disch := first | exact dis | fail) only [Jb.av, h1, go_sem])
    all_goals first | (simp_all [jobE]; done) | skip
    rename_i hc1 hc2 hc3
    refine hw_loop j.frs.length (fun i ρ A => ρ = rg 15 [(1, .ptr 0 0), (3, .int .i64 i)] ∧ A = [some (.cells j.av)] ∧ badAt (j.frs.drop i) i = badAt j.frs 0) ⟨none, rfl, rfl, rfl, rfl⟩ ?_
    rintro i ρ A hi ⟨rfl, rfl, hc⟩
    by_cases hlt : i < j.frs.length
    · have hx : j.frs[i]? = some j.frs[i] := List.getElem?_eq_getElem hlt
      generalize j.frs[i] = f at hx
      rw [badAt_step hx] at hc
      have hd : (rows frv j.frs).getD i [] = f.av := by simp [List.getD, rows_get, hx, frv]
      have hr := trivial
      simp -dsimp -implicitDefEqProofs (maxSteps := 1000000) (disch := first | exact dis | fail) only [hc_ref22_Right_b1, Jb.av, Int.toNat_natCast, hd, go_sem]
      repeat' ((first | (with_reducible refine PCall.aci (RKey_ok f) ?_) | (with_reducible first | refine w_if ?_ ?_ | refine w_gt ?_ ?_ | refine w_gf ?_ ?_ | refine w_io ?_ ?_ | refine w_gdt ?_ ?_ | refine w_gdf ?_ ?_ | refine w_ite ?_ ?_) <;> intro h <;> (try rw [h]) <;> replace hr := And.intro h hr <;> replace h := nrm h <;> try (first | (exfalso; omega) | exact (bx h (by assumption)).elim | exact (bx (by assumption) h).elim) | ((with_reducible refine And.intro ?_ ?_); (focus omega))) <;> try simp -dsimp -implicitDefEqProofs (maxSteps := 1000000) (disch := first | exact dis | fail) only [Jb.av, Int.toNat_natCast, hd, go_sem])
      · rw [if_pos ‹_›] at hc
        simp_all [jobE, badB, badV, ← hc]
      · rw [if_neg ‹_›] at hc
        exact ⟨none, rfl, rfl, rfl, hc⟩
    · have hd : j.frs.drop i = [] := List.drop_eq_nil_of_le (by omega)
      rw [hd] at hc
      have hr := trivial
      simp -dsimp -implicitDefEqProofs (maxSteps := 1000000) (disch := first | exact dis | fail) only [hc_ref22_Right_b1, Jb.av, go_sem]
      repeat' ((first | (with_reducible first | refine w_if ?_ ?_ | refine w_gt ?_ ?_ | refine w_gf ?_ ?_ | refine w_io ?_ ?_ | refine w_gdt ?_ ?_ | refine w_gdf ?_ ?_ | refine w_ite ?_ ?_) <;> intro h <;> (try rw [h]) <;> replace hr := And.intro h hr <;> replace h := nrm h <;> try (first | (exfalso; omega) | exact (bx h (by assumption)).elim | exact (bx (by assumption) h).elim) | ((with_reducible refine And.intro ?_ ?_); (focus omega))) <;> try simp -dsimp -implicitDefEqProofs (maxSteps := 1000000) (disch := first | exact dis | fail) only [Jb.av, go_sem])
      simp_all [jobE, badB, badV, ← hc, badAt]
/-- The data that are gone through. -/
def sumD (fs : List Fr) : Nat → Int
  | 0 => 0
  | i + 1 => sumD fs i + min ((fs[i]?.map fun f => (f.data.length : Int)).getD 0) 5000
theorem sumD_le (fs : List Fr) : ∀ i, 0 ≤ sumD fs i ∧ sumD fs i ≤ 5000 * i
  | 0 => by simp [sumD]
  | i + 1 => by
    have := sumD_le fs i
    unfold sumD
    cases fs[i]? <;> simp <;> omega
def smallB (j : Jb) : Bool := decide ((j.frs.length : Int) ≤ 300) && decide (sumD j.frs (min j.frs.length 301) ≤ 4000) && decide (j.count ≤ 200)
theorem Small_ok (j : Jb) : PCall Try.prog f_ref22_Small [.agg j.av] (.bool (smallB j)) := by
  refine pcallI ok_ref22_Small ?_
  have hr := trivial
  simp -dsimp -implicitDefEqProofs (maxSteps := 1000000) (disch := first | exact dis | fail) only [hc_ref22_Small, Jb.av, go_sem]
  repeat' ((first | (with_reducible first | refine w_if ?_ ?_ | refine w_gt ?_ ?_ | refine w_gf ?_ ?_ | refine w_io ?_ ?_ | refine w_gdt ?_ ?_ | refine w_gdf ?_ ?_ | refine w_ite ?_ ?_) <;> intro h <;> (try rw [h]) <;> replace hr := And.intro h hr <;> replace h := nrm h <;> try (first | (exfalso; omega) | exact (bx h (by assumption)).elim | exact (bx (by assumption) h).elim) | ((with_reducible refine And.intro ?_ ?_); (focus omega))) <;> try simp -dsimp -implicitDefEqProofs (maxSteps := 1000000) (disch := first | exact dis | fail) only [Jb.av, go_sem])
  refine hw_loop (min j.frs.length 301) (fun i ρ A => ρ = rg 6 [(1, .ptr 0 0), (3, .int .i64 (sumD j.frs i)), (4, .int .i64 i)] ∧ A = [some (.cells j.av)]) ⟨none, rfl, rfl, rfl⟩ ?_
  rintro i ρ A hi ⟨rfl, rfl⟩
  have h5 := sumD_le j.frs i
  by_cases hlt : i < min j.frs.length 301
  · have hx : j.frs[i]? = some j.frs[i] := List.getElem?_eq_getElem (by omega)
    generalize j.frs[i] = f at hx
    have hd : (rows frv j.frs).getD i [] = f.av := by simp [List.getD, rows_get, hx, frv]
    have hr := trivial
    simp -dsimp -implicitDefEqProofs (maxSteps := 1000000) (disch := first | exact dis | fail) only [hc_ref22_Small_b1, Jb.av, Int.toNat_natCast, hd, go_sem]
    repeat' ((first | (with_reducible first | refine w_if ?_ ?_ | refine w_gt ?_ ?_ | refine w_gf ?_ ?_ | refine w_io ?_ ?_ | refine w_gdt ?_ ?_ | refine w_gdf ?_ ?_ | refine w_ite ?_ ?_) <;> intro h <;> (try rw [h]) <;> replace hr := And.intro h hr <;> replace h := nrm h <;> try (first | (exfalso; omega) | exact (bx h (by assumption)).elim | exact (bx (by assumption) h).elim) | ((with_reducible refine And.intro ?_ ?_); (focus omega))) <;> try simp -dsimp -implicitDefEqProofs (maxSteps := 1000000) (disch := first | exact dis | fail) only [Jb.av, Int.toNat_natCast, hd, go_sem])
    exact ⟨none, rfl, by simp [sumD, hx, foldRo], rfl⟩
  · obtain rfl : i = min j.frs.length 301 := by omega
    have hr := trivial
    simp -dsimp -implicitDefEqProofs (maxSteps := 1000000) (disch := first | exact dis | fail) only [hc_ref22_Small_b1, Jb.av, go_sem]
    repeat' ((first | (with_reducible first | refine w_if ?_ ?_ | refine w_gt ?_ ?_ | refine w_gf ?_ ?_ | refine w_io ?_ ?_ | refine w_gdt ?_ ?_ | refine w_gdf ?_ ?_ | refine w_ite ?_ ?_) <;> intro h <;> (try rw [h]) <;> replace hr := And.intro h hr <;> replace h := nrm h <;> try (first | (exfalso; omega) | exact (bx h (by assumption)).elim | exact (bx (by assumption) h).elim) | ((with_reducible refine And.intro ?_ ?_); (focus omega))) <;> try simp -dsimp -implicitDefEqProofs (maxSteps := 1000000) (disch := first | exact dis | fail) only [Jb.av, go_sem])
    rfl
/-- Two rows of frames that are the same. -/
theorem Same_ok (fs : List Fr) (hn : fs.length ≤ 1000) (tt : Bool) (l : Nat) (hl : l = 0) :
    ACall Try.prog f_ref03_Same [.sl l 4 0 fs.length tt, .ps 4 (rows frv fs)] [some (.arr (rows frv fs))] fun r A => r = .bool true ∧ A = [some (.arr (rows frv fs))] := by
  subst hl
  refine acallH ok_ref03_Same ?_
  have hr := trivial
  simp -dsimp -implicitDefEqProofs (maxSteps := 1000000) (disch := first | exact dis | fail) only [hc_ref03_Same, go_sem]
  repeat' ((first | (with_reducible first | refine w_if ?_ ?_ | refine w_gt ?_ ?_ | refine w_gf ?_ ?_ | refine w_io ?_ ?_ | refine w_gdt ?_ ?_ | refine w_gdf ?_ ?_ | refine w_ite ?_ ?_) <;> intro h <;> (try rw [h]) <;> replace hr := And.intro h hr <;> replace h := nrm h <;> try (first | (exfalso; omega) | exact (bx h (by assumption)).elim | exact (bx (by assumption) h).elim) | ((with_reducible refine And.intro ?_ ?_); (focus omega))) <;> try simp -dsimp -implicitDefEqProofs (maxSteps := 1000000) (disch := first | exact dis | fail) only [go_sem])
  refine hw_loop fs.length (fun i ρ A => ρ = rg 7 [(0, .sl 0 4 0 fs.length tt), (1, .ps 4 (rows frv fs)), (3, .int .i64 i)] ∧ A = [some (.arr (rows frv fs))]) ⟨none, rfl, rfl, rfl⟩ ?_
  rintro i ρ A hi ⟨rfl, rfl⟩
  by_cases hlt : i < fs.length
  · have hx : fs[i]? = some fs[i] := List.getElem?_eq_getElem hlt
    generalize fs[i] = f at hx
    have hd : (rows frv fs).getD i [] = f.av := by simp [List.getD, rows_get, hx, frv]
    have hr := trivial
    simp -dsimp -implicitDefEqProofs (maxSteps := 1000000) (disch := first | exact dis | fail) only [hc_ref03_Same_b1, Int.toNat_natCast, hd, rows_get, hx, frv_eq, Fr.av, go_sem]
    repeat' ((first | (with_reducible first | refine w_if ?_ ?_ | refine w_gt ?_ ?_ | refine w_gf ?_ ?_ | refine w_io ?_ ?_ | refine w_gdt ?_ ?_ | refine w_gdf ?_ ?_ | refine w_ite ?_ ?_) <;> intro h <;> (try rw [h]) <;> replace hr := And.intro h hr <;> replace h := nrm h <;> try (first | (exfalso; omega) | exact (bx h (by assumption)).elim | exact (bx (by assumption) h).elim) | ((with_reducible refine And.intro ?_ ?_); (focus omega))) <;> try simp -dsimp -implicitDefEqProofs (maxSteps := 1000000) (disch := first | exact dis | fail) only [Int.toNat_natCast, hd, rows_get, hx, frv_eq, Fr.av, go_sem])
    exact ⟨none, rfl, rfl, rfl⟩
  · obtain rfl : i = fs.length := by omega
    have hr := trivial
    simp -dsimp -implicitDefEqProofs (maxSteps := 1000000) (disch := first | exact dis | fail) only [hc_ref03_Same_b1, go_sem]
    repeat' ((first | (with_reducible first | refine w_if ?_ ?_ | refine w_gt ?_ ?_ | refine w_gf ?_ ?_ | refine w_io ?_ ?_ | refine w_gdt ?_ ?_ | refine w_gdf ?_ ?_ | refine w_ite ?_ ?_) <;> intro h <;> (try rw [h]) <;> replace hr := And.intro h hr <;> replace h := nrm h <;> try (first | (exfalso; omega) | exact (bx h (by assumption)).elim | exact (bx (by assumption) h).elim) | ((with_reducible refine And.intro ?_ ?_); (focus omega))) <;> try simp -dsimp -implicitDefEqProofs (maxSteps := 1000000) (disch := first | exact dis | fail) only [go_sem])
    exact ⟨none, rfl, rfl, rfl⟩
/-- k times further. -/
theorem far_ok (s b : Int) (k : Nat) (hs : 0 ≤ s ∧ s ≤ 1125899906842624) (hb : 0 ≤ b ∧ b ≤ 1099511627776) (hk : k ≤ 1000) : PCall Try.prog f_ref22_far [.int .i64 s, .int .i64 b, .int .i64 k] (.int .i64 (s + b * k)) := by
  refine pcallI ok_ref22_far ?_
  have hr := trivial
  simp -dsimp -implicitDefEqProofs (maxSteps := 1000000) (disch := first | exact dis | fail) only [hc_ref22_far, go_sem]
  repeat' ((first | (with_reducible first | refine w_if ?_ ?_ | refine w_gt ?_ ?_ | refine w_gf ?_ ?_ | refine w_io ?_ ?_ | refine w_gdt ?_ ?_ | refine w_gdf ?_ ?_ | refine w_ite ?_ ?_) <;> intro h <;> (try rw [h]) <;> replace hr := And.intro h hr <;> replace h := nrm h <;> try (first | (exfalso; omega) | exact (bx h (by assumption)).elim | exact (bx (by assumption) h).elim) | ((with_reducible refine And.intro ?_ ?_); (focus omega))) <;> try simp -dsimp -implicitDefEqProofs (maxSteps := 1000000) (disch := first | exact dis | fail) only [go_sem])
  refine hw_loop k (fun i ρ A => ρ = rg 8 [(1, .int .i64 b), (2, .int .i64 k), (4, .int .i64 (s + b * i)), (5, .int .i64 i)] ∧ A = []) ⟨none, rfl, by simp [foldRo, rg]; rfl, rfl⟩ ?_
  rintro i ρ A hi ⟨rfl, rfl⟩
  have hm : ∀ n : Nat, n ≤ 1000 → 0 ≤ b * n ∧ b * n ≤ 1099511627776000 := fun n hn => by
    have h1 : 0 ≤ b * n := Int.mul_nonneg hb.1 (by omega)
    have h2 : b * n ≤ 1099511627776 * n := Int.mul_le_mul_of_nonneg_right hb.2 (by omega)
    omega
  have h1 := hm i (by omega)
  by_cases hlt : i < k
  · have h2 := hm (i + 1) (by omega)
    have e : b * ((i + 1 : Nat) : Int) = b * i + b := by rw [Int.natCast_add]; simp [Int.mul_add]
    rw [e] at h2
    have hr := trivial
    simp -dsimp -implicitDefEqProofs (maxSteps := 1000000) (disch := first | exact dis | fail) only [hc_ref22_far_b1, go_sem]
    repeat' ((first | (with_reducible first | refine w_if ?_ ?_ | refine w_gt ?_ ?_ | refine w_gf ?_ ?_ | refine w_io ?_ ?_ | refine w_gdt ?_ ?_ | refine w_gdf ?_ ?_ | refine w_ite ?_ ?_) <;> intro h <;> (try rw [h]) <;> replace hr := And.intro h hr <;> replace h := nrm h <;> try (first | (exfalso; omega) | exact (bx h (by assumption)).elim | exact (bx (by assumption) h).elim) | ((with_reducible refine And.intro ?_ ?_); (focus omega))) <;> try simp -dsimp -implicitDefEqProofs (maxSteps := 1000000) (disch := first | exact dis | fail) only [go_sem])
    exact ⟨none, rfl, by rw [e]; simp [foldRo, rg, Int.add_assoc], rfl⟩
  · obtain rfl : i = k := by omega
    have hr := trivial
    simp -dsimp -implicitDefEqProofs (maxSteps := 1000000) (disch := first | exact dis | fail) only [hc_ref22_far_b1, go_sem]
    repeat' ((first | (with_reducible first | refine w_if ?_ ?_ | refine w_gt ?_ ?_ | refine w_gf ?_ ?_ | refine w_io ?_ ?_ | refine w_gdt ?_ ?_ | refine w_gdf ?_ ?_ | refine w_ite ?_ ?_) <;> intro h <;> (try rw [h]) <;> replace hr := And.intro h hr <;> replace h := nrm h <;> try (first | (exfalso; omega) | exact (bx h (by assumption)).elim | exact (bx (by assumption) h).elim) | ((with_reducible refine And.intro ?_ ?_); (focus omega))) <;> try simp -dsimp -implicitDefEqProofs (maxSteps := 1000000) (disch := first | exact dis | fail) only [go_sem])
end Go.Proofs.Ytkkccabchhnebaa
end
