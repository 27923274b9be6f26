/- QhA, QhB, QhC, put together. Conditions: none. -/
import Derived.Test.YtapoilcpollmpaaNQD
import Derived.Test.YtapoilcpollmpaaNQIf
import Derived.Test.YtapoilcpollmpaaNHcY
/- cyc and ref22: what the functions answer that set nothing. -/
section
namespace Go.Proofs.Ytapoilcpollmpaa
open Go.SB
attribute [local irreducible] HW HSS HAS HRQ HEO HOP HCK
set_option maxRecDepth 100000
set_option maxHeartbeats 4000000
set_option linter.unusedSimpArgs false
set_option pp.deepTerms.threshold 6

def frv (f : Fr) : List AV := f.av
theorem frv_eq (f : Fr) : frv f = f.av := rfl
instance : Flt frv := ⟨fun _ => rfl⟩
/-- A job. -/
structure Jb where
  id : Int
  count : Int
  first : Int
  second : Int
  frs : List Fr
  now : Bool
  tell : Bool
abbrev Jb.av (j : Jb) : List AV := [.int .i64 j.id, .int .i64 j.count, .int .i64 j.first, .int .i64 j.second, .ps 4 (rows frv j.frs), .bool j.now, .bool j.tell]

def cntB (n : Int) : Bool := decide (0 ≤ n) && decide (n ≤ 1099511627776)
theorem count_ok (n : Int) : PCall Try.prog f_cyc_count [.int .i64 n] (.bool (cntB n)) := by
  refine pcallH ok_cyc_count rfl ?_
  have hr := trivial
  try simp -dsimp -implicitDefEqProofs (maxSteps := 1000000) (disch := first | exact dis | fail) only [hc_cyc_count, cntB, go_sem]
  repeat' ((first | (with_reducible first | refine w_if ?_ ?_ | refine w_gt ?_ ?_ | refine w_gf ?_ ?_ | refine w_io ?_ ?_ | refine w_gdt ?_ ?_ | refine w_gdf ?_ ?_ | refine w_ite ?_ ?_) <;> intro h <;> (try rw [h]) <;> replace hr := And.intro h hr <;> replace h := nrm h <;> try (first | (exfalso; omega) | exact (bx h (by assumption)).elim | exact (bx (by assumption) h).elim) | ((with_reducible refine And.intro ?_ ?_); (focus omega))) <;> try simp -dsimp -implicitDefEqProofs (maxSteps := 1000000) (disch := first | exact dis | fail) only [cntB, go_sem])
theorem rcount_ok (n : Int) : PCall Try.prog f_ref22_count [.int .i64 n] (.bool (cntB n)) := by
  refine pcallH ok_ref22_count rfl ?_
  have hr := trivial
  try simp -dsimp -implicitDefEqProofs (maxSteps := 1000000) (disch := first | exact dis | fail) only [hc_ref22_count, cntB, go_sem]
  repeat' ((first | (with_reducible first | refine w_if ?_ ?_ | refine w_gt ?_ ?_ | refine w_gf ?_ ?_ | refine w_io ?_ ?_ | refine w_gdt ?_ ?_ | refine w_gdf ?_ ?_ | refine w_ite ?_ ?_) <;> intro h <;> (try rw [h]) <;> replace hr := And.intro h hr <;> replace h := nrm h <;> try (first | (exfalso; omega) | exact (bx h (by assumption)).elim | exact (bx (by assumption) h).elim) | ((with_reducible refine And.intro ?_ ?_); (focus omega))) <;> try simp -dsimp -implicitDefEqProofs (maxSteps := 1000000) (disch := first | exact dis | fail) only [cntB, go_sem])
theorem Right1_ok (f : Fr) : PCall Try.prog f_cyc_Right_1 [.agg f.av] (.bool (decide (keyR f < 0))) := by
  refine pcallH ok_cyc_Right_1 rfl ?_
  have hk : PCall Try.prog f_frame_Key [.agg f.av] (.int .i64 (keyR f)) := key_eq f ▸ Key_ok f
  have hr := trivial
  try simp -dsimp -implicitDefEqProofs (maxSteps := 1000000) (disch := first | exact dis | fail) only [hc_cyc_Right_1, Fr.av, go_sem]
  repeat' ((first | (with_reducible refine PCall.aci hk ?_) | (with_reducible first | refine w_if ?_ ?_ | refine w_gt ?_ ?_ | refine w_gf ?_ ?_ | refine w_io ?_ ?_ | refine w_gdt ?_ ?_ | refine w_gdf ?_ ?_ | refine w_ite ?_ ?_) <;> intro h <;> (try rw [h]) <;> replace hr := And.intro h hr <;> replace h := nrm h <;> try (first | (exfalso; omega) | exact (bx h (by assumption)).elim | exact (bx (by assumption) h).elim) | ((with_reducible refine And.intro ?_ ?_); (focus omega))) <;> try simp -dsimp -implicitDefEqProofs (maxSteps := 1000000) (disch := first | exact dis | fail) only [Fr.av, go_sem])
/-- The first frame that may not be sent. -/
def badAt : List Fr → Nat → Option Nat
  | [], _ => none
  | f :: fs, i => if keyR f < 0 then some i else badAt fs (i + 1)
theorem badAt_step {fs : List Fr} {i : Nat} {f : Fr} (h : fs[i]? = some f) : badAt (fs.drop i) i = if keyR f < 0 then some i else badAt (fs.drop (i + 1)) (i + 1) := by
  have hlt : i < fs.length := (List.getElem?_eq_some_iff.1 h).1
  rw [List.drop_eq_getElem_cons hlt]
  have : fs[i] = f := by rw [List.getElem?_eq_getElem hlt] at h; exact Option.some.inj h
  rw [this]; rfl
def badV (fs : List Fr) : Int := match badAt fs 0 with | some i => i | none => -1
theorem Index_ok (fs : List Fr) (hn : fs.length ≤ 1000) : PCall Try.prog f_slices_IndexFunc_of_Frame [.ps 4 (rows frv fs), .fn f_cyc_Right_1 [] []] (.int .i64 (badV fs)) := by
  refine pcallH ok_slices_IndexFunc_of_Frame rfl ?_
  have hr := trivial
  try simp -dsimp -implicitDefEqProofs (maxSteps := 1000000) (disch := first | exact dis | fail) only [hc_slices_IndexFunc_of_Frame, go_sem]
  repeat' ((first | (with_reducible first | refine w_if ?_ ?_ | refine w_gt ?_ ?_ | refine w_gf ?_ ?_ | refine w_io ?_ ?_ | refine w_gdt ?_ ?_ | refine w_gdf ?_ ?_ | refine w_ite ?_ ?_) <;> intro h <;> (try rw [h]) <;> replace hr := And.intro h hr <;> replace h := nrm h <;> try (first | (exfalso; omega) | exact (bx h (by assumption)).elim | exact (bx (by assumption) h).elim) | ((with_reducible refine And.intro ?_ ?_); (focus omega))) <;> try simp -dsimp -implicitDefEqProofs (maxSteps := 1000000) (disch := first | exact dis | fail) only [go_sem])
  refine hw_loop fs.length (fun i ρ A => ρ = rg 8 [(0, .ps 4 (rows frv fs)), (1, .fn f_cyc_Right_1 [] []), (4, .int .i64 fs.length), (5, .int .i64 i)] ∧ A = [] ∧ badAt (fs.drop i) i = badAt fs 0) ⟨none, rfl, rfl, rfl, rfl⟩ ?_
  rintro i ρ A hi ⟨rfl, rfl, hc⟩
  by_cases hlt : i < fs.length
  · have hx : fs[i]? = some fs[i] := List.getElem?_eq_getElem hlt
    generalize fs[i] = f at hx
    rw [badAt_step hx] at hc
    have hd : (rows frv fs).getD i [] = f.av := by simp [List.getD, rows_get, hx, frv]
    have hr := trivial
    try simp -dsimp -implicitDefEqProofs (maxSteps := 1000000) (disch := first | exact dis | fail) only [hc_slices_IndexFunc_of_Frame_b1, Int.toNat_natCast, hd, go_sem]
    repeat' ((first | (with_reducible refine PCall.aci (Right1_ok f) ?_) | (with_reducible first | refine w_if ?_ ?_ | refine w_gt ?_ ?_ | refine w_gf ?_ ?_ | refine w_io ?_ ?_ | refine w_gdt ?_ ?_ | refine w_gdf ?_ ?_ | refine w_ite ?_ ?_) <;> intro h <;> (try rw [h]) <;> replace hr := And.intro h hr <;> replace h := nrm h <;> try (first | (exfalso; omega) | exact (bx h (by assumption)).elim | exact (bx (by assumption) h).elim) | ((with_reducible refine And.intro ?_ ?_); (focus omega))) <;> try simp -dsimp -implicitDefEqProofs (maxSteps := 1000000) (disch := first | exact dis | fail) only [Int.toNat_natCast, hd, go_sem])
    · rw [if_pos ‹_›] at hc
      simp only [badV, ← hc]
    · rw [if_neg ‹_›] at hc
      exact ⟨none, rfl, rfl, rfl, hc⟩
  · have hd : fs.drop i = [] := List.drop_eq_nil_of_le (by omega)
    rw [hd] at hc
    have hr := trivial
    try simp -dsimp -implicitDefEqProofs (maxSteps := 1000000) (disch := first | exact dis | fail) only [hc_slices_IndexFunc_of_Frame_b1, go_sem]
    repeat' ((first | (with_reducible first | refine w_if ?_ ?_ | refine w_gt ?_ ?_ | refine w_gf ?_ ?_ | refine w_io ?_ ?_ | refine w_gdt ?_ ?_ | refine w_gdf ?_ ?_ | refine w_ite ?_ ?_) <;> intro h <;> (try rw [h]) <;> replace hr := And.intro h hr <;> replace h := nrm h <;> try (first | (exfalso; omega) | exact (bx h (by assumption)).elim | exact (bx (by assumption) h).elim) | ((with_reducible refine And.intro ?_ ?_); (focus omega))) <;> try simp -dsimp -implicitDefEqProofs (maxSteps := 1000000) (disch := first | exact dis | fail) only [go_sem])
    simp only [badV, ← hc, badAt]
def badB (fs : List Fr) : Bool := decide (0 ≤ badV fs)
theorem Contains_ok (fs : List Fr) (hn : fs.length ≤ 1000) : PCall Try.prog f_slices_ContainsFunc_of_Frame [.ps 4 (rows frv fs), .fn f_cyc_Right_1 [] []] (.bool (badB fs)) := by
  refine pcallH ok_slices_ContainsFunc_of_Frame rfl ?_
  have hr := trivial
  try simp -dsimp -implicitDefEqProofs (maxSteps := 1000000) (disch := first | exact dis | fail) only [hc_slices_ContainsFunc_of_Frame, badB, go_sem]
  repeat' ((first | (with_reducible refine PCall.aci (Index_ok fs hn) ?_) | (with_reducible first | refine w_if ?_ ?_ | refine w_gt ?_ ?_ | refine w_gf ?_ ?_ | refine w_io ?_ ?_ | refine w_gdt ?_ ?_ | refine w_gdf ?_ ?_ | refine w_ite ?_ ?_) <;> intro h <;> (try rw [h]) <;> replace hr := And.intro h hr <;> replace h := nrm h <;> try (first | (exfalso; omega) | exact (bx h (by assumption)).elim | exact (bx (by assumption) h).elim) | ((with_reducible refine And.intro ?_ ?_); (focus omega))) <;> try simp -dsimp -implicitDefEqProofs (maxSteps := 1000000) (disch := first | exact dis | fail) only [badB, go_sem])
def jobE (j : Jb) : Int := if 256 < j.frs.length then 9 else if j.frs.length = 0 ∨ cntB j.count = false ∨ cntB j.first = false ∨ cntB j.second = false then 2 else if badB j.frs then 4 else 0
theorem JRight_ok (j : Jb) : PCall Try.prog f_cyc_Right [.agg j.av] (.int .i64 (jobE j)) := by
  refine pcallH ok_cyc_Right rfl ?_
  by_cases h1 : 256 < j.frs.length
  · have hr := trivial
    try simp -dsimp -implicitDefEqProofs (maxSteps := 1000000) (disch := first | exact dis | fail) only [hc_cyc_Right, Jb.av, h1, go_sem]
    repeat' ((first | (with_reducible refine PCall.aci (count_ok _) ?_) | (with_reducible first | refine w_if ?_ ?_ | refine w_gt ?_ ?_ | refine w_gf ?_ ?_ | refine w_io ?_ ?_ | refine w_gdt ?_ ?_ | refine w_gdf ?_ ?_ | refine w_ite ?_ ?_) <;> intro h <;> (try rw [h]) <;> replace hr := And.intro h hr <;> replace h := nrm h <;> try (first | (exfalso; omega) | exact (bx h (by assumption)).elim | exact (bx (by assumption) h).elim) | ((with_reducible refine And.intro ?_ ?_); (focus omega))) <;> try simp -dsimp -implicitDefEqProofs (maxSteps := 1000000) (disch := first | exact dis | fail) only [Jb.av, h1, go_sem])
    simp only [jobE, if_pos h1]
  · have hn : j.frs.length ≤ 1000 := by omega
    have hr := trivial
    try simp -dsimp -implicitDefEqProofs (maxSteps := 1000000) (disch := first | exact dis | fail) only [hc_cyc_Right, Jb.av, h1, go_sem]
    repeat' ((first | (with_reducible refine PCall.aci (count_ok _) ?_) | (with_reducible refine PCall.aci (Contains_ok j.frs hn) ?_) | (with_reducible first | refine w_if ?_ ?_ | refine w_gt ?_ ?_ | refine w_gf ?_ ?_ | refine w_io ?_ ?_ | refine w_gdt ?_ ?_ | refine w_gdf ?_ ?_ | refine w_ite ?_ ?_) <;> intro h <;> (try rw [h]) <;> replace hr := And.intro h hr <;> replace h := nrm h <;> try (first | (exfalso; omega) | exact (bx h (by assumption)).elim | exact (bx (by assumption) h).elim) | ((with_reducible refine And.intro ?_ ?_); (focus omega))) <;> try simp -dsimp -implicitDefEqProofs (maxSteps := 1000000) (disch := first | exact dis | fail) only [Jb.av, h1, go_sem])
    all_goals simp_all [jobE]
theorem RJRight_ok (j : Jb) : PCall Try.prog f_ref22_Right [.agg j.av] (.int .i64 (jobE j)) := by
  refine pcallH ok_ref22_Right rfl ?_
  by_cases h1 : 256 < j.frs.length
  · have hr := trivial
    try simp -dsimp -implicitDefEqProofs (maxSteps := 1000000) (disch := first | exact dis | fail) only [hc_ref22_Right, Jb.av, h1, go_sem]
    repeat' ((first | (with_reducible refine PCall.aci (rcount_ok _) ?_) | (with_reducible first | refine w_if ?_ ?_ | refine w_gt ?_ ?_ | refine w_gf ?_ ?_ | refine w_io ?_ ?_ | refine w_gdt ?_ ?_ | refine w_gdf ?_ ?_ | refine w_ite ?_ ?_) <;> intro h <;> (try rw [h]) <;> replace hr := And.intro h hr <;> replace h := nrm h <;> try (first | (exfalso; omega) | exact (bx h (by assumption)).elim | exact (bx (by assumption) h).elim) | ((with_reducible refine And.intro ?_ ?_); (focus omega))) <;> try simp -dsimp -implicitDefEqProofs (maxSteps := 1000000) (disch := first | exact dis | fail) only [Jb.av, h1, go_sem])
    simp only [jobE, if_pos h1]
  · have hr := trivial
    try simp -dsimp -implicitDefEqProofs (maxSteps := 1000000) (disch := first | exact dis | fail) only [hc_ref22_Right, Jb.av, h1, go_sem]
    repeat' ((first | (with_reducible refine PCall.aci (rcount_ok _) ?_) | (with_reducible first | refine w_if ?_ ?_ | refine w_gt ?_ ?_ | refine w_gf ?_ ?_ | refine w_io ?_ ?_ | refine w_gdt ?_ ?_ | refine w_gdf ?_ ?_ | refine w_ite ?_ ?_) <;> intro h <;> (try rw [h]) <;> replace hr := And.intro h hr <;> replace h := nrm h <;> try (first | (exfalso; omega) | exact (bx h (by assumption)).elim | exact (bx (by assumption) h).elim) | ((with_reducible refine And.intro ?_ ?_); (focus omega))) <;> try simp -dsimp -implicitDefEqProofs (maxSteps := 1000000) (disch := first | exact dis | fail) only [Jb.av, h1, go_sem])
    all_goals first | (simp_all [jobE]; done) | skip
    rename_i hc1 hc2 hc3
    refine hw_loop j.frs.length (fun i ρ A => ρ = rg 15 [(1, .ptr 0 0), (3, .int .i64 i)] ∧ A = [some (.cells j.av)] ∧ badAt (j.frs.drop i) i = badAt j.frs 0) ⟨none, rfl, rfl, rfl, rfl⟩ ?_
    rintro i ρ A hi ⟨rfl, rfl, hc⟩
    by_cases hlt : i < j.frs.length
    · have hx : j.frs[i]? = some j.frs[i] := List.getElem?_eq_getElem hlt
      generalize j.frs[i] = f at hx
      rw [badAt_step hx] at hc
      have hd : (rows frv j.frs).getD i [] = f.av := by simp [List.getD, rows_get, hx, frv]
      have hr := trivial
      try simp -dsimp -implicitDefEqProofs (maxSteps := 1000000) (disch := first | exact dis | fail) only [hc_ref22_Right_b1, Jb.av, Int.toNat_natCast, hd, go_sem]
      repeat' ((first | (with_reducible refine PCall.aci (RKey_ok f) ?_) | (with_reducible first | refine w_if ?_ ?_ | refine w_gt ?_ ?_ | refine w_gf ?_ ?_ | refine w_io ?_ ?_ | refine w_gdt ?_ ?_ | refine w_gdf ?_ ?_ | refine w_ite ?_ ?_) <;> intro h <;> (try rw [h]) <;> replace hr := And.intro h hr <;> replace h := nrm h <;> try (first | (exfalso; omega) | exact (bx h (by assumption)).elim | exact (bx (by assumption) h).elim) | ((with_reducible refine And.intro ?_ ?_); (focus omega))) <;> try simp -dsimp -implicitDefEqProofs (maxSteps := 1000000) (disch := first | exact dis | fail) only [Jb.av, Int.toNat_natCast, hd, go_sem])
      · rw [if_pos ‹_›] at hc
        simp_all [jobE, badB, badV, ← hc]
      · rw [if_neg ‹_›] at hc
        exact ⟨none, rfl, rfl, rfl, hc⟩
    · have hd : j.frs.drop i = [] := List.drop_eq_nil_of_le (by omega)
      rw [hd] at hc
      have hr := trivial
      try simp -dsimp -implicitDefEqProofs (maxSteps := 1000000) (disch := first | exact dis | fail) only [hc_ref22_Right_b1, Jb.av, go_sem]
      repeat' ((first | (with_reducible first | refine w_if ?_ ?_ | refine w_gt ?_ ?_ | refine w_gf ?_ ?_ | refine w_io ?_ ?_ | refine w_gdt ?_ ?_ | refine w_gdf ?_ ?_ | refine w_ite ?_ ?_) <;> intro h <;> (try rw [h]) <;> replace hr := And.intro h hr <;> replace h := nrm h <;> try (first | (exfalso; omega) | exact (bx h (by assumption)).elim | exact (bx (by assumption) h).elim) | ((with_reducible refine And.intro ?_ ?_); (focus omega))) <;> try simp -dsimp -implicitDefEqProofs (maxSteps := 1000000) (disch := first | exact dis | fail) only [Jb.av, go_sem])
      simp_all [jobE, badB, badV, ← hc, badAt]
/-- The data that are gone through. -/
def sumD (fs : List Fr) : Nat → Int
  | 0 => 0
  | i + 1 => sumD fs i + min ((fs[i]?.map fun f => (f.data.length : Int)).getD 0) 5000
theorem sumD_le (fs : List Fr) : ∀ i, 0 ≤ sumD fs i ∧ sumD fs i ≤ 5000 * i
  | 0 => by simp [sumD]
  | i + 1 => by
    have := sumD_le fs i
    unfold sumD
    cases fs[i]? <;> simp <;> omega
def smallB (j : Jb) : Bool := decide ((j.frs.length : Int) ≤ 300) && decide (sumD j.frs (min j.frs.length 301) ≤ 4000) && decide (j.count ≤ 200)
theorem Small_ok (j : Jb) : PCall Try.prog f_ref22_Small [.agg j.av] (.bool (smallB j)) := by
  refine pcallI ok_ref22_Small ?_
  have hr := trivial
  try simp -dsimp -implicitDefEqProofs (maxSteps := 1000000) (disch := first | exact dis | fail) only [hc_ref22_Small, Jb.av, go_sem]
  repeat' ((first | (with_reducible first | refine w_if ?_ ?_ | refine w_gt ?_ ?_ | refine w_gf ?_ ?_ | refine w_io ?_ ?_ | refine w_gdt ?_ ?_ | refine w_gdf ?_ ?_ | refine w_ite ?_ ?_) <;> intro h <;> (try rw [h]) <;> replace hr := And.intro h hr <;> replace h := nrm h <;> try (first | (exfalso; omega) | exact (bx h (by assumption)).elim | exact (bx (by assumption) h).elim) | ((with_reducible refine And.intro ?_ ?_); (focus omega))) <;> try simp -dsimp -implicitDefEqProofs (maxSteps := 1000000) (disch := first | exact dis | fail) only [Jb.av, go_sem])
  refine hw_loop (min j.frs.length 301) (fun i ρ A => ρ = rg 6 [(1, .ptr 0 0), (3, .int .i64 (sumD j.frs i)), (4, .int .i64 i)] ∧ A = [some (.cells j.av)]) ⟨none, rfl, rfl, rfl⟩ ?_
  rintro i ρ A hi ⟨rfl, rfl⟩
  have h5 := sumD_le j.frs i
  by_cases hlt : i < min j.frs.length 301
  · have hx : j.frs[i]? = some j.frs[i] := List.getElem?_eq_getElem (by omega)
    generalize j.frs[i] = f at hx
    have hd : (rows frv j.frs).getD i [] = f.av := by simp [List.getD, rows_get, hx, frv]
    have hr := trivial
    try simp -dsimp -implicitDefEqProofs (maxSteps := 1000000) (disch := first | exact dis | fail) only [hc_ref22_Small_b1, Jb.av, Int.toNat_natCast, hd, go_sem]
    repeat' ((first | (with_reducible first | refine w_if ?_ ?_ | refine w_gt ?_ ?_ | refine w_gf ?_ ?_ | refine w_io ?_ ?_ | refine w_gdt ?_ ?_ | refine w_gdf ?_ ?_ | refine w_ite ?_ ?_) <;> intro h <;> (try rw [h]) <;> replace hr := And.intro h hr <;> replace h := nrm h <;> try (first | (exfalso; omega) | exact (bx h (by assumption)).elim | exact (bx (by assumption) h).elim) | ((with_reducible refine And.intro ?_ ?_); (focus omega))) <;> try simp -dsimp -implicitDefEqProofs (maxSteps := 1000000) (disch := first | exact dis | fail) only [Jb.av, Int.toNat_natCast, hd, go_sem])
    exact ⟨none, rfl, by simp [sumD, hx, foldRo], rfl⟩
  · obtain rfl : i = min j.frs.length 301 := by omega
    have hr := trivial
    try simp -dsimp -implicitDefEqProofs (maxSteps := 1000000) (disch := first | exact dis | fail) only [hc_ref22_Small_b1, Jb.av, go_sem]
    repeat' ((first | (with_reducible first | refine w_if ?_ ?_ | refine w_gt ?_ ?_ | refine w_gf ?_ ?_ | refine w_io ?_ ?_ | refine w_gdt ?_ ?_ | refine w_gdf ?_ ?_ | refine w_ite ?_ ?_) <;> intro h <;> (try rw [h]) <;> replace hr := And.intro h hr <;> replace h := nrm h <;> try (first | (exfalso; omega) | exact (bx h (by assumption)).elim | exact (bx (by assumption) h).elim) | ((with_reducible refine And.intro ?_ ?_); (focus omega))) <;> try simp -dsimp -implicitDefEqProofs (maxSteps := 1000000) (disch := first | exact dis | fail) only [Jb.av, go_sem])
    rfl
/-- k times further. -/
theorem far_ok (s b : Int) (k : Nat) (hs : 0 ≤ s ∧ s ≤ 1125899906842624) (hb : 0 ≤ b ∧ b ≤ 1099511627776) (hk : k ≤ 1000) : PCall Try.prog f_ref22_far [.int .i64 s, .int .i64 b, .int .i64 k] (.int .i64 (s + b * k)) := by
  refine pcallI ok_ref22_far ?_
  have hr := trivial
  try simp -dsimp -implicitDefEqProofs (maxSteps := 1000000) (disch := first | exact dis | fail) only [hc_ref22_far, go_sem]
  repeat' ((first | (with_reducible first | refine w_if ?_ ?_ | refine w_gt ?_ ?_ | refine w_gf ?_ ?_ | refine w_io ?_ ?_ | refine w_gdt ?_ ?_ | refine w_gdf ?_ ?_ | refine w_ite ?_ ?_) <;> intro h <;> (try rw [h]) <;> replace hr := And.intro h hr <;> replace h := nrm h <;> try (first | (exfalso; omega) | exact (bx h (by assumption)).elim | exact (bx (by assumption) h).elim) | ((with_reducible refine And.intro ?_ ?_); (focus omega))) <;> try simp -dsimp -implicitDefEqProofs (maxSteps := 1000000) (disch := first | exact dis | fail) only [go_sem])
  refine hw_loop k (fun i ρ A => ρ = rg 8 [(1, .int .i64 b), (2, .int .i64 k), (4, .int .i64 (s + b * i)), (5, .int .i64 i)] ∧ A = []) ⟨none, rfl, by simp [foldRo, rg]; rfl, rfl⟩ ?_
  rintro i ρ A hi ⟨rfl, rfl⟩
  have hm : ∀ n : Nat, n ≤ 1000 → 0 ≤ b * n ∧ b * n ≤ 1099511627776000 := fun n hn => by
    have h1 : 0 ≤ b * n := Int.mul_nonneg hb.1 (by omega)
    have h2 : b * n ≤ 1099511627776 * n := Int.mul_le_mul_of_nonneg_right hb.2 (by omega)
    omega
  have h1 := hm i (by omega)
  by_cases hlt : i < k
  · have h2 := hm (i + 1) (by omega)
    have e : b * ((i + 1 : Nat) : Int) = b * i + b := by rw [Int.natCast_add]; simp [Int.mul_add]
    rw [e] at h2
    have hr := trivial
    try simp -dsimp -implicitDefEqProofs (maxSteps := 1000000) (disch := first | exact dis | fail) only [hc_ref22_far_b1, go_sem]
    repeat' ((first | (with_reducible first | refine w_if ?_ ?_ | refine w_gt ?_ ?_ | refine w_gf ?_ ?_ | refine w_io ?_ ?_ | refine w_gdt ?_ ?_ | refine w_gdf ?_ ?_ | refine w_ite ?_ ?_) <;> intro h <;> (try rw [h]) <;> replace hr := And.intro h hr <;> replace h := nrm h <;> try (first | (exfalso; omega) | exact (bx h (by assumption)).elim | exact (bx (by assumption) h).elim) | ((with_reducible refine And.intro ?_ ?_); (focus omega))) <;> try simp -dsimp -implicitDefEqProofs (maxSteps := 1000000) (disch := first | exact dis | fail) only [go_sem])
    exact ⟨none, rfl, by rw [e]; simp [foldRo, rg, Int.add_assoc], rfl⟩
  · obtain rfl : i = k := by omega
    have hr := trivial
    try simp -dsimp -implicitDefEqProofs (maxSteps := 1000000) (disch := first | exact dis | fail) only [hc_ref22_far_b1, go_sem]
    repeat' ((first | (with_reducible first | refine w_if ?_ ?_ | refine w_gt ?_ ?_ | refine w_gf ?_ ?_ | refine w_io ?_ ?_ | refine w_gdt ?_ ?_ | refine w_gdf ?_ ?_ | refine w_ite ?_ ?_) <;> intro h <;> (try rw [h]) <;> replace hr := And.intro h hr <;> replace h := nrm h <;> try (first | (exfalso; omega) | exact (bx h (by assumption)).elim | exact (bx (by assumption) h).elim) | ((with_reducible refine And.intro ?_ ?_); (focus omega))) <;> try simp -dsimp -implicitDefEqProofs (maxSteps := 1000000) (disch := first | exact dis | fail) only [go_sem])
end Go.Proofs.Ytapoilcpollmpaa
end

/- cyc: a job that was begun. -/
section
namespace Go.Proofs.Ytapoilcpollmpaa
open Go.SB
attribute [local irreducible] HW HSS HAS HRQ HEO HOP HCK
set_option maxRecDepth 100000
set_option maxHeartbeats 4000000
set_option linter.unusedSimpArgs false
set_option pp.deepTerms.threshold 6

/-- How many come at first. -/
def Jb.n (j : Jb) : Int := if 0 < j.first then j.count else 0
/-- The k-th time; -1: there is none. -/
def tmAt (j : Jb) (start : Int) (k : Nat) : Int := if (k : Int) ≤ j.n then start + j.first * k else if j.second = 0 then -1 else start + j.first * j.n + j.second * (k - j.n)
structure JOk (j : Jb) : Prop where
  c : 0 ≤ j.count ∧ j.count ≤ 200
  f : 0 ≤ j.first ∧ j.first ≤ 1099511627776
  s : 0 ≤ j.second ∧ j.second ≤ 1099511627776
  l : 0 < j.frs.length ∧ j.frs.length ≤ 256
theorem JOk.n {j : Jb} (h : JOk j) : 0 ≤ j.n ∧ j.n ≤ 200 := by
  have := h.c
  unfold Jb.n; split <;> omega
theorem mul_le40 {a : Int} {n : Int} (ha : 0 ≤ a ∧ a ≤ 1099511627776) (hn : 0 ≤ n ∧ n ≤ 1000) : 0 ≤ a * n ∧ a * n ≤ 1099511627776000 := by
  have h1 : 0 ≤ a * n := Int.mul_nonneg ha.1 hn.1
  have h2 : a * n ≤ 1099511627776 * n := Int.mul_le_mul_of_nonneg_right ha.2 hn.1
  omega
theorem At_ok (j : Jb) (hj : JOk j) (start : Int) (hs : 0 ≤ start ∧ start ≤ 1099511627776) (k : Nat) (hk : k ≤ 1000) : PCall Try.prog f_ref22_At [.agg j.av, .int .i64 start, .int .i64 k] (.int .i64 (tmAt j start k)) := by
  refine pcallI ok_ref22_At ?_
  have hc := hj.c
  have hf := hj.f
  have hsd := hj.s
  have hn := hj.n
  obtain ⟨n, hnn⟩ : ∃ n : Nat, j.n = n := ⟨j.n.toNat, by omega⟩
  have m1 := mul_le40 hf (n := (n : Int)) (by omega)
  have e1 : (if 0 < j.first then j.count else 0) = (n : Int) := hnn
  by_cases h1 : 0 < j.first
  · have hcn : j.count = n := by rw [if_pos h1] at e1; exact e1
    by_cases h2 : k ≤ n
    · have hr := trivial
      try simp -dsimp -implicitDefEqProofs (maxSteps := 1000000) (disch := first | exact dis | fail) only [hc_ref22_At, Jb.av, h1, hcn, go_sem]
      repeat' ((first | (with_reducible refine PCall.aci (far_ok start j.first k (by omega) hf hk) ?_) | (with_reducible first | refine w_if ?_ ?_ | refine w_gt ?_ ?_ | refine w_gf ?_ ?_ | refine w_io ?_ ?_ | refine w_gdt ?_ ?_ | refine w_gdf ?_ ?_ | refine w_ite ?_ ?_) <;> intro h <;> (try rw [h]) <;> replace hr := And.intro h hr <;> replace h := nrm h <;> try (first | (exfalso; omega) | exact (bx h (by assumption)).elim | exact (bx (by assumption) h).elim) | ((with_reducible refine And.intro ?_ ?_); (focus omega))) <;> try simp -dsimp -implicitDefEqProofs (maxSteps := 1000000) (disch := first | exact dis | fail) only [Jb.av, h1, hcn, go_sem])
      simp only [tmAt, hnn]; rw [if_pos (by omega)]
    · obtain ⟨m, hm⟩ : ∃ m : Nat, k = n + m := ⟨k - n, by omega⟩
      have hmn : ((n + m : Nat) : Int) - n = m := by omega
      subst hm
      by_cases h0 : n = 0
      · subst h0
        have hr := trivial
        try simp -dsimp -implicitDefEqProofs (maxSteps := 1000000) (disch := first | exact dis | fail) only [hc_ref22_At, Jb.av, h1, hcn, hmn, Int.sub_zero, go_sem]
        repeat' ((first | (with_reducible refine PCall.aci (far_ok start j.first 0 (by omega) hf (by omega)) ?_) | (with_reducible refine PCall.aci (far_ok start j.second m (by omega) hsd (by omega)) ?_) | (with_reducible first | refine w_if ?_ ?_ | refine w_gt ?_ ?_ | refine w_gf ?_ ?_ | refine w_io ?_ ?_ | refine w_gdt ?_ ?_ | refine w_gdf ?_ ?_ | refine w_ite ?_ ?_) <;> intro h <;> (try rw [h]) <;> replace hr := And.intro h hr <;> replace h := nrm h <;> try (first | (exfalso; omega) | exact (bx h (by assumption)).elim | exact (bx (by assumption) h).elim) | ((with_reducible refine And.intro ?_ ?_); (focus omega))) <;> try simp -dsimp -implicitDefEqProofs (maxSteps := 1000000) (disch := first | exact dis | fail) only [Jb.av, h1, hcn, hmn, Int.sub_zero, go_sem])
        all_goals simp only [tmAt, hnn]; rw [if_neg (by omega)]
        all_goals (first | (rw [if_pos (by omega)]; done) | (simp_all; done) | skip)
      · have hr := trivial
        try simp -dsimp -implicitDefEqProofs (maxSteps := 1000000) (disch := first | exact dis | fail) only [hc_ref22_At, Jb.av, h1, hcn, hmn, go_sem]
        repeat' ((first | (with_reducible refine PCall.aci (far_ok start j.first n (by omega) hf (by omega)) ?_) | (with_reducible refine PCall.aci (far_ok (start + j.first * n) j.second m (by omega) hsd (by omega)) ?_) | (with_reducible first | refine w_if ?_ ?_ | refine w_gt ?_ ?_ | refine w_gf ?_ ?_ | refine w_io ?_ ?_ | refine w_gdt ?_ ?_ | refine w_gdf ?_ ?_ | refine w_ite ?_ ?_) <;> intro h <;> (try rw [h]) <;> replace hr := And.intro h hr <;> replace h := nrm h <;> try (first | (exfalso; omega) | exact (bx h (by assumption)).elim | exact (bx (by assumption) h).elim) | ((with_reducible refine And.intro ?_ ?_); (focus omega))) <;> try simp -dsimp -implicitDefEqProofs (maxSteps := 1000000) (disch := first | exact dis | fail) only [Jb.av, h1, hcn, hmn, go_sem])
        all_goals simp only [tmAt, hnn]; rw [if_neg (by omega)]
        all_goals (first | (rw [if_pos (by omega)]; done) | (simp_all; done) | skip)
  · have hcn : n = 0 := by rw [if_neg h1] at e1; omega
    subst hcn
    by_cases h2 : k = 0
    · subst h2
      have hr := trivial
      try simp -dsimp -implicitDefEqProofs (maxSteps := 1000000) (disch := first | exact dis | fail) only [hc_ref22_At, Jb.av, h1, go_sem]
      repeat' ((first | (with_reducible refine PCall.aci (far_ok start j.first 0 (by omega) hf (by omega)) ?_) | (with_reducible first | refine w_if ?_ ?_ | refine w_gt ?_ ?_ | refine w_gf ?_ ?_ | refine w_io ?_ ?_ | refine w_gdt ?_ ?_ | refine w_gdf ?_ ?_ | refine w_ite ?_ ?_) <;> intro h <;> (try rw [h]) <;> replace hr := And.intro h hr <;> replace h := nrm h <;> try (first | (exfalso; omega) | exact (bx h (by assumption)).elim | exact (bx (by assumption) h).elim) | ((with_reducible refine And.intro ?_ ?_); (focus omega))) <;> try simp -dsimp -implicitDefEqProofs (maxSteps := 1000000) (disch := first | exact dis | fail) only [Jb.av, h1, go_sem])
      simp [tmAt, hnn]
    · have hr := trivial
      try simp -dsimp -implicitDefEqProofs (maxSteps := 1000000) (disch := first | exact dis | fail) only [hc_ref22_At, Jb.av, h1, Int.sub_zero, go_sem]
      repeat' ((first | (with_reducible refine PCall.aci (far_ok start j.first 0 (by omega) hf (by omega)) ?_) | (with_reducible refine PCall.aci (far_ok start j.second k (by omega) hsd (by omega)) ?_) | (with_reducible first | refine w_if ?_ ?_ | refine w_gt ?_ ?_ | refine w_gf ?_ ?_ | refine w_io ?_ ?_ | refine w_gdt ?_ ?_ | refine w_gdf ?_ ?_ | refine w_ite ?_ ?_) <;> intro h <;> (try rw [h]) <;> replace hr := And.intro h hr <;> replace h := nrm h <;> try (first | (exfalso; omega) | exact (bx h (by assumption)).elim | exact (bx (by assumption) h).elim) | ((with_reducible refine And.intro ?_ ?_); (focus omega))) <;> try simp -dsimp -implicitDefEqProofs (maxSteps := 1000000) (disch := first | exact dis | fail) only [Jb.av, h1, Int.sub_zero, go_sem])
      all_goals simp only [tmAt, hnn]; rw [if_neg (by omega)]
      all_goals (first | (rw [if_pos (by omega)]; done) | (simp_all; done) | skip)
instance : RowF frv 4 := ⟨fun _ => ⟨rfl, rfl⟩⟩
theorem Clone_ok (fs : List Fr) (hn : 0 < fs.length ∧ fs.length ≤ 1000) : ACall Try.prog f_slices_Clone_of_Frame [.ps 4 (rows frv fs)] [] fun r A => r = .sl 0 4 0 fs.length false ∧ A = [some (.arr (rows frv fs))] := by
  refine acallH ok_slices_Clone_of_Frame ?_
  have hr := trivial
  try simp -dsimp -implicitDefEqProofs (maxSteps := 1000000) (disch := first | exact dis | fail) only [hc_slices_Clone_of_Frame, eqv_slice, go_sem]
  repeat' ((first | (with_reducible first | refine w_if ?_ ?_ | refine w_gt ?_ ?_ | refine w_gf ?_ ?_ | refine w_io ?_ ?_ | refine w_gdt ?_ ?_ | refine w_gdf ?_ ?_ | refine w_ite ?_ ?_) <;> intro h <;> (try rw [h]) <;> replace hr := And.intro h hr <;> replace h := nrm h <;> try (first | (exfalso; omega) | exact (bx h (by assumption)).elim | exact (bx (by assumption) h).elim) | ((with_reducible refine And.intro ?_ ?_); (focus omega))) <;> try simp -dsimp -implicitDefEqProofs (maxSteps := 1000000) (disch := first | exact dis | fail) only [eqv_slice, go_sem])
  exact ⟨some [1], rfl, rfl, by simp only [foldA_eq, go_sem]⟩
theorem turns_ok (fs : List Fr) : ACall Try.prog f_cyc_turns [.sl 0 4 0 fs.length false] [some (.arr (rows frv fs))] fun r A => r = .fn f_cyc_turns_1 [] [.ptr 1 0, .ptr 2 0] ∧ A = [some (.arr (rows frv fs)), some (.cells [.sl 0 4 0 fs.length false]), some (.cells [.int .i64 0])] := by
  refine acallH ok_cyc_turns ?_
  have hr := trivial
  try simp -dsimp -implicitDefEqProofs (maxSteps := 1000000) (disch := first | exact dis | fail) only [hc_cyc_turns, go_sem]
  repeat' ((first | (with_reducible first | refine w_if ?_ ?_ | refine w_gt ?_ ?_ | refine w_gf ?_ ?_ | refine w_io ?_ ?_ | refine w_gdt ?_ ?_ | refine w_gdf ?_ ?_ | refine w_ite ?_ ?_) <;> intro h <;> (try rw [h]) <;> replace hr := And.intro h hr <;> replace h := nrm h <;> try (first | (exfalso; omega) | exact (bx h (by assumption)).elim | exact (bx (by assumption) h).elim) | ((with_reducible refine And.intro ?_ ?_); (focus omega))) <;> try simp -dsimp -implicitDefEqProofs (maxSteps := 1000000) (disch := first | exact dis | fail) only [go_sem])
  exact ⟨none, rfl, rfl, rfl⟩
/-- A job that was begun. -/
structure Cy where
  j : Jb
  left : Int
  due : Int
  set : Bool
  at' : Int
  beg : Bool
def CH (c : Cy) : AHeap := [some (.cells [.int .i64 c.j.id, .int .i64 c.j.count, .int .i64 c.j.first, .int .i64 c.j.second, .sl 1 4 0 c.j.frs.length false, .bool c.j.now, .bool c.j.tell, .fn f_cyc_turns_1 [] [.ptr 2 0, .ptr 3 0], .bool c.beg, .int .i64 c.left, .int .i64 c.due, .bool c.set]),
  some (.arr (rows frv c.j.frs)), some (.cells [.sl 1 4 0 c.j.frs.length false]), some (.cells [.int .i64 c.at'])]
def planC (c : Cy) (t : Int) : Cy := { c with due := t + (if 0 < c.left then c.j.first else c.j.second), set := decide (0 < (if 0 < c.left then c.j.first else c.j.second)) }
theorem plan_ok (c : Cy) (hj : JOk c.j) (t : Int) (ht : 0 ≤ t ∧ t ≤ 2305843009213693952) : ACall Try.prog f_cyc_Cyc_plan [.ptr 0 0, .int .i64 t] (CH c) fun r A => r = .tup [] ∧ A = CH (planC c t) := by
  refine acallH ok_cyc_Cyc_plan ?_
  have hf := hj.f
  have hs := hj.s
  have hr := trivial
  try simp -dsimp -implicitDefEqProofs (maxSteps := 1000000) (disch := first | exact dis | fail) only [hc_cyc_Cyc_plan, CH, go_sem]
  repeat' ((first | (with_reducible first | refine w_if ?_ ?_ | refine w_gt ?_ ?_ | refine w_gf ?_ ?_ | refine w_io ?_ ?_ | refine w_gdt ?_ ?_ | refine w_gdf ?_ ?_ | refine w_ite ?_ ?_) <;> intro h <;> (try rw [h]) <;> replace hr := And.intro h hr <;> replace h := nrm h <;> try (first | (exfalso; omega) | exact (bx h (by assumption)).elim | exact (bx (by assumption) h).elim) | ((with_reducible refine And.intro ?_ ?_); (focus omega))) <;> try simp -dsimp -implicitDefEqProofs (maxSteps := 1000000) (disch := first | exact dis | fail) only [CH, go_sem])
  all_goals refine ⟨none, rfl, rfl, ?_⟩
  · simp_all [CH, planC, foldAn]
  · have hc : ¬ 0 < c.left := by omega
    simp [CH, planC, foldAn, hc]
def Cy.fr (c : Cy) : Fr := c.j.frs.getD c.at'.toNat ⟨0, 0, 0, []⟩
def turnC (c : Cy) : Cy := { c with at' := (c.at' + 1).tmod c.j.frs.length }
theorem turns1_ok (c : Cy) (hj : JOk c.j) (ha : 0 ≤ c.at' ∧ c.at' < c.j.frs.length) : ACall Try.prog f_cyc_turns_1 [.ptr 2 0, .ptr 3 0] (CH c) fun r A => r = .agg c.fr.av ∧ A = CH (turnC c) := by
  refine acallH ok_cyc_turns_1 ?_
  have hl := hj.l
  have hx : c.j.frs[c.at'.toNat]? = some c.fr := by
    rw [Cy.fr, List.getD, List.getElem?_eq_getElem (by omega)]; rfl
  generalize c.fr = f at hx
  have hr := trivial
  try simp -dsimp -implicitDefEqProofs (maxSteps := 1000000) (disch := first | exact dis | fail) only [hc_cyc_turns_1, CH, rows_get, hx, frv_eq, Fr.av, ne_eq, go_sem]
  repeat' ((first | (with_reducible first | refine w_if ?_ ?_ | refine w_gt ?_ ?_ | refine w_gf ?_ ?_ | refine w_io ?_ ?_ | refine w_gdt ?_ ?_ | refine w_gdf ?_ ?_ | refine w_ite ?_ ?_) <;> intro h <;> (try rw [h]) <;> replace hr := And.intro h hr <;> replace h := nrm h <;> try (first | (exfalso; omega) | exact (bx h (by assumption)).elim | exact (bx (by assumption) h).elim) | ((with_reducible refine And.intro ?_ ?_); (focus omega))) <;> try simp -dsimp -implicitDefEqProofs (maxSteps := 1000000) (disch := first | exact dis | fail) only [CH, rows_get, hx, frv_eq, Fr.av, ne_eq, go_sem])
  exact ⟨some [], rfl, rfl, by simp only [foldA_eq, go_sem, turnC]⟩
def newC (j : Jb) (start : Int) : Cy := planC ⟨j, j.n, 0, false, 0, false⟩ start
theorem New_ok (j : Jb) (hj : JOk j) (he : jobE j = 0) (start : Int) (hs : 0 ≤ start ∧ start ≤ 1099511627776) : ACall Try.prog f_cyc_New [.agg j.av, .int .i64 start] [] fun r A => r = .tup [.ptr 0 0, .int .i64 0] ∧ A = CH (newC j start) := by
  refine acallH ok_cyc_New ?_
  have hl := hj.l
  have hct : cntB start = true := by simp [cntB, hs]
  have hr := trivial
  try simp -dsimp -implicitDefEqProofs (maxSteps := 1000000) (disch := first | exact dis | fail) only [hc_cyc_New, Jb.av, hct, he, CH, go_sem]
  repeat' ((first | (with_reducible refine PCall.aci (count_ok start) ?_) | (with_reducible refine PCall.aci (JRight_ok j) ?_) | ((with_reducible refine ACall.atE (Clone_ok j.frs ⟨hl.1, by omega⟩) [] ?_ ?_ ?_ ?_ ?_); (focus decide); (focus rfl); (focus (simp -dsimp -implicitDefEqProofs (maxSteps := 1000000) (disch := first | exact dis | fail) only [standsL, Jb.av, hct, he, CH, go_sem]; done)); (focus (first | rfl | (simp -dsimp -implicitDefEqProofs (maxSteps := 1000000) (disch := first | exact dis | fail) only [Jb.av, hct, he, CH, go_sem]; done)))) | ((with_reducible refine ACall.atE (turns_ok j.frs) [1] ?_ ?_ ?_ ?_ ?_); (focus decide); (focus rfl); (focus (simp -dsimp -implicitDefEqProofs (maxSteps := 1000000) (disch := first | exact dis | fail) only [standsL, Jb.av, hct, he, CH, go_sem]; done)); (focus (first | rfl | (simp -dsimp -implicitDefEqProofs (maxSteps := 1000000) (disch := first | exact dis | fail) only [Jb.av, hct, he, CH, go_sem]; done)))) | ((with_reducible refine ACall.atE (plan_ok ⟨j, j.count, 0, false, 0, false⟩ hj start (by omega)) [2, 1, 3, 4] ?_ ?_ ?_ ?_ ?_); (focus decide); (focus rfl); (focus (simp -dsimp -implicitDefEqProofs (maxSteps := 1000000) (disch := first | exact dis | fail) only [standsL, Jb.av, hct, he, CH, go_sem]; done)); (focus (first | rfl | (simp -dsimp -implicitDefEqProofs (maxSteps := 1000000) (disch := first | exact dis | fail) only [Jb.av, hct, he, CH, go_sem]; done)))) | ((with_reducible refine ACall.atE (plan_ok ⟨j, 0, 0, false, 0, false⟩ hj start (by omega)) [2, 1, 3, 4] ?_ ?_ ?_ ?_ ?_); (focus decide); (focus rfl); (focus (simp -dsimp -implicitDefEqProofs (maxSteps := 1000000) (disch := first | exact dis | fail) only [standsL, Jb.av, hct, he, CH, go_sem]; done)); (focus (first | rfl | (simp -dsimp -implicitDefEqProofs (maxSteps := 1000000) (disch := first | exact dis | fail) only [Jb.av, hct, he, CH, go_sem]; done)))) | (with_reducible first | refine w_if ?_ ?_ | refine w_gt ?_ ?_ | refine w_gf ?_ ?_ | refine w_io ?_ ?_ | refine w_gdt ?_ ?_ | refine w_gdf ?_ ?_ | refine w_ite ?_ ?_) <;> intro h <;> (try rw [h]) <;> replace hr := And.intro h hr <;> replace h := nrm h <;> try (first | (exfalso; omega) | exact (bx h (by assumption)).elim | exact (bx (by assumption) h).elim) | ((with_reducible refine And.intro ?_ ?_); (focus omega))) <;> try simp -dsimp -implicitDefEqProofs (maxSteps := 1000000) (disch := first | exact dis | fail) only [Jb.av, hct, he, CH, go_sem])
  · have e : j.n = j.count := if_pos ‹_›
    refine ⟨some [2, 1, 3, 4], rfl, rfl, ?_⟩
    simp only [foldA_eq, newC, e, planC, CH, go_sem]
  · have e : j.n = 0 := if_neg ‹_›
    refine ⟨some [2, 1, 3, 4], rfl, rfl, ?_⟩
    simp only [foldA_eq, newC, e, planC, CH, go_sem]
theorem NewE_ok (j : Jb) (start : Int) (h : cntB start = false ∨ jobE j ≠ 0) : PCall Try.prog f_cyc_New [.agg j.av, .int .i64 start] (.tup [.nilp, .int .i64 (if cntB start then jobE j else 2)]) := by
  refine pcallI ok_cyc_New ?_
  by_cases hct : cntB start = true
  · have he : jobE j ≠ 0 := by simpa [hct] using h
    have hr := trivial
    try simp -dsimp -implicitDefEqProofs (maxSteps := 1000000) (disch := first | exact dis | fail) only [hc_cyc_New, Jb.av, hct, he, ne_eq, go_sem]
    repeat' ((first | (with_reducible refine PCall.aci (count_ok start) ?_) | (with_reducible refine PCall.aci (JRight_ok j) ?_) | (with_reducible first | refine w_if ?_ ?_ | refine w_gt ?_ ?_ | refine w_gf ?_ ?_ | refine w_io ?_ ?_ | refine w_gdt ?_ ?_ | refine w_gdf ?_ ?_ | refine w_ite ?_ ?_) <;> intro h <;> (try rw [h]) <;> replace hr := And.intro h hr <;> replace h := nrm h <;> try (first | (exfalso; omega) | exact (bx h (by assumption)).elim | exact (bx (by assumption) h).elim) | ((with_reducible refine And.intro ?_ ?_); (focus omega))) <;> try simp -dsimp -implicitDefEqProofs (maxSteps := 1000000) (disch := first | exact dis | fail) only [Jb.av, hct, he, ne_eq, go_sem])
  · have hct : cntB start = false := by simpa using hct
    have hr := trivial
    try simp -dsimp -implicitDefEqProofs (maxSteps := 1000000) (disch := first | exact dis | fail) only [hc_cyc_New, Jb.av, hct, Bool.false_eq_true, go_sem]
    repeat' ((first | (with_reducible refine PCall.aci (count_ok start) ?_) | (with_reducible first | refine w_if ?_ ?_ | refine w_gt ?_ ?_ | refine w_gf ?_ ?_ | refine w_io ?_ ?_ | refine w_gdt ?_ ?_ | refine w_gdf ?_ ?_ | refine w_ite ?_ ?_) <;> intro h <;> (try rw [h]) <;> replace hr := And.intro h hr <;> replace h := nrm h <;> try (first | (exfalso; omega) | exact (bx h (by assumption)).elim | exact (bx (by assumption) h).elim) | ((with_reducible refine And.intro ?_ ?_); (focus omega))) <;> try simp -dsimp -implicitDefEqProofs (maxSteps := 1000000) (disch := first | exact dis | fail) only [Jb.av, hct, Bool.false_eq_true, go_sem])
theorem rows_frv4 {fs : List Fr} : (rows frv fs).length = fs.length := rows_length
def Cy.Ok (c : Cy) : Prop := JOk c.j ∧ (0 ≤ c.left ∧ c.left ≤ 200) ∧ 0 ≤ c.at' ∧ c.at' < c.j.frs.length
/-- What is sent at once. -/
def Cy.begB (c : Cy) : Bool := !c.beg && c.j.now
def Cy.begC (c : Cy) : Cy := if c.begB then turnC { c with beg := true } else c
theorem Begin_ok (c : Cy) (h : c.Ok) : ACall Try.prog f_cyc_Cyc_Begin [.ptr 0 0] (CH c) fun r A => r = .tup [.agg (if c.begB then c.fr else ⟨0, 0, 0, []⟩).av, .bool c.begB] ∧ A = CH c.begC := by
  refine acallH ok_cyc_Cyc_Begin ?_
  rw [show (CH c).length = 4 from rfl]
  have h1 := turns1_ok { c with beg := true } h.1 h.2.2
  have hf : Cy.fr { c with beg := true } = c.fr := rfl
  rw [hf] at h1
  unfold turnC at h1
  cases hb : c.beg
  · cases hn : c.j.now
    · have e : c.begB = false := by simp [Cy.begB, hb, hn]
      have e2 : c.begC = c := by simp [Cy.begC, e]
      rw [e, e2]
      have hr := trivial
      try simp -dsimp -implicitDefEqProofs (maxSteps := 1000000) (disch := first | exact dis | fail) only [hc_cyc_Cyc_Begin, CH, hb, hn, go_sem]
      repeat' ((first | (with_reducible first | refine w_if ?_ ?_ | refine w_gt ?_ ?_ | refine w_gf ?_ ?_ | refine w_io ?_ ?_ | refine w_gdt ?_ ?_ | refine w_gdf ?_ ?_ | refine w_ite ?_ ?_) <;> intro h <;> (try rw [h]) <;> replace hr := And.intro h hr <;> replace h := nrm h <;> try (first | (exfalso; omega) | exact (bx h (by assumption)).elim | exact (bx (by assumption) h).elim) | ((with_reducible refine And.intro ?_ ?_); (focus omega))) <;> try simp -dsimp -implicitDefEqProofs (maxSteps := 1000000) (disch := first | exact dis | fail) only [CH, hb, hn, go_sem])
      exact ⟨some [], rfl, rfl, by simp only [foldA_eq, go_sem, CH, hb, hn]⟩
    · have e : c.begB = true := by simp [Cy.begB, hb, hn]
      have e2 : c.begC = turnC { c with beg := true } := by simp [Cy.begC, e]
      rw [e, e2]
      unfold turnC
      have hr := trivial
      try simp -dsimp -implicitDefEqProofs (maxSteps := 1000000) (disch := first | exact dis | fail) only [hc_cyc_Cyc_Begin, CH, hb, hn, go_sem]
      repeat' ((first | ((with_reducible refine ACall.atE (h1) [0, 1, 2, 3] ?_ ?_ ?_ ?_ ?_); (focus decide); (focus rfl); (focus (simp -dsimp -implicitDefEqProofs (maxSteps := 1000000) (disch := first | exact dis | fail) only [standsL, CH, hb, hn, go_sem]; done)); (focus (first | rfl | (simp -dsimp -implicitDefEqProofs (maxSteps := 1000000) (disch := first | exact dis | fail) only [CH, hb, hn, go_sem]; done)))) | (with_reducible first | refine w_if ?_ ?_ | refine w_gt ?_ ?_ | refine w_gf ?_ ?_ | refine w_io ?_ ?_ | refine w_gdt ?_ ?_ | refine w_gdf ?_ ?_ | refine w_ite ?_ ?_) <;> intro h <;> (try rw [h]) <;> replace hr := And.intro h hr <;> replace h := nrm h <;> try (first | (exfalso; omega) | exact (bx h (by assumption)).elim | exact (bx (by assumption) h).elim) | ((with_reducible refine And.intro ?_ ?_); (focus omega))) <;> try simp -dsimp -implicitDefEqProofs (maxSteps := 1000000) (disch := first | exact dis | fail) only [CH, hb, hn, go_sem])
      exact ⟨some [], rfl, rfl, by simp only [foldA_eq, go_sem, CH, hb, hn]⟩
  · have e : c.begB = false := by simp [Cy.begB, hb]
    have e2 : c.begC = c := by simp [Cy.begC, e]
    rw [e, e2]
    have hr := trivial
    try simp -dsimp -implicitDefEqProofs (maxSteps := 1000000) (disch := first | exact dis | fail) only [hc_cyc_Cyc_Begin, CH, hb, go_sem]
    repeat' ((first | (with_reducible first | refine w_if ?_ ?_ | refine w_gt ?_ ?_ | refine w_gf ?_ ?_ | refine w_io ?_ ?_ | refine w_gdt ?_ ?_ | refine w_gdf ?_ ?_ | refine w_ite ?_ ?_) <;> intro h <;> (try rw [h]) <;> replace hr := And.intro h hr <;> replace h := nrm h <;> try (first | (exfalso; omega) | exact (bx h (by assumption)).elim | exact (bx (by assumption) h).elim) | ((with_reducible refine And.intro ?_ ?_); (focus omega))) <;> try simp -dsimp -implicitDefEqProofs (maxSteps := 1000000) (disch := first | exact dis | fail) only [CH, hb, go_sem])
    exact ⟨some [], rfl, rfl, by simp only [foldA_eq, go_sem, CH, hb]⟩
/-- What is due is done. -/
def Cy.dueB (c : Cy) (now : Int) : Bool := c.set && decide (c.due ≤ now)
def Cy.lessC (c : Cy) : Cy := { c with left := if 0 < c.left then c.left - 1 else c.left }
def Cy.overB (c : Cy) : Bool := decide (0 < c.left) && (decide (c.left = 1) && c.j.tell)
def Cy.fire (c : Cy) (now : Int) : Cy := turnC (planC c.lessC (min now 2305843009213693952))
def Cy.tick (c : Cy) (now : Int) : Cy := if c.dueB now then c.fire now else c
def Cy.shot (c : Cy) (now : Int) : List AV := if c.dueB now then c.fr.av ++ [.bool true, .bool c.overB] else [.int .i64 0, .int .i64 0, .int .i64 0, .str [], .bool false, .bool false]
theorem Tick_ok (c : Cy) (h : c.Ok) (now : Int) (hw : 0 ≤ now) : ACall Try.prog f_cyc_Cyc_Tick [.ptr 0 0, .int .i64 now] (CH c) fun r A => r = .agg (c.shot now) ∧ A = CH (c.tick now) := by
  refine acallH ok_cyc_Cyc_Tick ?_
  rw [show (CH c).length = 4 from rfl]
  obtain ⟨hj, hl, ha⟩ := h
  by_cases hd : c.dueB now = true
  · have hset : c.set = true := by unfold Cy.dueB at hd; simp at hd; exact hd.1
    have hle : ¬ now < c.due := by unfold Cy.dueB at hd; simp at hd; omega
    have hp := plan_ok c.lessC hj (min now 2305843009213693952) (by omega)
    have ht := turns1_ok (planC c.lessC (min now 2305843009213693952)) hj ha
    have e1 : c.tick now = c.fire now := by rw [Cy.tick, if_pos hd]
    have e2 : c.shot now = c.fr.av ++ [.bool true, .bool c.overB] := by rw [Cy.shot, if_pos hd]
    have e3 : (planC c.lessC (min now 2305843009213693952)).fr = c.fr := rfl
    rw [e1, e2]
    rw [e3] at ht
    unfold Cy.fire
    unfold planC at hp ht ⊢
    unfold turnC at ht ⊢
    unfold Cy.lessC at hp ht ⊢
    unfold Cy.overB
    generalize c.fr = f at ht ⊢
    by_cases h0 : 0 < c.left
    · simp only [if_pos h0] at hp ht ⊢
      have hr := trivial
      try simp -dsimp -implicitDefEqProofs (maxSteps := 1000000) (disch := first | exact dis | fail) only [hc_cyc_Cyc_Tick, CH, hset, hle, h0, go_sem]
      repeat' ((first | ((with_reducible refine ACall.atE (hp) [0, 1, 2, 3] ?_ ?_ ?_ ?_ ?_); (focus decide); (focus rfl); (focus (simp -dsimp -implicitDefEqProofs (maxSteps := 1000000) (disch := first | exact dis | fail) only [standsL, CH, hset, hle, h0, go_sem]; done)); (focus (first | rfl | (simp -dsimp -implicitDefEqProofs (maxSteps := 1000000) (disch := first | exact dis | fail) only [CH, hset, hle, h0, go_sem]; done)))) | ((with_reducible refine ACall.atE (ht) [0, 1, 2, 3] ?_ ?_ ?_ ?_ ?_); (focus decide); (focus rfl); (focus (simp -dsimp -implicitDefEqProofs (maxSteps := 1000000) (disch := first | exact dis | fail) only [standsL, CH, hset, hle, h0, go_sem]; done)); (focus (first | rfl | (simp -dsimp -implicitDefEqProofs (maxSteps := 1000000) (disch := first | exact dis | fail) only [CH, hset, hle, h0, go_sem]; done)))) | (with_reducible first | refine w_if ?_ ?_ | refine w_gt ?_ ?_ | refine w_gf ?_ ?_ | refine w_io ?_ ?_ | refine w_gdt ?_ ?_ | refine w_gdf ?_ ?_ | refine w_ite ?_ ?_) <;> intro h <;> (try rw [h]) <;> replace hr := And.intro h hr <;> replace h := nrm h <;> try (first | (exfalso; omega) | exact (bx h (by assumption)).elim | exact (bx (by assumption) h).elim) | ((with_reducible refine And.intro ?_ ?_); (focus omega))) <;> try simp -dsimp -implicitDefEqProofs (maxSteps := 1000000) (disch := first | exact dis | fail) only [CH, hset, hle, h0, go_sem])
      exact ⟨some [], rfl, by rw [show decide (c.left = 1) = decide (c.left - 1 = 0) from decide_eq_decide.2 (by omega)]; rfl, by simp only [foldA_eq, go_sem, CH]⟩
    · simp only [if_neg h0] at hp ht ⊢
      have hr := trivial
      try simp -dsimp -implicitDefEqProofs (maxSteps := 1000000) (disch := first | exact dis | fail) only [hc_cyc_Cyc_Tick, CH, hset, hle, h0, go_sem]
      repeat' ((first | ((with_reducible refine ACall.atE (hp) [0, 1, 2, 3] ?_ ?_ ?_ ?_ ?_); (focus decide); (focus rfl); (focus (simp -dsimp -implicitDefEqProofs (maxSteps := 1000000) (disch := first | exact dis | fail) only [standsL, CH, hset, hle, h0, go_sem]; done)); (focus (first | rfl | (simp -dsimp -implicitDefEqProofs (maxSteps := 1000000) (disch := first | exact dis | fail) only [CH, hset, hle, h0, go_sem]; done)))) | ((with_reducible refine ACall.atE (ht) [0, 1, 2, 3] ?_ ?_ ?_ ?_ ?_); (focus decide); (focus rfl); (focus (simp -dsimp -implicitDefEqProofs (maxSteps := 1000000) (disch := first | exact dis | fail) only [standsL, CH, hset, hle, h0, go_sem]; done)); (focus (first | rfl | (simp -dsimp -implicitDefEqProofs (maxSteps := 1000000) (disch := first | exact dis | fail) only [CH, hset, hle, h0, go_sem]; done)))) | (with_reducible first | refine w_if ?_ ?_ | refine w_gt ?_ ?_ | refine w_gf ?_ ?_ | refine w_io ?_ ?_ | refine w_gdt ?_ ?_ | refine w_gdf ?_ ?_ | refine w_ite ?_ ?_) <;> intro h <;> (try rw [h]) <;> replace hr := And.intro h hr <;> replace h := nrm h <;> try (first | (exfalso; omega) | exact (bx h (by assumption)).elim | exact (bx (by assumption) h).elim) | ((with_reducible refine And.intro ?_ ?_); (focus omega))) <;> try simp -dsimp -implicitDefEqProofs (maxSteps := 1000000) (disch := first | exact dis | fail) only [CH, hset, hle, h0, go_sem])
      exact ⟨some [], rfl, rfl, by simp only [foldA_eq, go_sem, CH]⟩
  · have hd : c.dueB now = false := by simpa using hd
    have e1 : c.tick now = c := by simp [Cy.tick, hd]
    have e2 : c.shot now = [.int .i64 0, .int .i64 0, .int .i64 0, .str [], .bool false, .bool false] := by simp [Cy.shot, hd]
    rw [e1, e2]
    cases hset : c.set
    · have hr := trivial
      try simp -dsimp -implicitDefEqProofs (maxSteps := 1000000) (disch := first | exact dis | fail) only [hc_cyc_Cyc_Tick, CH, hset, go_sem]
      repeat' ((first | (with_reducible first | refine w_if ?_ ?_ | refine w_gt ?_ ?_ | refine w_gf ?_ ?_ | refine w_io ?_ ?_ | refine w_gdt ?_ ?_ | refine w_gdf ?_ ?_ | refine w_ite ?_ ?_) <;> intro h <;> (try rw [h]) <;> replace hr := And.intro h hr <;> replace h := nrm h <;> try (first | (exfalso; omega) | exact (bx h (by assumption)).elim | exact (bx (by assumption) h).elim) | ((with_reducible refine And.intro ?_ ?_); (focus omega))) <;> try simp -dsimp -implicitDefEqProofs (maxSteps := 1000000) (disch := first | exact dis | fail) only [CH, hset, go_sem])
      exact ⟨some [], rfl, rfl, by simp only [foldA_eq, go_sem, CH, hset]⟩
    · have hlt : now < c.due := by unfold Cy.dueB at hd; simp [hset] at hd; exact hd
      have hr := trivial
      try simp -dsimp -implicitDefEqProofs (maxSteps := 1000000) (disch := first | exact dis | fail) only [hc_cyc_Cyc_Tick, CH, hset, hlt, go_sem]
      repeat' ((first | (with_reducible first | refine w_if ?_ ?_ | refine w_gt ?_ ?_ | refine w_gf ?_ ?_ | refine w_io ?_ ?_ | refine w_gdt ?_ ?_ | refine w_gdf ?_ ?_ | refine w_ite ?_ ?_) <;> intro h <;> (try rw [h]) <;> replace hr := And.intro h hr <;> replace h := nrm h <;> try (first | (exfalso; omega) | exact (bx h (by assumption)).elim | exact (bx (by assumption) h).elim) | ((with_reducible refine And.intro ?_ ?_); (focus omega))) <;> try simp -dsimp -implicitDefEqProofs (maxSteps := 1000000) (disch := first | exact dis | fail) only [CH, hset, hlt, go_sem])
      exact ⟨some [], rfl, rfl, by simp only [foldA_eq, go_sem, CH, hset]⟩
end Go.Proofs.Ytapoilcpollmpaa
end

/- cyc and ref22: a job's times. -/
section
namespace Go.Proofs.Ytapoilcpollmpaa
open Go.SB
attribute [local irreducible] HW HSS HAS HRQ HEO HOP HCK
set_option maxRecDepth 100000
set_option maxHeartbeats 4000000
set_option linter.unusedSimpArgs false
set_option pp.deepTerms.threshold 6

instance : Flt i1 := ⟨i1_flat⟩
instance : RowF i1 1 := ⟨fun _ => ⟨rfl, rfl⟩⟩
/-- A row of numbers that was appended to, or none. -/
def lsV (l : Nat) (xs : List Int) : AV := if xs = [] then .nils else .sl l 1 0 xs.length false
def lsA (xs : List Int) : AHeap := if xs = [] then [] else [some (.arr (rows i1 xs))]
theorem ls_nil {l : Nat} : lsV l [] = .nils ∧ lsA [] = [] := ⟨rfl, rfl⟩
theorem ls_cons {l : Nat} {xs : List Int} (h : xs ≠ []) : lsV l xs = .sl l 1 0 xs.length false ∧ lsA xs = [some (.arr (rows i1 xs))] := ⟨if_neg h, if_neg h⟩
theorem i1_snoc {xs : List Int} {x : Int} : rows i1 xs ++ [[.int .i64 x]] = rows i1 (xs ++ [x]) := by simp [rows, i1]
theorem i1_one {x : Int} : [[AV.int .i64 x]] = rows i1 [x] := rfl

def incJ (j : Jb) (i : Nat) : Int := if (i : Int) < j.n then j.first else j.second
def D (j : Jb) (start : Int) (i : Nat) : Int := start + j.first * (min (i : Int) j.n) + j.second * (max ((i : Int) - j.n) 0)
theorem D_step (j : Jb) (start : Int) (i : Nat) : D j start (i + 1) = D j start i + incJ j i := by
  unfold D incJ
  by_cases h : (i : Int) < j.n
  · rw [if_pos h, show min ((i + 1 : Nat) : Int) j.n = min (i : Int) j.n + 1 by omega, show max (((i + 1 : Nat) : Int) - j.n) 0 = max ((i : Int) - j.n) 0 by omega, Int.mul_add]
    omega
  · rw [if_neg h, show min ((i + 1 : Nat) : Int) j.n = min (i : Int) j.n by omega, show max (((i + 1 : Nat) : Int) - j.n) 0 = max ((i : Int) - j.n) 0 + 1 by omega, Int.mul_add]
    omega
theorem D_le {j : Jb} (hj : JOk j) {start : Int} (hs : 0 ≤ start ∧ start ≤ 1099511627776) {i : Nat} (hi : i ≤ 1000) : 0 ≤ D j start i ∧ D j start i ≤ 1152921504606846976 := by
  have hn := hj.n
  have h1 := mul_le40 hj.f (n := min (i : Int) j.n) (by omega)
  have h2 := mul_le40 hj.s (n := max ((i : Int) - j.n) 0) (by omega)
  unfold D; omega
theorem tm_eq {j : Jb} (hj : JOk j) (start : Int) (i : Nat) : tmAt j start (i + 1) = if 0 < incJ j i then D j start (i + 1) else -1 := by
  have hf := hj.f
  have hs := hj.s
  have hn := hj.n
  unfold tmAt incJ D
  by_cases h : (i : Int) < j.n
  · have h1 : 0 < j.first := by unfold Jb.n at h; split at h <;> omega
    rw [if_pos (by omega), if_pos h, if_pos h1, show min ((i + 1 : Nat) : Int) j.n = ((i + 1 : Nat) : Int) by omega, show max (((i + 1 : Nat) : Int) - j.n) 0 = 0 by omega]
    simp
  · rw [if_neg (by omega), if_neg h, show min ((i + 1 : Nat) : Int) j.n = j.n by omega, show max (((i + 1 : Nat) : Int) - j.n) 0 = ((i + 1 : Nat) : Int) - j.n by omega]
    by_cases h2 : j.second = 0
    · simp [h2]
    · rw [if_neg h2, if_pos (by omega)]
def goT (j : Jb) (start e : Int) : Nat → Nat → List Int
  | 0, _ => []
  | f + 1, k => if tmAt j start k < 0 ∨ e < tmAt j start k then [] else tmAt j start k :: goT j start e f (k + 1)
def times (j : Jb) (start e : Int) : List Int := goT j start e 1000 1

theorem RTimes_ok (j : Jb) (hj : JOk j) (start e : Int) (he : jobE j = 0) (hs : 0 ≤ start ∧ start ≤ 1099511627776) : ACall Try.prog f_ref22_Times [.agg j.av, .int .i64 start, .int .i64 e] [] fun r A => r = lsV 0 (times j start e) ∧ A = lsA (times j start e) := by
  refine acallH ok_ref22_Times ?_
  have hct : cntB start = true := by simp [cntB, hs]
  have hr := trivial
  try simp -dsimp -implicitDefEqProofs (maxSteps := 1000000) (disch := first | exact dis | fail) only [hc_ref22_Times, Jb.av, he, hct, go_sem]
  repeat' ((first | (with_reducible refine PCall.aci (RJRight_ok j) ?_) | (with_reducible refine PCall.aci (rcount_ok start) ?_) | (with_reducible first | refine w_if ?_ ?_ | refine w_gt ?_ ?_ | refine w_gf ?_ ?_ | refine w_io ?_ ?_ | refine w_gdt ?_ ?_ | refine w_gdf ?_ ?_ | refine w_ite ?_ ?_) <;> intro h <;> (try rw [h]) <;> replace hr := And.intro h hr <;> replace h := nrm h <;> try (first | (exfalso; omega) | exact (bx h (by assumption)).elim | exact (bx (by assumption) h).elim) | ((with_reducible refine And.intro ?_ ?_); (focus omega))) <;> try simp -dsimp -implicitDefEqProofs (maxSteps := 1000000) (disch := first | exact dis | fail) only [Jb.av, he, hct, go_sem])
  refine hw_loop 1000 (fun i ρ A => ∃ out : List Int, out.length = i ∧ out ++ goT j start e (1000 - i) (i + 1) = times j start e ∧ ρ = rg 18 [(1, .int .i64 start), (2, .int .i64 e), (3, .ptr 0 0), (5, lsV 1 out), (6, .int .i64 ((i + 1 : Nat) : Int))] ∧ A = [some (.cells j.av)] ++ lsA out) ⟨none, rfl, [], rfl, rfl, rfl, rfl⟩ ?_
  rintro i ρ A hi ⟨out, hl, hg, rfl, rfl⟩
  by_cases hlt : i < 1000
  · rw [show 1000 - i = (1000 - (i + 1)) + 1 by omega] at hg
    unfold goT at hg
    have hA := At_ok j hj start hs (i + 1) (by omega)
    generalize tmAt j start (i + 1) = t at hA hg
    by_cases hout : out = []
    · subst hout
      rw [(ls_nil (l := 1)).1, (ls_nil (l := 1)).2]
      have hr := trivial
      try simp -dsimp -implicitDefEqProofs (maxSteps := 1000000) (disch := first | exact dis | fail) only [hc_ref22_Times_b1, Jb.av, i1_one, go_sem]
      repeat' ((first | (with_reducible refine PCall.aci hA ?_) | (with_reducible first | refine w_if ?_ ?_ | refine w_gt ?_ ?_ | refine w_gf ?_ ?_ | refine w_io ?_ ?_ | refine w_gdt ?_ ?_ | refine w_gdf ?_ ?_ | refine w_ite ?_ ?_) <;> intro h <;> (try rw [h]) <;> replace hr := And.intro h hr <;> replace h := nrm h <;> try (first | (exfalso; omega) | exact (bx h (by assumption)).elim | exact (bx (by assumption) h).elim) | ((with_reducible refine And.intro ?_ ?_); (focus omega))) <;> try simp -dsimp -implicitDefEqProofs (maxSteps := 1000000) (disch := first | exact dis | fail) only [Jb.av, i1_one, go_sem])
      · rw [if_pos ‹_›] at hg
        refine ⟨some [], rfl, ?_⟩
        rw [← hg]
        exact ⟨rfl, rfl⟩
      · rw [if_neg (by omega)] at hg
        refine ⟨some [0, 2], rfl, [t], by simp [← hl], by rw [← hg]; rfl, ?_, ?_⟩
        · simp only [foldR_eq, go_sem, ← hl]; rfl
        · simp only [foldA_eq, go_sem, Jb.av]; rfl
    · rw [(ls_cons (l := 1) hout).1, (ls_cons (l := 1) hout).2]
      have hr := trivial
      try simp -dsimp -implicitDefEqProofs (maxSteps := 1000000) (disch := first | exact dis | fail) only [hc_ref22_Times_b1, Jb.av, i1_snoc, appF_full (show (rows i1 out).length = out.length from rows_length), go_sem]
      repeat' ((first | (with_reducible refine PCall.aci hA ?_) | (with_reducible first | refine w_if ?_ ?_ | refine w_gt ?_ ?_ | refine w_gf ?_ ?_ | refine w_io ?_ ?_ | refine w_gdt ?_ ?_ | refine w_gdf ?_ ?_ | refine w_ite ?_ ?_) <;> intro h <;> (try rw [h]) <;> replace hr := And.intro h hr <;> replace h := nrm h <;> try (first | (exfalso; omega) | exact (bx h (by assumption)).elim | exact (bx (by assumption) h).elim) | ((with_reducible refine And.intro ?_ ?_); (focus omega))) <;> try simp -dsimp -implicitDefEqProofs (maxSteps := 1000000) (disch := first | exact dis | fail) only [Jb.av, i1_snoc, appF_full (show (rows i1 out).length = out.length from rows_length), go_sem])
      · rw [if_pos ‹_›, List.append_nil] at hg
        refine ⟨some [1], rfl, ?_⟩
        rw [← hg, (ls_cons (l := 0) hout).1, (ls_cons (l := 0) hout).2]
        simp only [foldA_eq, foldV_eq, go_sem, and_self]
      · rw [if_neg (by omega)] at hg
        refine ⟨some [0, 3], rfl, out ++ [t], by simp [hl], by rw [← hg]; simp, ?_, ?_⟩
        · rw [(ls_cons (l := 1) (by simp)).1]
          simp only [foldR_eq, go_sem, List.length_append]; rfl
        · rw [(ls_cons (l := 1) (by simp)).2]
          simp only [foldA_eq, go_sem, Jb.av]
  · obtain rfl : i = 1000 := by omega
    have hr := trivial
    try simp -dsimp -implicitDefEqProofs (maxSteps := 1000000) (disch := first | exact dis | fail) only [hc_ref22_Times_b1, Jb.av, go_sem]
    repeat' ((first | (with_reducible first | refine w_if ?_ ?_ | refine w_gt ?_ ?_ | refine w_gf ?_ ?_ | refine w_io ?_ ?_ | refine w_gdt ?_ ?_ | refine w_gdf ?_ ?_ | refine w_ite ?_ ?_) <;> intro h <;> (try rw [h]) <;> replace hr := And.intro h hr <;> replace h := nrm h <;> try (first | (exfalso; omega) | exact (bx h (by assumption)).elim | exact (bx (by assumption) h).elim) | ((with_reducible refine And.intro ?_ ?_); (focus omega))) <;> try simp -dsimp -implicitDefEqProofs (maxSteps := 1000000) (disch := first | exact dis | fail) only [Jb.av, go_sem])
    simp only [Nat.sub_self, goT, List.append_nil] at hg
    subst hg
    by_cases hout : times j start e = []
    · rw [hout, (ls_nil (l := 1)).1, (ls_nil (l := 1)).2]
      exact ⟨some [], rfl, rfl, rfl⟩
    · rw [(ls_cons (l := 1) hout).1, (ls_cons (l := 1) hout).2, (ls_cons (l := 0) hout).1]
      refine ⟨some [1], rfl, ?_⟩
      simp only [foldA_eq, foldV_eq, go_sem, and_self]
theorem RTimesE_ok (j : Jb) (start e : Int) (h : cntB start = false ∨ jobE j ≠ 0) : PCall Try.prog f_ref22_Times [.agg j.av, .int .i64 start, .int .i64 e] .nils := by
  refine pcallI ok_ref22_Times ?_
  have hr := trivial
  try simp -dsimp -implicitDefEqProofs (maxSteps := 1000000) (disch := first | exact dis | fail) only [hc_ref22_Times, Jb.av, go_sem]
  repeat' ((first | (with_reducible refine PCall.aci (RJRight_ok j) ?_) | (with_reducible refine PCall.aci (rcount_ok start) ?_) | (with_reducible first | refine w_if ?_ ?_ | refine w_gt ?_ ?_ | refine w_gf ?_ ?_ | refine w_io ?_ ?_ | refine w_gdt ?_ ?_ | refine w_gdf ?_ ?_ | refine w_ite ?_ ?_) <;> intro h <;> (try rw [h]) <;> replace hr := And.intro h hr <;> replace h := nrm h <;> try (first | (exfalso; omega) | exact (bx h (by assumption)).elim | exact (bx (by assumption) h).elim) | ((with_reducible refine And.intro ?_ ?_); (focus omega))) <;> try simp -dsimp -implicitDefEqProofs (maxSteps := 1000000) (disch := first | exact dis | fail) only [Jb.av, go_sem])
  all_goals simp_all
end Go.Proofs.Ytapoilcpollmpaa
end
