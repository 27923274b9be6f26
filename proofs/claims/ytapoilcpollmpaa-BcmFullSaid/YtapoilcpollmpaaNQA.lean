/- QA, put together. Conditions: none. -/
import Derived.Test.YtapoilcpollmpaaNQIa
import Derived.Test.YtapoilcpollmpaaNHcT
/- frame: what its functions answer. -/
section
namespace Go.Proofs.Ytapoilcpollmpaa
open Go.SB
attribute [local irreducible] HW HSS HAS HRQ HEO HOP HCK
set_option maxRecDepth 100000
set_option maxHeartbeats 2000000
set_option pp.deepTerms.threshold 6
set_option linter.unusedSimpArgs false

/-- A frame. -/
structure Fr where
  id : Int
  fl : Int
  len : Int
  data : List UInt8
abbrev Fr.av (f : Fr) : List AV := [.int .i64 f.id, .int .i64 f.fl, .int .i64 f.len, .str f.data]

def hasI (fl m : Int) : Bool := !decide (ibits .and .i64 fl m = 0)
def flagsI (fl : Int) : Bool := if fl < 0 ∨ fl > 63 then false else if hasI fl 4 then decide (fl = 4) else if hasI fl 8 then !hasI fl 2 else !hasI fl 48
def mostI (fl : Int) : Int := if hasI fl 5 then 536870911 else 2047

theorem has_ok (f : Fr) (m : Int) : PCall Try.prog f_frame_has [.agg f.av, .int .i64 m] (.bool (hasI f.fl m)) := by
  refine pcallH ok_frame_has rfl ?_
  have hr := trivial
  try simp -dsimp -implicitDefEqProofs (maxSteps := 1000000) (disch := first | exact dis | fail) only [hc_frame_has, Fr.av, hasI, go_sem]
  repeat' ((first | (with_reducible first | refine w_if ?_ ?_ | refine w_gt ?_ ?_ | refine w_gf ?_ ?_ | refine w_io ?_ ?_ | refine w_gdt ?_ ?_ | refine w_gdf ?_ ?_ | refine w_ite ?_ ?_) <;> intro h <;> (try rw [h]) <;> replace hr := And.intro h hr <;> replace h := nrm h <;> try (first | (exfalso; omega) | exact (bx h (by assumption)).elim | exact (bx (by assumption) h).elim) | ((with_reducible refine And.intro ?_ ?_); (focus omega))) <;> try simp -dsimp -implicitDefEqProofs (maxSteps := 1000000) (disch := first | exact dis | fail) only [Fr.av, hasI, go_sem])
theorem bit_ok (f : Fr) (m : Int) : PCall Try.prog f_frame_bit [.agg f.av, .int .i64 m] (.int .i64 (if hasI f.fl m then 1 else 0)) := by
  refine pcallH ok_frame_bit rfl ?_
  have hr := trivial
  try simp -dsimp -implicitDefEqProofs (maxSteps := 1000000) (disch := first | exact dis | fail) only [hc_frame_bit, Fr.av, go_sem]
  repeat' ((first | (with_reducible refine PCall.aci (has_ok f _) ?_) | (with_reducible first | refine w_if ?_ ?_ | refine w_gt ?_ ?_ | refine w_gf ?_ ?_ | refine w_io ?_ ?_ | refine w_gdt ?_ ?_ | refine w_gdf ?_ ?_ | refine w_ite ?_ ?_) <;> intro h <;> (try rw [h]) <;> replace hr := And.intro h hr <;> replace h := nrm h <;> try (first | (exfalso; omega) | exact (bx h (by assumption)).elim | exact (bx (by assumption) h).elim) | ((with_reducible refine And.intro ?_ ?_); (focus omega))) <;> try simp -dsimp -implicitDefEqProofs (maxSteps := 1000000) (disch := first | exact dis | fail) only [Fr.av, go_sem])
  all_goals simp_all
theorem most_ok (f : Fr) : PCall Try.prog f_frame_most [.agg f.av] (.int .i64 (mostI f.fl)) := by
  refine pcallH ok_frame_most rfl ?_
  have hr := trivial
  try simp -dsimp -implicitDefEqProofs (maxSteps := 1000000) (disch := first | exact dis | fail) only [hc_frame_most, Fr.av, mostI, go_sem]
  repeat' ((first | (with_reducible refine PCall.aci (has_ok f _) ?_) | (with_reducible first | refine w_if ?_ ?_ | refine w_gt ?_ ?_ | refine w_gf ?_ ?_ | refine w_io ?_ ?_ | refine w_gdt ?_ ?_ | refine w_gdf ?_ ?_ | refine w_ite ?_ ?_) <;> intro h <;> (try rw [h]) <;> replace hr := And.intro h hr <;> replace h := nrm h <;> try (first | (exfalso; omega) | exact (bx h (by assumption)).elim | exact (bx (by assumption) h).elim) | ((with_reducible refine And.intro ?_ ?_); (focus omega))) <;> try simp -dsimp -implicitDefEqProofs (maxSteps := 1000000) (disch := first | exact dis | fail) only [Fr.av, mostI, go_sem])
  all_goals simp_all
theorem flags_ok (f : Fr) : PCall Try.prog f_frame_flags [.agg f.av] (.bool (flagsI f.fl)) := by
  refine pcallH ok_frame_flags rfl ?_
  have hr := trivial
  try simp -dsimp -implicitDefEqProofs (maxSteps := 1000000) (disch := first | exact dis | fail) only [hc_frame_flags, Fr.av, go_sem]
  repeat' ((first | (with_reducible refine PCall.aci (has_ok f _) ?_) | (with_reducible first | refine w_if ?_ ?_ | refine w_gt ?_ ?_ | refine w_gf ?_ ?_ | refine w_io ?_ ?_ | refine w_gdt ?_ ?_ | refine w_gdf ?_ ?_ | refine w_ite ?_ ?_) <;> intro h <;> (try rw [h]) <;> replace hr := And.intro h hr <;> replace h := nrm h <;> try (first | (exfalso; omega) | exact (bx h (by assumption)).elim | exact (bx (by assumption) h).elim) | ((with_reducible refine And.intro ?_ ?_); (focus omega))) <;> try simp -dsimp -implicitDefEqProofs (maxSteps := 1000000) (disch := first | exact dis | fail) only [Fr.av, go_sem])
  all_goals simp_all [flagsI]

def szL : List Int := [0, 1, 2, 3, 4, 5, 6, 7, 8, 12, 16, 20, 24, 32, 48, 64]
def codeAt (n : Int) : List Int → Nat → Option Nat
  | [], _ => none
  | x :: xs, i => if x = n then some i else codeAt n xs (i + 1)
def codeV (n : Int) : AV := match codeAt n szL 0 with | some i => .tup [.int .i64 i, .int .i64 n, .bool true] | none => .tup [.int .i64 0, .int .i64 0, .bool false]
theorem sizes_ok : PCall Try.prog f_frame_sizes [] (.agg (rows1 szL)) := pcall_ev tabOk_QIa (by kernel_rfl)
theorem code1_ok (n x : Int) : ACall Try.prog f_frame_Code_1 [.int .i64 x, .ptr 0 0] [some (.cells [.int .i64 n])] fun r A => r = .bool (decide (x = n)) ∧ A = [some (.cells [.int .i64 n])] := by
  refine acallH ok_frame_Code_1 ?_
  have hr := trivial
  try simp -dsimp -implicitDefEqProofs (maxSteps := 1000000) (disch := first | exact dis | fail) only [hc_frame_Code_1, go_sem]
  repeat' ((first | (with_reducible first | refine w_if ?_ ?_ | refine w_gt ?_ ?_ | refine w_gf ?_ ?_ | refine w_io ?_ ?_ | refine w_gdt ?_ ?_ | refine w_gdf ?_ ?_ | refine w_ite ?_ ?_) <;> intro h <;> (try rw [h]) <;> replace hr := And.intro h hr <;> replace h := nrm h <;> try (first | (exfalso; omega) | exact (bx h (by assumption)).elim | exact (bx (by assumption) h).elim) | ((with_reducible refine And.intro ?_ ?_); (focus omega))) <;> try simp -dsimp -implicitDefEqProofs (maxSteps := 1000000) (disch := first | exact dis | fail) only [go_sem])
  exact ⟨none, rfl, rfl, rfl⟩
theorem codeAt_step (n : Int) (i : Nat) (h : i < 16) : codeAt n (szL.drop i) i = if szL.getD i 0 = n then some i else codeAt n (szL.drop (i + 1)) (i + 1) := by
  rw [List.drop_eq_getElem_cons (show i < szL.length from h)]
  simp only [codeAt, List.getD, List.getElem?_eq_getElem (show i < szL.length from h), Option.getD_some]
theorem rows1_get {xs : List Int} {i : Nat} : (rows1 xs)[i]? = (xs[i]?).map fun x => .int .i64 x := by simp [rows1]
theorem first_ok (n : Int) : ACall Try.prog f_frame_first [.fn f_frame_Code_1 [] [.ptr 0 0]] [some (.cells [.int .i64 n])] fun r A => r = codeV n ∧ A = [some (.cells [.int .i64 n])] := by
  refine acallH ok_frame_first ?_
  have hr := trivial
  try simp -dsimp -implicitDefEqProofs (maxSteps := 1000000) (disch := first | exact dis | fail) only [hc_frame_first, go_sem]
  repeat' ((first | (with_reducible refine PCall.aci sizes_ok ?_) | (with_reducible first | refine w_if ?_ ?_ | refine w_gt ?_ ?_ | refine w_gf ?_ ?_ | refine w_io ?_ ?_ | refine w_gdt ?_ ?_ | refine w_gdf ?_ ?_ | refine w_ite ?_ ?_) <;> intro h <;> (try rw [h]) <;> replace hr := And.intro h hr <;> replace h := nrm h <;> try (first | (exfalso; omega) | exact (bx h (by assumption)).elim | exact (bx (by assumption) h).elim) | ((with_reducible refine And.intro ?_ ?_); (focus omega))) <;> try simp -dsimp -implicitDefEqProofs (maxSteps := 1000000) (disch := first | exact dis | fail) only [go_sem])
  refine hw_loop 16 (fun i ρ A => ρ = rg 10 [(0, .fn f_frame_Code_1 [] [.ptr 0 0]), (6, .agg (rows1 szL)), (7, .int .i64 i)] ∧ A = [some (.cells [.int .i64 n])] ∧ codeAt n (szL.drop i) i = codeAt n szL 0) ⟨none, rfl, rfl, rfl, rfl⟩ ?_
  rintro i ρ A hi ⟨rfl, rfl, hc⟩
  rcases Nat.lt_or_ge i 16 with hlt | hge
  · have hx : (szL[i]?) = some (szL.getD i 0) := by rw [List.getD, List.getElem?_eq_getElem (show i < szL.length from hlt)]; rfl
    rw [codeAt_step n i hlt] at hc
    have h1 : ((i : Int) < 16) := by omega
    have hr := trivial
    try simp -dsimp -implicitDefEqProofs (maxSteps := 1000000) (disch := first | exact dis | fail) only [hc_frame_first_b1, h1, rows1_get, hx, Int.toNat_natCast, Nat.mul_one, go_sem]
    repeat' ((first | (with_reducible first | refine w_if ?_ ?_ | refine w_gt ?_ ?_ | refine w_gf ?_ ?_ | refine w_io ?_ ?_ | refine w_gdt ?_ ?_ | refine w_gdf ?_ ?_ | refine w_ite ?_ ?_) <;> intro h <;> (try rw [h]) <;> replace hr := And.intro h hr <;> replace h := nrm h <;> try (first | (exfalso; omega) | exact (bx h (by assumption)).elim | exact (bx (by assumption) h).elim) | ((with_reducible refine And.intro ?_ ?_); (focus omega))) <;> try simp -dsimp -implicitDefEqProofs (maxSteps := 1000000) (disch := first | exact dis | fail) only [h1, rows1_get, hx, Int.toNat_natCast, Nat.mul_one, go_sem])
    refine (code1_ok n _).mono ?_
    rintro r A ⟨rfl, rfl⟩
    have hr := trivial
    try simp -dsimp -implicitDefEqProofs (maxSteps := 1000000) (disch := first | exact dis | fail) only [go_sem]
    repeat' ((first | (with_reducible first | refine w_if ?_ ?_ | refine w_gt ?_ ?_ | refine w_gf ?_ ?_ | refine w_io ?_ ?_ | refine w_gdt ?_ ?_ | refine w_gdf ?_ ?_ | refine w_ite ?_ ?_) <;> intro h <;> (try rw [h]) <;> replace hr := And.intro h hr <;> replace h := nrm h <;> try (first | (exfalso; omega) | exact (bx h (by assumption)).elim | exact (bx (by assumption) h).elim) | ((with_reducible refine And.intro ?_ ?_); (focus omega))) <;> try simp -dsimp -implicitDefEqProofs (maxSteps := 1000000) (disch := first | exact dis | fail) only [go_sem])
    · have hn : szL.getD i 0 = n := h
      rw [if_pos hn] at hc
      exact ⟨none, rfl, by rw [hn]; simp only [codeV, ← hc]; rfl, rfl⟩
    · have hn : ¬ szL.getD i 0 = n := h
      rw [if_neg hn] at hc
      exact ⟨none, rfl, rfl, rfl, hc⟩
  · have h1 : ¬ ((i : Int) < 16) := by omega
    have : szL.drop i = [] := List.drop_eq_nil_of_le hge
    rw [this] at hc
    have hr := trivial
    try simp -dsimp -implicitDefEqProofs (maxSteps := 1000000) (disch := first | exact dis | fail) only [hc_frame_first_b1, h1, go_sem]
    repeat' ((first | (with_reducible first | refine w_if ?_ ?_ | refine w_gt ?_ ?_ | refine w_gf ?_ ?_ | refine w_io ?_ ?_ | refine w_gdt ?_ ?_ | refine w_gdf ?_ ?_ | refine w_ite ?_ ?_) <;> intro h <;> (try rw [h]) <;> replace hr := And.intro h hr <;> replace h := nrm h <;> try (first | (exfalso; omega) | exact (bx h (by assumption)).elim | exact (bx (by assumption) h).elim) | ((with_reducible refine And.intro ?_ ?_); (focus omega))) <;> try simp -dsimp -implicitDefEqProofs (maxSteps := 1000000) (disch := first | exact dis | fail) only [h1, go_sem])
    exact ⟨none, rfl, by simp only [codeV, ← hc, codeAt]; rfl, rfl⟩
def codeN (n : Int) : Int := match codeAt n szL 0 with | some i => i | none => 0
def codeI (n : Int) : Bool := match codeAt n szL 0 with | some _ => true | none => false
theorem codeV_eq (n : Int) : ∃ m, codeV n = .tup [.int .i64 (codeN n), m, .bool (codeI n)] := by
  unfold codeV codeN codeI
  cases codeAt n szL 0 <;> exact ⟨_, rfl⟩
theorem Code_ok (n : Int) : PCall Try.prog f_frame_Code [.int .i64 n] (.tup [.int .i64 (codeN n), .bool (codeI n)]) := by
  refine pcallH ok_frame_Code rfl ?_
  have hr := trivial
  try simp -dsimp -implicitDefEqProofs (maxSteps := 1000000) (disch := first | exact dis | fail) only [hc_frame_Code, go_sem]
  repeat' ((first | (with_reducible first | refine w_if ?_ ?_ | refine w_gt ?_ ?_ | refine w_gf ?_ ?_ | refine w_io ?_ ?_ | refine w_gdt ?_ ?_ | refine w_gdf ?_ ?_ | refine w_ite ?_ ?_) <;> intro h <;> (try rw [h]) <;> replace hr := And.intro h hr <;> replace h := nrm h <;> try (first | (exfalso; omega) | exact (bx h (by assumption)).elim | exact (bx (by assumption) h).elim) | ((with_reducible refine And.intro ?_ ?_); (focus omega))) <;> try simp -dsimp -implicitDefEqProofs (maxSteps := 1000000) (disch := first | exact dis | fail) only [go_sem])
  refine (first_ok n).mono ?_
  rintro r A ⟨rfl, rfl⟩
  obtain ⟨m, hm⟩ := codeV_eq n
  rw [hm]
  have hr := trivial
  try simp -dsimp -implicitDefEqProofs (maxSteps := 1000000) (disch := first | exact dis | fail) only [go_sem]
  repeat' ((first | (with_reducible first | refine w_if ?_ ?_ | refine w_gt ?_ ?_ | refine w_gf ?_ ?_ | refine w_io ?_ ?_ | refine w_gdt ?_ ?_ | refine w_gdf ?_ ?_ | refine w_ite ?_ ?_) <;> intro h <;> (try rw [h]) <;> replace hr := And.intro h hr <;> replace h := nrm h <;> try (first | (exfalso; omega) | exact (bx h (by assumption)).elim | exact (bx (by assumption) h).elim) | ((with_reducible refine And.intro ?_ ?_); (focus omega))) <;> try simp -dsimp -implicitDefEqProofs (maxSteps := 1000000) (disch := first | exact dis | fail) only [go_sem])
def longI (f : Fr) : Bool := if hasI f.fl 4 then decide (f.len = 8) else if hasI f.fl 8 then codeI f.len else decide (0 ≤ f.len) && decide (f.len ≤ 8)
theorem long_ok (f : Fr) : PCall Try.prog f_frame_long [.agg f.av] (.bool (longI f)) := by
  refine pcallH ok_frame_long rfl ?_
  have hr := trivial
  try simp -dsimp -implicitDefEqProofs (maxSteps := 1000000) (disch := first | exact dis | fail) only [hc_frame_long, Fr.av, go_sem]
  repeat' ((first | (with_reducible refine PCall.aci (has_ok f _) ?_) | (with_reducible refine PCall.aci (Code_ok f.len) ?_) | (with_reducible first | refine w_if ?_ ?_ | refine w_gt ?_ ?_ | refine w_gf ?_ ?_ | refine w_io ?_ ?_ | refine w_gdt ?_ ?_ | refine w_gdf ?_ ?_ | refine w_ite ?_ ?_) <;> intro h <;> (try rw [h]) <;> replace hr := And.intro h hr <;> replace h := nrm h <;> try (first | (exfalso; omega) | exact (bx h (by assumption)).elim | exact (bx (by assumption) h).elim) | ((with_reducible refine And.intro ?_ ?_); (focus omega))) <;> try simp -dsimp -implicitDefEqProofs (maxSteps := 1000000) (disch := first | exact dis | fail) only [Fr.av, go_sem])
  all_goals simp_all [longI]
  all_goals omega
def rightI (f : Fr) : Int := if flagsI f.fl = false ∨ f.id < 0 ∨ f.id > mostI f.fl ∨ longI f = false ∨ (f.data.length : Int) ≠ (if hasI f.fl 2 then 0 else f.len) then 4 else 0
theorem Right_ok (f : Fr) : PCall Try.prog f_frame_Right [.agg f.av] (.int .i64 (rightI f)) := by
  refine pcallH ok_frame_Right rfl ?_
  have hr := trivial
  try simp -dsimp -implicitDefEqProofs (maxSteps := 1000000) (disch := first | exact dis | fail) only [hc_frame_Right, Fr.av, go_sem]
  repeat' ((first | (with_reducible refine PCall.aci (has_ok f _) ?_) | (with_reducible refine PCall.aci (flags_ok f) ?_) | (with_reducible refine PCall.aci (most_ok f) ?_) | (with_reducible refine PCall.aci (long_ok f) ?_) | (with_reducible first | refine w_if ?_ ?_ | refine w_gt ?_ ?_ | refine w_gf ?_ ?_ | refine w_io ?_ ?_ | refine w_gdt ?_ ?_ | refine w_gdf ?_ ?_ | refine w_ite ?_ ?_) <;> intro h <;> (try rw [h]) <;> replace hr := And.intro h hr <;> replace h := nrm h <;> try (first | (exfalso; omega) | exact (bx h (by assumption)).elim | exact (bx (by assumption) h).elim) | ((with_reducible refine And.intro ?_ ?_); (focus omega))) <;> try simp -dsimp -implicitDefEqProofs (maxSteps := 1000000) (disch := first | exact dis | fail) only [Fr.av, go_sem])
  all_goals first | (simp_all [rightI]; done) | (simp_all [rightI]; grind)
def bitI (fl m : Int) : Int := if hasI fl m then 1 else 0
def orI (a b : Int) : Int := ibits .or .i64 a b
def shlI (a : Int) (n : Nat) : Int := IntKind.wrap .i64 (a * 2 ^ n)
def keyI (f : Fr) : Int :=
  if rightI f ≠ 0 ∨ hasI f.fl 4 = true then -1
  else if hasI f.fl 1 then orI (shlI (orI (shlI (orI (shlI (orI (shlI (f.id.fdiv 262144) 2) 3) 18) (ibits .and .i64 f.id 262143)) 1) (bitI f.fl 2)) 1) (bitI f.fl 8)
  else orI (shlI (shlI (orI (shlI f.id 2) (shlI (bitI f.fl 2) 1)) 19) 1) (bitI f.fl 8)
theorem Key_ok (f : Fr) : PCall Try.prog f_frame_Key [.agg f.av] (.int .i64 (keyI f)) := by
  refine pcallH ok_frame_Key rfl ?_
  have hr := trivial
  try simp -dsimp -implicitDefEqProofs (maxSteps := 1000000) (disch := first | exact dis | fail) only [hc_frame_Key, Fr.av, go_sem]
  repeat' ((first | (with_reducible refine PCall.aci (has_ok f _) ?_) | (with_reducible refine PCall.aci (Right_ok f) ?_) | (with_reducible refine PCall.aci (bit_ok f _) ?_) | (with_reducible first | refine w_if ?_ ?_ | refine w_gt ?_ ?_ | refine w_gf ?_ ?_ | refine w_io ?_ ?_ | refine w_gdt ?_ ?_ | refine w_gdf ?_ ?_ | refine w_ite ?_ ?_) <;> intro h <;> (try rw [h]) <;> replace hr := And.intro h hr <;> replace h := nrm h <;> try (first | (exfalso; omega) | exact (bx h (by assumption)).elim | exact (bx (by assumption) h).elim) | ((with_reducible refine And.intro ?_ ?_); (focus omega))) <;> try simp -dsimp -implicitDefEqProofs (maxSteps := 1000000) (disch := first | exact dis | fail) only [Fr.av, go_sem])
  all_goals first | (simp_all [keyI]; done) | (simp_all [keyI, orI, shlI, bitI] <;> rfl)
end Go.Proofs.Ytapoilcpollmpaa
end
