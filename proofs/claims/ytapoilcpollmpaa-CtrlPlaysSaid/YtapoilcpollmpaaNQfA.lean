/- QfA, put together. Conditions: none. -/
import Derived.Test.YtapoilcpollmpaaNQD
import Derived.Test.YtapoilcpollmpaaNQId
import Derived.Test.YtapoilcpollmpaaNHcW
/- ring: rows of bounded room. -/
section
namespace Go.Proofs.Ytapoilcpollmpaa
open Go.SB
attribute [local irreducible] HW HSS HAS HRQ HEO HOP HCK
set_option maxRecDepth 100000
set_option maxHeartbeats 4000000
set_option linter.unusedSimpArgs false
set_option pp.deepTerms.threshold 6

def frv (f : Fr) : List AV := f.av
theorem frv_eq (f : Fr) : frv f = f.av := rfl
instance : Flt frv := ⟨fun _ => rfl⟩
instance : RowF frv 4 := ⟨fun _ => ⟨rfl, rfl⟩⟩
theorem rows_all {α : Type} {f : α → List AV} {xs : List α} : rows f xs = ((rows f xs).drop 0).take xs.length := by
  rw [List.drop_zero, List.take_of_length_le (by rw [rows_length]; exact Nat.le_refl _)]
/-- A row of bounded room. -/
structure Rg where
  cells : List Fr
  frm : Int
  many : Int
  lost : Int
def Rg.ov (r : Rg) : List OV := [.s 4 (rows frv r.cells), .v (.int .i64 r.frm), .v (.int .i64 r.many), .v (.int .i64 r.lost)]
def Rg.A (r : Rg) : AHeap := [some (.own r.ov)]
def Rg.O (r : Rg) : AHeap := [some (.cells [.sl 1 4 0 r.cells.length false, .int .i64 r.frm, .int .i64 r.many, .int .i64 r.lost]), some (.arr (rows frv r.cells))]
structure RgOk (r : Rg) : Prop where
  c : 0 < r.cells.length ∧ r.cells.length ≤ 1000
  f : 0 ≤ r.frm ∧ r.frm < r.cells.length
  m : 0 ≤ r.many ∧ r.many ≤ r.cells.length
  l : 0 ≤ r.lost ∧ r.lost ≤ 1099511627776
theorem Rg.opn (r : Rg) : Vw r.A r.O := by
  have h := vw_open (l := 0) (ovs := r.ov) (A := r.A) rfl
  simpa [SB.opn, Rg.A, Rg.ov, opC, opA, Rg.O, rows_length] using h
theorem at_ok (r : Rg) (h : RgOk r) (i : Int) (hi : 0 ≤ i ∧ i ≤ 1000) : ACall Try.prog f_ring_Ring_of_Frame_at [.ptr 0 0, .int .i64 i] r.O fun v A => v = .int .i64 ((r.frm + i).tmod r.cells.length) ∧ A = r.O := by
  refine acallH ok_ring_Ring_of_Frame_at ?_
  have hc := h.c
  have hf := h.f
  have hr := trivial
  try simp -dsimp -implicitDefEqProofs (maxSteps := 1000000) (disch := first | exact dis | fail) only [hc_ring_Ring_of_Frame_at, Rg.O, go_sem]
  repeat' ((first | (with_reducible first | refine w_if ?_ ?_ | refine w_gt ?_ ?_ | refine w_gf ?_ ?_ | refine w_io ?_ ?_ | refine w_gdt ?_ ?_ | refine w_gdf ?_ ?_ | refine w_ite ?_ ?_) <;> intro h <;> (try rw [h]) <;> replace hr := And.intro h hr <;> replace h := nrm h <;> try (first | (exfalso; omega) | exact (bx h (by assumption)).elim | exact (bx (by assumption) h).elim) | ((with_reducible refine And.intro ?_ ?_); (focus omega))) <;> try simp -dsimp -implicitDefEqProofs (maxSteps := 1000000) (disch := first | exact dis | fail) only [Rg.O, go_sem])
  exact ⟨none, rfl, rfl, rfl⟩
theorem rows_allN {α : Type} {f : α → List AV} {xs : List α} {n : Nat} (h : n = xs.length) : rows f xs = ((rows f xs).drop 0).take n := h ▸ rows_all
theorem rows_set {α : Type} {f : α → List AV} {xs : List α} {n : Nat} {x : α} : (rows f xs).set n (f x) = rows f (xs.set n x) := by simp [rows, List.map_set]
theorem rows_setF {xs : List Fr} {n : Nat} {x : Fr} : (rows frv xs).set n x.av = rows frv (xs.set n x) := rows_set
/-- The row closed. -/
theorem rg_fin {A : AHeap} {cs : List Fr} {a b c : Int} {n : Nat} {v r : AV} {R : Rg} (h0 : A[0]? = some (some (.cells [.sl 1 4 0 n false, .int .i64 a, .int .i64 b, .int .i64 c]))) (h1 : A[1]? = some (some (.arr (rows frv cs)))) (hn : n = cs.length)
    (hR : R = ⟨cs, a, b, c⟩) (hv : AV.flat v = true) (hr : v = r) : ∃ A2, Vw A A2 ∧ ∃ ks, okKeepO 1 ks = true ∧ foldVo 1 ks v = r ∧ foldAo 1 ks A2 = R.A := by
  refine ⟨_, vw_close (l := 0) h0 (.sl (p := 1) h1 (by rw [rows_length]; omega) (by decide) (rows_allN hn) flatLL_rows rfl (.v rfl (.v rfl (.v rfl .nil)))), some [], rfl, ?_, ?_⟩
  · rw [← hr]; exact AV.ren_flat _ hv
  · subst hR
    rcases A with _ | ⟨x, _ | ⟨y, A⟩⟩
    · cases h0
    · cases h1
    · simp only [clo, kills, foldA_eq, go_sem, Rg.A, Rg.ov]; rfl
def Rg.put (r : Rg) (f : Fr) : Rg := if r.many = r.cells.length then { r with lost := r.lost + 1 } else { r with cells := r.cells.set ((r.frm + r.many).tmod r.cells.length).toNat f, many := r.many + 1 }
theorem tm_lt {a : Int} {n : Nat} (h : 0 < n) (ha : 0 ≤ a) : ∃ p : Nat, p < n ∧ a.tmod n = p := by
  have h1 := Int.emod_nonneg a (show (n : Int) ≠ 0 by omega)
  have h2 := Int.emod_lt_of_pos a (show 0 < (n : Int) by omega)
  rw [Int.tmod_eq_emod_of_nonneg ha]
  exact ⟨(a % n).toNat, by omega, by omega⟩
theorem rPut_ok (r : Rg) (h : RgOk r) (f : Fr) : ACall Try.prog f_ring_Ring_of_Frame_Put [.ptr 0 0, .agg f.av] r.A fun v A => v = .bool (decide (r.many ≠ r.cells.length)) ∧ A = (r.put f).A := by
  refine acallV ok_ring_Ring_of_Frame_Put r.opn ?_
  have hc := h.c
  have hf := h.f
  have hm := h.m
  have hl := h.l
  by_cases hfull : r.many = r.cells.length
  · have hr := trivial
    try simp -dsimp -implicitDefEqProofs (maxSteps := 1000000) (disch := first | exact dis | fail) only [hc_ring_Ring_of_Frame_Put, Rg.O, Fr.av, hfull, go_sem]
    repeat' ((first | (with_reducible first | refine w_if ?_ ?_ | refine w_gt ?_ ?_ | refine w_gf ?_ ?_ | refine w_io ?_ ?_ | refine w_gdt ?_ ?_ | refine w_gdf ?_ ?_ | refine w_ite ?_ ?_) <;> intro h <;> (try rw [h]) <;> replace hr := And.intro h hr <;> replace h := nrm h <;> try (first | (exfalso; omega) | exact (bx h (by assumption)).elim | exact (bx (by assumption) h).elim) | ((with_reducible refine And.intro ?_ ?_); (focus omega))) <;> try simp -dsimp -implicitDefEqProofs (maxSteps := 1000000) (disch := first | exact dis | fail) only [Rg.O, Fr.av, hfull, go_sem])
    exact rg_fin rfl rfl rfl (by simp only [Rg.put, if_pos hfull]; simp [hfull]) rfl (by simp [hfull])
  · have hat := at_ok r h r.many (by omega)
    obtain ⟨p, hp, hpe⟩ := tm_lt hc.1 (show 0 ≤ r.frm + r.many by omega)
    rw [hpe] at hat
    have hx : r.cells[p]? = some r.cells[p] := List.getElem?_eq_getElem hp
    generalize r.cells[p] = g at hx
    have hr := trivial
    try simp -dsimp -implicitDefEqProofs (maxSteps := 1000000) (disch := first | exact dis | fail) only [hc_ring_Ring_of_Frame_Put, Rg.O, Fr.av, hfull, Int.toNat_natCast, rows_get, hx, frv_eq, rows_setF, go_sem]
    repeat' ((first | ((with_reducible refine ACall.atE (hat) [0, 1] ?_ ?_ ?_ ?_ ?_); (focus decide); (focus rfl); (focus (simp -dsimp -implicitDefEqProofs (maxSteps := 1000000) (disch := first | exact dis | fail) only [standsL, Rg.O, Fr.av, hfull, Int.toNat_natCast, rows_get, hx, frv_eq, rows_setF, go_sem]; done)); (focus (first | rfl | (simp -dsimp -implicitDefEqProofs (maxSteps := 1000000) (disch := first | exact dis | fail) only [Rg.O, Fr.av, hfull, Int.toNat_natCast, rows_get, hx, frv_eq, rows_setF, go_sem]; done)))) | (with_reducible first | refine w_if ?_ ?_ | refine w_gt ?_ ?_ | refine w_gf ?_ ?_ | refine w_io ?_ ?_ | refine w_gdt ?_ ?_ | refine w_gdf ?_ ?_ | refine w_ite ?_ ?_) <;> intro h <;> (try rw [h]) <;> replace hr := And.intro h hr <;> replace h := nrm h <;> try (first | (exfalso; omega) | exact (bx h (by assumption)).elim | exact (bx (by assumption) h).elim) | ((with_reducible refine And.intro ?_ ?_); (focus omega))) <;> try simp -dsimp -implicitDefEqProofs (maxSteps := 1000000) (disch := first | exact dis | fail) only [Rg.O, Fr.av, hfull, Int.toNat_natCast, rows_get, hx, frv_eq, rows_setF, go_sem])
    refine rg_fin (cs := r.cells.set p f) rfl rfl ?_ ?_ ?_ ?_
    · simp
    · simp only [Rg.put, if_neg hfull, hpe]; rfl
    · rfl
    · simp [hfull]
def Rg.take (r : Rg) : Rg := if r.many = 0 then r else { r with frm := (r.frm + 1).tmod r.cells.length, many := r.many - 1 }
def Fr.zero : Fr := ⟨0, 0, 0, []⟩
def Rg.first (r : Rg) : Fr := if r.many = 0 then Fr.zero else r.cells.getD r.frm.toNat Fr.zero
theorem rPeek_ok (r : Rg) (h : RgOk r) : ACall Try.prog f_ring_Ring_of_Frame_Peek [.ptr 0 0] r.O fun v A => v = .tup [.agg r.first.av, .int .i64 (if r.many = 0 then 6 else 0)] ∧ A = r.O := by
  refine acallH ok_ring_Ring_of_Frame_Peek ?_
  have hc := h.c
  have hf := h.f
  have hm := h.m
  by_cases h0 : r.many = 0
  · have hr := trivial
    try simp -dsimp -implicitDefEqProofs (maxSteps := 1000000) (disch := first | exact dis | fail) only [hc_ring_Ring_of_Frame_Peek, Rg.O, h0, go_sem]
    repeat' ((first | (with_reducible first | refine w_if ?_ ?_ | refine w_gt ?_ ?_ | refine w_gf ?_ ?_ | refine w_io ?_ ?_ | refine w_gdt ?_ ?_ | refine w_gdf ?_ ?_ | refine w_ite ?_ ?_) <;> intro h <;> (try rw [h]) <;> replace hr := And.intro h hr <;> replace h := nrm h <;> try (first | (exfalso; omega) | exact (bx h (by assumption)).elim | exact (bx (by assumption) h).elim) | ((with_reducible refine And.intro ?_ ?_); (focus omega))) <;> try simp -dsimp -implicitDefEqProofs (maxSteps := 1000000) (disch := first | exact dis | fail) only [Rg.O, h0, go_sem])
    exact ⟨some [], rfl, by rw [Rg.first, if_pos h0]; rfl, by simp only [foldA_eq, go_sem]⟩
  · obtain ⟨p, hp⟩ : ∃ p : Nat, r.frm = p := ⟨r.frm.toNat, by omega⟩
    have hx : r.cells[p]? = some (r.cells.getD p Fr.zero) := by
      rw [List.getD, List.getElem?_eq_getElem (by omega)]; rfl
    generalize hg : r.cells.getD p Fr.zero = f at hx
    have hr := trivial
    try simp -dsimp -implicitDefEqProofs (maxSteps := 1000000) (disch := first | exact dis | fail) only [hc_ring_Ring_of_Frame_Peek, Rg.O, h0, hp, Int.toNat_natCast, rows_get, hx, frv_eq, Fr.av, go_sem]
    repeat' ((first | (with_reducible first | refine w_if ?_ ?_ | refine w_gt ?_ ?_ | refine w_gf ?_ ?_ | refine w_io ?_ ?_ | refine w_gdt ?_ ?_ | refine w_gdf ?_ ?_ | refine w_ite ?_ ?_) <;> intro h <;> (try rw [h]) <;> replace hr := And.intro h hr <;> replace h := nrm h <;> try (first | (exfalso; omega) | exact (bx h (by assumption)).elim | exact (bx (by assumption) h).elim) | ((with_reducible refine And.intro ?_ ?_); (focus omega))) <;> try simp -dsimp -implicitDefEqProofs (maxSteps := 1000000) (disch := first | exact dis | fail) only [Rg.O, h0, hp, Int.toNat_natCast, rows_get, hx, frv_eq, Fr.av, go_sem])
    exact ⟨some [], rfl, by rw [Rg.first, if_neg h0, hp, Int.toNat_natCast, hg]; rfl, by simp only [foldA_eq, go_sem]⟩
theorem rTake_ok (r : Rg) (h : RgOk r) : ACall Try.prog f_ring_Ring_of_Frame_Take [.ptr 0 0] r.A fun v A => v = .tup [.agg r.first.av, .int .i64 (if r.many = 0 then 6 else 0)] ∧ A = r.take.A := by
  refine acallV ok_ring_Ring_of_Frame_Take r.opn ?_
  have hc := h.c
  have hf := h.f
  have hm := h.m
  have hP := rPeek_ok r h
  by_cases h0 : r.many = 0
  · rw [if_pos h0] at hP
    have hr := trivial
    try simp -dsimp -implicitDefEqProofs (maxSteps := 1000000) (disch := first | exact dis | fail) only [hc_ring_Ring_of_Frame_Take, Rg.O, h0, go_sem]
    repeat' ((first | ((with_reducible refine ACall.atE (hP) [0, 1] ?_ ?_ ?_ ?_ ?_); (focus decide); (focus rfl); (focus (simp -dsimp -implicitDefEqProofs (maxSteps := 1000000) (disch := first | exact dis | fail) only [standsL, Rg.O, h0, go_sem]; done)); (focus (first | rfl | (simp -dsimp -implicitDefEqProofs (maxSteps := 1000000) (disch := first | exact dis | fail) only [Rg.O, h0, go_sem]; done)))) | (with_reducible first | refine w_if ?_ ?_ | refine w_gt ?_ ?_ | refine w_gf ?_ ?_ | refine w_io ?_ ?_ | refine w_gdt ?_ ?_ | refine w_gdf ?_ ?_ | refine w_ite ?_ ?_) <;> intro h <;> (try rw [h]) <;> replace hr := And.intro h hr <;> replace h := nrm h <;> try (first | (exfalso; omega) | exact (bx h (by assumption)).elim | exact (bx (by assumption) h).elim) | ((with_reducible refine And.intro ?_ ?_); (focus omega))) <;> try simp -dsimp -implicitDefEqProofs (maxSteps := 1000000) (disch := first | exact dis | fail) only [Rg.O, h0, go_sem])
    exact rg_fin rfl rfl rfl (by simp only [Rg.take, if_pos h0]; rw [← h0]) rfl rfl
  · have hat := at_ok r h 1 (by omega)
    rw [if_neg h0] at hP
    have hr := trivial
    try simp -dsimp -implicitDefEqProofs (maxSteps := 1000000) (disch := first | exact dis | fail) only [hc_ring_Ring_of_Frame_Take, Rg.O, h0, go_sem]
    repeat' ((first | ((with_reducible refine ACall.atE (hP) [0, 1] ?_ ?_ ?_ ?_ ?_); (focus decide); (focus rfl); (focus (simp -dsimp -implicitDefEqProofs (maxSteps := 1000000) (disch := first | exact dis | fail) only [standsL, Rg.O, h0, go_sem]; done)); (focus (first | rfl | (simp -dsimp -implicitDefEqProofs (maxSteps := 1000000) (disch := first | exact dis | fail) only [Rg.O, h0, go_sem]; done)))) | ((with_reducible refine ACall.atE (hat) [0, 1] ?_ ?_ ?_ ?_ ?_); (focus decide); (focus rfl); (focus (simp -dsimp -implicitDefEqProofs (maxSteps := 1000000) (disch := first | exact dis | fail) only [standsL, Rg.O, h0, go_sem]; done)); (focus (first | rfl | (simp -dsimp -implicitDefEqProofs (maxSteps := 1000000) (disch := first | exact dis | fail) only [Rg.O, h0, go_sem]; done)))) | (with_reducible first | refine w_if ?_ ?_ | refine w_gt ?_ ?_ | refine w_gf ?_ ?_ | refine w_io ?_ ?_ | refine w_gdt ?_ ?_ | refine w_gdf ?_ ?_ | refine w_ite ?_ ?_) <;> intro h <;> (try rw [h]) <;> replace hr := And.intro h hr <;> replace h := nrm h <;> try (first | (exfalso; omega) | exact (bx h (by assumption)).elim | exact (bx (by assumption) h).elim) | ((with_reducible refine And.intro ?_ ?_); (focus omega))) <;> try simp -dsimp -implicitDefEqProofs (maxSteps := 1000000) (disch := first | exact dis | fail) only [Rg.O, h0, go_sem])
    exact rg_fin rfl rfl rfl (by simp only [Rg.take, if_neg h0]) rfl rfl
theorem rLen_ok (r : Rg) : ACall Try.prog f_ring_Ring_of_Frame_Len [.ptr 0 0] r.A fun v A => v = .int .i64 r.many ∧ A = r.A := by
  refine acallV ok_ring_Ring_of_Frame_Len r.opn ?_
  have hr := trivial
  try simp -dsimp -implicitDefEqProofs (maxSteps := 1000000) (disch := first | exact dis | fail) only [hc_ring_Ring_of_Frame_Len, Rg.O, go_sem]
  repeat' ((first | (with_reducible first | refine w_if ?_ ?_ | refine w_gt ?_ ?_ | refine w_gf ?_ ?_ | refine w_io ?_ ?_ | refine w_gdt ?_ ?_ | refine w_gdf ?_ ?_ | refine w_ite ?_ ?_) <;> intro h <;> (try rw [h]) <;> replace hr := And.intro h hr <;> replace h := nrm h <;> try (first | (exfalso; omega) | exact (bx h (by assumption)).elim | exact (bx (by assumption) h).elim) | ((with_reducible refine And.intro ?_ ?_); (focus omega))) <;> try simp -dsimp -implicitDefEqProofs (maxSteps := 1000000) (disch := first | exact dis | fail) only [Rg.O, go_sem])
  exact rg_fin rfl rfl rfl rfl rfl rfl
theorem rLost_ok (r : Rg) : ACall Try.prog f_ring_Ring_of_Frame_Lost [.ptr 0 0] r.A fun v A => v = .int .i64 r.lost ∧ A = r.A := by
  refine acallV ok_ring_Ring_of_Frame_Lost r.opn ?_
  have hr := trivial
  try simp -dsimp -implicitDefEqProofs (maxSteps := 1000000) (disch := first | exact dis | fail) only [hc_ring_Ring_of_Frame_Lost, Rg.O, go_sem]
  repeat' ((first | (with_reducible first | refine w_if ?_ ?_ | refine w_gt ?_ ?_ | refine w_gf ?_ ?_ | refine w_io ?_ ?_ | refine w_gdt ?_ ?_ | refine w_gdf ?_ ?_ | refine w_ite ?_ ?_) <;> intro h <;> (try rw [h]) <;> replace hr := And.intro h hr <;> replace h := nrm h <;> try (first | (exfalso; omega) | exact (bx h (by assumption)).elim | exact (bx (by assumption) h).elim) | ((with_reducible refine And.intro ?_ ?_); (focus omega))) <;> try simp -dsimp -implicitDefEqProofs (maxSteps := 1000000) (disch := first | exact dis | fail) only [Rg.O, go_sem])
  exact rg_fin rfl rfl rfl rfl rfl rfl
def roomI (n : Int) : Int := min (max n 1) 1000
theorem roomI_b (n : Int) : 1 ≤ roomI n ∧ roomI n ≤ 1000 := by unfold roomI; omega
def Rg.new (n : Int) : Rg := ⟨List.replicate (roomI n).toNat Fr.zero, 0, 0, 0⟩
theorem rows_rep {α : Type} {f : α → List AV} {n : Nat} {x : α} : List.replicate n (f x) = rows f (List.replicate n x) := by simp [rows]
theorem rep_zero {n : Nat} : List.replicate n [AV.int .i64 0, .int .i64 0, .int .i64 0, .str []] = rows frv (List.replicate n Fr.zero) := rows_rep (f := frv) (x := Fr.zero)
theorem rNew_ok (n : Int) : ACall Try.prog f_ring_New_of_Frame [.int .i64 n] [] fun v A => v = .ptr 0 0 ∧ A = (Rg.new n).A := by
  refine acallV ok_ring_New_of_Frame (Vw.refl _) ?_
  have hb := roomI_b n
  have hm : min (max n 1) 1000 = roomI n := rfl
  obtain ⟨k, hk⟩ : ∃ k : Nat, roomI n = k := ⟨(roomI n).toNat, by omega⟩
  have hr := trivial
  try simp -dsimp -implicitDefEqProofs (maxSteps := 1000000) (disch := first | exact dis | fail) only [hc_ring_New_of_Frame, hm, hk, Int.toNat_natCast, rep_zero, go_sem]
  repeat' ((first | (with_reducible first | refine w_if ?_ ?_ | refine w_gt ?_ ?_ | refine w_gf ?_ ?_ | refine w_io ?_ ?_ | refine w_gdt ?_ ?_ | refine w_gdf ?_ ?_ | refine w_ite ?_ ?_) <;> intro h <;> (try rw [h]) <;> replace hr := And.intro h hr <;> replace h := nrm h <;> try (first | (exfalso; omega) | exact (bx h (by assumption)).elim | exact (bx (by assumption) h).elim) | ((with_reducible refine And.intro ?_ ?_); (focus omega))) <;> try simp -dsimp -implicitDefEqProofs (maxSteps := 1000000) (disch := first | exact dis | fail) only [hm, hk, Int.toNat_natCast, rep_zero, go_sem])
  refine ⟨_, vw_close (l := 1) rfl (.sl (p := 0) rfl (by simp [rows_length]) (by decide) (rows_allN (by simp)) flatLL_rows rfl (.v rfl (.v rfl (.v rfl .nil)))), some [1], rfl, rfl, ?_⟩
  simp only [clo, kills, foldA_eq, go_sem, Rg.A, Rg.ov, Rg.new, hk, Int.toNat_natCast]; rfl
end Go.Proofs.Ytapoilcpollmpaa
end
