/- QgA, QgB, QgC, QgD, put together. Conditions: none. -/
import Derived.Test.YtapoilcpollmpaaNQfE
import Derived.Test.YtapoilcpollmpaaNQIe
/- box: putting. -/
section
namespace Go.Proofs.Ytapoilcpollmpaa
open Go.SB
attribute [local irreducible] HW HSS HAS HRQ HEO HOP HCK
set_option maxRecDepth 100000
set_option maxHeartbeats 400000
set_option linter.unusedSimpArgs false
set_option pp.deepTerms.threshold 6
attribute [local go_sem high] own_ren

def Bx.O (b : Bx) : AHeap := [some (.cells [.sl 1 9 0 b.cells.length false, .sl 2 1 0 b.ended.length false, .int .i64 b.puts]), some (.arr (rows cev b.cells)), some (.arr (rows i1 b.ended))]
theorem Bx.opn (b : Bx) : Vw b.A b.O := by
  have h := vw_open (l := 0) (ovs := b.ov) (A := b.A) rfl
  simpa [SB.opn, Bx.A, Bx.ov, opC, opA, Bx.O, rows_length] using h
structure BxOk (b : Bx) : Prop where
  c : 0 < b.cells.length ∧ b.cells.length ≤ 1000
  p : 0 ≤ b.puts ∧ b.puts ≤ 1099511627776
  e : b.ended.length ≤ 1000
/-- The mailboxes closed. -/
theorem bx_fin {A : AHeap} {cs : List Ce} {es : List Int} {p : Int} {k n m : Nat} {v r : AV} {B : Bx} (h0 : A[0]? = some (some (.cells [.sl 1 9 0 n false, .sl k 1 0 m false, .int .i64 p]))) (h1 : A[1]? = some (some (.arr (rows cev cs)))) (h2 : A[k]? = some (some (.arr (rows i1 es))))
    (hk : k ≠ 1) (hn : n = cs.length) (hm : m = es.length) (hB : B = ⟨cs, es, p⟩) (hv : AV.flat v = true) (hr : v = r) : ∃ A2, Vw A A2 ∧ ∃ ks, okKeepO 1 ks = true ∧ foldVo 1 ks v = r ∧ foldAo 1 ks A2 = B.A := by
  refine ⟨_, vw_close (l := 0) h0 (.sl (p := 1) h1 (by rw [rows_length]; omega) (by decide) (rows_allN hn) flatLL_rows (by simpa using hk.symm) (.sl (p := k) h2 (by rw [rows_length]; omega) (by decide) (rows_allN hm) flatLL_rows rfl (.v rfl .nil))), some [], rfl, ?_, ?_⟩
  · rw [← hr]; exact AV.ren_flat _ hv
  · subst hB
    have hA : ∀ ks, (kills ks A).length = A.length := fun ks => kills_length
    have h0' : 0 < A.length := (List.getElem?_eq_some_iff.1 h0).1
    show foldAo 1 (some []) (clo 0 [1, k] (Bx.ov ⟨cs, es, p⟩) A) = _
    unfold clo
    have hB := hA [1, k]
    generalize kills [1, k] A = B at hB
    rcases B with _ | ⟨b, B⟩
    · simp at hB; omega
    · simp only [List.set_cons_zero, foldA_eq, go_sem, Bx.A]
def freeAt : List Ce → Nat → Option Nat
  | [], _ => none
  | c :: cs, i => if c.st = 0 then some i else freeAt cs (i + 1)
theorem freeAt_step {cs : List Ce} {i : Nat} {c : Ce} (h : cs[i]? = some c) : freeAt (cs.drop i) i = if c.st = 0 then some i else freeAt (cs.drop (i + 1)) (i + 1) := by
  have hlt : i < cs.length := (List.getElem?_eq_some_iff.1 h).1
  rw [List.drop_eq_getElem_cons hlt]
  have : cs[i] = c := by rw [List.getElem?_eq_getElem hlt] at h; exact Option.some.inj h
  rw [this]; rfl
def freeV (cs : List Ce) : Int := match freeAt cs 0 with | some i => i | none => -1
theorem put1_ok (c : Ce) : PCall Try.prog f_box_Boxes_Put_1 [.agg c.av] (.bool (decide (c.st = 0))) := by
  refine pcallI ok_box_Boxes_Put_1 ?_
  have hr := trivial
  try simp -dsimp -implicitDefEqProofs (maxSteps := 1000000) (disch := first | exact dis | fail) only [hc_box_Boxes_Put_1, Ce.av, go_sem]
  repeat' ((first | (with_reducible first | refine w_if ?_ ?_ | refine w_gt ?_ ?_ | refine w_gf ?_ ?_ | refine w_io ?_ ?_ | refine w_gdt ?_ ?_ | refine w_gdf ?_ ?_ | refine w_ite ?_ ?_) <;> intro h <;> (try rw [h]) <;> replace hr := And.intro h hr <;> replace h := nrm h <;> try (first | (exfalso; omega) | exact (bx h (by assumption)).elim | exact (bx (by assumption) h).elim) | ((with_reducible refine And.intro ?_ ?_); (focus omega))) <;> try simp -dsimp -implicitDefEqProofs (maxSteps := 1000000) (disch := first | exact dis | fail) only [Ce.av, go_sem])
theorem IndexC_ok (cs : List Ce) (hn : cs.length ≤ 1000) : ACall Try.prog f_slices_IndexFunc_of_cell [.sl 0 9 0 cs.length false, .fn f_box_Boxes_Put_1 [] []] [some (.arr (rows cev cs))] fun r A => r = .int .i64 (freeV cs) ∧ A = [some (.arr (rows cev cs))] := by
  refine acallH ok_slices_IndexFunc_of_cell ?_
  have hr := trivial
  try simp -dsimp -implicitDefEqProofs (maxSteps := 1000000) (disch := first | exact dis | fail) only [hc_slices_IndexFunc_of_cell, go_sem]
  repeat' ((first | (with_reducible first | refine w_if ?_ ?_ | refine w_gt ?_ ?_ | refine w_gf ?_ ?_ | refine w_io ?_ ?_ | refine w_gdt ?_ ?_ | refine w_gdf ?_ ?_ | refine w_ite ?_ ?_) <;> intro h <;> (try rw [h]) <;> replace hr := And.intro h hr <;> replace h := nrm h <;> try (first | (exfalso; omega) | exact (bx h (by assumption)).elim | exact (bx (by assumption) h).elim) | ((with_reducible refine And.intro ?_ ?_); (focus omega))) <;> try simp -dsimp -implicitDefEqProofs (maxSteps := 1000000) (disch := first | exact dis | fail) only [go_sem])
  refine hw_loop cs.length (fun i ρ A => ρ = rg 8 [(0, .sl 0 9 0 cs.length false), (1, .fn f_box_Boxes_Put_1 [] []), (4, .int .i64 cs.length), (5, .int .i64 i)] ∧ A = [some (.arr (rows cev cs))] ∧ freeAt (cs.drop i) i = freeAt cs 0) ⟨none, rfl, rfl, rfl, rfl⟩ ?_
  rintro i ρ A hi ⟨rfl, rfl, hc⟩
  by_cases hlt : i < cs.length
  · have hx : cs[i]? = some cs[i] := List.getElem?_eq_getElem hlt
    generalize cs[i] = c at hx
    rw [freeAt_step hx] at hc
    have h1 := put1_ok c
    by_cases h0 : c.st = 0
    · rw [if_pos h0] at hc
      rw [decide_eq_true h0] at h1
      have hr := trivial
      try simp -dsimp -implicitDefEqProofs (maxSteps := 1000000) (disch := first | exact dis | fail) only [hc_slices_IndexFunc_of_cell_b1, Int.toNat_natCast, rows_get, hx, cev_eq, Ce.av, go_sem]
      repeat' ((first | (with_reducible refine PCall.aci h1 ?_) | (with_reducible first | refine w_if ?_ ?_ | refine w_gt ?_ ?_ | refine w_gf ?_ ?_ | refine w_io ?_ ?_ | refine w_gdt ?_ ?_ | refine w_gdf ?_ ?_ | refine w_ite ?_ ?_) <;> intro h <;> (try rw [h]) <;> replace hr := And.intro h hr <;> replace h := nrm h <;> try (first | (exfalso; omega) | exact (bx h (by assumption)).elim | exact (bx (by assumption) h).elim) | ((with_reducible refine And.intro ?_ ?_); (focus omega))) <;> try simp -dsimp -implicitDefEqProofs (maxSteps := 1000000) (disch := first | exact dis | fail) only [Int.toNat_natCast, rows_get, hx, cev_eq, Ce.av, go_sem])
      exact ⟨none, rfl, by simp only [freeV, ← hc]; rfl, rfl⟩
    · rw [if_neg h0] at hc
      rw [decide_eq_false h0] at h1
      have hr := trivial
      try simp -dsimp -implicitDefEqProofs (maxSteps := 1000000) (disch := first | exact dis | fail) only [hc_slices_IndexFunc_of_cell_b1, Int.toNat_natCast, rows_get, hx, cev_eq, Ce.av, go_sem]
      repeat' ((first | (with_reducible refine PCall.aci h1 ?_) | (with_reducible first | refine w_if ?_ ?_ | refine w_gt ?_ ?_ | refine w_gf ?_ ?_ | refine w_io ?_ ?_ | refine w_gdt ?_ ?_ | refine w_gdf ?_ ?_ | refine w_ite ?_ ?_) <;> intro h <;> (try rw [h]) <;> replace hr := And.intro h hr <;> replace h := nrm h <;> try (first | (exfalso; omega) | exact (bx h (by assumption)).elim | exact (bx (by assumption) h).elim) | ((with_reducible refine And.intro ?_ ?_); (focus omega))) <;> try simp -dsimp -implicitDefEqProofs (maxSteps := 1000000) (disch := first | exact dis | fail) only [Int.toNat_natCast, rows_get, hx, cev_eq, Ce.av, go_sem])
      exact ⟨none, rfl, rfl, rfl, hc⟩
  · obtain rfl : i = cs.length := by omega
    rw [List.drop_length] at hc
    have hr := trivial
    try simp -dsimp -implicitDefEqProofs (maxSteps := 1000000) (disch := first | exact dis | fail) only [hc_slices_IndexFunc_of_cell_b1, go_sem]
    repeat' ((first | (with_reducible first | refine w_if ?_ ?_ | refine w_gt ?_ ?_ | refine w_gf ?_ ?_ | refine w_io ?_ ?_ | refine w_gdt ?_ ?_ | refine w_gdf ?_ ?_ | refine w_ite ?_ ?_) <;> intro h <;> (try rw [h]) <;> replace hr := And.intro h hr <;> replace h := nrm h <;> try (first | (exfalso; omega) | exact (bx h (by assumption)).elim | exact (bx (by assumption) h).elim) | ((with_reducible refine And.intro ?_ ?_); (focus omega))) <;> try simp -dsimp -implicitDefEqProofs (maxSteps := 1000000) (disch := first | exact dis | fail) only [go_sem])
    exact ⟨none, rfl, by simp only [freeV, ← hc, freeAt]; rfl, rfl⟩
theorem freeAt_lt {cs : List Ce} : ∀ {k i : Nat}, freeAt cs k = some i → k ≤ i ∧ i < k + cs.length := by
  induction cs with
  | nil => intro k i h; cases h
  | cons c cs ih =>
    intro k i h
    unfold freeAt at h
    split at h
    · cases h; simp
    · have := ih h; simp; omega
def Bx.put (b : Bx) (p : Pk) : Bx := if keyR p.fr < 0 then b else match freeAt b.cells 0 with | some i => { b with cells := b.cells.set i ⟨1, p, b.puts⟩, puts := b.puts + 1 } | none => b
def Bx.putI (b : Bx) (p : Pk) : Int := if keyR p.fr < 0 then 0 else match freeAt b.cells 0 with | some i => i | none => 0
def Bx.putE (b : Bx) (p : Pk) : Int := if keyR p.fr < 0 then 4 else match freeAt b.cells 0 with | some _ => 0 | none => 5
theorem rows_setC {xs : List Ce} {n : Nat} {x : Ce} : (rows cev xs).set n x.av = rows cev (xs.set n x) := rows_set
theorem bPut_ok (b : Bx) (h : BxOk b) (p : Pk) : ACall Try.prog f_box_Boxes_Put [.ptr 0 0, .agg p.av] b.A fun v A => v = .tup [.int .i64 (b.putI p), .int .i64 (b.putE p)] ∧ A = (b.put p).A := by
  refine acallV ok_box_Boxes_Put b.opn ?_
  have hc := h.c
  have hp := h.p
  have hk : PCall Try.prog f_frame_Key [.agg p.fr.av] (.int .i64 (keyR p.fr)) := key_eq p.fr ▸ Key_ok p.fr
  have hI := IndexC_ok b.cells hc.2
  by_cases h0 : keyR p.fr < 0
  · have hr := trivial
    try simp -dsimp -implicitDefEqProofs (maxSteps := 1000000) (disch := first | exact dis | fail) only [hc_box_Boxes_Put, Bx.O, Pk.av, h0, go_sem]
    repeat' ((first | (with_reducible refine PCall.aci hk ?_) | (with_reducible first | refine w_if ?_ ?_ | refine w_gt ?_ ?_ | refine w_gf ?_ ?_ | refine w_io ?_ ?_ | refine w_gdt ?_ ?_ | refine w_gdf ?_ ?_ | refine w_ite ?_ ?_) <;> intro h <;> (try rw [h]) <;> replace hr := And.intro h hr <;> replace h := nrm h <;> try (first | (exfalso; omega) | exact (bx h (by assumption)).elim | exact (bx (by assumption) h).elim) | ((with_reducible refine And.intro ?_ ?_); (focus omega))) <;> try simp -dsimp -implicitDefEqProofs (maxSteps := 1000000) (disch := first | exact dis | fail) only [Bx.O, Pk.av, h0, go_sem])
    exact bx_fin rfl rfl rfl (by decide) rfl rfl (by simp only [Bx.put, if_pos h0]) rfl (by simp only [Bx.putI, Bx.putE, if_pos h0])
  · unfold freeV at hI
    cases hf : freeAt b.cells 0 with
    | none =>
      rw [hf] at hI
      have hr := trivial
      try simp -dsimp -implicitDefEqProofs (maxSteps := 1000000) (disch := first | exact dis | fail) only [hc_box_Boxes_Put, Bx.O, Pk.av, h0, go_sem]
      repeat' ((first | (with_reducible refine PCall.aci hk ?_) | ((with_reducible refine ACall.atE (hI) [1] ?_ ?_ ?_ ?_ ?_); (focus decide); (focus rfl); (focus (simp -dsimp -implicitDefEqProofs (maxSteps := 1000000) (disch := first | exact dis | fail) only [standsL, Bx.O, Pk.av, h0, go_sem]; done)); (focus (first | rfl | (simp -dsimp -implicitDefEqProofs (maxSteps := 1000000) (disch := first | exact dis | fail) only [Bx.O, Pk.av, h0, go_sem]; done)))) | (with_reducible first | refine w_if ?_ ?_ | refine w_gt ?_ ?_ | refine w_gf ?_ ?_ | refine w_io ?_ ?_ | refine w_gdt ?_ ?_ | refine w_gdf ?_ ?_ | refine w_ite ?_ ?_) <;> intro h <;> (try rw [h]) <;> replace hr := And.intro h hr <;> replace h := nrm h <;> try (first | (exfalso; omega) | exact (bx h (by assumption)).elim | exact (bx (by assumption) h).elim) | ((with_reducible refine And.intro ?_ ?_); (focus omega))) <;> try simp -dsimp -implicitDefEqProofs (maxSteps := 1000000) (disch := first | exact dis | fail) only [Bx.O, Pk.av, h0, go_sem])
      exact bx_fin rfl rfl rfl (by decide) rfl rfl (by simp only [Bx.put, if_neg h0, hf]) rfl (by simp only [Bx.putI, Bx.putE, if_neg h0, hf])
    | some i =>
      rw [hf] at hI
      have hlt := (freeAt_lt hf).2
      have hx : b.cells[i]? = some b.cells[i] := List.getElem?_eq_getElem (by omega)
      generalize b.cells[i] = c at hx
      have hr := trivial
      try simp -dsimp -implicitDefEqProofs (maxSteps := 1000000) (disch := first | exact dis | fail) only [hc_box_Boxes_Put, Bx.O, Pk.av, h0, Int.toNat_natCast, rows_get, hx, cev_eq, Ce.av, go_sem]
      repeat' ((first | (with_reducible refine PCall.aci hk ?_) | ((with_reducible refine ACall.atE (hI) [1] ?_ ?_ ?_ ?_ ?_); (focus decide); (focus rfl); (focus (simp -dsimp -implicitDefEqProofs (maxSteps := 1000000) (disch := first | exact dis | fail) only [standsL, Bx.O, Pk.av, h0, Int.toNat_natCast, rows_get, hx, cev_eq, Ce.av, go_sem]; done)); (focus (first | rfl | (simp -dsimp -implicitDefEqProofs (maxSteps := 1000000) (disch := first | exact dis | fail) only [Bx.O, Pk.av, h0, Int.toNat_natCast, rows_get, hx, cev_eq, Ce.av, go_sem]; done)))) | (with_reducible first | refine w_if ?_ ?_ | refine w_gt ?_ ?_ | refine w_gf ?_ ?_ | refine w_io ?_ ?_ | refine w_gdt ?_ ?_ | refine w_gdf ?_ ?_ | refine w_ite ?_ ?_) <;> intro h <;> (try rw [h]) <;> replace hr := And.intro h hr <;> replace h := nrm h <;> try (first | (exfalso; omega) | exact (bx h (by assumption)).elim | exact (bx (by assumption) h).elim) | ((with_reducible refine And.intro ?_ ?_); (focus omega))) <;> try simp -dsimp -implicitDefEqProofs (maxSteps := 1000000) (disch := first | exact dis | fail) only [Bx.O, Pk.av, h0, Int.toNat_natCast, rows_get, hx, cev_eq, Ce.av, go_sem])
      refine bx_fin (cs := b.cells.set i ⟨1, p, b.puts⟩) rfl (by rw [← rows_set]; rfl) rfl (by decide) ?_ rfl ?_ ?_ ?_
      · simp
      · simp only [Bx.put, if_neg h0, hf]
      · rfl
      · simp only [Bx.putI, Bx.putE, if_neg h0, hf]
/-- A mailbox ends. -/
def Bx.endE (b : Bx) (i : Int) : Int := if 0 ≤ i ∧ i < b.cells.length then (if (b.cells.getD i.toNat Ce.zero).st = 1 then 0 else 2) else 2
def Bx.ends (b : Bx) (i st : Int) : Bx := if b.endE i = 0 then { b with cells := b.cells.set i.toNat { (b.cells.getD i.toNat Ce.zero) with st := st }, ended := b.ended ++ [i] } else b
theorem ends_ok (b : Bx) (h : BxOk b) (i st : Int) : ACall Try.prog f_box_Boxes_ends [.ptr 0 0, .int .i64 i, .int .i64 st] b.A fun v A => v = .int .i64 (b.endE i) ∧ A = (b.ends i st).A := by
  refine acallV ok_box_Boxes_ends b.opn ?_
  have hc := h.c
  have he := h.e
  by_cases hi : 0 ≤ i ∧ i < b.cells.length
  · obtain ⟨k, rfl⟩ : ∃ k : Nat, i = k := ⟨i.toNat, by omega⟩
    have hx : b.cells[k]? = some (b.cells.getD k Ce.zero) := by
      rw [List.getD, List.getElem?_eq_getElem (by omega)]; rfl
    have hE : b.endE k = if (b.cells.getD k Ce.zero).st = 1 then 0 else 2 := by simp only [Bx.endE, if_pos hi, Int.toNat_natCast]
    unfold Bx.ends
    rw [hE, Int.toNat_natCast]
    generalize b.cells.getD k Ce.zero = c at hx
    by_cases h1 : c.st = 1
    · have hr := trivial
      try simp -dsimp -implicitDefEqProofs (maxSteps := 1000000) (disch := first | exact dis | fail) only [hc_box_Boxes_ends, Bx.O, Int.toNat_natCast, rows_get, hx, cev_eq, Ce.av, h1, go_sem]
      repeat' ((first | (with_reducible first | refine w_if ?_ ?_ | refine w_gt ?_ ?_ | refine w_gf ?_ ?_ | refine w_io ?_ ?_ | refine w_gdt ?_ ?_ | refine w_gdf ?_ ?_ | refine w_ite ?_ ?_) <;> intro h <;> (try rw [h]) <;> replace hr := And.intro h hr <;> replace h := nrm h <;> try (first | (exfalso; omega) | exact (bx h (by assumption)).elim | exact (bx (by assumption) h).elim) | ((with_reducible refine And.intro ?_ ?_); (focus omega))) <;> try simp -dsimp -implicitDefEqProofs (maxSteps := 1000000) (disch := first | exact dis | fail) only [Bx.O, Int.toNat_natCast, rows_get, hx, cev_eq, Ce.av, h1, go_sem])
      refine bx_fin (k := 4) (cs := b.cells.set k { c with st := st }) (es := b.ended ++ [(k : Int)]) rfl (by rw [← rows_set]; rfl) ?_ (by decide) ?_ ?_ ?_ ?_ ?_
      · rw [← rows_append]; simp [rows, i1]
      · simp
      · simp
      · rfl
      · rfl
      · rfl
    · have hr := trivial
      try simp -dsimp -implicitDefEqProofs (maxSteps := 1000000) (disch := first | exact dis | fail) only [hc_box_Boxes_ends, Bx.O, Int.toNat_natCast, rows_get, hx, cev_eq, Ce.av, h1, go_sem]
      repeat' ((first | (with_reducible first | refine w_if ?_ ?_ | refine w_gt ?_ ?_ | refine w_gf ?_ ?_ | refine w_io ?_ ?_ | refine w_gdt ?_ ?_ | refine w_gdf ?_ ?_ | refine w_ite ?_ ?_) <;> intro h <;> (try rw [h]) <;> replace hr := And.intro h hr <;> replace h := nrm h <;> try (first | (exfalso; omega) | exact (bx h (by assumption)).elim | exact (bx (by assumption) h).elim) | ((with_reducible refine And.intro ?_ ?_); (focus omega))) <;> try simp -dsimp -implicitDefEqProofs (maxSteps := 1000000) (disch := first | exact dis | fail) only [Bx.O, Int.toNat_natCast, rows_get, hx, cev_eq, Ce.av, h1, go_sem])
      refine bx_fin rfl rfl rfl (by decide) rfl rfl ?_ rfl ?_
      · rfl
      · rfl
  · have hr := trivial
    try simp -dsimp -implicitDefEqProofs (maxSteps := 1000000) (disch := first | exact dis | fail) only [hc_box_Boxes_ends, Bx.O, go_sem]
    repeat' ((first | (with_reducible first | refine w_if ?_ ?_ | refine w_gt ?_ ?_ | refine w_gf ?_ ?_ | refine w_io ?_ ?_ | refine w_gdt ?_ ?_ | refine w_gdf ?_ ?_ | refine w_ite ?_ ?_) <;> intro h <;> (try rw [h]) <;> replace hr := And.intro h hr <;> replace h := nrm h <;> try (first | (exfalso; omega) | exact (bx h (by assumption)).elim | exact (bx (by assumption) h).elim) | ((with_reducible refine And.intro ?_ ?_); (focus omega))) <;> try simp -dsimp -implicitDefEqProofs (maxSteps := 1000000) (disch := first | exact dis | fail) only [Bx.O, go_sem])
    have hE : b.endE i = 2 := by simp only [Bx.endE, if_neg hi]
    refine bx_fin rfl rfl rfl (by decide) rfl rfl ?_ rfl ?_
    · rw [Bx.ends, hE, if_neg (by decide)]
    · rw [hE]
theorem Sent_ok (b : Bx) (h : BxOk b) (i : Int) : ACall Try.prog f_box_Boxes_Sent [.ptr 0 0, .int .i64 i] b.A fun v A => v = .int .i64 (b.endE i) ∧ A = (b.ends i 2).A := by
  refine acallH ok_box_Boxes_Sent ?_
  have hE := ends_ok b h i 2
  have hr := trivial
  try simp -dsimp -implicitDefEqProofs (maxSteps := 1000000) (disch := first | exact dis | fail) only [hc_box_Boxes_Sent, Bx.A, go_sem]
  repeat' ((first | ((with_reducible refine ACall.atE (hE) [0] ?_ ?_ ?_ ?_ ?_); (focus decide); (focus rfl); (focus (simp -dsimp -implicitDefEqProofs (maxSteps := 1000000) (disch := first | exact dis | fail) only [standsL, Bx.A, go_sem]; done)); (focus (first | rfl | (simp -dsimp -implicitDefEqProofs (maxSteps := 1000000) (disch := first | exact dis | fail) only [Bx.A, go_sem]; done)))) | (with_reducible first | refine w_if ?_ ?_ | refine w_gt ?_ ?_ | refine w_gf ?_ ?_ | refine w_io ?_ ?_ | refine w_gdt ?_ ?_ | refine w_gdf ?_ ?_ | refine w_ite ?_ ?_) <;> intro h <;> (try rw [h]) <;> replace hr := And.intro h hr <;> replace h := nrm h <;> try (first | (exfalso; omega) | exact (bx h (by assumption)).elim | exact (bx (by assumption) h).elim) | ((with_reducible refine And.intro ?_ ?_); (focus omega))) <;> try simp -dsimp -implicitDefEqProofs (maxSteps := 1000000) (disch := first | exact dis | fail) only [Bx.A, go_sem])
  exact ⟨none, rfl, rfl, rfl⟩
theorem Abort_ok (b : Bx) (h : BxOk b) (i : Int) : ACall Try.prog f_box_Boxes_Abort [.ptr 0 0, .int .i64 i] b.A fun v A => v = .int .i64 (b.endE i) ∧ A = (b.ends i 3).A := by
  refine acallH ok_box_Boxes_Abort ?_
  have hE := ends_ok b h i 3
  have hr := trivial
  try simp -dsimp -implicitDefEqProofs (maxSteps := 1000000) (disch := first | exact dis | fail) only [hc_box_Boxes_Abort, Bx.A, go_sem]
  repeat' ((first | ((with_reducible refine ACall.atE (hE) [0] ?_ ?_ ?_ ?_ ?_); (focus decide); (focus rfl); (focus (simp -dsimp -implicitDefEqProofs (maxSteps := 1000000) (disch := first | exact dis | fail) only [standsL, Bx.A, go_sem]; done)); (focus (first | rfl | (simp -dsimp -implicitDefEqProofs (maxSteps := 1000000) (disch := first | exact dis | fail) only [Bx.A, go_sem]; done)))) | (with_reducible first | refine w_if ?_ ?_ | refine w_gt ?_ ?_ | refine w_gf ?_ ?_ | refine w_io ?_ ?_ | refine w_gdt ?_ ?_ | refine w_gdf ?_ ?_ | refine w_ite ?_ ?_) <;> intro h <;> (try rw [h]) <;> replace hr := And.intro h hr <;> replace h := nrm h <;> try (first | (exfalso; omega) | exact (bx h (by assumption)).elim | exact (bx (by assumption) h).elim) | ((with_reducible refine And.intro ?_ ?_); (focus omega))) <;> try simp -dsimp -implicitDefEqProofs (maxSteps := 1000000) (disch := first | exact dis | fail) only [Bx.A, go_sem])
  exact ⟨none, rfl, rfl, rfl⟩
end Go.Proofs.Ytapoilcpollmpaa
end

/- box: taking. -/
section
namespace Go.Proofs.Ytapoilcpollmpaa
open Go.SB
attribute [local irreducible] HW HSS HAS HRQ HEO HOP HCK
set_option maxRecDepth 100000
set_option maxHeartbeats 400000
set_option linter.unusedSimpArgs false
set_option pp.deepTerms.threshold 6
attribute [local go_sem high] own_ren

theorem CloneI_ok (x : Int) (xs : List Int) (hn : xs.length ≤ 1000) : ACall Try.prog f_slices_Clone_of_int [.sl 0 1 1 xs.length false] [some (.arr (rows i1 (x :: xs)))] fun r A => r = .sl 1 1 0 xs.length false ∧ A = [some (.arr (rows i1 (x :: xs))), some (.arr (rows i1 xs))] := by
  by_cases h0 : xs = []
  · subst h0
    refine acall_sl0 (pre := []) (post := []) (acall_emp (z := 1) (by decide) ?_) fun a c => ?_
    · refine acallH ok_slices_Clone_of_int ?_
      have hr := trivial
      try simp -dsimp -implicitDefEqProofs (maxSteps := 1000000) (disch := first | exact dis | fail) only [hc_slices_Clone_of_int, eqv_slice, List.nil_append, go_sem]
      repeat' ((first | (with_reducible first | refine w_if ?_ ?_ | refine w_gt ?_ ?_ | refine w_gf ?_ ?_ | refine w_io ?_ ?_ | refine w_gdt ?_ ?_ | refine w_gdf ?_ ?_ | refine w_ite ?_ ?_) <;> intro h <;> (try rw [h]) <;> replace hr := And.intro h hr <;> replace h := nrm h <;> try (first | (exfalso; omega) | exact (bx h (by assumption)).elim | exact (bx (by assumption) h).elim) | ((with_reducible refine And.intro ?_ ?_); (focus omega))) <;> try simp -dsimp -implicitDefEqProofs (maxSteps := 1000000) (disch := first | exact dis | fail) only [eqv_slice, List.nil_append, go_sem])
      exact ⟨some [], rfl, .inl rfl, by simp only [foldA_eq, go_sem]⟩
    · refine acallH ok_slices_Clone_of_int ?_
      have hr := trivial
      try simp -dsimp -implicitDefEqProofs (maxSteps := 1000000) (disch := first | exact dis | fail) only [hc_slices_Clone_of_int, eqv_slice, List.nil_append, nilS_raw, elems_raw, go_sem]
      repeat' ((first | (with_reducible first | refine w_if ?_ ?_ | refine w_gt ?_ ?_ | refine w_gf ?_ ?_ | refine w_io ?_ ?_ | refine w_gdt ?_ ?_ | refine w_gdf ?_ ?_ | refine w_ite ?_ ?_) <;> intro h <;> (try rw [h]) <;> replace hr := And.intro h hr <;> replace h := nrm h <;> try (first | (exfalso; omega) | exact (bx h (by assumption)).elim | exact (bx (by assumption) h).elim) | ((with_reducible refine And.intro ?_ ?_); (focus omega))) <;> try simp -dsimp -implicitDefEqProofs (maxSteps := 1000000) (disch := first | exact dis | fail) only [eqv_slice, List.nil_append, nilS_raw, elems_raw, go_sem])
      exact ⟨some [2], rfl, rfl, by simp only [foldA_eq, go_sem]; rfl⟩
  · have hl : 0 < xs.length := by cases xs; exact absurd rfl h0; simp
    have hd : ((rows i1 (x :: xs)).drop 1).take xs.length = rows i1 xs := by
      rw [rows_drop, rows_take, List.drop_succ_cons, List.drop_zero, List.take_length]
    refine acallH ok_slices_Clone_of_int ?_
    have hr := trivial
    try simp -dsimp -implicitDefEqProofs (maxSteps := 1000000) (disch := first | exact dis | fail) only [hc_slices_Clone_of_int, eqv_slice, hd, go_sem]
    repeat' ((first | (with_reducible first | refine w_if ?_ ?_ | refine w_gt ?_ ?_ | refine w_gf ?_ ?_ | refine w_io ?_ ?_ | refine w_gdt ?_ ?_ | refine w_gdf ?_ ?_ | refine w_ite ?_ ?_) <;> intro h <;> (try rw [h]) <;> replace hr := And.intro h hr <;> replace h := nrm h <;> try (first | (exfalso; omega) | exact (bx h (by assumption)).elim | exact (bx (by assumption) h).elim) | ((with_reducible refine And.intro ?_ ?_); (focus omega))) <;> try simp -dsimp -implicitDefEqProofs (maxSteps := 1000000) (disch := first | exact dis | fail) only [eqv_slice, hd, go_sem])
    exact ⟨some [2], rfl, rfl, by simp only [foldA_eq, go_sem]⟩
def doneV (b : Bx) : List AV := match b.ended with
  | [] => [.int .i64 0, .int .i64 0, .int .i64 0, .int .i64 0, .str [], .int .i64 0, .int .i64 0, .bool false, .bool false]
  | i :: _ => .int .i64 i :: (b.cells.getD i.toNat Ce.zero).pk.av ++ [.bool (decide ((b.cells.getD i.toNat Ce.zero).st = 2))]
def Bx.take (b : Bx) : Bx := match b.ended with
  | [] => b
  | i :: es => { b with cells := b.cells.set i.toNat Ce.zero, ended := es }
def Bx.takeE (b : Bx) : Int := if b.ended.length = 0 then 6 else 0
theorem bTake_ok (b : Bx) (h : BxOk b) (he : ∀ i, i ∈ b.ended → 0 ≤ i ∧ i < b.cells.length) : ACall Try.prog f_box_Boxes_Take [.ptr 0 0] b.A fun v A => v = .tup [.agg (doneV b), .int .i64 b.takeE] ∧ A = b.take.A := by
  refine acallV ok_box_Boxes_Take b.opn ?_
  have hc := h.c
  have hel := h.e
  cases hE : b.ended with
  | nil =>
    have hr := trivial
    try simp -dsimp -implicitDefEqProofs (maxSteps := 1000000) (disch := first | exact dis | fail) only [hc_box_Boxes_Take, Bx.O, hE, List.length_nil, go_sem]
    repeat' ((first | (with_reducible first | refine w_if ?_ ?_ | refine w_gt ?_ ?_ | refine w_gf ?_ ?_ | refine w_io ?_ ?_ | refine w_gdt ?_ ?_ | refine w_gdf ?_ ?_ | refine w_ite ?_ ?_) <;> intro h <;> (try rw [h]) <;> replace hr := And.intro h hr <;> replace h := nrm h <;> try (first | (exfalso; omega) | exact (bx h (by assumption)).elim | exact (bx (by assumption) h).elim) | ((with_reducible refine And.intro ?_ ?_); (focus omega))) <;> try simp -dsimp -implicitDefEqProofs (maxSteps := 1000000) (disch := first | exact dis | fail) only [Bx.O, hE, List.length_nil, go_sem])
    refine bx_fin (es := []) rfl rfl rfl (by decide) rfl rfl ?_ rfl ?_
    · simp only [Bx.take, hE]; rw [← hE]
    · simp only [Bx.takeE, doneV, hE]; rfl
  | cons i es =>
    rw [hE] at hel
    obtain ⟨h1, h2⟩ := he i (by rw [hE]; simp)
    obtain ⟨k, rfl⟩ : ∃ k : Nat, i = k := ⟨i.toNat, by omega⟩
    have hx : b.cells[k]? = some (b.cells.getD k Ce.zero) := by
      rw [List.getD, List.getElem?_eq_getElem (by omega)]; rfl
    have hD : doneV b = .int .i64 k :: (b.cells.getD k Ce.zero).pk.av ++ [.bool (decide ((b.cells.getD k Ce.zero).st = 2))] := by simp only [doneV, hE, Int.toNat_natCast]
    generalize b.cells.getD k Ce.zero = c at hx hD
    have hC := CloneI_ok k es (by simp only [List.length_cons] at hel; omega)
    have h0 : ((k : Int) :: es)[Int.toNat 0]? = some (k : Int) := rfl
    have hs : AV.slc 1 (.sl 2 1 0 (es.length + 1) false) (some (.int .i64 1)) none none = some (.sl 2 1 1 es.length false) := by
      have e : (1 : Int) ≤ (es.length : Int) + 1 := by omega
      simp [AV.slc, bnds, hiOr, bnd, e]
    have hi : i1 k = [.int .i64 k] := rfl
    have hr := trivial
    try simp -dsimp -implicitDefEqProofs (maxSteps := 1000000) (disch := first | exact dis | fail) only [hc_box_Boxes_Take, Bx.O, hE, Int.toNat_natCast, rows_get, hx, cev_eq, Ce.av, h0, hi, hs, List.length_cons, go_sem]
    repeat' ((first | ((with_reducible refine ACall.atE (hC) [2] ?_ ?_ ?_ ?_ ?_); (focus decide); (focus rfl); (focus (simp -dsimp -implicitDefEqProofs (maxSteps := 1000000) (disch := first | exact dis | fail) only [standsL, Bx.O, hE, Int.toNat_natCast, rows_get, hx, cev_eq, Ce.av, h0, hi, hs, List.length_cons, go_sem]; done)); (focus (first | rfl | (simp -dsimp -implicitDefEqProofs (maxSteps := 1000000) (disch := first | exact dis | fail) only [Bx.O, hE, Int.toNat_natCast, rows_get, hx, cev_eq, Ce.av, h0, hi, hs, List.length_cons, go_sem]; done)))) | (with_reducible first | refine w_if ?_ ?_ | refine w_gt ?_ ?_ | refine w_gf ?_ ?_ | refine w_io ?_ ?_ | refine w_gdt ?_ ?_ | refine w_gdf ?_ ?_ | refine w_ite ?_ ?_) <;> intro h <;> (try rw [h]) <;> replace hr := And.intro h hr <;> replace h := nrm h <;> try (first | (exfalso; omega) | exact (bx h (by assumption)).elim | exact (bx (by assumption) h).elim) | ((with_reducible refine And.intro ?_ ?_); (focus omega))) <;> try simp -dsimp -implicitDefEqProofs (maxSteps := 1000000) (disch := first | exact dis | fail) only [Bx.O, hE, Int.toNat_natCast, rows_get, hx, cev_eq, Ce.av, h0, hi, hs, List.length_cons, go_sem])
    refine bx_fin (k := 4) (cs := b.cells.set k Ce.zero) (es := es) rfl (by rw [← rows_set]; rfl) rfl (by decide) ?_ rfl ?_ rfl ?_
    · simp
    · simp only [Bx.take, hE, Int.toNat_natCast]
    · rw [hD]
      simp only [Bx.takeE, hE]; rfl
end Go.Proofs.Ytapoilcpollmpaa
end

/- box: states. -/
section
namespace Go.Proofs.Ytapoilcpollmpaa
open Go.SB
attribute [local irreducible] HW HSS HAS HRQ HEO HOP HCK
set_option maxRecDepth 100000
set_option maxHeartbeats 400000
set_option linter.unusedSimpArgs false
set_option pp.deepTerms.threshold 6
attribute [local go_sem high] own_ren

theorem i1_snoc {xs : List Int} {x : Int} : rows i1 xs ++ [[.int .i64 x]] = rows i1 (xs ++ [x]) := by simp [rows, i1]
def Bx.sts (b : Bx) : List Int := b.cells.map Ce.st
theorem sts_len (b : Bx) : b.sts.length = b.cells.length := by simp [Bx.sts]
theorem sts_take {b : Bx} {i : Nat} {c : Ce} (h : b.cells[i]? = some c) : b.sts.take (i + 1) = b.sts.take i ++ [c.st] := by
  rw [List.take_add_one]
  simp [Bx.sts, h]
theorem States_ok (b : Bx) (h : BxOk b) : ACall Try.prog f_box_Boxes_States [.ptr 0 0] b.A fun v A => v = .sl 1 1 0 b.cells.length false ∧ A = b.A ++ [some (.arr (rows i1 b.sts))] := by
  refine acallV ok_box_Boxes_States b.opn ?_
  rw [show b.A.length = 1 from rfl]
  have hc := h.c
  have hr := trivial
  try simp -dsimp -implicitDefEqProofs (maxSteps := 1000000) (disch := first | exact dis | fail) only [hc_box_Boxes_States, Bx.O, go_sem]
  repeat' ((first | (with_reducible first | refine w_if ?_ ?_ | refine w_gt ?_ ?_ | refine w_gf ?_ ?_ | refine w_io ?_ ?_ | refine w_gdt ?_ ?_ | refine w_gdf ?_ ?_ | refine w_ite ?_ ?_) <;> intro h <;> (try rw [h]) <;> replace hr := And.intro h hr <;> replace h := nrm h <;> try (first | (exfalso; omega) | exact (bx h (by assumption)).elim | exact (bx (by assumption) h).elim) | ((with_reducible refine And.intro ?_ ?_); (focus omega))) <;> try simp -dsimp -implicitDefEqProofs (maxSteps := 1000000) (disch := first | exact dis | fail) only [Bx.O, go_sem])
  unfold hc_box_Boxes_States_l1
  refine hw_loopN b.cells.length (fun i ρ A => ρ = rg 13 [(2, .sl 3 1 0 i false), (5, .sl 1 9 0 b.cells.length false), (6, .int .i64 b.cells.length), (7, .int .i64 i)] ∧ A = b.O ++ [some (.arr (rows i1 (b.sts.take i)))]) [(2, 1)] ?_ ⟨none, rfl, ?_, ?_⟩ ?_
  · simp only [nlOk, isNils, go_sem]
  · simp only [nlR, foldRo, go_sem]
  · rfl
  rintro i ρ A hi ⟨rfl, rfl⟩
  have hl : (b.sts.take i).length = i := by rw [List.length_take, sts_len]; omega
  by_cases hlt : i < b.cells.length
  · have hx : b.cells[i]? = some b.cells[i] := List.getElem?_eq_getElem hlt
    generalize b.cells[i] = c at hx
    have hs := sts_take hx
    have hrl : (rows i1 (b.sts.take i)).length = i := by rw [rows_length, hl]
    have hr := trivial
    try simp -dsimp -implicitDefEqProofs (maxSteps := 1000000) (disch := first | exact dis | fail) only [hc_box_Boxes_States_b1, Bx.O, Int.toNat_natCast, rows_get, hx, cev_eq, Ce.av, hrl, appF_full hrl, i1_snoc, go_sem]
    repeat' ((first | (with_reducible first | refine w_if ?_ ?_ | refine w_gt ?_ ?_ | refine w_gf ?_ ?_ | refine w_io ?_ ?_ | refine w_gdt ?_ ?_ | refine w_gdf ?_ ?_ | refine w_ite ?_ ?_) <;> intro h <;> (try rw [h]) <;> replace hr := And.intro h hr <;> replace h := nrm h <;> try (first | (exfalso; omega) | exact (bx h (by assumption)).elim | exact (bx (by assumption) h).elim) | ((with_reducible refine And.intro ?_ ?_); (focus omega))) <;> try simp -dsimp -implicitDefEqProofs (maxSteps := 1000000) (disch := first | exact dis | fail) only [Bx.O, Int.toNat_natCast, rows_get, hx, cev_eq, Ce.av, hrl, appF_full hrl, i1_snoc, go_sem])
    refine ⟨some [1, 2, 6], rfl, ?_, ?_⟩
    · simp only [foldR_eq, go_sem]; rfl
    · simp only [foldA_eq, go_sem, hs, Bx.O]
  · obtain rfl : i = b.cells.length := by omega
    rw [List.take_of_length_le (by rw [sts_len]; exact Nat.le_refl _)]
    have hr := trivial
    try simp -dsimp -implicitDefEqProofs (maxSteps := 1000000) (disch := first | exact dis | fail) only [hc_box_Boxes_States_b1, Bx.O, go_sem]
    repeat' ((first | (with_reducible first | refine w_if ?_ ?_ | refine w_gt ?_ ?_ | refine w_gf ?_ ?_ | refine w_io ?_ ?_ | refine w_gdt ?_ ?_ | refine w_gdf ?_ ?_ | refine w_ite ?_ ?_) <;> intro h <;> (try rw [h]) <;> replace hr := And.intro h hr <;> replace h := nrm h <;> try (first | (exfalso; omega) | exact (bx h (by assumption)).elim | exact (bx (by assumption) h).elim) | ((with_reducible refine And.intro ?_ ?_); (focus omega))) <;> try simp -dsimp -implicitDefEqProofs (maxSteps := 1000000) (disch := first | exact dis | fail) only [Bx.O, go_sem])
    refine ⟨_, vw_close (l := 0) rfl (.sl (p := 1) rfl (by rw [rows_length]; omega) (by decide) rows_all flatLL_rows rfl (.sl (p := 2) rfl (by rw [rows_length]; omega) (by decide) rows_all flatLL_rows rfl (.v rfl .nil))), some [3], rfl, rfl, ?_⟩
    simp only [clo, kills, foldA_eq, go_sem, Bx.A, Bx.ov]
/-- How many are free. -/
def cnt0 (l : List Int) (i : Nat) : Nat := (l.take i).countP fun x => decide (x = 0)
theorem cnt0_step {l : List Int} {i : Nat} {x : Int} (h : l[i]? = some x) : cnt0 l (i + 1) = cnt0 l i + if x = 0 then 1 else 0 := by
  unfold cnt0
  rw [List.take_add_one, h, List.countP_append]
  simp [List.countP_cons]
theorem cnt0_le {l : List Int} {i : Nat} : cnt0 l i ≤ i := by
  unfold cnt0
  have := List.countP_le_length (p := fun x => decide (x = 0)) (l := l.take i)
  rw [List.length_take] at this
  omega
def Bx.free (b : Bx) : Int := cnt0 b.sts b.cells.length
theorem Free_ok (b : Bx) (h : BxOk b) : ACall Try.prog f_box_Boxes_Free [.ptr 0 0] b.A fun v A => v = .int .i64 b.free ∧ A = b.A := by
  refine acallH ok_box_Boxes_Free ?_
  rw [show b.A.length = 1 from rfl]
  have hc := h.c
  have hS := States_ok b h
  have hr := trivial
  try simp -dsimp -implicitDefEqProofs (maxSteps := 1000000) (disch := first | exact dis | fail) only [hc_box_Boxes_Free, Bx.A, go_sem]
  repeat' ((first | ((with_reducible refine ACall.atE (hS) [0] ?_ ?_ ?_ ?_ ?_); (focus decide); (focus rfl); (focus (simp -dsimp -implicitDefEqProofs (maxSteps := 1000000) (disch := first | exact dis | fail) only [standsL, Bx.A, go_sem]; done)); (focus (first | rfl | (simp -dsimp -implicitDefEqProofs (maxSteps := 1000000) (disch := first | exact dis | fail) only [Bx.A, go_sem]; done)))) | (with_reducible first | refine w_if ?_ ?_ | refine w_gt ?_ ?_ | refine w_gf ?_ ?_ | refine w_io ?_ ?_ | refine w_gdt ?_ ?_ | refine w_gdf ?_ ?_ | refine w_ite ?_ ?_) <;> intro h <;> (try rw [h]) <;> replace hr := And.intro h hr <;> replace h := nrm h <;> try (first | (exfalso; omega) | exact (bx h (by assumption)).elim | exact (bx (by assumption) h).elim) | ((with_reducible refine And.intro ?_ ?_); (focus omega))) <;> try simp -dsimp -implicitDefEqProofs (maxSteps := 1000000) (disch := first | exact dis | fail) only [Bx.A, go_sem])
  unfold hc_box_Boxes_Free_l1
  refine hw_loop b.cells.length (fun i ρ A => ρ = rg 9 [(2, .int .i64 (cnt0 b.sts i)), (4, .sl 1 1 0 b.cells.length false), (5, .int .i64 b.cells.length), (6, .int .i64 i)] ∧ A = b.A ++ [some (.arr (rows i1 b.sts))]) ⟨none, rfl, by simp only [go_sem]; rfl, rfl⟩ ?_
  rintro i ρ A hi ⟨rfl, rfl⟩
  by_cases hlt : i < b.cells.length
  · have hli : i < b.sts.length := by rw [sts_len]; omega
    have hx : b.sts[i]? = some b.sts[i] := List.getElem?_eq_getElem hli
    generalize b.sts[i] = x at hx
    have hs := cnt0_step hx
    have hle := cnt0_le (l := b.sts) (i := i)
    by_cases h0 : x = 0
    · have hr := trivial
      try simp -dsimp -implicitDefEqProofs (maxSteps := 1000000) (disch := first | exact dis | fail) only [hc_box_Boxes_Free_b1, Bx.A, Int.toNat_natCast, rows_get, hx, i1, h0, go_sem]
      repeat' ((first | (with_reducible first | refine w_if ?_ ?_ | refine w_gt ?_ ?_ | refine w_gf ?_ ?_ | refine w_io ?_ ?_ | refine w_gdt ?_ ?_ | refine w_gdf ?_ ?_ | refine w_ite ?_ ?_) <;> intro h <;> (try rw [h]) <;> replace hr := And.intro h hr <;> replace h := nrm h <;> try (first | (exfalso; omega) | exact (bx h (by assumption)).elim | exact (bx (by assumption) h).elim) | ((with_reducible refine And.intro ?_ ?_); (focus omega))) <;> try simp -dsimp -implicitDefEqProofs (maxSteps := 1000000) (disch := first | exact dis | fail) only [Bx.A, Int.toNat_natCast, rows_get, hx, i1, h0, go_sem])
      exact ⟨none, rfl, by simp only [foldRn, go_sem, hs, if_pos h0]; rfl, rfl⟩
    · have hr := trivial
      try simp -dsimp -implicitDefEqProofs (maxSteps := 1000000) (disch := first | exact dis | fail) only [hc_box_Boxes_Free_b1, Bx.A, Int.toNat_natCast, rows_get, hx, i1, h0, go_sem]
      repeat' ((first | (with_reducible first | refine w_if ?_ ?_ | refine w_gt ?_ ?_ | refine w_gf ?_ ?_ | refine w_io ?_ ?_ | refine w_gdt ?_ ?_ | refine w_gdf ?_ ?_ | refine w_ite ?_ ?_) <;> intro h <;> (try rw [h]) <;> replace hr := And.intro h hr <;> replace h := nrm h <;> try (first | (exfalso; omega) | exact (bx h (by assumption)).elim | exact (bx (by assumption) h).elim) | ((with_reducible refine And.intro ?_ ?_); (focus omega))) <;> try simp -dsimp -implicitDefEqProofs (maxSteps := 1000000) (disch := first | exact dis | fail) only [Bx.A, Int.toNat_natCast, rows_get, hx, i1, h0, go_sem])
      exact ⟨none, rfl, by simp only [foldRn, go_sem, hs, if_neg h0]; rfl, rfl⟩
  · obtain rfl : i = b.cells.length := by omega
    have hr := trivial
    try simp -dsimp -implicitDefEqProofs (maxSteps := 1000000) (disch := first | exact dis | fail) only [hc_box_Boxes_Free_b1, Bx.A, go_sem]
    repeat' ((first | (with_reducible first | refine w_if ?_ ?_ | refine w_gt ?_ ?_ | refine w_gf ?_ ?_ | refine w_io ?_ ?_ | refine w_gdt ?_ ?_ | refine w_gdf ?_ ?_ | refine w_ite ?_ ?_) <;> intro h <;> (try rw [h]) <;> replace hr := And.intro h hr <;> replace h := nrm h <;> try (first | (exfalso; omega) | exact (bx h (by assumption)).elim | exact (bx (by assumption) h).elim) | ((with_reducible refine And.intro ?_ ?_); (focus omega))) <;> try simp -dsimp -implicitDefEqProofs (maxSteps := 1000000) (disch := first | exact dis | fail) only [Bx.A, go_sem])
    exact ⟨some [], rfl, rfl, by simp only [foldA_eq, go_sem]⟩
end Go.Proofs.Ytapoilcpollmpaa
end

/- box: the best. -/
section
namespace Go.Proofs.Ytapoilcpollmpaa
open Go.SB
attribute [local irreducible] HW HSS HAS HRQ HEO HOP HCK
set_option maxRecDepth 100000
set_option maxHeartbeats 400000
set_option linter.unusedSimpArgs false
set_option pp.deepTerms.threshold 6
attribute [local go_sem high] own_ren

def aheadB (c d : Ce) : Bool := decide (keyR c.pk.fr < keyR d.pk.fr) || decide (keyR c.pk.fr = keyR d.pk.fr) && decide (c.since < d.since)
theorem ahead_ok (c d : Ce) : PCall Try.prog f_box_Boxes_Best_1 [.agg c.av, .agg d.av] (.bool (aheadB c d)) := by
  refine pcallI ok_box_Boxes_Best_1 ?_
  have h1 : PCall Try.prog f_frame_Key [.agg c.pk.fr.av] (.int .i64 (keyR c.pk.fr)) := key_eq c.pk.fr ▸ Key_ok c.pk.fr
  have h2 : PCall Try.prog f_frame_Key [.agg d.pk.fr.av] (.int .i64 (keyR d.pk.fr)) := key_eq d.pk.fr ▸ Key_ok d.pk.fr
  have hr := trivial
  try simp -dsimp -implicitDefEqProofs (maxSteps := 1000000) (disch := first | exact dis | fail) only [hc_box_Boxes_Best_1, Ce.av, aheadB, go_sem]
  repeat' ((first | (with_reducible refine PCall.aci h1 ?_) | (with_reducible refine PCall.aci h2 ?_) | (with_reducible first | refine w_if ?_ ?_ | refine w_gt ?_ ?_ | refine w_gf ?_ ?_ | refine w_io ?_ ?_ | refine w_gdt ?_ ?_ | refine w_gdf ?_ ?_ | refine w_ite ?_ ?_) <;> intro h <;> (try rw [h]) <;> replace hr := And.intro h hr <;> replace h := nrm h <;> try (first | (exfalso; omega) | exact (bx h (by assumption)).elim | exact (bx (by assumption) h).elim) | ((with_reducible refine And.intro ?_ ?_); (focus omega))) <;> try simp -dsimp -implicitDefEqProofs (maxSteps := 1000000) (disch := first | exact dis | fail) only [Ce.av, aheadB, go_sem])
def bestN (cs : List Ce) : Nat → Int
  | 0 => -1
  | i + 1 => if (cs.getD i Ce.zero).st = 1 ∧ (bestN cs i < 0 ∨ aheadB (cs.getD i Ce.zero) (cs.getD (bestN cs i).toNat Ce.zero) = true) then i else bestN cs i
theorem bestN_b (cs : List Ce) : ∀ i, -1 ≤ bestN cs i ∧ bestN cs i < i
  | 0 => by simp [bestN]
  | i + 1 => by
    have := bestN_b cs i
    unfold bestN
    split <;> omega
def Bx.best (b : Bx) : Int := bestN b.cells b.cells.length
def Bx.bestV (b : Bx) : AV := if b.best < 0 then .tup [.int .i64 0, .agg Pk.zero.av, .bool false] else .tup [.int .i64 b.best, .agg (b.cells.getD b.best.toNat Ce.zero).pk.av, .bool true]
theorem Best_ok (b : Bx) (h : BxOk b) : ACall Try.prog f_box_Boxes_Best [.ptr 0 0] b.A fun v A => v = b.bestV ∧ A = b.A := by
  refine acallV ok_box_Boxes_Best b.opn ?_
  rw [show b.A.length = 1 from rfl]
  have hc := h.c
  have hr := trivial
  try simp -dsimp -implicitDefEqProofs (maxSteps := 1000000) (disch := first | exact dis | fail) only [hc_box_Boxes_Best, Bx.O, go_sem]
  repeat' ((first | (with_reducible first | refine w_if ?_ ?_ | refine w_gt ?_ ?_ | refine w_gf ?_ ?_ | refine w_io ?_ ?_ | refine w_gdt ?_ ?_ | refine w_gdf ?_ ?_ | refine w_ite ?_ ?_) <;> intro h <;> (try rw [h]) <;> replace hr := And.intro h hr <;> replace h := nrm h <;> try (first | (exfalso; omega) | exact (bx h (by assumption)).elim | exact (bx (by assumption) h).elim) | ((with_reducible refine And.intro ?_ ?_); (focus omega))) <;> try simp -dsimp -implicitDefEqProofs (maxSteps := 1000000) (disch := first | exact dis | fail) only [Bx.O, go_sem])
  unfold hc_box_Boxes_Best_l1
  refine hw_loop b.cells.length (fun i ρ A => ρ = rg 20 [(0, .ptr 0 0), (2, .ptr 3 0), (4, .int .i64 (bestN b.cells i)), (5, .fn f_box_Boxes_Best_1 [] []), (9, .sl 1 9 0 b.cells.length false), (10, .int .i64 b.cells.length), (11, .int .i64 i)] ∧ A = b.O ++ [some (.cells Pk.zero.av)]) ⟨none, rfl, by simp only [foldRn, go_sem]; rfl, rfl⟩ ?_
  rintro i ρ A hi ⟨rfl, rfl⟩
  obtain ⟨hb0, hb1⟩ := bestN_b b.cells i
  by_cases hlt : i < b.cells.length
  · have hx : b.cells[i]? = some (b.cells.getD i Ce.zero) := by
      rw [List.getD, List.getElem?_eq_getElem hlt]; rfl
    have hs : bestN b.cells (i + 1) = if (b.cells.getD i Ce.zero).st = 1 ∧ (bestN b.cells i < 0 ∨ aheadB (b.cells.getD i Ce.zero) (b.cells.getD (bestN b.cells i).toNat Ce.zero) = true) then (i : Int) else bestN b.cells i := rfl
    generalize b.cells.getD i Ce.zero = c at hx hs
    generalize bestN b.cells i = m at hb0 hb1 hs
    by_cases h1 : c.st = 1
    · by_cases hm : m < 0
      · rw [if_pos ⟨h1, .inl hm⟩] at hs
        have hr := trivial
        try simp -dsimp -implicitDefEqProofs (maxSteps := 1000000) (disch := first | exact dis | fail) only [hc_box_Boxes_Best_b1, Bx.O, Int.toNat_natCast, rows_get, hx, cev_eq, Ce.av, Pk.av, h1, hm, go_sem]
        repeat' ((first | (with_reducible first | refine w_if ?_ ?_ | refine w_gt ?_ ?_ | refine w_gf ?_ ?_ | refine w_io ?_ ?_ | refine w_gdt ?_ ?_ | refine w_gdf ?_ ?_ | refine w_ite ?_ ?_) <;> intro h <;> (try rw [h]) <;> replace hr := And.intro h hr <;> replace h := nrm h <;> try (first | (exfalso; omega) | exact (bx h (by assumption)).elim | exact (bx (by assumption) h).elim) | ((with_reducible refine And.intro ?_ ?_); (focus omega))) <;> try simp -dsimp -implicitDefEqProofs (maxSteps := 1000000) (disch := first | exact dis | fail) only [Bx.O, Int.toNat_natCast, rows_get, hx, cev_eq, Ce.av, Pk.av, h1, hm, go_sem])
        exact ⟨some [1, 2, 3], rfl, by simp only [foldR_eq, go_sem, hs]; rfl, by simp only [foldA_eq, go_sem, Bx.O]⟩
      · obtain ⟨k, rfl⟩ : ∃ k : Nat, m = k := ⟨m.toNat, by omega⟩
        rw [Int.toNat_natCast] at hs
        have hy : b.cells[k]? = some (b.cells.getD k Ce.zero) := by
          rw [List.getD, List.getElem?_eq_getElem (by omega)]; rfl
        generalize b.cells.getD k Ce.zero = d at hy hs
        have hA := ahead_ok c d
        generalize aheadB c d = ab at hA hs
        cases ab
        · rw [if_neg (fun h => h.2.elim (fun h => by omega) (fun h => by cases h))] at hs
          have hr := trivial
          try simp -dsimp -implicitDefEqProofs (maxSteps := 1000000) (disch := first | exact dis | fail) only [hc_box_Boxes_Best_b1, Bx.O, Int.toNat_natCast, rows_get, hx, hy, cev_eq, Ce.av, Pk.av, hm, go_sem]
          repeat' ((first | (with_reducible refine PCall.aci hA ?_) | (with_reducible first | refine w_if ?_ ?_ | refine w_gt ?_ ?_ | refine w_gf ?_ ?_ | refine w_io ?_ ?_ | refine w_gdt ?_ ?_ | refine w_gdf ?_ ?_ | refine w_ite ?_ ?_) <;> intro h <;> (try rw [h]) <;> replace hr := And.intro h hr <;> replace h := nrm h <;> try (first | (exfalso; omega) | exact (bx h (by assumption)).elim | exact (bx (by assumption) h).elim) | ((with_reducible refine And.intro ?_ ?_); (focus omega))) <;> try simp -dsimp -implicitDefEqProofs (maxSteps := 1000000) (disch := first | exact dis | fail) only [Bx.O, Int.toNat_natCast, rows_get, hx, hy, cev_eq, Ce.av, Pk.av, hm, go_sem])
          exact ⟨some [1, 2, 3], rfl, by simp only [foldR_eq, go_sem, hs]; rfl, by simp only [foldA_eq, go_sem, Bx.O]⟩
        · rw [if_pos ⟨h1, .inr rfl⟩] at hs
          have hr := trivial
          try simp -dsimp -implicitDefEqProofs (maxSteps := 1000000) (disch := first | exact dis | fail) only [hc_box_Boxes_Best_b1, Bx.O, Int.toNat_natCast, rows_get, hx, hy, cev_eq, Ce.av, Pk.av, hm, go_sem]
          repeat' ((first | (with_reducible refine PCall.aci hA ?_) | (with_reducible first | refine w_if ?_ ?_ | refine w_gt ?_ ?_ | refine w_gf ?_ ?_ | refine w_io ?_ ?_ | refine w_gdt ?_ ?_ | refine w_gdf ?_ ?_ | refine w_ite ?_ ?_) <;> intro h <;> (try rw [h]) <;> replace hr := And.intro h hr <;> replace h := nrm h <;> try (first | (exfalso; omega) | exact (bx h (by assumption)).elim | exact (bx (by assumption) h).elim) | ((with_reducible refine And.intro ?_ ?_); (focus omega))) <;> try simp -dsimp -implicitDefEqProofs (maxSteps := 1000000) (disch := first | exact dis | fail) only [Bx.O, Int.toNat_natCast, rows_get, hx, hy, cev_eq, Ce.av, Pk.av, hm, go_sem])
          exact ⟨some [1, 2, 3], rfl, by simp only [foldR_eq, go_sem, hs]; rfl, by simp only [foldA_eq, go_sem, Bx.O]⟩
    · rw [if_neg (fun h => h1 h.1)] at hs
      have hr := trivial
      try simp -dsimp -implicitDefEqProofs (maxSteps := 1000000) (disch := first | exact dis | fail) only [hc_box_Boxes_Best_b1, Bx.O, Int.toNat_natCast, rows_get, hx, cev_eq, Ce.av, Pk.av, h1, go_sem]
      repeat' ((first | (with_reducible first | refine w_if ?_ ?_ | refine w_gt ?_ ?_ | refine w_gf ?_ ?_ | refine w_io ?_ ?_ | refine w_gdt ?_ ?_ | refine w_gdf ?_ ?_ | refine w_ite ?_ ?_) <;> intro h <;> (try rw [h]) <;> replace hr := And.intro h hr <;> replace h := nrm h <;> try (first | (exfalso; omega) | exact (bx h (by assumption)).elim | exact (bx (by assumption) h).elim) | ((with_reducible refine And.intro ?_ ?_); (focus omega))) <;> try simp -dsimp -implicitDefEqProofs (maxSteps := 1000000) (disch := first | exact dis | fail) only [Bx.O, Int.toNat_natCast, rows_get, hx, cev_eq, Ce.av, Pk.av, h1, go_sem])
      exact ⟨some [1, 2, 3], rfl, by simp only [foldR_eq, go_sem, hs]; rfl, by simp only [foldA_eq, go_sem, Bx.O]⟩
  · obtain rfl : i = b.cells.length := by omega
    have hd : bestN b.cells b.cells.length = b.best := rfl
    by_cases hm : b.best < 0
    · have hr := trivial
      try simp -dsimp -implicitDefEqProofs (maxSteps := 1000000) (disch := first | exact dis | fail) only [hc_box_Boxes_Best_b1, Bx.O, Pk.av, hd, hm, go_sem]
      repeat' ((first | (with_reducible first | refine w_if ?_ ?_ | refine w_gt ?_ ?_ | refine w_gf ?_ ?_ | refine w_io ?_ ?_ | refine w_gdt ?_ ?_ | refine w_gdf ?_ ?_ | refine w_ite ?_ ?_) <;> intro h <;> (try rw [h]) <;> replace hr := And.intro h hr <;> replace h := nrm h <;> try (first | (exfalso; omega) | exact (bx h (by assumption)).elim | exact (bx (by assumption) h).elim) | ((with_reducible refine And.intro ?_ ?_); (focus omega))) <;> try simp -dsimp -implicitDefEqProofs (maxSteps := 1000000) (disch := first | exact dis | fail) only [Bx.O, Pk.av, hd, hm, go_sem])
      exact bx_fin rfl rfl rfl (by decide) rfl rfl rfl rfl (by rw [Bx.bestV, if_pos hm]; rfl)
    · rw [hd] at hb1
      obtain ⟨k, hk⟩ : ∃ k : Nat, b.best = k := ⟨b.best.toNat, by omega⟩
      rw [hk] at hd hb1 hm
      have hx : b.cells[k]? = some (b.cells.getD k Ce.zero) := by
        rw [List.getD, List.getElem?_eq_getElem (by omega)]; rfl
      have hV : b.bestV = .tup [.int .i64 k, .agg (b.cells.getD k Ce.zero).pk.av, .bool true] := by rw [Bx.bestV, hk, if_neg hm, Int.toNat_natCast]
      generalize b.cells.getD k Ce.zero = c at hx hV
      have hr := trivial
      try simp -dsimp -implicitDefEqProofs (maxSteps := 1000000) (disch := first | exact dis | fail) only [hc_box_Boxes_Best_b1, Bx.O, Pk.av, hd, hm, Int.toNat_natCast, rows_get, hx, cev_eq, Ce.av, go_sem]
      repeat' ((first | (with_reducible first | refine w_if ?_ ?_ | refine w_gt ?_ ?_ | refine w_gf ?_ ?_ | refine w_io ?_ ?_ | refine w_gdt ?_ ?_ | refine w_gdf ?_ ?_ | refine w_ite ?_ ?_) <;> intro h <;> (try rw [h]) <;> replace hr := And.intro h hr <;> replace h := nrm h <;> try (first | (exfalso; omega) | exact (bx h (by assumption)).elim | exact (bx (by assumption) h).elim) | ((with_reducible refine And.intro ?_ ?_); (focus omega))) <;> try simp -dsimp -implicitDefEqProofs (maxSteps := 1000000) (disch := first | exact dis | fail) only [Bx.O, Pk.av, hd, hm, Int.toNat_natCast, rows_get, hx, cev_eq, Ce.av, go_sem])
      exact bx_fin rfl rfl rfl (by decide) rfl rfl rfl rfl (by rw [hV])
end Go.Proofs.Ytapoilcpollmpaa
end
