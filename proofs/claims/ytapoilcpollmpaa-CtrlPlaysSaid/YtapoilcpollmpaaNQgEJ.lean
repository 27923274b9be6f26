/- QgE, QgF, QgG, QgH, QgI, QgJ, put together. Conditions: none. -/
import Derived.Test.YtapoilcpollmpaaNQgAD
/- ref13: mailboxes as the document tells them. -/
section
namespace Go.Proofs.Ytapoilcpollmpaa
open Go.SB
attribute [local irreducible] HW HSS HAS HRQ HEO HOP HCK
set_option maxRecDepth 100000
set_option maxHeartbeats 400000
set_option linter.unusedSimpArgs false
set_option pp.deepTerms.threshold 6
attribute [local go_sem high] own_ren

def pkv (p : Pk) : List AV := p.av
theorem pkv_eq (p : Pk) : pkv p = p.av := rfl
instance : Flt pkv := ⟨fun _ => rfl⟩
instance : RowF pkv 7 := ⟨fun _ => ⟨rfl, rfl⟩⟩
structure Rx where
  st : List Int
  pk : List Pk
  ord : List Int
  ended : List Int
def Rx.ov (b : Rx) : List OV := [.s 1 (rows i1 b.st), .s 7 (rows pkv b.pk), .s 1 (rows i1 b.ord), .s 1 (rows i1 b.ended)]
def Rx.A (b : Rx) : AHeap := [some (.own b.ov)]
def Rx.O (b : Rx) : AHeap := [some (.cells [.sl 1 1 0 b.st.length false, .sl 2 7 0 b.pk.length false, .sl 3 1 0 b.ord.length false, .sl 4 1 0 b.ended.length false]), some (.arr (rows i1 b.st)), some (.arr (rows pkv b.pk)), some (.arr (rows i1 b.ord)), some (.arr (rows i1 b.ended))]
theorem Rx.opn (b : Rx) : Vw b.A b.O := by
  have h := vw_open (l := 0) (ovs := b.ov) (A := b.A) rfl
  simpa [SB.opn, Rx.A, Rx.ov, opC, opA, Rx.O, rows_length] using h
theorem own_fold {A : AHeap} {o : List OV} {ps : List Nat} (h0 : 0 < A.length) : foldAo 1 (some []) (clo 0 ps o A) = [some (.own o)] := by
  unfold clo
  have hB : (kills ps A).length = A.length := kills_length
  generalize kills ps A = B at hB
  rcases B with _ | ⟨b, B⟩
  · simp at hB; omega
  · simp only [List.set_cons_zero, foldA_eq, go_sem]
/-- The mailboxes closed. -/
theorem rx_fin {A : AHeap} {st ord ended pre : List Int} {pk : List Pk} {k3 k4 lo n1 n2 n3 n4 : Nat} {v r : AV} {B : Rx} (h0 : A[0]? = some (some (.cells [.sl 1 1 0 n1 false, .sl 2 7 0 n2 false, .sl k3 1 0 n3 false, .sl k4 1 lo n4 false])))
    (h1 : A[1]? = some (some (.arr (rows i1 st)))) (h2 : A[2]? = some (some (.arr (rows pkv pk)))) (h3 : A[k3]? = some (some (.arr (rows i1 ord)))) (h4 : A[k4]? = some (some (.arr (rows i1 (pre ++ ended)))))
    (hk : ([2, k3, k4].contains 1 = false ∧ [k3, k4].contains 2 = false) ∧ [k4].contains k3 = false) (hl : lo = pre.length) (e1 : n1 = st.length) (e2 : n2 = pk.length) (e3 : n3 = ord.length) (e4 : n4 = ended.length) (hB : B = ⟨st, pk, ord, ended⟩) (hv : AV.flat v = true) (hr : v = r) :
    ∃ A2, Vw A A2 ∧ ∃ ks, okKeepO 1 ks = true ∧ foldVo 1 ks v = r ∧ foldAo 1 ks A2 = B.A := by
  subst hl hB
  refine ⟨_, vw_close (l := 0) h0 (.sl (p := 1) h1 (by rw [rows_length]; omega) (by decide) (rows_allN e1) flatLL_rows hk.1.1 (.sl (p := 2) h2 (by rw [rows_length]; omega) (by decide) (rows_allN e2) flatLL_rows hk.1.2
    (.sl (p := k3) h3 (by rw [rows_length]; omega) (by decide) (rows_allN e3) flatLL_rows hk.2 (.sl (p := k4) (rows := rows i1 ended) h4 (by rw [rows_length, List.length_append]; omega) (by decide) ?_ flatLL_rows rfl .nil)))), some [], rfl, ?_, ?_⟩
  · rw [rows_drop, rows_take, List.drop_left, e4, List.take_length]
  · rw [← hr]; exact AV.ren_flat _ hv
  · exact own_fold (List.getElem?_eq_some_iff.1 h0).1
def Rx.new (n : Int) : Rx := ⟨List.replicate (roomI n).toNat 0, List.replicate (roomI n).toNat Pk.zero, [], []⟩
theorem rep_zeroI {n : Nat} : List.replicate n [AV.int .i64 0] = rows i1 (List.replicate n 0) := rows_rep (f := i1) (x := 0)
theorem rep_zeroP {n : Nat} : List.replicate n [AV.int .i64 0, .int .i64 0, .int .i64 0, .str [], .int .i64 0, .int .i64 0, .bool false] = rows pkv (List.replicate n Pk.zero) := rows_rep (f := pkv) (x := Pk.zero)
theorem rxNew_ok (n : Int) : ACall Try.prog f_ref13_New [.int .i64 n] [] fun v A => v = .ptr 0 0 ∧ A = (Rx.new n).A := by
  refine acallV ok_ref13_New (Vw.refl _) ?_
  have hb := roomI_b n
  obtain ⟨k, hk⟩ : ∃ k : Nat, roomI n = k := ⟨(roomI n).toNat, by omega⟩
  by_cases h1 : n < 1
  · have hk1 : k = 1 := by unfold roomI at hk; omega
    subst hk1
    have hr := trivial
    try simp -dsimp -implicitDefEqProofs (maxSteps := 1000000) (disch := first | exact dis | fail) only [hc_ref13_New, h1, rep_zeroI, rep_zeroP, Int.toNat_natCast, go_sem]
    repeat' ((first | (with_reducible first | refine w_if ?_ ?_ | refine w_gt ?_ ?_ | refine w_gf ?_ ?_ | refine w_io ?_ ?_ | refine w_gdt ?_ ?_ | refine w_gdf ?_ ?_ | refine w_ite ?_ ?_) <;> intro h <;> (try rw [h]) <;> replace hr := And.intro h hr <;> replace h := nrm h <;> try (first | (exfalso; omega) | exact (bx h (by assumption)).elim | exact (bx (by assumption) h).elim) | ((with_reducible refine And.intro ?_ ?_); (focus omega))) <;> try simp -dsimp -implicitDefEqProofs (maxSteps := 1000000) (disch := first | exact dis | fail) only [h1, rep_zeroI, rep_zeroP, Int.toNat_natCast, go_sem])
    · refine ⟨_, vw_close (l := 2) rfl (.sl (p := 0) rfl (by simp [rows_length]) (by decide) (rows_allN (by simp)) flatLL_rows rfl (.sl (p := 1) rfl (by simp [rows_length]) (by decide) (rows_allN (by simp)) flatLL_rows rfl (.nils (sz := 1) (by decide) (.nils (sz := 1) (by decide) .nil)))), some [2], rfl, rfl, ?_⟩
      simp only [clo, kills, foldA_eq, go_sem, Rx.A, Rx.ov, Rx.new, hk]; rfl
  · by_cases h2 : 1000 < n
    · have hk1 : k = 1000 := by unfold roomI at hk; omega
      subst hk1
      have hr := trivial
      try simp -dsimp -implicitDefEqProofs (maxSteps := 1000000) (disch := first | exact dis | fail) only [hc_ref13_New, h1, h2, rep_zeroI, rep_zeroP, Int.toNat_natCast, go_sem]
      repeat' ((first | (with_reducible first | refine w_if ?_ ?_ | refine w_gt ?_ ?_ | refine w_gf ?_ ?_ | refine w_io ?_ ?_ | refine w_gdt ?_ ?_ | refine w_gdf ?_ ?_ | refine w_ite ?_ ?_) <;> intro h <;> (try rw [h]) <;> replace hr := And.intro h hr <;> replace h := nrm h <;> try (first | (exfalso; omega) | exact (bx h (by assumption)).elim | exact (bx (by assumption) h).elim) | ((with_reducible refine And.intro ?_ ?_); (focus omega))) <;> try simp -dsimp -implicitDefEqProofs (maxSteps := 1000000) (disch := first | exact dis | fail) only [h1, h2, rep_zeroI, rep_zeroP, Int.toNat_natCast, go_sem])
      · refine ⟨_, vw_close (l := 2) rfl (.sl (p := 0) rfl (by simp [rows_length]) (by decide) (rows_allN (by simp)) flatLL_rows rfl (.sl (p := 1) rfl (by simp [rows_length]) (by decide) (rows_allN (by simp)) flatLL_rows rfl (.nils (sz := 1) (by decide) (.nils (sz := 1) (by decide) .nil)))), some [2], rfl, rfl, ?_⟩
        simp only [clo, kills, foldA_eq, go_sem, Rx.A, Rx.ov, Rx.new, hk]; rfl
    · obtain rfl : n = k := by unfold roomI at hk; omega
      have hr := trivial
      try simp -dsimp -implicitDefEqProofs (maxSteps := 1000000) (disch := first | exact dis | fail) only [hc_ref13_New, h1, h2, rep_zeroI, rep_zeroP, Int.toNat_natCast, go_sem]
      repeat' ((first | (with_reducible first | refine w_if ?_ ?_ | refine w_gt ?_ ?_ | refine w_gf ?_ ?_ | refine w_io ?_ ?_ | refine w_gdt ?_ ?_ | refine w_gdf ?_ ?_ | refine w_ite ?_ ?_) <;> intro h <;> (try rw [h]) <;> replace hr := And.intro h hr <;> replace h := nrm h <;> try (first | (exfalso; omega) | exact (bx h (by assumption)).elim | exact (bx (by assumption) h).elim) | ((with_reducible refine And.intro ?_ ?_); (focus omega))) <;> try simp -dsimp -implicitDefEqProofs (maxSteps := 1000000) (disch := first | exact dis | fail) only [h1, h2, rep_zeroI, rep_zeroP, Int.toNat_natCast, go_sem])
      · refine ⟨_, vw_close (l := 2) rfl (.sl (p := 0) rfl (by simp [rows_length]) (by decide) (rows_allN (by simp)) flatLL_rows rfl (.sl (p := 1) rfl (by simp [rows_length]) (by decide) (rows_allN (by simp)) flatLL_rows rfl (.nils (sz := 1) (by decide) (.nils (sz := 1) (by decide) .nil)))), some [2], rfl, rfl, ?_⟩
        simp only [clo, kills, foldA_eq, go_sem, Rx.A, Rx.ov, Rx.new, hk]; rfl
end Go.Proofs.Ytapoilcpollmpaa
end

/- ref13: putting. -/
section
namespace Go.Proofs.Ytapoilcpollmpaa
open Go.SB
attribute [local irreducible] HW HSS HAS HRQ HEO HOP HCK
set_option maxRecDepth 100000
set_option maxHeartbeats 400000
set_option linter.unusedSimpArgs false
set_option pp.deepTerms.threshold 6
attribute [local go_sem high] own_ren

structure RxOk (b : Rx) : Prop where
  s : 0 < b.st.length ∧ b.st.length ≤ 1000
  p : b.pk.length = b.st.length
  o : b.ord.length ≤ 1000
  e : b.ended.length ≤ 1000
def zeroAt : List Int → Nat → Option Nat
  | [], _ => none
  | c :: cs, i => if c = 0 then some i else zeroAt cs (i + 1)
theorem zeroAt_step {cs : List Int} {i : Nat} {c : Int} (h : cs[i]? = some c) : zeroAt (cs.drop i) i = if c = 0 then some i else zeroAt (cs.drop (i + 1)) (i + 1) := by
  have hlt : i < cs.length := (List.getElem?_eq_some_iff.1 h).1
  rw [List.drop_eq_getElem_cons hlt]
  have : cs[i] = c := by rw [List.getElem?_eq_getElem hlt] at h; exact Option.some.inj h
  rw [this]; rfl
def Rx.put (b : Rx) (p : Pk) : Rx := if keyR p.fr < 0 then b else match zeroAt b.st 0 with | some i => { b with st := b.st.set i 1, pk := b.pk.set i p, ord := b.ord ++ [(i : Int)] } | none => b
def Rx.putV (b : Rx) (p : Pk) : AV := if keyR p.fr < 0 then .tup [.int .i64 0, .int .i64 4] else match zeroAt b.st 0 with | some i => .tup [.int .i64 i, .int .i64 0] | none => .tup [.int .i64 0, .int .i64 5]
theorem rxPut_ok (b : Rx) (h : RxOk b) (p : Pk) : ACall Try.prog f_ref13_Boxes_Put [.ptr 0 0, .agg p.av] b.A fun v A => v = b.putV p ∧ A = (b.put p).A := by
  refine acallV ok_ref13_Boxes_Put b.opn ?_
  rw [show b.A.length = 1 from rfl]
  have hs := h.s
  have ho := h.o
  have hp := h.p
  have hk := RKey_ok p.fr
  by_cases h0 : keyR p.fr < 0
  · have hr := trivial
    try simp -dsimp -implicitDefEqProofs (maxSteps := 1000000) (disch := first | exact dis | fail) only [hc_ref13_Boxes_Put, Rx.O, Pk.av, h0, go_sem]
    repeat' ((first | (with_reducible refine PCall.aci hk ?_) | (with_reducible first | refine w_if ?_ ?_ | refine w_gt ?_ ?_ | refine w_gf ?_ ?_ | refine w_io ?_ ?_ | refine w_gdt ?_ ?_ | refine w_gdf ?_ ?_ | refine w_ite ?_ ?_) <;> intro h <;> (try rw [h]) <;> replace hr := And.intro h hr <;> replace h := nrm h <;> try (first | (exfalso; omega) | exact (bx h (by assumption)).elim | exact (bx (by assumption) h).elim) | ((with_reducible refine And.intro ?_ ?_); (focus omega))) <;> try simp -dsimp -implicitDefEqProofs (maxSteps := 1000000) (disch := first | exact dis | fail) only [Rx.O, Pk.av, h0, go_sem])
    exact rx_fin (pre := []) rfl rfl rfl rfl rfl (by decide) rfl rfl rfl rfl rfl (by simp only [Rx.put, if_pos h0]) rfl (by simp only [Rx.putV, if_pos h0])
  · have hr := trivial
    try simp -dsimp -implicitDefEqProofs (maxSteps := 1000000) (disch := first | exact dis | fail) only [hc_ref13_Boxes_Put, Rx.O, Pk.av, h0, go_sem]
    repeat' ((first | (with_reducible refine PCall.aci hk ?_) | (with_reducible first | refine w_if ?_ ?_ | refine w_gt ?_ ?_ | refine w_gf ?_ ?_ | refine w_io ?_ ?_ | refine w_gdt ?_ ?_ | refine w_gdf ?_ ?_ | refine w_ite ?_ ?_) <;> intro h <;> (try rw [h]) <;> replace hr := And.intro h hr <;> replace h := nrm h <;> try (first | (exfalso; omega) | exact (bx h (by assumption)).elim | exact (bx (by assumption) h).elim) | ((with_reducible refine And.intro ?_ ?_); (focus omega))) <;> try simp -dsimp -implicitDefEqProofs (maxSteps := 1000000) (disch := first | exact dis | fail) only [Rx.O, Pk.av, h0, go_sem])
    unfold hc_ref13_Boxes_Put_l1
    refine hw_loop b.st.length (fun i ρ A => ρ = rg 14 [(0, .ptr 0 0), (2, .ptr 5 0), (5, .int .i64 i)] ∧ A = b.O ++ [some (.cells p.av)] ∧ zeroAt (b.st.drop i) i = zeroAt b.st 0) ⟨none, rfl, by simp only [foldRn, go_sem], rfl, rfl⟩ ?_
    rintro i ρ A hi ⟨rfl, rfl, hc⟩
    by_cases hlt : i < b.st.length
    · have hx : b.st[i]? = some b.st[i] := List.getElem?_eq_getElem hlt
      have hy : b.pk[i]? = some (b.pk[i]'(by omega)) := List.getElem?_eq_getElem (by omega)
      generalize b.pk[i]'(by omega) = q at hy
      generalize b.st[i] = c at hx
      rw [zeroAt_step hx] at hc
      have hi1 : i1 c = [.int .i64 c] := rfl
      by_cases hc0 : c = 0
      · rw [if_pos hc0] at hc
        subst hc0
        have hr := trivial
        try simp -dsimp -implicitDefEqProofs (maxSteps := 1000000) (disch := first | exact dis | fail) only [hc_ref13_Boxes_Put_b1, Rx.O, Pk.av, Int.toNat_natCast, rows_get, hx, hy, hi1, pkv_eq, go_sem]
        repeat' ((first | (with_reducible first | refine w_if ?_ ?_ | refine w_gt ?_ ?_ | refine w_gf ?_ ?_ | refine w_io ?_ ?_ | refine w_gdt ?_ ?_ | refine w_gdf ?_ ?_ | refine w_ite ?_ ?_) <;> intro h <;> (try rw [h]) <;> replace hr := And.intro h hr <;> replace h := nrm h <;> try (first | (exfalso; omega) | exact (bx h (by assumption)).elim | exact (bx (by assumption) h).elim) | ((with_reducible refine And.intro ?_ ?_); (focus omega))) <;> try simp -dsimp -implicitDefEqProofs (maxSteps := 1000000) (disch := first | exact dis | fail) only [Rx.O, Pk.av, Int.toNat_natCast, rows_get, hx, hy, hi1, pkv_eq, go_sem])
        refine rx_fin (pre := []) (st := b.st.set i 1) (pk := b.pk.set i p) (ord := b.ord ++ [(i : Int)]) (k3 := 7) (k4 := 4) rfl (by rw [← rows_set]; rfl) (by rw [← rows_set]; rfl) ?_ rfl (by decide) rfl ?_ ?_ ?_ rfl ?_ rfl ?_
        · rw [← rows_append]; simp [rows, i1]
        · simp
        · simp
        · simp
        · simp only [Rx.put, if_neg h0, ← hc]
        · simp only [Rx.putV, if_neg h0, ← hc]
      · rw [if_neg hc0] at hc
        have hr := trivial
        try simp -dsimp -implicitDefEqProofs (maxSteps := 1000000) (disch := first | exact dis | fail) only [hc_ref13_Boxes_Put_b1, Rx.O, Pk.av, Int.toNat_natCast, rows_get, hx, hy, hi1, hc0, pkv_eq, go_sem]
        repeat' ((first | (with_reducible first | refine w_if ?_ ?_ | refine w_gt ?_ ?_ | refine w_gf ?_ ?_ | refine w_io ?_ ?_ | refine w_gdt ?_ ?_ | refine w_gdf ?_ ?_ | refine w_ite ?_ ?_) <;> intro h <;> (try rw [h]) <;> replace hr := And.intro h hr <;> replace h := nrm h <;> try (first | (exfalso; omega) | exact (bx h (by assumption)).elim | exact (bx (by assumption) h).elim) | ((with_reducible refine And.intro ?_ ?_); (focus omega))) <;> try simp -dsimp -implicitDefEqProofs (maxSteps := 1000000) (disch := first | exact dis | fail) only [Rx.O, Pk.av, Int.toNat_natCast, rows_get, hx, hy, hi1, hc0, pkv_eq, go_sem])
        exact ⟨some [1, 2, 3, 4, 5], rfl, by simp only [foldR_eq, go_sem]; rfl, by simp only [foldA_eq, go_sem, Rx.O], hc⟩
    · obtain rfl : i = b.st.length := by omega
      rw [List.drop_length] at hc
      have hr := trivial
      try simp -dsimp -implicitDefEqProofs (maxSteps := 1000000) (disch := first | exact dis | fail) only [hc_ref13_Boxes_Put_b1, Rx.O, Pk.av, go_sem]
      repeat' ((first | (with_reducible first | refine w_if ?_ ?_ | refine w_gt ?_ ?_ | refine w_gf ?_ ?_ | refine w_io ?_ ?_ | refine w_gdt ?_ ?_ | refine w_gdf ?_ ?_ | refine w_ite ?_ ?_) <;> intro h <;> (try rw [h]) <;> replace hr := And.intro h hr <;> replace h := nrm h <;> try (first | (exfalso; omega) | exact (bx h (by assumption)).elim | exact (bx (by assumption) h).elim) | ((with_reducible refine And.intro ?_ ?_); (focus omega))) <;> try simp -dsimp -implicitDefEqProofs (maxSteps := 1000000) (disch := first | exact dis | fail) only [Rx.O, Pk.av, go_sem])
      exact rx_fin (pre := []) rfl rfl rfl rfl rfl (by decide) rfl rfl rfl rfl rfl (by simp only [Rx.put, if_neg h0, ← hc, zeroAt]) rfl (by simp only [Rx.putV, if_neg h0, ← hc, zeroAt])
end Go.Proofs.Ytapoilcpollmpaa
end

/- ref13: how many are free. -/
section
namespace Go.Proofs.Ytapoilcpollmpaa
open Go.SB
attribute [local irreducible] HW HSS HAS HRQ HEO HOP HCK
set_option maxRecDepth 100000
set_option maxHeartbeats 400000
set_option linter.unusedSimpArgs false
set_option pp.deepTerms.threshold 6
attribute [local go_sem high] own_ren

theorem rxFree_ok (b : Rx) (h : RxOk b) : ACall Try.prog f_ref13_Boxes_Free [.ptr 0 0] b.A fun v A => v = .int .i64 (cnt0 b.st b.st.length) ∧ A = b.A := by
  refine acallV ok_ref13_Boxes_Free b.opn ?_
  rw [show b.A.length = 1 from rfl]
  have hs := h.s
  have hr := trivial
  try simp -dsimp -implicitDefEqProofs (maxSteps := 1000000) (disch := first | exact dis | fail) only [hc_ref13_Boxes_Free, Rx.O, go_sem]
  repeat' ((first | (with_reducible first | refine w_if ?_ ?_ | refine w_gt ?_ ?_ | refine w_gf ?_ ?_ | refine w_io ?_ ?_ | refine w_gdt ?_ ?_ | refine w_gdf ?_ ?_ | refine w_ite ?_ ?_) <;> intro h <;> (try rw [h]) <;> replace hr := And.intro h hr <;> replace h := nrm h <;> try (first | (exfalso; omega) | exact (bx h (by assumption)).elim | exact (bx (by assumption) h).elim) | ((with_reducible refine And.intro ?_ ?_); (focus omega))) <;> try simp -dsimp -implicitDefEqProofs (maxSteps := 1000000) (disch := first | exact dis | fail) only [Rx.O, go_sem])
  unfold hc_ref13_Boxes_Free_l1
  refine hw_loop b.st.length (fun i ρ A => ρ = rg 6 [(0, .ptr 0 0), (2, .int .i64 (cnt0 b.st i)), (3, .int .i64 i)] ∧ A = b.O) ⟨none, rfl, by simp only [foldRn, go_sem]; rfl, rfl⟩ ?_
  rintro i ρ A hi ⟨rfl, rfl⟩
  have hle := cnt0_le (l := b.st) (i := i)
  by_cases hlt : i < b.st.length
  · have hx : b.st[i]? = some b.st[i] := List.getElem?_eq_getElem hlt
    generalize b.st[i] = x at hx
    have hc := cnt0_step hx
    by_cases h0 : x = 0
    · have hr := trivial
      try simp -dsimp -implicitDefEqProofs (maxSteps := 1000000) (disch := first | exact dis | fail) only [hc_ref13_Boxes_Free_b1, Rx.O, Int.toNat_natCast, rows_get, hx, i1, h0, go_sem]
      repeat' ((first | (with_reducible first | refine w_if ?_ ?_ | refine w_gt ?_ ?_ | refine w_gf ?_ ?_ | refine w_io ?_ ?_ | refine w_gdt ?_ ?_ | refine w_gdf ?_ ?_ | refine w_ite ?_ ?_) <;> intro h <;> (try rw [h]) <;> replace hr := And.intro h hr <;> replace h := nrm h <;> try (first | (exfalso; omega) | exact (bx h (by assumption)).elim | exact (bx (by assumption) h).elim) | ((with_reducible refine And.intro ?_ ?_); (focus omega))) <;> try simp -dsimp -implicitDefEqProofs (maxSteps := 1000000) (disch := first | exact dis | fail) only [Rx.O, Int.toNat_natCast, rows_get, hx, i1, h0, go_sem])
      exact ⟨none, rfl, by simp only [foldRn, go_sem, hc, if_pos h0]; rfl, rfl⟩
    · have hr := trivial
      try simp -dsimp -implicitDefEqProofs (maxSteps := 1000000) (disch := first | exact dis | fail) only [hc_ref13_Boxes_Free_b1, Rx.O, Int.toNat_natCast, rows_get, hx, i1, h0, go_sem]
      repeat' ((first | (with_reducible first | refine w_if ?_ ?_ | refine w_gt ?_ ?_ | refine w_gf ?_ ?_ | refine w_io ?_ ?_ | refine w_gdt ?_ ?_ | refine w_gdf ?_ ?_ | refine w_ite ?_ ?_) <;> intro h <;> (try rw [h]) <;> replace hr := And.intro h hr <;> replace h := nrm h <;> try (first | (exfalso; omega) | exact (bx h (by assumption)).elim | exact (bx (by assumption) h).elim) | ((with_reducible refine And.intro ?_ ?_); (focus omega))) <;> try simp -dsimp -implicitDefEqProofs (maxSteps := 1000000) (disch := first | exact dis | fail) only [Rx.O, Int.toNat_natCast, rows_get, hx, i1, h0, go_sem])
      exact ⟨none, rfl, by simp only [foldRn, go_sem, hc, if_neg h0]; rfl, rfl⟩
  · obtain rfl : i = b.st.length := by omega
    have hr := trivial
    try simp -dsimp -implicitDefEqProofs (maxSteps := 1000000) (disch := first | exact dis | fail) only [hc_ref13_Boxes_Free_b1, Rx.O, go_sem]
    repeat' ((first | (with_reducible first | refine w_if ?_ ?_ | refine w_gt ?_ ?_ | refine w_gf ?_ ?_ | refine w_io ?_ ?_ | refine w_gdt ?_ ?_ | refine w_gdf ?_ ?_ | refine w_ite ?_ ?_) <;> intro h <;> (try rw [h]) <;> replace hr := And.intro h hr <;> replace h := nrm h <;> try (first | (exfalso; omega) | exact (bx h (by assumption)).elim | exact (bx (by assumption) h).elim) | ((with_reducible refine And.intro ?_ ?_); (focus omega))) <;> try simp -dsimp -implicitDefEqProofs (maxSteps := 1000000) (disch := first | exact dis | fail) only [Rx.O, go_sem])
    exact rx_fin (pre := []) rfl rfl rfl rfl rfl (by decide) rfl rfl rfl rfl rfl rfl rfl rfl
end Go.Proofs.Ytapoilcpollmpaa
end

/- ref13: the best. -/
section
namespace Go.Proofs.Ytapoilcpollmpaa
open Go.SB
attribute [local irreducible] HW HSS HAS HRQ HEO HOP HCK
set_option maxRecDepth 100000
set_option maxHeartbeats 400000
set_option linter.unusedSimpArgs false
set_option pp.deepTerms.threshold 6
attribute [local go_sem high] own_ren

def Rx.key (b : Rx) (k : Int) : Int := keyR (b.pk.getD k.toNat Pk.zero).fr
def Rx.bestN (b : Rx) : Nat → Int
  | 0 => -1
  | i + 1 => if b.bestN i < 0 ∨ b.key (b.ord.getD i 0) < b.key (b.bestN i) then b.ord.getD i 0 else b.bestN i
theorem rbestN_b (b : Rx) (h : ∀ k, k ∈ b.ord → 0 ≤ k ∧ k < b.pk.length) : ∀ i, i ≤ b.ord.length → -1 ≤ b.bestN i ∧ b.bestN i < b.pk.length
  | 0, _ => by simp [Rx.bestN]; omega
  | i + 1, hi => by
    have := rbestN_b b h i (by omega)
    have hk := h (b.ord.getD i 0) (by rw [List.getD, List.getElem?_eq_getElem (by omega)]; exact List.getElem_mem _)
    unfold Rx.bestN
    split <;> omega
theorem rxBest_ok (b : Rx) (h : RxOk b) (hb : ∀ k, k ∈ b.ord → 0 ≤ k ∧ k < b.pk.length) : ACall Try.prog f_ref13_Boxes_Best [.ptr 0 0] b.A fun v A => v = .int .i64 (b.bestN b.ord.length) ∧ A = b.A := by
  refine acallV ok_ref13_Boxes_Best b.opn ?_
  rw [show b.A.length = 1 from rfl]
  have ho := h.o
  have hr := trivial
  try simp -dsimp -implicitDefEqProofs (maxSteps := 1000000) (disch := first | exact dis | fail) only [hc_ref13_Boxes_Best, Rx.O, go_sem]
  repeat' ((first | (with_reducible first | refine w_if ?_ ?_ | refine w_gt ?_ ?_ | refine w_gf ?_ ?_ | refine w_io ?_ ?_ | refine w_gdt ?_ ?_ | refine w_gdf ?_ ?_ | refine w_ite ?_ ?_) <;> intro h <;> (try rw [h]) <;> replace hr := And.intro h hr <;> replace h := nrm h <;> try (first | (exfalso; omega) | exact (bx h (by assumption)).elim | exact (bx (by assumption) h).elim) | ((with_reducible refine And.intro ?_ ?_); (focus omega))) <;> try simp -dsimp -implicitDefEqProofs (maxSteps := 1000000) (disch := first | exact dis | fail) only [Rx.O, go_sem])
  unfold hc_ref13_Boxes_Best_l1
  refine hw_loop b.ord.length (fun i ρ A => ρ = rg 14 [(0, .ptr 0 0), (2, .int .i64 (b.bestN i)), (3, .int .i64 i)] ∧ A = b.O) ⟨none, rfl, by simp only [foldRn, go_sem]; rfl, rfl⟩ ?_
  rintro i ρ A hi ⟨rfl, rfl⟩
  obtain ⟨hb0, hb1⟩ := rbestN_b b hb i hi
  by_cases hlt : i < b.ord.length
  · have hx : b.ord[i]? = some (b.ord.getD i 0) := by rw [List.getD, List.getElem?_eq_getElem hlt]; rfl
    have hk := hb (b.ord.getD i 0) (by rw [List.getD, List.getElem?_eq_getElem hlt]; exact List.getElem_mem _)
    have hs : b.bestN (i + 1) = if b.bestN i < 0 ∨ b.key (b.ord.getD i 0) < b.key (b.bestN i) then b.ord.getD i 0 else b.bestN i := rfl
    generalize b.ord.getD i 0 = k at hx hk hs
    generalize b.bestN i = m at hb0 hb1 hs
    obtain ⟨k, rfl⟩ : ∃ n : Nat, k = n := ⟨k.toNat, by omega⟩
    have hik : i1 (k : Int) = [.int .i64 k] := rfl
    by_cases hm : m < 0
    · rw [if_pos (.inl hm)] at hs
      have hr := trivial
      try simp -dsimp -implicitDefEqProofs (maxSteps := 1000000) (disch := first | exact dis | fail) only [hc_ref13_Boxes_Best_b1, Rx.O, Int.toNat_natCast, rows_get, hx, hik, hm, go_sem]
      repeat' ((first | (with_reducible first | refine w_if ?_ ?_ | refine w_gt ?_ ?_ | refine w_gf ?_ ?_ | refine w_io ?_ ?_ | refine w_gdt ?_ ?_ | refine w_gdf ?_ ?_ | refine w_ite ?_ ?_) <;> intro h <;> (try rw [h]) <;> replace hr := And.intro h hr <;> replace h := nrm h <;> try (first | (exfalso; omega) | exact (bx h (by assumption)).elim | exact (bx (by assumption) h).elim) | ((with_reducible refine And.intro ?_ ?_); (focus omega))) <;> try simp -dsimp -implicitDefEqProofs (maxSteps := 1000000) (disch := first | exact dis | fail) only [Rx.O, Int.toNat_natCast, rows_get, hx, hik, hm, go_sem])
      exact ⟨none, rfl, by simp only [foldRn, go_sem, hs]; rfl, rfl⟩
    · obtain ⟨m, rfl⟩ : ∃ n : Nat, m = n := ⟨m.toNat, by omega⟩
      have hy : b.pk[k]? = some (b.pk.getD k Pk.zero) := by rw [List.getD, List.getElem?_eq_getElem (by omega)]; rfl
      have hz : b.pk[m]? = some (b.pk.getD m Pk.zero) := by rw [List.getD, List.getElem?_eq_getElem (by omega)]; rfl
      simp only [Rx.key, Int.toNat_natCast, hm, false_or] at hs
      generalize b.pk.getD k Pk.zero = p at hy hs
      generalize b.pk.getD m Pk.zero = q at hz hs
      have h1 := RKey_ok p.fr
      have h2 := RKey_ok q.fr
      by_cases hl : keyR p.fr < keyR q.fr
      · rw [if_pos hl] at hs
        have hr := trivial
        try simp -dsimp -implicitDefEqProofs (maxSteps := 1000000) (disch := first | exact dis | fail) only [hc_ref13_Boxes_Best_b1, Rx.O, Int.toNat_natCast, rows_get, hx, hy, hz, hik, hm, hl, pkv_eq, Pk.av, go_sem]
        repeat' ((first | (with_reducible refine PCall.aci h1 ?_) | (with_reducible refine PCall.aci h2 ?_) | (with_reducible first | refine w_if ?_ ?_ | refine w_gt ?_ ?_ | refine w_gf ?_ ?_ | refine w_io ?_ ?_ | refine w_gdt ?_ ?_ | refine w_gdf ?_ ?_ | refine w_ite ?_ ?_) <;> intro h <;> (try rw [h]) <;> replace hr := And.intro h hr <;> replace h := nrm h <;> try (first | (exfalso; omega) | exact (bx h (by assumption)).elim | exact (bx (by assumption) h).elim) | ((with_reducible refine And.intro ?_ ?_); (focus omega))) <;> try simp -dsimp -implicitDefEqProofs (maxSteps := 1000000) (disch := first | exact dis | fail) only [Rx.O, Int.toNat_natCast, rows_get, hx, hy, hz, hik, hm, hl, pkv_eq, Pk.av, go_sem])
        exact ⟨none, rfl, by simp only [foldRn, go_sem, hs]; rfl, rfl⟩
      · rw [if_neg hl] at hs
        have hr := trivial
        try simp -dsimp -implicitDefEqProofs (maxSteps := 1000000) (disch := first | exact dis | fail) only [hc_ref13_Boxes_Best_b1, Rx.O, Int.toNat_natCast, rows_get, hx, hy, hz, hik, hm, hl, pkv_eq, Pk.av, go_sem]
        repeat' ((first | (with_reducible refine PCall.aci h1 ?_) | (with_reducible refine PCall.aci h2 ?_) | (with_reducible first | refine w_if ?_ ?_ | refine w_gt ?_ ?_ | refine w_gf ?_ ?_ | refine w_io ?_ ?_ | refine w_gdt ?_ ?_ | refine w_gdf ?_ ?_ | refine w_ite ?_ ?_) <;> intro h <;> (try rw [h]) <;> replace hr := And.intro h hr <;> replace h := nrm h <;> try (first | (exfalso; omega) | exact (bx h (by assumption)).elim | exact (bx (by assumption) h).elim) | ((with_reducible refine And.intro ?_ ?_); (focus omega))) <;> try simp -dsimp -implicitDefEqProofs (maxSteps := 1000000) (disch := first | exact dis | fail) only [Rx.O, Int.toNat_natCast, rows_get, hx, hy, hz, hik, hm, hl, pkv_eq, Pk.av, go_sem])
        exact ⟨none, rfl, by simp only [foldRn, go_sem, hs]; rfl, rfl⟩
  · obtain rfl : i = b.ord.length := by omega
    have hr := trivial
    try simp -dsimp -implicitDefEqProofs (maxSteps := 1000000) (disch := first | exact dis | fail) only [hc_ref13_Boxes_Best_b1, Rx.O, go_sem]
    repeat' ((first | (with_reducible first | refine w_if ?_ ?_ | refine w_gt ?_ ?_ | refine w_gf ?_ ?_ | refine w_io ?_ ?_ | refine w_gdt ?_ ?_ | refine w_gdf ?_ ?_ | refine w_ite ?_ ?_) <;> intro h <;> (try rw [h]) <;> replace hr := And.intro h hr <;> replace h := nrm h <;> try (first | (exfalso; omega) | exact (bx h (by assumption)).elim | exact (bx (by assumption) h).elim) | ((with_reducible refine And.intro ?_ ?_); (focus omega))) <;> try simp -dsimp -implicitDefEqProofs (maxSteps := 1000000) (disch := first | exact dis | fail) only [Rx.O, go_sem])
    exact rx_fin (pre := []) rfl rfl rfl rfl rfl (by decide) rfl rfl rfl rfl rfl rfl rfl rfl
end Go.Proofs.Ytapoilcpollmpaa
end

/- ref13: taking. -/
section
namespace Go.Proofs.Ytapoilcpollmpaa
open Go.SB
attribute [local irreducible] HW HSS HAS HRQ HEO HOP HCK
set_option maxRecDepth 100000
set_option maxHeartbeats 400000
set_option linter.unusedSimpArgs false
set_option pp.deepTerms.threshold 6
attribute [local go_sem high] own_ren

def Rx.take (b : Rx) : Rx := match b.ended with
  | [] => b
  | i :: es => { b with st := b.st.set i.toNat 0, pk := b.pk.set i.toNat Pk.zero, ended := es }
def Rx.takeV (b : Rx) : AV := match b.ended with
  | [] => .tup [.int .i64 (-1), .agg Pk.zero.av, .bool false]
  | i :: _ => .tup [.int .i64 i, .agg (b.pk.getD i.toNat Pk.zero).av, .bool (decide (b.st.getD i.toNat 0 = 2))]
theorem rxTake_ok (b : Rx) (h : RxOk b) (he : ∀ i, i ∈ b.ended → 0 ≤ i ∧ i < b.st.length) : ACall Try.prog f_ref13_Boxes_Take [.ptr 0 0] b.A fun v A => v = b.takeV ∧ A = b.take.A := by
  refine acallV ok_ref13_Boxes_Take b.opn ?_
  rw [show b.A.length = 1 from rfl]
  have hel := h.e
  have hp := h.p
  cases hE : b.ended with
  | nil =>
    have hr := trivial
    try simp -dsimp -implicitDefEqProofs (maxSteps := 1000000) (disch := first | exact dis | fail) only [hc_ref13_Boxes_Take, Rx.O, hE, List.length_nil, go_sem]
    repeat' ((first | (with_reducible first | refine w_if ?_ ?_ | refine w_gt ?_ ?_ | refine w_gf ?_ ?_ | refine w_io ?_ ?_ | refine w_gdt ?_ ?_ | refine w_gdf ?_ ?_ | refine w_ite ?_ ?_) <;> intro h <;> (try rw [h]) <;> replace hr := And.intro h hr <;> replace h := nrm h <;> try (first | (exfalso; omega) | exact (bx h (by assumption)).elim | exact (bx (by assumption) h).elim) | ((with_reducible refine And.intro ?_ ?_); (focus omega))) <;> try simp -dsimp -implicitDefEqProofs (maxSteps := 1000000) (disch := first | exact dis | fail) only [Rx.O, hE, List.length_nil, go_sem])
    refine rx_fin (pre := []) (ended := []) rfl rfl rfl rfl rfl (by decide) rfl rfl rfl rfl rfl ?_ rfl ?_
    · simp only [Rx.take, hE]; rw [← hE]
    · simp only [Rx.takeV, hE]; rfl
  | cons i es =>
    rw [hE] at hel
    obtain ⟨h1, h2⟩ := he i (by rw [hE]; simp)
    obtain ⟨k, rfl⟩ : ∃ k : Nat, i = k := ⟨i.toNat, by omega⟩
    have hx : b.st[k]? = some (b.st.getD k 0) := by rw [List.getD, List.getElem?_eq_getElem (by omega)]; rfl
    have hy : b.pk[k]? = some (b.pk.getD k Pk.zero) := by rw [List.getD, List.getElem?_eq_getElem (by omega)]; rfl
    have hD : b.takeV = .tup [.int .i64 k, .agg (b.pk.getD k Pk.zero).av, .bool (decide (b.st.getD k 0 = 2))] := by simp only [Rx.takeV, hE, Int.toNat_natCast]
    generalize b.st.getD k 0 = s at hx hD
    generalize b.pk.getD k Pk.zero = p at hy hD
    have h0 : ((k : Int) :: es)[Int.toNat 0]? = some (k : Int) := rfl
    have hs : AV.slc 1 (.sl 4 1 0 (es.length + 1) false) (some (.int .i64 1)) none none = some (.sl 4 1 1 es.length false) := by
      have e : (1 : Int) ≤ (es.length : Int) + 1 := by omega
      simp [AV.slc, bnds, hiOr, bnd, e]
    have hi : ∀ x : Int, i1 x = [.int .i64 x] := fun _ => rfl
    have hr := trivial
    try simp -dsimp -implicitDefEqProofs (maxSteps := 1000000) (disch := first | exact dis | fail) only [hc_ref13_Boxes_Take, Rx.O, hE, Int.toNat_natCast, rows_get, hx, hy, pkv_eq, Pk.av, h0, hi, hs, List.length_cons, go_sem]
    repeat' ((first | (with_reducible first | refine w_if ?_ ?_ | refine w_gt ?_ ?_ | refine w_gf ?_ ?_ | refine w_io ?_ ?_ | refine w_gdt ?_ ?_ | refine w_gdf ?_ ?_ | refine w_ite ?_ ?_) <;> intro h <;> (try rw [h]) <;> replace hr := And.intro h hr <;> replace h := nrm h <;> try (first | (exfalso; omega) | exact (bx h (by assumption)).elim | exact (bx (by assumption) h).elim) | ((with_reducible refine And.intro ?_ ?_); (focus omega))) <;> try simp -dsimp -implicitDefEqProofs (maxSteps := 1000000) (disch := first | exact dis | fail) only [Rx.O, hE, Int.toNat_natCast, rows_get, hx, hy, pkv_eq, Pk.av, h0, hi, hs, List.length_cons, go_sem])
    refine rx_fin (pre := [(k : Int)]) (st := b.st.set k 0) (pk := b.pk.set k Pk.zero) (k3 := 3) (k4 := 4) (ended := es) rfl (by rw [← rows_set]; rfl) (by rw [← rows_set]; rfl) rfl rfl (by decide) rfl ?_ ?_ rfl rfl ?_ rfl ?_
    · simp
    · simp
    · simp only [Rx.take, hE, Int.toNat_natCast]
    · rw [hD]
end Go.Proofs.Ytapoilcpollmpaa
end

/- ref13: ending. -/
section
namespace Go.Proofs.Ytapoilcpollmpaa
open Go.SB
attribute [local irreducible] HW HSS HAS HRQ HEO HOP HCK
set_option maxRecDepth 100000
set_option maxHeartbeats 400000
set_option linter.unusedSimpArgs false
set_option pp.deepTerms.threshold 6
attribute [local go_sem high] own_ren

def Rx.endE (b : Rx) (i : Int) : Int := if 0 ≤ i ∧ i < b.st.length then (if b.st.getD i.toNat 0 = 1 then 0 else 2) else 2
def Rx.endB (b : Rx) (i s : Int) : Rx := if b.endE i = 0 then { b with st := b.st.set i.toNat s, ord := b.ord.filter (fun x => decide (x ≠ i)), ended := b.ended ++ [i] } else b
def restN (l : List Int) (k : Int) (i : Nat) : List Int := (l.take i).filter fun x => decide (x ≠ k)
theorem restN_step {l : List Int} {k x : Int} {i : Nat} (h : l[i]? = some x) : restN l k (i + 1) = restN l k i ++ if x = k then [] else [x] := by
  unfold restN
  rw [List.take_add_one, h, List.filter_append]
  by_cases e : x = k <;> simp [e]
theorem restN_len {l : List Int} {k : Int} {i : Nat} : (restN l k i).length ≤ i := by
  unfold restN
  have := List.length_filter_le (fun x => decide (x ≠ k)) (l.take i)
  rw [List.length_take] at this; omega
theorem rxEnd_ok (b : Rx) (h : RxOk b) (i s : Int) : ACall Try.prog f_ref13_Boxes_End [.ptr 0 0, .int .i64 i, .int .i64 s] b.A fun v A => v = .int .i64 (b.endE i) ∧ A = (b.endB i s).A := by
  refine acallV ok_ref13_Boxes_End b.opn ?_
  rw [show b.A.length = 1 from rfl]
  have hs := h.s
  have ho := h.o
  have he := h.e
  by_cases hi : 0 ≤ i ∧ i < b.st.length
  · obtain ⟨k, rfl⟩ : ∃ k : Nat, i = k := ⟨i.toNat, by omega⟩
    have hx : b.st[k]? = some (b.st.getD k 0) := by rw [List.getD, List.getElem?_eq_getElem (by omega)]; rfl
    have hE : b.endE k = if b.st.getD k 0 = 1 then 0 else 2 := by simp only [Rx.endE, if_pos hi, Int.toNat_natCast]
    have hi1 : ∀ x : Int, i1 x = [.int .i64 x] := fun _ => rfl
    generalize b.st.getD k 0 = c at hx hE
    by_cases h1 : c = 1
    · rw [if_pos h1] at hE
      have hrs : (rows i1 b.st).set k [.int .i64 s] = rows i1 (b.st.set k s) := rows_set (f := i1)
      have hr := trivial
      try simp -dsimp -implicitDefEqProofs (maxSteps := 1000000) (disch := first | exact dis | fail) only [hc_ref13_Boxes_End, Rx.O, Int.toNat_natCast, rows_get, hx, hi1, h1, hrs, go_sem]
      repeat' ((first | (with_reducible first | refine w_if ?_ ?_ | refine w_gt ?_ ?_ | refine w_gf ?_ ?_ | refine w_io ?_ ?_ | refine w_gdt ?_ ?_ | refine w_gdf ?_ ?_ | refine w_ite ?_ ?_) <;> intro h <;> (try rw [h]) <;> replace hr := And.intro h hr <;> replace h := nrm h <;> try (first | (exfalso; omega) | exact (bx h (by assumption)).elim | exact (bx (by assumption) h).elim) | ((with_reducible refine And.intro ?_ ?_); (focus omega))) <;> try simp -dsimp -implicitDefEqProofs (maxSteps := 1000000) (disch := first | exact dis | fail) only [Rx.O, Int.toNat_natCast, rows_get, hx, hi1, h1, hrs, go_sem])
      unfold hc_ref13_Boxes_End_l1
      refine hw_loopN b.ord.length (fun i ρ A => ρ = rg 16 [(0, .ptr 0 0), (1, .int .i64 k), (4, .sl 5 1 0 (restN b.ord k i).length false), (5, .int .i64 i)] ∧ A = ({ b with st := b.st.set k s } : Rx).O ++ [some (.arr (rows i1 (restN b.ord k i)))]) [(4, 1)] ?_ ⟨none, rfl, ?_, ?_⟩ ?_
      · simp only [nlOk, isNils, go_sem]
      · simp only [nlR, foldRo, go_sem]; rfl
      · simp only [foldAo, nlA, Rx.O, List.length_set]; rfl
      rintro i ρ A hi ⟨rfl, rfl⟩
      have hrl := restN_len (l := b.ord) (k := k) (i := i)
      by_cases hlt : i < b.ord.length
      · have hy : b.ord[i]? = some b.ord[i] := List.getElem?_eq_getElem hlt
        generalize b.ord[i] = x at hy
        have hst := restN_step (k := k) hy
        by_cases hxk : x = k
        · rw [if_pos hxk, List.append_nil] at hst
          have hr := trivial
          try simp -dsimp -implicitDefEqProofs (maxSteps := 1000000) (disch := first | exact dis | fail) only [hc_ref13_Boxes_End_b1, Rx.O, Int.toNat_natCast, rows_get, hy, hi1, hxk, go_sem]
          repeat' ((first | (with_reducible first | refine w_if ?_ ?_ | refine w_gt ?_ ?_ | refine w_gf ?_ ?_ | refine w_io ?_ ?_ | refine w_gdt ?_ ?_ | refine w_gdf ?_ ?_ | refine w_ite ?_ ?_) <;> intro h <;> (try rw [h]) <;> replace hr := And.intro h hr <;> replace h := nrm h <;> try (first | (exfalso; omega) | exact (bx h (by assumption)).elim | exact (bx (by assumption) h).elim) | ((with_reducible refine And.intro ?_ ?_); (focus omega))) <;> try simp -dsimp -implicitDefEqProofs (maxSteps := 1000000) (disch := first | exact dis | fail) only [Rx.O, Int.toNat_natCast, rows_get, hy, hi1, hxk, go_sem])
          exact ⟨none, rfl, by simp only [foldRn, go_sem, hst]; rfl, by simp only [foldAn, hst, List.length_set]⟩
        · rw [if_neg hxk] at hst
          have hr := trivial
          try simp -dsimp -implicitDefEqProofs (maxSteps := 1000000) (disch := first | exact dis | fail) only [hc_ref13_Boxes_End_b1, Rx.O, Int.toNat_natCast, rows_get, hy, hi1, hxk, i1_snoc, appF_full (show (rows i1 (restN b.ord k i)).length = (restN b.ord k i).length from rows_length), go_sem]
          repeat' ((first | (with_reducible first | refine w_if ?_ ?_ | refine w_gt ?_ ?_ | refine w_gf ?_ ?_ | refine w_io ?_ ?_ | refine w_gdt ?_ ?_ | refine w_gdf ?_ ?_ | refine w_ite ?_ ?_) <;> intro h <;> (try rw [h]) <;> replace hr := And.intro h hr <;> replace h := nrm h <;> try (first | (exfalso; omega) | exact (bx h (by assumption)).elim | exact (bx (by assumption) h).elim) | ((with_reducible refine And.intro ?_ ?_); (focus omega))) <;> try simp -dsimp -implicitDefEqProofs (maxSteps := 1000000) (disch := first | exact dis | fail) only [Rx.O, Int.toNat_natCast, rows_get, hy, hi1, hxk, i1_snoc, appF_full (show (rows i1 (restN b.ord k i)).length = (restN b.ord k i).length from rows_length), go_sem])
          refine ⟨some [1, 2, 3, 4, 7], rfl, ?_, ?_⟩
          · simp only [foldR_eq, go_sem, hst, List.length_append, List.length_singleton]; rfl
          · simp only [foldA_eq, go_sem, hst, List.length_set]
      · obtain rfl : i = b.ord.length := by omega
        have hr := trivial
        try simp -dsimp -implicitDefEqProofs (maxSteps := 1000000) (disch := first | exact dis | fail) only [hc_ref13_Boxes_End_b1, Rx.O, i1_snoc, go_sem]
        repeat' ((first | (with_reducible first | refine w_if ?_ ?_ | refine w_gt ?_ ?_ | refine w_gf ?_ ?_ | refine w_io ?_ ?_ | refine w_gdt ?_ ?_ | refine w_gdf ?_ ?_ | refine w_ite ?_ ?_) <;> intro h <;> (try rw [h]) <;> replace hr := And.intro h hr <;> replace h := nrm h <;> try (first | (exfalso; omega) | exact (bx h (by assumption)).elim | exact (bx (by assumption) h).elim) | ((with_reducible refine And.intro ?_ ?_); (focus omega))) <;> try simp -dsimp -implicitDefEqProofs (maxSteps := 1000000) (disch := first | exact dis | fail) only [Rx.O, i1_snoc, go_sem])
        have hf : restN b.ord k b.ord.length = b.ord.filter (fun x => decide (x ≠ (k : Int))) := by unfold restN; rw [List.take_length]
        refine rx_fin (pre := []) (st := b.st.set k s) (ord := restN b.ord k b.ord.length) (ended := b.ended ++ [(k : Int)]) (k3 := 5) (k4 := 7) rfl rfl rfl rfl rfl (by decide) rfl ?_ rfl rfl ?_ ?_ rfl ?_
        · simp
        · simp
        · rw [Rx.endB, hE, if_pos rfl, Int.toNat_natCast, hf]
        · rw [hE]
    · rw [if_neg h1] at hE
      have hr := trivial
      try simp -dsimp -implicitDefEqProofs (maxSteps := 1000000) (disch := first | exact dis | fail) only [hc_ref13_Boxes_End, Rx.O, Int.toNat_natCast, rows_get, hx, hi1, h1, go_sem]
      repeat' ((first | (with_reducible first | refine w_if ?_ ?_ | refine w_gt ?_ ?_ | refine w_gf ?_ ?_ | refine w_io ?_ ?_ | refine w_gdt ?_ ?_ | refine w_gdf ?_ ?_ | refine w_ite ?_ ?_) <;> intro h <;> (try rw [h]) <;> replace hr := And.intro h hr <;> replace h := nrm h <;> try (first | (exfalso; omega) | exact (bx h (by assumption)).elim | exact (bx (by assumption) h).elim) | ((with_reducible refine And.intro ?_ ?_); (focus omega))) <;> try simp -dsimp -implicitDefEqProofs (maxSteps := 1000000) (disch := first | exact dis | fail) only [Rx.O, Int.toNat_natCast, rows_get, hx, hi1, h1, go_sem])
      exact rx_fin (pre := []) rfl rfl rfl rfl rfl (by decide) rfl rfl rfl rfl rfl (by rw [Rx.endB, hE, if_neg (by decide)]) rfl (by rw [hE])
  · have hE : b.endE i = 2 := by simp only [Rx.endE, if_neg hi]
    have hr := trivial
    try simp -dsimp -implicitDefEqProofs (maxSteps := 1000000) (disch := first | exact dis | fail) only [hc_ref13_Boxes_End, Rx.O, go_sem]
    repeat' ((first | (with_reducible first | refine w_if ?_ ?_ | refine w_gt ?_ ?_ | refine w_gf ?_ ?_ | refine w_io ?_ ?_ | refine w_gdt ?_ ?_ | refine w_gdf ?_ ?_ | refine w_ite ?_ ?_) <;> intro h <;> (try rw [h]) <;> replace hr := And.intro h hr <;> replace h := nrm h <;> try (first | (exfalso; omega) | exact (bx h (by assumption)).elim | exact (bx (by assumption) h).elim) | ((with_reducible refine And.intro ?_ ?_); (focus omega))) <;> try simp -dsimp -implicitDefEqProofs (maxSteps := 1000000) (disch := first | exact dis | fail) only [Rx.O, go_sem])
    exact rx_fin (pre := []) rfl rfl rfl rfl rfl (by decide) rfl rfl rfl rfl rfl (by rw [Rx.endB, hE, if_neg (by decide)]) rfl (by rw [hE])
end Go.Proofs.Ytapoilcpollmpaa
end
