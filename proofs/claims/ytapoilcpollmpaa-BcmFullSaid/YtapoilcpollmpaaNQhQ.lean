/- QhQ, put together. Conditions: none. -/
import Derived.Test.YtapoilcpollmpaaNQhIK
/- bcm: setting up a job of watching. -/
section
namespace Go.Proofs.Ytapoilcpollmpaa
open Go.SB
attribute [local irreducible] HW HSS HAS HRQ HEO HOP HCK
set_option maxRecDepth 100000
set_option maxHeartbeats 1000000
set_option linter.unusedSimpArgs false
set_option pp.deepTerms.threshold 6
attribute [local go_sem high] own_ren rp_ren rp_cells rp_one

theorem wCount_ok (n : Int) : PCall Try.prog f_watch_count [.int .i64 n] (.bool (cntB n)) := by
  refine pcallH ok_watch_count rfl ?_
  have hr := trivial
  try simp -dsimp -implicitDefEqProofs (maxSteps := 1000000) (disch := first | exact dis | fail) only [hc_watch_count, cntB, go_sem]
  repeat' ((first | (with_reducible first | refine w_if ?_ ?_ | refine w_gt ?_ ?_ | refine w_gf ?_ ?_ | refine w_io ?_ ?_ | refine w_gdt ?_ ?_ | refine w_gdf ?_ ?_ | refine w_ite ?_ ?_) <;> intro h <;> (try rw [h]) <;> replace hr := And.intro h hr <;> replace h := nrm h <;> try (first | (exfalso; omega) | exact (bx h (by assumption)).elim | exact (bx (by assumption) h).elim) | ((with_reducible refine And.intro ?_ ?_); (focus omega))) <;> try simp -dsimp -implicitDefEqProofs (maxSteps := 1000000) (disch := first | exact dis | fail) only [cntB, go_sem])
def withinI (n : Int) : Int := min (max n 0) 2305843009213693952
theorem within_ok (n : Int) : PCall Try.prog f_watch_within [.int .i64 n] (.int .i64 (withinI n)) := by
  refine pcallI ok_watch_within ?_
  have hr := trivial
  try simp -dsimp -implicitDefEqProofs (maxSteps := 1000000) (disch := first | exact dis | fail) only [hc_watch_within, withinI, go_sem]
  repeat' ((first | (with_reducible first | refine w_if ?_ ?_ | refine w_gt ?_ ?_ | refine w_gf ?_ ?_ | refine w_io ?_ ?_ | refine w_gdt ?_ ?_ | refine w_gdf ?_ ?_ | refine w_ite ?_ ?_) <;> intro h <;> (try rw [h]) <;> replace hr := And.intro h hr <;> replace h := nrm h <;> try (first | (exfalso; omega) | exact (bx h (by assumption)).elim | exact (bx (by assumption) h).elim) | ((with_reducible refine And.intro ?_ ?_); (focus omega))) <;> try simp -dsimp -implicitDefEqProofs (maxSteps := 1000000) (disch := first | exact dis | fail) only [withinI, go_sem])
structure WtOk (w : Wt) : Prop where
  t : cntB w.thr = true
  s : cntB w.sil = true
  b : (w.bits.length : Int) ≤ 64
theorem wRight_ok (w : Wt) (h : WtOk w) : PCall Try.prog f_watch_Right [.agg w.av] (.int .i64 0) := by
  refine pcallI ok_watch_Right ?_
  have h1 := h.t
  have h2 := h.s
  have h3 := h.b
  have hr := trivial
  try simp -dsimp -implicitDefEqProofs (maxSteps := 1000000) (disch := first | exact dis | fail) only [hc_watch_Right, Wt.av, h1, h2, go_sem]
  repeat' ((first | (with_reducible refine PCall.aci (wCount_ok _) ?_) | (with_reducible first | refine w_if ?_ ?_ | refine w_gt ?_ ?_ | refine w_gf ?_ ?_ | refine w_io ?_ ?_ | refine w_gdt ?_ ?_ | refine w_gdf ?_ ?_ | refine w_ite ?_ ?_) <;> intro h <;> (try rw [h]) <;> replace hr := And.intro h hr <;> replace h := nrm h <;> try (first | (exfalso; omega) | exact (bx h (by assumption)).elim | exact (bx (by assumption) h).elim) | ((with_reducible refine And.intro ?_ ?_); (focus omega))) <;> try simp -dsimp -implicitDefEqProofs (maxSteps := 1000000) (disch := first | exact dis | fail) only [Wt.av, h1, h2, go_sem])
def WH (w : Wt) (now : Int) : AHeap := [some (.cells [.int .u32 w.id, .int .u32 w.mask, .bool w.inv, .str w.bits, .int .i64 w.thr, .int .i64 w.sil, .nilp, .int .i64 0, .nilp, .int .i64 (withinI now), .bool false])]
theorem wNew_ok (w : Wt) (h : WtOk w) (now : Int) : ACall Try.prog f_watch_New [.agg w.av, .int .i64 now] [] fun r A => r = .tup [.ptr 0 0, .int .i64 0] ∧ A = WH w now := by
  refine acallH ok_watch_New ?_
  have hR := wRight_ok w h
  have hW := within_ok now
  have hr := trivial
  try simp -dsimp -implicitDefEqProofs (maxSteps := 1000000) (disch := first | exact dis | fail) only [hc_watch_New, Wt.av, go_sem]
  repeat' ((first | (with_reducible refine PCall.aci hR ?_) | (with_reducible refine PCall.aci hW ?_) | (with_reducible first | refine w_if ?_ ?_ | refine w_gt ?_ ?_ | refine w_gf ?_ ?_ | refine w_io ?_ ?_ | refine w_gdt ?_ ?_ | refine w_gdf ?_ ?_ | refine w_ite ?_ ?_) <;> intro h <;> (try rw [h]) <;> replace hr := And.intro h hr <;> replace h := nrm h <;> try (first | (exfalso; omega) | exact (bx h (by assumption)).elim | exact (bx (by assumption) h).elim) | ((with_reducible refine And.intro ?_ ?_); (focus omega))) <;> try simp -dsimp -implicitDefEqProofs (maxSteps := 1000000) (disch := first | exact dis | fail) only [Wt.av, go_sem])
  exact ⟨some [1], rfl, rfl, by simp only [foldA_eq, go_sem, WH]⟩
theorem wNewP (xs : List Go.SB.Item) (w : Wt) (h : WtOk w) (now : Int) : ACall Try.prog f_watch_New [.agg w.av, .int .i64 now] [some (.pool xs)] fun r B => ∃ p, r = .tup [rp p, .int .i64 0] ∧ B = [some (.pool (xs ++ [(p, WH w now)]))] := by
  refine (ACall.bornT xs rfl (wNew_ok w h now) fun r A' hh => ⟨⟨[.int .i64 0], hh.1, rfl⟩, by rw [hh.2]; rfl⟩).mono ?_
  rintro r B ⟨p, A', es, ⟨h1, h2⟩, h3, h4⟩
  cases h1
  exact ⟨p, h3, by rw [h4, h2]⟩
theorem wt_flat (w : Wt) : AV.flatL w.av = true := rfl
/-- The jobs closed. -/
theorem jo_finG {A : AHeap} {J : Jo} {xs : List Go.SB.Item} {ss ww : List (List AV)} {p1 p2 p3 n1 n2 : Nat} {v : AV} (h0 : A[0]? = some (some (.cells [.sl p1 3 0 n1 false, .sl p2 5 0 n2 false, .mp p3, .int .i64 J.room]))) (h1 : A[1]? = some (some (.pool xs)))
    (g1 : A[p1]? = some (some (.arr ss))) (g2 : A[p2]? = some (some (.arr ww))) (g3 : A[p3]? = some (some (.map (J.notes.map ntv)))) (hss : rows sdv J.snd = (ss.drop 0).take n1) (hsl : n1 ≤ ss.length) (hww : rows wav J.wat = (ww.drop 0).take n2) (hwl : n2 ≤ ww.length)
    (hk : [p2, p3].contains p1 = false ∧ [p3].contains p2 = false) (hp : (1 < p1 ∧ 1 < p2) ∧ 1 < p3) (hv : AV.flat v = true) :
    ∃ A2, Vw A A2 ∧ ∃ ks, okKeepO 2 ks = true ∧ foldVo 2 ks v = v ∧ foldAo 2 ks A2 = JH J xs := by
  refine ⟨_, vw_close (l := 0) (ovs := J.ov) h0 (.sl (p := p1) g1 (by omega) (by decide) hss flatLL_rows hk.1 (.sl (p := p2) g2 (by omega) (by decide) hww flatLL_rows hk.2 (.m (p := p3) g3 (notes_flat _) rfl (.v rfl .nil)))), some [], rfl, AV.ren_flat _ hv, ?_⟩
  obtain ⟨x0, x1, T, rfl⟩ : ∃ x0 x1 T, A = x0 :: x1 :: T := by
    rcases A with _ | ⟨x0, _ | ⟨x1, T⟩⟩
    · cases h0
    · cases h1
    · exact ⟨_, _, _, rfl⟩
  simp only [List.getElem?_cons_zero, List.getElem?_cons_succ, Option.some.injEq] at h0 h1
  subst h0 h1
  obtain ⟨p1, rfl⟩ : ∃ k, p1 = k + 2 := ⟨p1 - 2, by omega⟩
  obtain ⟨p2, rfl⟩ : ∃ k, p2 = k + 2 := ⟨p2 - 2, by omega⟩
  obtain ⟨p3, rfl⟩ : ∃ k, p3 = k + 2 := ⟨p3 - 2, by omega⟩
  simp only [clo, kills, List.set_cons_succ, List.set_cons_zero, foldA_eq, go_sem, JH]
def Jo.keepW (J : Jo) (sock : Int) (w : Wt) : List Wa := J.wat.filter fun c => !isW sock w.id w.mask w.inv c
def Jo.rx (J : Jo) (sock : Int) (w : Wt) (p : Nat × Nat) : Jo := { J with wat := J.keepW sock w ++ [⟨sock, w.id, w.mask, w.inv, p⟩] }
theorem Rx_all (J : Jo) (xs : List Go.SB.Item) (sock : Int) (hs : 0 ≤ sock ∧ sock < 100) (w : Wt) (hw : WtOk w) (now : Int) (hn : J.wat.length ≤ 900) :
    (cntG (ofW sock) (J.keepW sock w) (J.keepW sock w).length < 100 → ACall Try.prog f_bcm_Jobs_Rx [.ptr 0 0, .int .i64 sock, .agg w.av, .int .i64 now] (JH J xs) fun v A => ∃ p, v = .int .i64 0 ∧ A = JH (J.rx sock w p) (xs ++ [(p, WH w now)])) ∧
    (100 ≤ cntG (ofW sock) (J.keepW sock w) (J.keepW sock w).length → ACall Try.prog f_bcm_Jobs_Rx [.ptr 0 0, .int .i64 sock, .agg w.av, .int .i64 now] (JH J xs) fun v A => ∃ p, v = .int .i64 9 ∧ A = JH J (xs ++ [(p, WH w now)])) := by
  have hR := right_ok sock
  have hN := wNewP xs w hw now
  have hC := CloneWa_ok J.wat (by omega)
  have hD := DeleteWa2_ok f_bcm_Jobs_Rx_1 (.cells [.int .i64 sock]) (.cells w.av) (fun _ => rfl) (cells_ren (wt_flat w)) (isW sock w.id w.mask w.inv) (Rx1_ok w sock) J.wat (by omega)
  have hl : (J.wat.filter fun c => !isW sock w.id w.mask w.inv c).length ≤ 900 := Nat.le_trans (List.length_filter_le _ _) hn
  unfold Jo.rx Jo.keepW
  generalize (J.wat.filter fun c => !isW sock w.id w.mask w.inv c) = ys at hl hD ⊢
  have hK := fun n => CountWa_ok f_bcm_Jobs_Rx_2 (.cells [.int .i64 sock]) (fun _ => rfl) (ofW sock) (Rx2_ok sock) ys n (by omega)
  have tk : ∀ n, (rows wao (padWa ys n)).take ys.length = rows wav ys := fun n => padWa_take.symm
  generalize WH w now = B at hN ⊢
  constructor
  · intro hroom
    refine acallV ok_bcm_Jobs_Rx (JO.opn J xs) ?_
    rw [show (JH J xs).length = 2 from rfl]
    have hr := trivial
    try simp -dsimp -implicitDefEqProofs (maxSteps := 1000000) (disch := first | exact dis | fail) only [hc_bcm_Jobs_Rx, JO, Wt.av, hs.1, hs.2, go_sem]
    repeat' ((first | (with_reducible refine PCall.aci hR ?_) | (with_reducible first | refine w_if ?_ ?_ | refine w_gt ?_ ?_ | refine w_gf ?_ ?_ | refine w_io ?_ ?_ | refine w_gdt ?_ ?_ | refine w_gdf ?_ ?_ | refine w_ite ?_ ?_) <;> intro h <;> (try rw [h]) <;> replace hr := And.intro h hr <;> replace h := nrm h <;> try (first | (exfalso; omega) | exact (bx h (by assumption)).elim | exact (bx (by assumption) h).elim) | ((with_reducible refine And.intro ?_ ?_); (focus omega))) <;> try simp -dsimp -implicitDefEqProofs (maxSteps := 1000000) (disch := first | exact dis | fail) only [JO, Wt.av, hs.1, hs.2, go_sem])
    refine hN.at' [1] (by decide) rfl (by simp only [standsL, go_sem]) rfl ?_
    rintro v A ⟨p, rfl, rfl⟩
    have hr := trivial
    try simp -dsimp -implicitDefEqProofs (maxSteps := 1000000) (disch := first | exact dis | fail) only [Wt.av, go_sem]
    repeat' ((first | ((with_reducible refine ACall.atE (hC) [3] ?_ ?_ ?_ ?_ ?_); (focus decide); (focus rfl); (focus (simp -dsimp -implicitDefEqProofs (maxSteps := 1000000) (disch := first | exact dis | fail) only [standsL, Wt.av, go_sem]; done)); (focus (first | rfl | (simp -dsimp -implicitDefEqProofs (maxSteps := 1000000) (disch := first | exact dis | fail) only [Wt.av, go_sem]; done)))) | (with_reducible first | refine w_if ?_ ?_ | refine w_gt ?_ ?_ | refine w_gf ?_ ?_ | refine w_io ?_ ?_ | refine w_gdt ?_ ?_ | refine w_gdf ?_ ?_ | refine w_ite ?_ ?_) <;> intro h <;> (try rw [h]) <;> replace hr := And.intro h hr <;> replace h := nrm h <;> try (first | (exfalso; omega) | exact (bx h (by assumption)).elim | exact (bx (by assumption) h).elim) | ((with_reducible refine And.intro ?_ ?_); (focus omega))) <;> try simp -dsimp -implicitDefEqProofs (maxSteps := 1000000) (disch := first | exact dis | fail) only [Wt.av, go_sem])
    refine hD.at' [7, 5, 6] (by decide) rfl (by simp only [standsL, Wt.av, go_sem]) rfl ?_
    rintro v A ⟨rfl, n, rfl⟩
    have hle : ys.length ≤ ys.length + n := by omega
    have hr := trivial
    try simp -dsimp -implicitDefEqProofs (maxSteps := 1000000) (disch := first | exact dis | fail) only [Wt.av, padWa_len, go_sem]
    repeat' ((first | ((with_reducible refine ACall.atE ((hK n)) [7, 5] ?_ ?_ ?_ ?_ ?_); (focus decide); (focus rfl); (focus (simp -dsimp -implicitDefEqProofs (maxSteps := 1000000) (disch := first | exact dis | fail) only [standsL, Wt.av, padWa_len, go_sem]; done)); (focus (first | rfl | (simp -dsimp -implicitDefEqProofs (maxSteps := 1000000) (disch := first | exact dis | fail) only [Wt.av, padWa_len, go_sem]; done)))) | (with_reducible first | refine w_if ?_ ?_ | refine w_gt ?_ ?_ | refine w_gf ?_ ?_ | refine w_io ?_ ?_ | refine w_gdt ?_ ?_ | refine w_gdf ?_ ?_ | refine w_ite ?_ ?_) <;> intro h <;> (try rw [h]) <;> replace hr := And.intro h hr <;> replace h := nrm h <;> try (first | (exfalso; omega) | exact (bx h (by assumption)).elim | exact (bx (by assumption) h).elim) | ((with_reducible refine And.intro ?_ ?_); (focus omega))) <;> try simp -dsimp -implicitDefEqProofs (maxSteps := 1000000) (disch := first | exact dis | fail) only [Wt.av, padWa_len, go_sem])
    refine ex_in (r := fun _ => .int .i64 0) (X := fun p => JH { J with wat := ys ++ [⟨sock, w.id, w.mask, w.inv, p⟩] } (xs ++ [(p, B)])) p ?_
    exact jo_finG (J := { J with wat := ys ++ [⟨sock, w.id, w.mask, w.inv, p⟩] }) rfl rfl rfl rfl rfl rows_all (by rw [rows_length]; exact Nat.le_refl _) (by rw [tk, List.drop_zero, List.take_of_length_le (by simp [rows])]; simp [rows, wav]) (by rw [tk]; simp [rows]) (by decide) (by decide) rfl
  · intro hroom
    refine acallV ok_bcm_Jobs_Rx (JO.opn J xs) ?_
    rw [show (JH J xs).length = 2 from rfl]
    have hr := trivial
    try simp -dsimp -implicitDefEqProofs (maxSteps := 1000000) (disch := first | exact dis | fail) only [hc_bcm_Jobs_Rx, JO, Wt.av, hs.1, hs.2, go_sem]
    repeat' ((first | (with_reducible refine PCall.aci hR ?_) | (with_reducible first | refine w_if ?_ ?_ | refine w_gt ?_ ?_ | refine w_gf ?_ ?_ | refine w_io ?_ ?_ | refine w_gdt ?_ ?_ | refine w_gdf ?_ ?_ | refine w_ite ?_ ?_) <;> intro h <;> (try rw [h]) <;> replace hr := And.intro h hr <;> replace h := nrm h <;> try (first | (exfalso; omega) | exact (bx h (by assumption)).elim | exact (bx (by assumption) h).elim) | ((with_reducible refine And.intro ?_ ?_); (focus omega))) <;> try simp -dsimp -implicitDefEqProofs (maxSteps := 1000000) (disch := first | exact dis | fail) only [JO, Wt.av, hs.1, hs.2, go_sem])
    refine hN.at' [1] (by decide) rfl (by simp only [standsL, go_sem]) rfl ?_
    rintro v A ⟨p, rfl, rfl⟩
    have hr := trivial
    try simp -dsimp -implicitDefEqProofs (maxSteps := 1000000) (disch := first | exact dis | fail) only [Wt.av, go_sem]
    repeat' ((first | ((with_reducible refine ACall.atE (hC) [3] ?_ ?_ ?_ ?_ ?_); (focus decide); (focus rfl); (focus (simp -dsimp -implicitDefEqProofs (maxSteps := 1000000) (disch := first | exact dis | fail) only [standsL, Wt.av, go_sem]; done)); (focus (first | rfl | (simp -dsimp -implicitDefEqProofs (maxSteps := 1000000) (disch := first | exact dis | fail) only [Wt.av, go_sem]; done)))) | (with_reducible first | refine w_if ?_ ?_ | refine w_gt ?_ ?_ | refine w_gf ?_ ?_ | refine w_io ?_ ?_ | refine w_gdt ?_ ?_ | refine w_gdf ?_ ?_ | refine w_ite ?_ ?_) <;> intro h <;> (try rw [h]) <;> replace hr := And.intro h hr <;> replace h := nrm h <;> try (first | (exfalso; omega) | exact (bx h (by assumption)).elim | exact (bx (by assumption) h).elim) | ((with_reducible refine And.intro ?_ ?_); (focus omega))) <;> try simp -dsimp -implicitDefEqProofs (maxSteps := 1000000) (disch := first | exact dis | fail) only [Wt.av, go_sem])
    refine hD.at' [7, 5, 6] (by decide) rfl (by simp only [standsL, Wt.av, go_sem]) rfl ?_
    rintro v A ⟨rfl, n, rfl⟩
    have hle : ys.length ≤ ys.length + n := by omega
    have hr := trivial
    try simp -dsimp -implicitDefEqProofs (maxSteps := 1000000) (disch := first | exact dis | fail) only [Wt.av, padWa_len, go_sem]
    repeat' ((first | ((with_reducible refine ACall.atE ((hK n)) [7, 5] ?_ ?_ ?_ ?_ ?_); (focus decide); (focus rfl); (focus (simp -dsimp -implicitDefEqProofs (maxSteps := 1000000) (disch := first | exact dis | fail) only [standsL, Wt.av, padWa_len, go_sem]; done)); (focus (first | rfl | (simp -dsimp -implicitDefEqProofs (maxSteps := 1000000) (disch := first | exact dis | fail) only [Wt.av, padWa_len, go_sem]; done)))) | (with_reducible first | refine w_if ?_ ?_ | refine w_gt ?_ ?_ | refine w_gf ?_ ?_ | refine w_io ?_ ?_ | refine w_gdt ?_ ?_ | refine w_gdf ?_ ?_ | refine w_ite ?_ ?_) <;> intro h <;> (try rw [h]) <;> replace hr := And.intro h hr <;> replace h := nrm h <;> try (first | (exfalso; omega) | exact (bx h (by assumption)).elim | exact (bx (by assumption) h).elim) | ((with_reducible refine And.intro ?_ ?_); (focus omega))) <;> try simp -dsimp -implicitDefEqProofs (maxSteps := 1000000) (disch := first | exact dis | fail) only [Wt.av, padWa_len, go_sem])
    refine ex_in (r := fun _ => .int .i64 9) (X := fun p => JH J (xs ++ [(p, B)])) p ?_
    exact jo_fin (J := J) rfl rfl rfl rfl rfl rows_all (by rw [rows_length]; exact Nat.le_refl _) (by decide) (by decide) rfl rfl
theorem pad0S {xs : List Sd} : rows sdo (padSd xs 0) = rows sdv xs := by simp [padSd, rows, sdo]
theorem pad0W {xs : List Wa} : rows wao (padWa xs 0) = rows wav xs := by simp [padWa, rows, wao]
def Jo.len (J : Jo) (sock : Int) : Int := cntG (ofS sock) J.snd J.snd.length + cntG (ofW sock) J.wat J.wat.length
theorem LenO_ok (J : Jo) (xs : List Go.SB.Item) (sock : Int) (hn : J.snd.length ≤ 900) (hm : J.wat.length ≤ 900) : ACall Try.prog f_bcm_Jobs_Len [.ptr 0 0, .int .i64 sock] (JO J xs) fun v A => v = .int .i64 (J.len sock) ∧ A = JO J xs := by
  refine acallH ok_bcm_Jobs_Len ?_
  rw [show (JO J xs).length = 5 from rfl]
  have h1 := CountSd_ok f_bcm_Jobs_Len_1 (.cells [.int .i64 sock]) (fun _ => rfl) (ofS sock) (Len1_ok sock) J.snd 0 (by omega)
  have h2 := CountWa_ok f_bcm_Jobs_Len_2 (.cells [.int .i64 sock]) (fun _ => rfl) (ofW sock) (Len2_ok sock) J.wat 0 (by omega)
  rw [pad0S] at h1
  rw [pad0W] at h2
  have c1 := cntG_le (g := ofS sock) (xs := J.snd) (j := J.snd.length)
  have c2 := cntG_le (g := ofW sock) (xs := J.wat) (j := J.wat.length)
  have hr := trivial
  try simp -dsimp -implicitDefEqProofs (maxSteps := 1000000) (disch := first | exact dis | fail) only [hc_bcm_Jobs_Len, JO, go_sem]
  repeat' ((first | ((with_reducible refine ACall.atE (h1) [2, 5] ?_ ?_ ?_ ?_ ?_); (focus decide); (focus rfl); (focus (simp -dsimp -implicitDefEqProofs (maxSteps := 1000000) (disch := first | exact dis | fail) only [standsL, JO, go_sem]; done)); (focus (first | rfl | (simp -dsimp -implicitDefEqProofs (maxSteps := 1000000) (disch := first | exact dis | fail) only [JO, go_sem]; done)))) | ((with_reducible refine ACall.atE (h2) [3, 5] ?_ ?_ ?_ ?_ ?_); (focus decide); (focus rfl); (focus (simp -dsimp -implicitDefEqProofs (maxSteps := 1000000) (disch := first | exact dis | fail) only [standsL, JO, go_sem]; done)); (focus (first | rfl | (simp -dsimp -implicitDefEqProofs (maxSteps := 1000000) (disch := first | exact dis | fail) only [JO, go_sem]; done)))) | (with_reducible first | refine w_if ?_ ?_ | refine w_gt ?_ ?_ | refine w_gf ?_ ?_ | refine w_io ?_ ?_ | refine w_gdt ?_ ?_ | refine w_gdf ?_ ?_ | refine w_ite ?_ ?_) <;> intro h <;> (try rw [h]) <;> replace hr := And.intro h hr <;> replace h := nrm h <;> try (first | (exfalso; omega) | exact (bx h (by assumption)).elim | exact (bx (by assumption) h).elim) | ((with_reducible refine And.intro ?_ ?_); (focus omega))) <;> try simp -dsimp -implicitDefEqProofs (maxSteps := 1000000) (disch := first | exact dis | fail) only [JO, go_sem])
  exact ⟨some [], rfl, rfl, by simp only [foldA_eq, go_sem, notes_ren, JO]⟩
theorem Len_ok (J : Jo) (xs : List Go.SB.Item) (sock : Int) (hn : J.snd.length ≤ 900) (hm : J.wat.length ≤ 900) : ACall Try.prog f_bcm_Jobs_Len [.ptr 0 0, .int .i64 sock] (JH J xs) fun v A => v = .int .i64 (J.len sock) ∧ A = JH J xs := by
  refine acallV ok_bcm_Jobs_Len (JO.opn J xs) ?_
  rw [show (JH J xs).length = 2 from rfl]
  have h1 := CountSd_ok f_bcm_Jobs_Len_1 (.cells [.int .i64 sock]) (fun _ => rfl) (ofS sock) (Len1_ok sock) J.snd 0 (by omega)
  have h2 := CountWa_ok f_bcm_Jobs_Len_2 (.cells [.int .i64 sock]) (fun _ => rfl) (ofW sock) (Len2_ok sock) J.wat 0 (by omega)
  rw [pad0S] at h1
  rw [pad0W] at h2
  have c1 := cntG_le (g := ofS sock) (xs := J.snd) (j := J.snd.length)
  have c2 := cntG_le (g := ofW sock) (xs := J.wat) (j := J.wat.length)
  have hr := trivial
  try simp -dsimp -implicitDefEqProofs (maxSteps := 1000000) (disch := first | exact dis | fail) only [hc_bcm_Jobs_Len, JO, go_sem]
  repeat' ((first | ((with_reducible refine ACall.atE (h1) [2, 5] ?_ ?_ ?_ ?_ ?_); (focus decide); (focus rfl); (focus (simp -dsimp -implicitDefEqProofs (maxSteps := 1000000) (disch := first | exact dis | fail) only [standsL, JO, go_sem]; done)); (focus (first | rfl | (simp -dsimp -implicitDefEqProofs (maxSteps := 1000000) (disch := first | exact dis | fail) only [JO, go_sem]; done)))) | ((with_reducible refine ACall.atE (h2) [3, 5] ?_ ?_ ?_ ?_ ?_); (focus decide); (focus rfl); (focus (simp -dsimp -implicitDefEqProofs (maxSteps := 1000000) (disch := first | exact dis | fail) only [standsL, JO, go_sem]; done)); (focus (first | rfl | (simp -dsimp -implicitDefEqProofs (maxSteps := 1000000) (disch := first | exact dis | fail) only [JO, go_sem]; done)))) | (with_reducible first | refine w_if ?_ ?_ | refine w_gt ?_ ?_ | refine w_gf ?_ ?_ | refine w_io ?_ ?_ | refine w_gdt ?_ ?_ | refine w_gdf ?_ ?_ | refine w_ite ?_ ?_) <;> intro h <;> (try rw [h]) <;> replace hr := And.intro h hr <;> replace h := nrm h <;> try (first | (exfalso; omega) | exact (bx h (by assumption)).elim | exact (bx (by assumption) h).elim) | ((with_reducible refine And.intro ?_ ?_); (focus omega))) <;> try simp -dsimp -implicitDefEqProofs (maxSteps := 1000000) (disch := first | exact dis | fail) only [JO, go_sem])
  exact jo_fin (J := J) rfl rfl rfl rfl rfl rows_all (by rw [rows_length]; exact Nat.le_refl _) (by decide) (by decide) rfl rfl
theorem amd_nil (x0 x1 x2 x3 x5 : Option AO) {sock : Int} {l : List (Int × (Nat × Nat))} (h : l = []) : amdel [x0, x1, x2, x3, some (.map (l.map ntv)), x5] .int (.mp 4) (.int .i64 sock) = some [x0, x1, x2, x3, some (.map (l.map ntv)), x5] := by subst h; rfl
theorem Drop_ok (J : Jo) (xs : List Go.SB.Item) (sock : Int) (hn : J.snd.length ≤ 900) (hm : J.wat.length ≤ 900) (hno : J.notes = []) : ACall Try.prog f_bcm_Jobs_Drop [.ptr 0 0, .int .i64 sock] (JH J xs) fun v A => v = .int .i64 (J.len sock) ∧ A = JH { J with snd := J.snd.filter fun c => !ofS sock c, wat := J.wat.filter fun c => !ofW sock c } xs := by
  refine acallV ok_bcm_Jobs_Drop (JO.opn J xs) ?_
  rw [show (JH J xs).length = 2 from rfl]
  have hL := LenO_ok J xs sock hn hm
  have h1 := DeleteSd1_ok f_bcm_Jobs_Drop_1 (.cells [.int .i64 sock]) (.pool xs) (fun _ => rfl) (fun _ => rfl) (ofS sock) (Drop1_ok sock (.pool xs) (fun _ => rfl)) J.snd (by omega)
  have h2 := DeleteWa1_ok f_bcm_Jobs_Drop_2 (.cells [.int .i64 sock]) (.pool xs) (fun _ => rfl) (fun _ => rfl) (ofW sock) (Drop2_ok sock (.pool xs) (fun _ => rfl)) J.wat (by omega)
  have l1 : (J.snd.filter fun c => !ofS sock c).length ≤ 900 := Nat.le_trans (List.length_filter_le _ _) hn
  have l2 : (J.wat.filter fun c => !ofW sock c).length ≤ 900 := Nat.le_trans (List.length_filter_le _ _) hm
  generalize (J.snd.filter fun c => !ofS sock c) = ys at l1 h1 ⊢
  generalize (J.wat.filter fun c => !ofW sock c) = zs at l2 h2 ⊢
  have hd := fun x0 x1 x2 x3 x5 => amd_nil x0 x1 x2 x3 x5 (sock := sock) hno
  have hr := trivial
  try simp -dsimp -implicitDefEqProofs (maxSteps := 1000000) (disch := first | exact dis | fail) only [hc_bcm_Jobs_Drop, JO, notes_ren, go_sem]
  repeat' ((first | ((with_reducible refine ACall.atE (hL) [0, 1, 2, 3, 4] ?_ ?_ ?_ ?_ ?_); (focus decide); (focus rfl); (focus (simp -dsimp -implicitDefEqProofs (maxSteps := 1000000) (disch := first | exact dis | fail) only [standsL, JO, notes_ren, go_sem]; done)); (focus (first | rfl | (simp -dsimp -implicitDefEqProofs (maxSteps := 1000000) (disch := first | exact dis | fail) only [JO, notes_ren, go_sem]; done)))) | (with_reducible first | refine w_if ?_ ?_ | refine w_gt ?_ ?_ | refine w_gf ?_ ?_ | refine w_io ?_ ?_ | refine w_gdt ?_ ?_ | refine w_gdf ?_ ?_ | refine w_ite ?_ ?_) <;> intro h <;> (try rw [h]) <;> replace hr := And.intro h hr <;> replace h := nrm h <;> try (first | (exfalso; omega) | exact (bx h (by assumption)).elim | exact (bx (by assumption) h).elim) | ((with_reducible refine And.intro ?_ ?_); (focus omega))) <;> try simp -dsimp -implicitDefEqProofs (maxSteps := 1000000) (disch := first | exact dis | fail) only [JO, notes_ren, go_sem])
  refine h1.at' [2, 5, 1] (by decide) rfl (by simp only [standsL, go_sem]) rfl ?_
  rintro v A ⟨rfl, n1, rfl⟩
  have hr := trivial
  try simp -dsimp -implicitDefEqProofs (maxSteps := 1000000) (disch := first | exact dis | fail) only [notes_ren, go_sem]
  repeat' ((first | (with_reducible first | refine w_if ?_ ?_ | refine w_gt ?_ ?_ | refine w_gf ?_ ?_ | refine w_io ?_ ?_ | refine w_gdt ?_ ?_ | refine w_gdf ?_ ?_ | refine w_ite ?_ ?_) <;> intro h <;> (try rw [h]) <;> replace hr := And.intro h hr <;> replace h := nrm h <;> try (first | (exfalso; omega) | exact (bx h (by assumption)).elim | exact (bx (by assumption) h).elim) | ((with_reducible refine And.intro ?_ ?_); (focus omega))) <;> try simp -dsimp -implicitDefEqProofs (maxSteps := 1000000) (disch := first | exact dis | fail) only [notes_ren, go_sem])
  refine h2.at' [3, 5, 1] (by decide) rfl (by simp only [standsL, go_sem]) rfl ?_
  rintro v A ⟨rfl, n2, rfl⟩
  have hr := trivial
  try simp -dsimp -implicitDefEqProofs (maxSteps := 1000000) (disch := first | exact dis | fail) only [notes_ren, hd, go_sem]
  repeat' ((first | (with_reducible first | refine w_if ?_ ?_ | refine w_gt ?_ ?_ | refine w_gf ?_ ?_ | refine w_io ?_ ?_ | refine w_gdt ?_ ?_ | refine w_gdf ?_ ?_ | refine w_ite ?_ ?_) <;> intro h <;> (try rw [h]) <;> replace hr := And.intro h hr <;> replace h := nrm h <;> try (first | (exfalso; omega) | exact (bx h (by assumption)).elim | exact (bx (by assumption) h).elim) | ((with_reducible refine And.intro ?_ ?_); (focus omega))) <;> try simp -dsimp -implicitDefEqProofs (maxSteps := 1000000) (disch := first | exact dis | fail) only [notes_ren, hd, go_sem])
  exact jo_finG (J := { J with snd := ys, wat := zs }) rfl rfl rfl rfl rfl padSd_take (by rw [rows_length, padSd_len]; omega) padWa_take (by rw [rows_length, padWa_len]; omega) (by decide) (by decide) rfl
end Go.Proofs.Ytapoilcpollmpaa
end
