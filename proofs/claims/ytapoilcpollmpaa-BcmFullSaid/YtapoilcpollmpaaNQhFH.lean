/- QhF, QhG, QhH, put together. Conditions: none. -/
import Derived.Test.YtapoilcpollmpaaNQhDE
/- bcm: jobs, and which of them are meant. -/
section
namespace Go.Proofs.Ytapoilcpollmpaa
open Go.SB
attribute [local irreducible] HW HSS HAS HRQ HEO HOP HCK
set_option maxRecDepth 100000
set_option maxHeartbeats 1000000
set_option linter.unusedSimpArgs false
set_option pp.deepTerms.threshold 6
attribute [local go_sem high] own_ren rp_ren

theorem rp_eq (p : Nat × Nat) : AV.raw (.pointer (some ⟨p.1, p.2, none⟩)) = rp p := rfl
instance {p : Nat × Nat} : FlatV (rp p) := ⟨rfl⟩
theorem right_ok (n : Int) : PCall Try.prog f_bcm_right [.int .i64 n] (.bool (decide (0 ≤ n) && decide (n < 100))) := by
  refine pcallI ok_bcm_right ?_
  have hr := trivial
  try simp -dsimp -implicitDefEqProofs (maxSteps := 1000000) (disch := first | exact dis | fail) only [hc_bcm_right, go_sem]
  repeat' ((first | (with_reducible first | refine w_if ?_ ?_ | refine w_gt ?_ ?_ | refine w_gf ?_ ?_ | refine w_io ?_ ?_ | refine w_gdt ?_ ?_ | refine w_gdf ?_ ?_ | refine w_ite ?_ ?_) <;> intro h <;> (try rw [h]) <;> replace hr := And.intro h hr <;> replace h := nrm h <;> try (first | (exfalso; omega) | exact (bx h (by assumption)).elim | exact (bx (by assumption) h).elim) | ((with_reducible refine And.intro ?_ ?_); (focus omega))) <;> try simp -dsimp -implicitDefEqProofs (maxSteps := 1000000) (disch := first | exact dis | fail) only [go_sem])
def isS (sock id : Int) (s : Sd) : Bool := decide (s.sock = sock) && decide (s.id = id)
theorem sis_ok (s : Sd) (sock id : Int) : PCall Try.prog f_bcm_sender_is [.agg (sdv s), .int .i64 sock, .int .i64 id] (.bool (isS sock id s)) := by
  refine pcallI ok_bcm_sender_is ?_
  have hr := trivial
  try simp -dsimp -implicitDefEqProofs (maxSteps := 1000000) (disch := first | exact dis | fail) only [hc_bcm_sender_is, sdv_eq, isS, go_sem]
  repeat' ((first | (with_reducible first | refine w_if ?_ ?_ | refine w_gt ?_ ?_ | refine w_gf ?_ ?_ | refine w_io ?_ ?_ | refine w_gdt ?_ ?_ | refine w_gdf ?_ ?_ | refine w_ite ?_ ?_) <;> intro h <;> (try rw [h]) <;> replace hr := And.intro h hr <;> replace h := nrm h <;> try (first | (exfalso; omega) | exact (bx h (by assumption)).elim | exact (bx (by assumption) h).elim) | ((with_reducible refine And.intro ?_ ?_); (focus omega))) <;> try simp -dsimp -implicitDefEqProofs (maxSteps := 1000000) (disch := first | exact dis | fail) only [sdv_eq, isS, go_sem])
theorem Tx1_ok (j : Jb) (sock : Int) (s : Sd) : ACall Try.prog f_bcm_Jobs_Tx_1 [.agg (sdv s), .ptr 0 0, .ptr 1 0] [some (.cells [.int .i64 sock]), some (.cells j.av)] fun r A => r = .bool (isS sock j.id s) ∧ A = [some (.cells [.int .i64 sock]), some (.cells j.av)] := by
  refine acallH ok_bcm_Jobs_Tx_1 ?_
  have hS := sis_ok s sock j.id
  rw [sdv_eq] at hS
  have hr := trivial
  try simp -dsimp -implicitDefEqProofs (maxSteps := 1000000) (disch := first | exact dis | fail) only [hc_bcm_Jobs_Tx_1, sdv_eq, Jb.av, go_sem]
  repeat' ((first | (with_reducible refine PCall.aci hS ?_) | (with_reducible first | refine w_if ?_ ?_ | refine w_gt ?_ ?_ | refine w_gf ?_ ?_ | refine w_io ?_ ?_ | refine w_gdt ?_ ?_ | refine w_gdf ?_ ?_ | refine w_ite ?_ ?_) <;> intro h <;> (try rw [h]) <;> replace hr := And.intro h hr <;> replace h := nrm h <;> try (first | (exfalso; omega) | exact (bx h (by assumption)).elim | exact (bx (by assumption) h).elim) | ((with_reducible refine And.intro ?_ ?_); (focus omega))) <;> try simp -dsimp -implicitDefEqProofs (maxSteps := 1000000) (disch := first | exact dis | fail) only [sdv_eq, Jb.av, go_sem])
  exact ⟨some [], rfl, rfl, by simp only [foldA_eq, go_sem]⟩
theorem TxStop1_ok (sock id : Int) (s : Sd) : ACall Try.prog f_bcm_Jobs_TxStop_1 [.agg (sdv s), .ptr 0 0, .ptr 1 0] [some (.cells [.int .i64 sock]), some (.cells [.int .i64 id])] fun r A => r = .bool (isS sock id s) ∧ A = [some (.cells [.int .i64 sock]), some (.cells [.int .i64 id])] := by
  refine acallH ok_bcm_Jobs_TxStop_1 ?_
  have hS := sis_ok s sock id
  rw [sdv_eq] at hS
  have hr := trivial
  try simp -dsimp -implicitDefEqProofs (maxSteps := 1000000) (disch := first | exact dis | fail) only [hc_bcm_Jobs_TxStop_1, sdv_eq, go_sem]
  repeat' ((first | (with_reducible refine PCall.aci hS ?_) | (with_reducible first | refine w_if ?_ ?_ | refine w_gt ?_ ?_ | refine w_gf ?_ ?_ | refine w_io ?_ ?_ | refine w_gdt ?_ ?_ | refine w_gdf ?_ ?_ | refine w_ite ?_ ?_) <;> intro h <;> (try rw [h]) <;> replace hr := And.intro h hr <;> replace h := nrm h <;> try (first | (exfalso; omega) | exact (bx h (by assumption)).elim | exact (bx (by assumption) h).elim) | ((with_reducible refine And.intro ?_ ?_); (focus omega))) <;> try simp -dsimp -implicitDefEqProofs (maxSteps := 1000000) (disch := first | exact dis | fail) only [sdv_eq, go_sem])
  exact ⟨some [], rfl, rfl, by simp only [foldA_eq, go_sem]⟩
def ofS (sock : Int) (s : Sd) : Bool := decide (s.sock = sock)
theorem Tx2_ok (sock : Int) (s : Sd) : ACall Try.prog f_bcm_Jobs_Tx_2 [.agg (sdv s), .ptr 0 0] [some (.cells [.int .i64 sock])] fun r A => r = .bool (ofS sock s) ∧ A = [some (.cells [.int .i64 sock])] := by
  refine acallH ok_bcm_Jobs_Tx_2 ?_
  have hr := trivial
  try simp -dsimp -implicitDefEqProofs (maxSteps := 1000000) (disch := first | exact dis | fail) only [hc_bcm_Jobs_Tx_2, sdv_eq, go_sem]
  repeat' ((first | (with_reducible first | refine w_if ?_ ?_ | refine w_gt ?_ ?_ | refine w_gf ?_ ?_ | refine w_io ?_ ?_ | refine w_gdt ?_ ?_ | refine w_gdf ?_ ?_ | refine w_ite ?_ ?_) <;> intro h <;> (try rw [h]) <;> replace hr := And.intro h hr <;> replace h := nrm h <;> try (first | (exfalso; omega) | exact (bx h (by assumption)).elim | exact (bx (by assumption) h).elim) | ((with_reducible refine And.intro ?_ ?_); (focus omega))) <;> try simp -dsimp -implicitDefEqProofs (maxSteps := 1000000) (disch := first | exact dis | fail) only [sdv_eq, go_sem])
  exact ⟨some [], rfl, rfl, by simp only [foldA_eq, go_sem]⟩
theorem Len1_ok (sock : Int) (s : Sd) : ACall Try.prog f_bcm_Jobs_Len_1 [.agg (sdv s), .ptr 0 0] [some (.cells [.int .i64 sock])] fun r A => r = .bool (ofS sock s) ∧ A = [some (.cells [.int .i64 sock])] := by
  refine acallH ok_bcm_Jobs_Len_1 ?_
  have hr := trivial
  try simp -dsimp -implicitDefEqProofs (maxSteps := 1000000) (disch := first | exact dis | fail) only [hc_bcm_Jobs_Len_1, sdv_eq, go_sem]
  repeat' ((first | (with_reducible first | refine w_if ?_ ?_ | refine w_gt ?_ ?_ | refine w_gf ?_ ?_ | refine w_io ?_ ?_ | refine w_gdt ?_ ?_ | refine w_gdf ?_ ?_ | refine w_ite ?_ ?_) <;> intro h <;> (try rw [h]) <;> replace hr := And.intro h hr <;> replace h := nrm h <;> try (first | (exfalso; omega) | exact (bx h (by assumption)).elim | exact (bx (by assumption) h).elim) | ((with_reducible refine And.intro ?_ ?_); (focus omega))) <;> try simp -dsimp -implicitDefEqProofs (maxSteps := 1000000) (disch := first | exact dis | fail) only [sdv_eq, go_sem])
  exact ⟨some [], rfl, rfl, by simp only [foldA_eq, go_sem]⟩
theorem Drop1_ok (sock : Int) (o2 : AO) (h2 : ∀ g, AO.ren g o2 = o2) (s : Sd) : ACall Try.prog f_bcm_Jobs_Drop_1 [.agg (sdv s), .ptr 0 0] [some (.cells [.int .i64 sock]), some o2] fun r A => r = .bool (ofS sock s) ∧ A = [some (.cells [.int .i64 sock]), some o2] := by
  refine acallH ok_bcm_Jobs_Drop_1 ?_
  have hr := trivial
  try simp -dsimp -implicitDefEqProofs (maxSteps := 1000000) (disch := first | exact dis | fail) only [hc_bcm_Jobs_Drop_1, sdv_eq, go_sem]
  repeat' ((first | (with_reducible first | refine w_if ?_ ?_ | refine w_gt ?_ ?_ | refine w_gf ?_ ?_ | refine w_io ?_ ?_ | refine w_gdt ?_ ?_ | refine w_gdf ?_ ?_ | refine w_ite ?_ ?_) <;> intro h <;> (try rw [h]) <;> replace hr := And.intro h hr <;> replace h := nrm h <;> try (first | (exfalso; omega) | exact (bx h (by assumption)).elim | exact (bx (by assumption) h).elim) | ((with_reducible refine And.intro ?_ ?_); (focus omega))) <;> try simp -dsimp -implicitDefEqProofs (maxSteps := 1000000) (disch := first | exact dis | fail) only [sdv_eq, go_sem])
  exact ⟨some [], rfl, rfl, by simp only [foldA_eq, go_sem, h2]⟩
/-- What is to be watched. -/
structure Wt where
  id : Int
  mask : Int
  inv : Bool
  bits : List UInt8
  thr : Int
  sil : Int
abbrev Wt.av (w : Wt) : List AV := [.int .u32 w.id, .int .u32 w.mask, .bool w.inv, .str w.bits, .int .i64 w.thr, .int .i64 w.sil]
def isW (sock id mask : Int) (inv : Bool) (s : Wa) : Bool := decide (s.sock = sock) && (decide (s.id = id) && (decide (s.mask = mask) && (s.inv == inv)))
theorem wis_ok (s : Wa) (sock id mask : Int) (inv : Bool) : PCall Try.prog f_bcm_watcher_is [.agg (wav s), .int .i64 sock, .agg [.int .u32 id, .int .u32 mask, .bool inv]] (.bool (isW sock id mask inv s)) := by
  refine pcallI ok_bcm_watcher_is ?_
  have hr := trivial
  try simp -dsimp -implicitDefEqProofs (maxSteps := 1000000) (disch := first | exact dis | fail) only [hc_bcm_watcher_is, wav_eq, isW, go_sem]
  repeat' ((first | (with_reducible first | refine w_if ?_ ?_ | refine w_gt ?_ ?_ | refine w_gf ?_ ?_ | refine w_io ?_ ?_ | refine w_gdt ?_ ?_ | refine w_gdf ?_ ?_ | refine w_ite ?_ ?_) <;> intro h <;> (try rw [h]) <;> replace hr := And.intro h hr <;> replace h := nrm h <;> try (first | (exfalso; omega) | exact (bx h (by assumption)).elim | exact (bx (by assumption) h).elim) | ((with_reducible refine And.intro ?_ ?_); (focus omega))) <;> try simp -dsimp -implicitDefEqProofs (maxSteps := 1000000) (disch := first | exact dis | fail) only [wav_eq, isW, go_sem])
theorem Rx1_ok (w : Wt) (sock : Int) (s : Wa) : ACall Try.prog f_bcm_Jobs_Rx_1 [.agg (wav s), .ptr 0 0, .ptr 1 0] [some (.cells [.int .i64 sock]), some (.cells w.av)] fun r A => r = .bool (isW sock w.id w.mask w.inv s) ∧ A = [some (.cells [.int .i64 sock]), some (.cells w.av)] := by
  refine acallH ok_bcm_Jobs_Rx_1 ?_
  have hS := wis_ok s sock w.id w.mask w.inv
  rw [wav_eq] at hS
  have hr := trivial
  try simp -dsimp -implicitDefEqProofs (maxSteps := 1000000) (disch := first | exact dis | fail) only [hc_bcm_Jobs_Rx_1, wav_eq, Wt.av, go_sem]
  repeat' ((first | (with_reducible refine PCall.aci hS ?_) | (with_reducible first | refine w_if ?_ ?_ | refine w_gt ?_ ?_ | refine w_gf ?_ ?_ | refine w_io ?_ ?_ | refine w_gdt ?_ ?_ | refine w_gdf ?_ ?_ | refine w_ite ?_ ?_) <;> intro h <;> (try rw [h]) <;> replace hr := And.intro h hr <;> replace h := nrm h <;> try (first | (exfalso; omega) | exact (bx h (by assumption)).elim | exact (bx (by assumption) h).elim) | ((with_reducible refine And.intro ?_ ?_); (focus omega))) <;> try simp -dsimp -implicitDefEqProofs (maxSteps := 1000000) (disch := first | exact dis | fail) only [wav_eq, Wt.av, go_sem])
  exact ⟨some [], rfl, rfl, by simp only [foldA_eq, go_sem]⟩
def ofW (sock : Int) (s : Wa) : Bool := decide (s.sock = sock)
theorem Rx2_ok (sock : Int) (s : Wa) : ACall Try.prog f_bcm_Jobs_Rx_2 [.agg (wav s), .ptr 0 0] [some (.cells [.int .i64 sock])] fun r A => r = .bool (ofW sock s) ∧ A = [some (.cells [.int .i64 sock])] := by
  refine acallH ok_bcm_Jobs_Rx_2 ?_
  have hr := trivial
  try simp -dsimp -implicitDefEqProofs (maxSteps := 1000000) (disch := first | exact dis | fail) only [hc_bcm_Jobs_Rx_2, wav_eq, go_sem]
  repeat' ((first | (with_reducible first | refine w_if ?_ ?_ | refine w_gt ?_ ?_ | refine w_gf ?_ ?_ | refine w_io ?_ ?_ | refine w_gdt ?_ ?_ | refine w_gdf ?_ ?_ | refine w_ite ?_ ?_) <;> intro h <;> (try rw [h]) <;> replace hr := And.intro h hr <;> replace h := nrm h <;> try (first | (exfalso; omega) | exact (bx h (by assumption)).elim | exact (bx (by assumption) h).elim) | ((with_reducible refine And.intro ?_ ?_); (focus omega))) <;> try simp -dsimp -implicitDefEqProofs (maxSteps := 1000000) (disch := first | exact dis | fail) only [wav_eq, go_sem])
  exact ⟨some [], rfl, rfl, by simp only [foldA_eq, go_sem]⟩
theorem Len2_ok (sock : Int) (s : Wa) : ACall Try.prog f_bcm_Jobs_Len_2 [.agg (wav s), .ptr 0 0] [some (.cells [.int .i64 sock])] fun r A => r = .bool (ofW sock s) ∧ A = [some (.cells [.int .i64 sock])] := by
  refine acallH ok_bcm_Jobs_Len_2 ?_
  have hr := trivial
  try simp -dsimp -implicitDefEqProofs (maxSteps := 1000000) (disch := first | exact dis | fail) only [hc_bcm_Jobs_Len_2, wav_eq, go_sem]
  repeat' ((first | (with_reducible first | refine w_if ?_ ?_ | refine w_gt ?_ ?_ | refine w_gf ?_ ?_ | refine w_io ?_ ?_ | refine w_gdt ?_ ?_ | refine w_gdf ?_ ?_ | refine w_ite ?_ ?_) <;> intro h <;> (try rw [h]) <;> replace hr := And.intro h hr <;> replace h := nrm h <;> try (first | (exfalso; omega) | exact (bx h (by assumption)).elim | exact (bx (by assumption) h).elim) | ((with_reducible refine And.intro ?_ ?_); (focus omega))) <;> try simp -dsimp -implicitDefEqProofs (maxSteps := 1000000) (disch := first | exact dis | fail) only [wav_eq, go_sem])
  exact ⟨some [], rfl, rfl, by simp only [foldA_eq, go_sem]⟩
theorem Drop2_ok (sock : Int) (o2 : AO) (h2 : ∀ g, AO.ren g o2 = o2) (s : Wa) : ACall Try.prog f_bcm_Jobs_Drop_2 [.agg (wav s), .ptr 0 0] [some (.cells [.int .i64 sock]), some o2] fun r A => r = .bool (ofW sock s) ∧ A = [some (.cells [.int .i64 sock]), some o2] := by
  refine acallH ok_bcm_Jobs_Drop_2 ?_
  have hr := trivial
  try simp -dsimp -implicitDefEqProofs (maxSteps := 1000000) (disch := first | exact dis | fail) only [hc_bcm_Jobs_Drop_2, wav_eq, go_sem]
  repeat' ((first | (with_reducible first | refine w_if ?_ ?_ | refine w_gt ?_ ?_ | refine w_gf ?_ ?_ | refine w_io ?_ ?_ | refine w_gdt ?_ ?_ | refine w_gdf ?_ ?_ | refine w_ite ?_ ?_) <;> intro h <;> (try rw [h]) <;> replace hr := And.intro h hr <;> replace h := nrm h <;> try (first | (exfalso; omega) | exact (bx h (by assumption)).elim | exact (bx (by assumption) h).elim) | ((with_reducible refine And.intro ?_ ?_); (focus omega))) <;> try simp -dsimp -implicitDefEqProofs (maxSteps := 1000000) (disch := first | exact dis | fail) only [wav_eq, go_sem])
  exact ⟨some [], rfl, rfl, by simp only [foldA_eq, go_sem, h2]⟩
/-- Jobs: of sending, of watching, and notes' rows. -/
structure Jo where
  snd : List Sd
  wat : List Wa
  notes : List (Int × (Nat × Nat))
  room : Int
def ntv (n : Int × (Nat × Nat)) : AV × AV := (.int .i64 n.1, rp n.2)
def Jo.ov (J : Jo) : List OV := [.s 3 (rows sdv J.snd), .s 5 (rows wav J.wat), .m (J.notes.map ntv), .v (.int .i64 J.room)]
def JH (J : Jo) (xs : List Go.SB.Item) : AHeap := [some (.own J.ov), some (.pool xs)]
def JO (J : Jo) (xs : List Go.SB.Item) : AHeap := [some (.cells [.sl 2 3 0 J.snd.length false, .sl 3 5 0 J.wat.length false, .mp 4, .int .i64 J.room]), some (.pool xs), some (.arr (rows sdv J.snd)), some (.arr (rows wav J.wat)), some (.map (J.notes.map ntv))]
theorem JO.opn (J : Jo) (xs : List Go.SB.Item) : Vw (JH J xs) (JO J xs) := by
  have h := vw_open (l := 0) (ovs := J.ov) (A := JH J xs) rfl
  simpa [SB.opn, JH, Jo.ov, opC, opA, JO, rows_length] using h
theorem notes_flat : ∀ (l : List (Int × (Nat × Nat))), (l.map ntv).all (fun kv => AV.flat kv.1 && AV.flat kv.2) = true
  | [] => rfl
  | _ :: l => by rw [List.map_cons, List.all_cons, notes_flat l]; rfl
theorem notes_ren (g : Nat → Option Nat) : ∀ (l : List (Int × (Nat × Nat))), AO.ren g (.map (l.map ntv)) = .map (l.map ntv) := fun l => by
  simp only [AO.ren, List.map_map]
  congr 1
/-- The jobs closed. -/
theorem jo_fin {A : AHeap} {J : Jo} {xs : List Go.SB.Item} {ss : List (List AV)} {p1 p2 p3 n1 n2 : Nat} {v : AV} (h0 : A[0]? = some (some (.cells [.sl p1 3 0 n1 false, .sl p2 5 0 n2 false, .mp p3, .int .i64 J.room]))) (h1 : A[1]? = some (some (.pool xs)))
    (g1 : A[p1]? = some (some (.arr ss))) (g2 : A[p2]? = some (some (.arr (rows wav J.wat)))) (g3 : A[p3]? = some (some (.map (J.notes.map ntv)))) (hss : rows sdv J.snd = (ss.drop 0).take n1) (hsl : n1 ≤ ss.length)
    (hk : [p2, p3].contains p1 = false ∧ [p3].contains p2 = false) (hp : (1 < p1 ∧ 1 < p2) ∧ 1 < p3) (e2 : n2 = J.wat.length) (hv : AV.flat v = true) :
    ∃ A2, Vw A A2 ∧ ∃ ks, okKeepO 2 ks = true ∧ foldVo 2 ks v = v ∧ foldAo 2 ks A2 = JH J xs := by
  refine ⟨_, vw_close (l := 0) (ovs := J.ov) h0 (.sl (p := p1) g1 (by omega) (by decide) hss flatLL_rows hk.1 (.sl (p := p2) g2 (by rw [rows_length]; omega) (by decide) (rows_allN e2) flatLL_rows hk.2 (.m (p := p3) g3 (notes_flat _) rfl (.v rfl .nil)))), some [], rfl, AV.ren_flat _ hv, ?_⟩
  obtain ⟨x0, x1, T, rfl⟩ : ∃ x0 x1 T, A = x0 :: x1 :: T := by
    rcases A with _ | ⟨x0, _ | ⟨x1, T⟩⟩
    · cases h0
    · cases h1
    · exact ⟨_, _, _, rfl⟩
  simp only [List.getElem?_cons_zero, List.getElem?_cons_succ, Option.some.injEq] at h0 h1
  subst h0 h1
  obtain ⟨p1, rfl⟩ : ∃ k, p1 = k + 2 := ⟨p1 - 2, by omega⟩
  obtain ⟨p2, rfl⟩ : ∃ k, p2 = k + 2 := ⟨p2 - 2, by omega⟩
  obtain ⟨p3, rfl⟩ : ∃ k, p3 = k + 2 := ⟨p3 - 2, by omega⟩
  simp only [clo, kills, List.set_cons_succ, List.set_cons_zero, foldA_eq, go_sem, JH]
def Jo.new (room : Int) : Jo := ⟨[], [], [], room⟩
theorem jNew_ok (room : Int) : ACall Try.prog f_bcm_New [.int .i64 room] [] fun v A => v = .ptr 0 0 ∧ A = [some (.own (Jo.new room).ov)] := by
  refine acallV ok_bcm_New (Vw.refl _) ?_
  have hr := trivial
  try simp -dsimp -implicitDefEqProofs (maxSteps := 1000000) (disch := first | exact dis | fail) only [hc_bcm_New, go_sem]
  repeat' ((first | (with_reducible first | refine w_if ?_ ?_ | refine w_gt ?_ ?_ | refine w_gf ?_ ?_ | refine w_io ?_ ?_ | refine w_gdt ?_ ?_ | refine w_gdf ?_ ?_ | refine w_ite ?_ ?_) <;> intro h <;> (try rw [h]) <;> replace hr := And.intro h hr <;> replace h := nrm h <;> try (first | (exfalso; omega) | exact (bx h (by assumption)).elim | exact (bx (by assumption) h).elim) | ((with_reducible refine And.intro ?_ ?_); (focus omega))) <;> try simp -dsimp -implicitDefEqProofs (maxSteps := 1000000) (disch := first | exact dis | fail) only [go_sem])
  exact ⟨_, vw_close (l := 1) rfl (.nils (sz := 3) (by decide) (.nils (sz := 5) (by decide) (.m (p := 0) rfl rfl rfl (.v rfl .nil)))), some [1], rfl, rfl, by simp only [clo, kills, foldA_eq, go_sem, Jo.ov, Jo.new]; rfl⟩
end Go.Proofs.Ytapoilcpollmpaa
end

/- bcm: setting up a job of sending. -/
section
namespace Go.Proofs.Ytapoilcpollmpaa
open Go.SB
attribute [local irreducible] HW HSS HAS HRQ HEO HOP HCK
set_option maxRecDepth 100000
set_option maxHeartbeats 1000000
set_option linter.unusedSimpArgs false
set_option pp.deepTerms.threshold 6
theorem rp_cells {p : Nat × Nat} : (rp p).cells = [rp p] := rfl
theorem rp_one {p : Nat × Nat} : AV.one (rp p) = true := rfl
attribute [local go_sem high] own_ren rp_ren rp_cells rp_one

theorem cells_ren {vs : List AV} (h : AV.flatL vs = true) (g : Nat → Option Nat) : AO.ren g (.cells vs) = .cells vs := by
  have h2 : AV.ren g (.agg vs) = .agg vs := AV.ren_flat g (v := .agg vs) h
  simp only [AV.ren] at h2
  injection h2 with h2
  rw [renL_eq] at h2
  show AO.cells (vs.map (AV.ren g)) = .cells vs
  rw [h2]
theorem jb_flat (j : Jb) : AV.flatL j.av = true := (inferInstance : FlatL j.av).h
theorem poolE {P : Program} {f : FuncId} {args : List AV} {i : Nat} {p : Nat × Nat} {A A0 : AHeap} {v : AV} {xs : List Go.SB.Item} (hx : xs[i]? = some (p, A)) (ha : AV.flatL args = true) (hv : AV.flat v = true) (hr : rootB A0 = true)
    (h : ACall P f (.ptr 0 0 :: args) A fun r A' => r = v ∧ A' = A0) : ACall P f (rp p :: args) [some (.pool xs)] fun r B => r = v ∧ B = [some (.pool (xs.set i (p, A0)))] :=
  (ACall.pool hx ha h (fun r A' hh => by rw [hh.1, hh.2]; exact ⟨hv, hr⟩)).mono fun _ _ ⟨_, ⟨h1, h2⟩, h3⟩ => ⟨h1, by rw [h3, h2]⟩
theorem cNewP (xs : List Go.SB.Item) (j : Jb) (hj : JOk j) (he : jobE j = 0) (start : Int) (hs : 0 ≤ start ∧ start ≤ 1099511627776) :
    ACall Try.prog f_cyc_New [.agg j.av, .int .i64 start] [some (.pool xs)] fun r B => ∃ p, r = .tup [rp p, .int .i64 0] ∧ B = [some (.pool (xs ++ [(p, CH (newC j start))]))] := by
  refine (ACall.bornT xs ?_ (New_ok j hj he start hs) fun r A' hh => ⟨⟨[.int .i64 0], hh.1, rfl⟩, by rw [hh.2]; rfl⟩).mono ?_
  · exact (inferInstance : FlatL [AV.agg j.av, .int .i64 start]).h
  · rintro r B ⟨p, A', es, ⟨h1, h2⟩, h3, h4⟩
    cases h1
    exact ⟨p, h3, by rw [h4, h2]⟩
theorem set_last {α : Type} {xs : List α} {a b : α} : (xs ++ [a]).set xs.length b = xs ++ [b] := by
  rw [List.set_append_right _ _ (Nat.le_refl _), Nat.sub_self]; rfl
theorem cBeginP (xs : List Go.SB.Item) (p : Nat × Nat) (c : Cy) (h : c.Ok) :
    ACall Try.prog f_cyc_Cyc_Begin [rp p] [some (.pool (xs ++ [(p, CH c)]))] fun r B => r = .tup [.agg (if c.begB then c.fr else ⟨0, 0, 0, []⟩).av, .bool c.begB] ∧ B = [some (.pool (xs ++ [(p, CH c.begC)]))] := by
  have h1 := poolE (xs := xs ++ [(p, CH c)]) (i := xs.length) (p := p) (by rw [List.getElem?_append_right (Nat.le_refl _), Nat.sub_self]; rfl) rfl rfl rfl (Begin_ok c h)
  rw [set_last] at h1
  exact h1
theorem newC_ok {j : Jb} (hj : JOk j) (start : Int) : (newC j start).Ok := by
  have hn := hj.n
  have hl := hj.l
  exact ⟨hj, hn, Int.le_refl _, by show (0 : Int) < j.frs.length; omega⟩
theorem newC_beg (j : Jb) (start : Int) : (newC j start).begB = j.now := rfl
def Jo.tx (J : Jo) (sock id : Int) (p : Nat × Nat) : Jo := { J with snd := (J.snd.filter fun c => !isS sock id c) ++ [⟨sock, id, p⟩] }
def shotA (sock : Int) (f : Fr) : AO := .arr [[.int .i64 sock, .int .i64 f.id, .int .i64 f.fl, .int .i64 f.len, .str f.data]]
def Jo.roomy (J : Jo) (sock id : Int) : Prop := cntG (ofS sock) (J.snd.filter fun c => !isS sock id c) (J.snd.filter fun c => !isS sock id c).length < 100
theorem ex_in {α : Type} {A : AHeap} {v : AV} {r : α → AV} {X : α → AHeap} {n : Nat} (p : α) (h : ∃ A2, Vw A A2 ∧ ∃ ks, okKeepO n ks = true ∧ foldVo n ks v = r p ∧ foldAo n ks A2 = X p) :
    ∃ A2, Vw A A2 ∧ ∃ ks, okKeepO n ks = true ∧ ∃ p, foldVo n ks v = r p ∧ foldAo n ks A2 = X p := by
  obtain ⟨A2, h1, ks, h2, h3, h4⟩ := h
  exact ⟨A2, h1, ks, h2, p, h3, h4⟩
/-- The jobs closed, and one more place kept. -/
theorem jo_fin1 {A : AHeap} {J : Jo} {xs : List Go.SB.Item} {ss : List (List AV)} {p1 p2 p3 n1 n2 k : Nat} {v r : AV} {o : AO} (h0 : A[0]? = some (some (.cells [.sl p1 3 0 n1 false, .sl p2 5 0 n2 false, .mp p3, .int .i64 J.room]))) (h1 : A[1]? = some (some (.pool xs)))
    (g1 : A[p1]? = some (some (.arr ss))) (g2 : A[p2]? = some (some (.arr (rows wav J.wat)))) (g3 : A[p3]? = some (some (.map (J.notes.map ntv)))) (gk : A[k]? = some (some o)) (hss : rows sdv J.snd = (ss.drop 0).take n1) (hsl : n1 ≤ ss.length)
    (hk : [p2, p3].contains p1 = false ∧ [p3].contains p2 = false) (hp : (1 < p1 ∧ 1 < p2) ∧ 1 < p3) (hkk : 1 < k ∧ k ≠ p1 ∧ k ≠ p2 ∧ k ≠ p3) (e2 : n2 = J.wat.length) (ho : AO.ren (fnew 2 [k]) o = o) (hv : foldVo 2 (some [k]) v = r) :
    ∃ A2, Vw A A2 ∧ ∃ ks, okKeepO 2 ks = true ∧ foldVo 2 ks v = r ∧ foldAo 2 ks A2 = JH J xs ++ [some o] := by
  refine ⟨_, vw_close (l := 0) (ovs := J.ov) h0 (.sl (p := p1) g1 (by omega) (by decide) hss flatLL_rows hk.1 (.sl (p := p2) g2 (by rw [rows_length]; omega) (by decide) (rows_allN e2) flatLL_rows hk.2 (.m (p := p3) g3 (notes_flat _) rfl (.v rfl .nil)))), some [k], ?_, hv, ?_⟩
  · simp only [okKeepO, okKeep, List.contains_nil, Bool.not_false, Bool.and_true, decide_eq_true_eq]; omega
  obtain ⟨x0, x1, T, rfl⟩ : ∃ x0 x1 T, A = x0 :: x1 :: T := by
    rcases A with _ | ⟨x0, _ | ⟨x1, T⟩⟩
    · cases h0
    · cases h1
    · exact ⟨_, _, _, rfl⟩
  simp only [List.getElem?_cons_zero, List.getElem?_cons_succ, Option.some.injEq] at h0 h1
  subst h0 h1
  obtain ⟨p1, rfl⟩ : ∃ k, p1 = k + 2 := ⟨p1 - 2, by omega⟩
  obtain ⟨p2, rfl⟩ : ∃ k, p2 = k + 2 := ⟨p2 - 2, by omega⟩
  obtain ⟨p3, rfl⟩ : ∃ k, p3 = k + 2 := ⟨p3 - 2, by omega⟩
  obtain ⟨k, rfl⟩ : ∃ n, k = n + 2 := ⟨k - 2, by omega⟩
  simp only [List.getElem?_cons_succ] at gk
  have gk2 : (((T.set p3 (some AO.dead)).set p2 (some AO.dead)).set p1 (some AO.dead))[k]? = some (some o) := by
    rw [List.getElem?_set_ne (by omega), List.getElem?_set_ne (by omega), List.getElem?_set_ne (by omega)]; exact gk
  simp only [clo, kills, List.set_cons_succ, List.set_cons_zero, foldA_eq, go_sem, JH, gk2, ho]
theorem Tx_all (J : Jo) (xs : List Go.SB.Item) (sock : Int) (hs : 0 ≤ sock ∧ sock < 100) (j : Jb) (hj : JOk j) (he : jobE j = 0) (now : Int) (hw : 0 ≤ now ∧ now ≤ 1099511627776) (hn : J.snd.length ≤ 900) (hroom : J.roomy sock j.id) :
    (j.now = false → ACall Try.prog f_bcm_Jobs_Tx [.ptr 0 0, .int .i64 sock, .agg j.av, .int .i64 now] (JH J xs) fun v A => ∃ p, v = .tup [.nils, .int .i64 0] ∧ A = JH (J.tx sock j.id p) (xs ++ [(p, CH (newC j now).begC)])) ∧
    (j.now = true → ACall Try.prog f_bcm_Jobs_Tx [.ptr 0 0, .int .i64 sock, .agg j.av, .int .i64 now] (JH J xs) fun v A => ∃ p, v = .tup [.sl 2 5 0 1 true, .int .i64 0] ∧ A = JH (J.tx sock j.id p) (xs ++ [(p, CH (newC j now).begC)]) ++ [some (shotA sock (newC j now).fr)]) := by
  have hR := right_ok sock
  have hN := cNewP xs j hj he now hw
  have hC := CloneSd_ok J.snd (by omega)
  have hD := DeleteSd2_ok f_bcm_Jobs_Tx_1 (.cells [.int .i64 sock]) (.cells j.av) (fun _ => rfl) (cells_ren (jb_flat j)) (isS sock j.id) (Tx1_ok j sock) J.snd (by omega)
  unfold Jo.roomy at hroom
  have hl : (J.snd.filter fun c => !isS sock j.id c).length ≤ 900 := Nat.le_trans (List.length_filter_le _ _) hn
  unfold Jo.tx
  generalize (J.snd.filter fun c => !isS sock j.id c) = ys at hroom hl hD ⊢
  have hK := fun n => CountSd_ok f_bcm_Jobs_Tx_2 (.cells [.int .i64 sock]) (fun _ => rfl) (ofS sock) (Tx2_ok sock) ys n (by omega)
  have hB := fun p => cBeginP xs p (newC j now) (newC_ok hj now)
  rw [newC_beg] at hB
  have tk : ∀ n, (rows sdo (padSd ys n)).take ys.length = rows sdv ys := fun n => padSd_take.symm
  generalize hf : (newC j now).fr = f at hB ⊢
  generalize CH (newC j now).begC = B at hB ⊢
  generalize CH (newC j now) = B0 at hB hN
  constructor
  · intro hnow
    refine acallV ok_bcm_Jobs_Tx (JO.opn J xs) ?_
    rw [show (JH J xs).length = 2 from rfl]
    rw [hnow] at hB
    have hr := trivial
    try simp -dsimp -implicitDefEqProofs (maxSteps := 1000000) (disch := first | exact dis | fail) only [hc_bcm_Jobs_Tx, JO, Jb.av, hs.1, hs.2, go_sem]
    repeat' ((first | (with_reducible refine PCall.aci hR ?_) | (with_reducible first | refine w_if ?_ ?_ | refine w_gt ?_ ?_ | refine w_gf ?_ ?_ | refine w_io ?_ ?_ | refine w_gdt ?_ ?_ | refine w_gdf ?_ ?_ | refine w_ite ?_ ?_) <;> intro h <;> (try rw [h]) <;> replace hr := And.intro h hr <;> replace h := nrm h <;> try (first | (exfalso; omega) | exact (bx h (by assumption)).elim | exact (bx (by assumption) h).elim) | ((with_reducible refine And.intro ?_ ?_); (focus omega))) <;> try simp -dsimp -implicitDefEqProofs (maxSteps := 1000000) (disch := first | exact dis | fail) only [JO, Jb.av, hs.1, hs.2, go_sem])
    refine hN.at' [1] (by decide) rfl (by simp only [standsL, go_sem]) (by simp only [Jb.av, go_sem]) ?_
    rintro v A ⟨p, rfl, rfl⟩
    have hr := trivial
    try simp -dsimp -implicitDefEqProofs (maxSteps := 1000000) (disch := first | exact dis | fail) only [Jb.av, go_sem]
    repeat' ((first | ((with_reducible refine ACall.atE (hC) [2] ?_ ?_ ?_ ?_ ?_); (focus decide); (focus rfl); (focus (simp -dsimp -implicitDefEqProofs (maxSteps := 1000000) (disch := first | exact dis | fail) only [standsL, Jb.av, go_sem]; done)); (focus (first | rfl | (simp -dsimp -implicitDefEqProofs (maxSteps := 1000000) (disch := first | exact dis | fail) only [Jb.av, go_sem]; done)))) | (with_reducible first | refine w_if ?_ ?_ | refine w_gt ?_ ?_ | refine w_gf ?_ ?_ | refine w_io ?_ ?_ | refine w_gdt ?_ ?_ | refine w_gdf ?_ ?_ | refine w_ite ?_ ?_) <;> intro h <;> (try rw [h]) <;> replace hr := And.intro h hr <;> replace h := nrm h <;> try (first | (exfalso; omega) | exact (bx h (by assumption)).elim | exact (bx (by assumption) h).elim) | ((with_reducible refine And.intro ?_ ?_); (focus omega))) <;> try simp -dsimp -implicitDefEqProofs (maxSteps := 1000000) (disch := first | exact dis | fail) only [Jb.av, go_sem])
    refine hD.at' [7, 5, 6] (by decide) rfl (by simp only [standsL, Jb.av, go_sem]) rfl ?_
    rintro v A ⟨rfl, n, rfl⟩
    have hle : ys.length ≤ ys.length + n := by omega
    have hr := trivial
    try simp -dsimp -implicitDefEqProofs (maxSteps := 1000000) (disch := first | exact dis | fail) only [Jb.av, padSd_len, go_sem]
    repeat' ((first | ((with_reducible refine ACall.atE ((hK n)) [7, 5] ?_ ?_ ?_ ?_ ?_); (focus decide); (focus rfl); (focus (simp -dsimp -implicitDefEqProofs (maxSteps := 1000000) (disch := first | exact dis | fail) only [standsL, Jb.av, padSd_len, go_sem]; done)); (focus (first | rfl | (simp -dsimp -implicitDefEqProofs (maxSteps := 1000000) (disch := first | exact dis | fail) only [Jb.av, padSd_len, go_sem]; done)))) | ((with_reducible refine ACall.atE ((hB p)) [1] ?_ ?_ ?_ ?_ ?_); (focus decide); (focus rfl); (focus (simp -dsimp -implicitDefEqProofs (maxSteps := 1000000) (disch := first | exact dis | fail) only [standsL, Jb.av, padSd_len, go_sem]; done)); (focus (first | rfl | (simp -dsimp -implicitDefEqProofs (maxSteps := 1000000) (disch := first | exact dis | fail) only [Jb.av, padSd_len, go_sem]; done)))) | (with_reducible first | refine w_if ?_ ?_ | refine w_gt ?_ ?_ | refine w_gf ?_ ?_ | refine w_io ?_ ?_ | refine w_gdt ?_ ?_ | refine w_gdf ?_ ?_ | refine w_ite ?_ ?_) <;> intro h <;> (try rw [h]) <;> replace hr := And.intro h hr <;> replace h := nrm h <;> try (first | (exfalso; omega) | exact (bx h (by assumption)).elim | exact (bx (by assumption) h).elim) | ((with_reducible refine And.intro ?_ ?_); (focus omega))) <;> try simp -dsimp -implicitDefEqProofs (maxSteps := 1000000) (disch := first | exact dis | fail) only [Jb.av, padSd_len, go_sem])
    refine ex_in (r := fun _ => .tup [.nils, .int .i64 0]) (X := fun p => JH { J with snd := ys ++ [⟨sock, j.id, p⟩] } (xs ++ [(p, B)])) p ?_
    exact jo_fin (J := { J with snd := ys ++ [⟨sock, j.id, p⟩] }) rfl rfl rfl rfl rfl (by rw [tk, List.drop_zero, List.take_of_length_le (by simp [rows])]; simp [rows, sdv]) (by rw [tk]; simp [rows]) (by decide) (by decide) rfl rfl
  · intro hnow
    refine acallV ok_bcm_Jobs_Tx (JO.opn J xs) ?_
    rw [show (JH J xs).length = 2 from rfl]
    rw [hnow] at hB
    have hr := trivial
    try simp -dsimp -implicitDefEqProofs (maxSteps := 1000000) (disch := first | exact dis | fail) only [hc_bcm_Jobs_Tx, JO, Jb.av, hs.1, hs.2, go_sem]
    repeat' ((first | (with_reducible refine PCall.aci hR ?_) | (with_reducible first | refine w_if ?_ ?_ | refine w_gt ?_ ?_ | refine w_gf ?_ ?_ | refine w_io ?_ ?_ | refine w_gdt ?_ ?_ | refine w_gdf ?_ ?_ | refine w_ite ?_ ?_) <;> intro h <;> (try rw [h]) <;> replace hr := And.intro h hr <;> replace h := nrm h <;> try (first | (exfalso; omega) | exact (bx h (by assumption)).elim | exact (bx (by assumption) h).elim) | ((with_reducible refine And.intro ?_ ?_); (focus omega))) <;> try simp -dsimp -implicitDefEqProofs (maxSteps := 1000000) (disch := first | exact dis | fail) only [JO, Jb.av, hs.1, hs.2, go_sem])
    refine hN.at' [1] (by decide) rfl (by simp only [standsL, go_sem]) (by simp only [Jb.av, go_sem]) ?_
    rintro v A ⟨p, rfl, rfl⟩
    have hr := trivial
    try simp -dsimp -implicitDefEqProofs (maxSteps := 1000000) (disch := first | exact dis | fail) only [Jb.av, go_sem]
    repeat' ((first | ((with_reducible refine ACall.atE (hC) [2] ?_ ?_ ?_ ?_ ?_); (focus decide); (focus rfl); (focus (simp -dsimp -implicitDefEqProofs (maxSteps := 1000000) (disch := first | exact dis | fail) only [standsL, Jb.av, go_sem]; done)); (focus (first | rfl | (simp -dsimp -implicitDefEqProofs (maxSteps := 1000000) (disch := first | exact dis | fail) only [Jb.av, go_sem]; done)))) | (with_reducible first | refine w_if ?_ ?_ | refine w_gt ?_ ?_ | refine w_gf ?_ ?_ | refine w_io ?_ ?_ | refine w_gdt ?_ ?_ | refine w_gdf ?_ ?_ | refine w_ite ?_ ?_) <;> intro h <;> (try rw [h]) <;> replace hr := And.intro h hr <;> replace h := nrm h <;> try (first | (exfalso; omega) | exact (bx h (by assumption)).elim | exact (bx (by assumption) h).elim) | ((with_reducible refine And.intro ?_ ?_); (focus omega))) <;> try simp -dsimp -implicitDefEqProofs (maxSteps := 1000000) (disch := first | exact dis | fail) only [Jb.av, go_sem])
    refine hD.at' [7, 5, 6] (by decide) rfl (by simp only [standsL, Jb.av, go_sem]) rfl ?_
    rintro v A ⟨rfl, n, rfl⟩
    have hle : ys.length ≤ ys.length + n := by omega
    have hr := trivial
    try simp -dsimp -implicitDefEqProofs (maxSteps := 1000000) (disch := first | exact dis | fail) only [Jb.av, Fr.av, padSd_len, go_sem]
    repeat' ((first | ((with_reducible refine ACall.atE ((hK n)) [7, 5] ?_ ?_ ?_ ?_ ?_); (focus decide); (focus rfl); (focus (simp -dsimp -implicitDefEqProofs (maxSteps := 1000000) (disch := first | exact dis | fail) only [standsL, Jb.av, Fr.av, padSd_len, go_sem]; done)); (focus (first | rfl | (simp -dsimp -implicitDefEqProofs (maxSteps := 1000000) (disch := first | exact dis | fail) only [Jb.av, Fr.av, padSd_len, go_sem]; done)))) | ((with_reducible refine ACall.atE ((hB p)) [1] ?_ ?_ ?_ ?_ ?_); (focus decide); (focus rfl); (focus (simp -dsimp -implicitDefEqProofs (maxSteps := 1000000) (disch := first | exact dis | fail) only [standsL, Jb.av, Fr.av, padSd_len, go_sem]; done)); (focus (first | rfl | (simp -dsimp -implicitDefEqProofs (maxSteps := 1000000) (disch := first | exact dis | fail) only [Jb.av, Fr.av, padSd_len, go_sem]; done)))) | (with_reducible first | refine w_if ?_ ?_ | refine w_gt ?_ ?_ | refine w_gf ?_ ?_ | refine w_io ?_ ?_ | refine w_gdt ?_ ?_ | refine w_gdf ?_ ?_ | refine w_ite ?_ ?_) <;> intro h <;> (try rw [h]) <;> replace hr := And.intro h hr <;> replace h := nrm h <;> try (first | (exfalso; omega) | exact (bx h (by assumption)).elim | exact (bx (by assumption) h).elim) | ((with_reducible refine And.intro ?_ ?_); (focus omega))) <;> try simp -dsimp -implicitDefEqProofs (maxSteps := 1000000) (disch := first | exact dis | fail) only [Jb.av, Fr.av, padSd_len, go_sem])
    refine ex_in (r := fun _ => .tup [.sl 2 5 0 1 true, .int .i64 0]) (X := fun p => JH { J with snd := ys ++ [⟨sock, j.id, p⟩] } (xs ++ [(p, B)]) ++ [some (shotA sock f)]) p ?_
    exact jo_fin1 (J := { J with snd := ys ++ [⟨sock, j.id, p⟩] }) (k := 11) rfl rfl rfl rfl rfl rfl (by rw [tk, List.drop_zero, List.take_of_length_le (by simp [rows])]; simp [rows, sdv]) (by rw [tk]; simp [rows]) (by decide) (by decide) (by decide) rfl rfl rfl
end Go.Proofs.Ytapoilcpollmpaa
end

/- ring: rows of notes. -/
section
namespace Go.Proofs.Ytapoilcpollmpaa
open Go.SB
attribute [local irreducible] HW HSS HAS HRQ HEO HOP HCK
set_option maxRecDepth 100000
set_option maxHeartbeats 1000000
set_option linter.unusedSimpArgs false
set_option pp.deepTerms.threshold 6
attribute [local go_sem high] own_ren rp_ren

/-- A note. -/
structure Nt where
  kind : Int
  job : Int
  fr : Fr
  tick : Int
abbrev Nt.av (n : Nt) : List AV := [.int .i64 n.kind, .int .i64 n.job, .int .i64 n.fr.id, .int .i64 n.fr.fl, .int .i64 n.fr.len, .str n.fr.data, .int .i64 n.tick]
def ntr (n : Nt) : List AV := n.av
theorem ntr_eq (n : Nt) : ntr n = n.av := rfl
instance : Flt ntr := ⟨fun _ => rfl⟩
instance : RowF ntr 7 := ⟨fun _ => ⟨rfl, rfl⟩⟩
def Nt.zero : Nt := ⟨0, 0, ⟨0, 0, 0, []⟩, 0⟩
/-- A row of bounded room. -/
structure Rg where
  cells : List Nt
  frm : Int
  many : Int
  lost : Int
def Rg.ov (r : Rg) : List OV := [.s 7 (rows ntr r.cells), .v (.int .i64 r.frm), .v (.int .i64 r.many), .v (.int .i64 r.lost)]
def Rg.A (r : Rg) : AHeap := [some (.own r.ov)]
def Rg.O (r : Rg) : AHeap := [some (.cells [.sl 1 7 0 r.cells.length false, .int .i64 r.frm, .int .i64 r.many, .int .i64 r.lost]), some (.arr (rows ntr r.cells))]
structure RgOk (r : Rg) : Prop where
  c : 0 < r.cells.length ∧ r.cells.length ≤ 1000
  f : 0 ≤ r.frm ∧ r.frm < r.cells.length
  m : 0 ≤ r.many ∧ r.many ≤ r.cells.length
  l : 0 ≤ r.lost ∧ r.lost ≤ 1099511627776
theorem Rg.opn (r : Rg) : Vw r.A r.O := by
  have h := vw_open (l := 0) (ovs := r.ov) (A := r.A) rfl
  simpa [SB.opn, Rg.A, Rg.ov, opC, opA, Rg.O, rows_length] using h
theorem at_ok (r : Rg) (h : RgOk r) (i : Int) (hi : 0 ≤ i ∧ i ≤ 1000) : ACall Try.prog f_ring_Ring_of_Note_at [.ptr 0 0, .int .i64 i] r.O fun v A => v = .int .i64 ((r.frm + i).tmod r.cells.length) ∧ A = r.O := by
  refine acallH ok_ring_Ring_of_Note_at ?_
  have hc := h.c
  have hf := h.f
  have hr := trivial
  try simp -dsimp -implicitDefEqProofs (maxSteps := 1000000) (disch := first | exact dis | fail) only [hc_ring_Ring_of_Note_at, Rg.O, go_sem]
  repeat' ((first | (with_reducible first | refine w_if ?_ ?_ | refine w_gt ?_ ?_ | refine w_gf ?_ ?_ | refine w_io ?_ ?_ | refine w_gdt ?_ ?_ | refine w_gdf ?_ ?_ | refine w_ite ?_ ?_) <;> intro h <;> (try rw [h]) <;> replace hr := And.intro h hr <;> replace h := nrm h <;> try (first | (exfalso; omega) | exact (bx h (by assumption)).elim | exact (bx (by assumption) h).elim) | ((with_reducible refine And.intro ?_ ?_); (focus omega))) <;> try simp -dsimp -implicitDefEqProofs (maxSteps := 1000000) (disch := first | exact dis | fail) only [Rg.O, go_sem])
  exact ⟨none, rfl, rfl, rfl⟩
theorem rows_setF {xs : List Nt} {n : Nat} {x : Nt} : (rows ntr xs).set n x.av = rows ntr (xs.set n x) := rows_set
/-- The row closed. -/
theorem rg_fin {A : AHeap} {cs : List Nt} {a b c : Int} {n : Nat} {v r : AV} {R : Rg} (h0 : A[0]? = some (some (.cells [.sl 1 7 0 n false, .int .i64 a, .int .i64 b, .int .i64 c]))) (h1 : A[1]? = some (some (.arr (rows ntr cs)))) (hn : n = cs.length)
    (hR : R = ⟨cs, a, b, c⟩) (hv : AV.flat v = true) (hr : v = r) : ∃ A2, Vw A A2 ∧ ∃ ks, okKeepO 1 ks = true ∧ foldVo 1 ks v = r ∧ foldAo 1 ks A2 = R.A := by
  refine ⟨_, vw_close (l := 0) h0 (.sl (p := 1) h1 (by rw [rows_length]; omega) (by decide) (rows_allN hn) flatLL_rows rfl (.v rfl (.v rfl (.v rfl .nil)))), some [], rfl, ?_, ?_⟩
  · rw [← hr]; exact AV.ren_flat _ hv
  · subst hR
    rcases A with _ | ⟨x, _ | ⟨y, A⟩⟩
    · cases h0
    · cases h1
    · simp only [clo, kills, foldA_eq, go_sem, Rg.A, Rg.ov]
def Rg.put (r : Rg) (f : Nt) : Rg := if r.many = r.cells.length then { r with lost := r.lost + 1 } else { r with cells := r.cells.set ((r.frm + r.many).tmod r.cells.length).toNat f, many := r.many + 1 }
theorem tm_lt {a : Int} {n : Nat} (h : 0 < n) (ha : 0 ≤ a) : ∃ p : Nat, p < n ∧ a.tmod n = p := by
  have h1 := Int.emod_nonneg a (show (n : Int) ≠ 0 by omega)
  have h2 := Int.emod_lt_of_pos a (show 0 < (n : Int) by omega)
  rw [Int.tmod_eq_emod_of_nonneg ha]
  exact ⟨(a % n).toNat, by omega, by omega⟩
theorem rPut_ok (r : Rg) (h : RgOk r) (f : Nt) : ACall Try.prog f_ring_Ring_of_Note_Put [.ptr 0 0, .agg f.av] r.A fun v A => v = .bool (decide (r.many ≠ r.cells.length)) ∧ A = (r.put f).A := by
  refine acallV ok_ring_Ring_of_Note_Put r.opn ?_
  have hc := h.c
  have hf := h.f
  have hm := h.m
  have hl := h.l
  by_cases hfull : r.many = r.cells.length
  · have hr := trivial
    try simp -dsimp -implicitDefEqProofs (maxSteps := 1000000) (disch := first | exact dis | fail) only [hc_ring_Ring_of_Note_Put, Rg.O, Nt.av, hfull, go_sem]
    repeat' ((first | (with_reducible first | refine w_if ?_ ?_ | refine w_gt ?_ ?_ | refine w_gf ?_ ?_ | refine w_io ?_ ?_ | refine w_gdt ?_ ?_ | refine w_gdf ?_ ?_ | refine w_ite ?_ ?_) <;> intro h <;> (try rw [h]) <;> replace hr := And.intro h hr <;> replace h := nrm h <;> try (first | (exfalso; omega) | exact (bx h (by assumption)).elim | exact (bx (by assumption) h).elim) | ((with_reducible refine And.intro ?_ ?_); (focus omega))) <;> try simp -dsimp -implicitDefEqProofs (maxSteps := 1000000) (disch := first | exact dis | fail) only [Rg.O, Nt.av, hfull, go_sem])
    exact rg_fin rfl rfl rfl (by simp only [Rg.put, if_pos hfull]; simp [hfull]) rfl (by simp [hfull])
  · have hat := at_ok r h r.many (by omega)
    obtain ⟨p, hp, hpe⟩ := tm_lt hc.1 (show 0 ≤ r.frm + r.many by omega)
    rw [hpe] at hat
    have hx : r.cells[p]? = some r.cells[p] := List.getElem?_eq_getElem hp
    generalize r.cells[p] = g at hx
    have hr := trivial
    try simp -dsimp -implicitDefEqProofs (maxSteps := 1000000) (disch := first | exact dis | fail) only [hc_ring_Ring_of_Note_Put, Rg.O, Nt.av, hfull, Int.toNat_natCast, rows_get, hx, ntr_eq, rows_setF, go_sem]
    repeat' ((first | ((with_reducible refine ACall.atE (hat) [0, 1] ?_ ?_ ?_ ?_ ?_); (focus decide); (focus rfl); (focus (simp -dsimp -implicitDefEqProofs (maxSteps := 1000000) (disch := first | exact dis | fail) only [standsL, Rg.O, Nt.av, hfull, Int.toNat_natCast, rows_get, hx, ntr_eq, rows_setF, go_sem]; done)); (focus (first | rfl | (simp -dsimp -implicitDefEqProofs (maxSteps := 1000000) (disch := first | exact dis | fail) only [Rg.O, Nt.av, hfull, Int.toNat_natCast, rows_get, hx, ntr_eq, rows_setF, go_sem]; done)))) | (with_reducible first | refine w_if ?_ ?_ | refine w_gt ?_ ?_ | refine w_gf ?_ ?_ | refine w_io ?_ ?_ | refine w_gdt ?_ ?_ | refine w_gdf ?_ ?_ | refine w_ite ?_ ?_) <;> intro h <;> (try rw [h]) <;> replace hr := And.intro h hr <;> replace h := nrm h <;> try (first | (exfalso; omega) | exact (bx h (by assumption)).elim | exact (bx (by assumption) h).elim) | ((with_reducible refine And.intro ?_ ?_); (focus omega))) <;> try simp -dsimp -implicitDefEqProofs (maxSteps := 1000000) (disch := first | exact dis | fail) only [Rg.O, Nt.av, hfull, Int.toNat_natCast, rows_get, hx, ntr_eq, rows_setF, go_sem])
    refine rg_fin (cs := r.cells.set p f) rfl rfl ?_ ?_ ?_ ?_
    · simp
    · simp only [Rg.put, if_neg hfull, hpe]; rfl
    · rfl
    · simp [hfull]
def roomI (n : Int) : Int := min (max n 1) 1000
theorem roomI_b (n : Int) : 1 ≤ roomI n ∧ roomI n ≤ 1000 := by unfold roomI; omega
def Rg.new (n : Int) : Rg := ⟨List.replicate (roomI n).toNat Nt.zero, 0, 0, 0⟩
theorem rows_rep {α : Type} {f : α → List AV} {n : Nat} {x : α} : List.replicate n (f x) = rows f (List.replicate n x) := by simp [rows]
theorem rep_zero {n : Nat} : List.replicate n [AV.int .i64 0, .int .i64 0, .int .i64 0, .int .i64 0, .int .i64 0, .str [], .int .i64 0] = rows ntr (List.replicate n Nt.zero) := rows_rep (f := ntr) (x := Nt.zero)
theorem rNew_ok (n : Int) : ACall Try.prog f_ring_New_of_Note [.int .i64 n] [] fun v A => v = .ptr 0 0 ∧ A = (Rg.new n).A := by
  refine acallV ok_ring_New_of_Note (Vw.refl _) ?_
  have hb := roomI_b n
  have hm : min (max n 1) 1000 = roomI n := rfl
  obtain ⟨k, hk⟩ : ∃ k : Nat, roomI n = k := ⟨(roomI n).toNat, by omega⟩
  have hr := trivial
  try simp -dsimp -implicitDefEqProofs (maxSteps := 1000000) (disch := first | exact dis | fail) only [hc_ring_New_of_Note, hm, hk, Int.toNat_natCast, rep_zero, go_sem]
  repeat' ((first | (with_reducible first | refine w_if ?_ ?_ | refine w_gt ?_ ?_ | refine w_gf ?_ ?_ | refine w_io ?_ ?_ | refine w_gdt ?_ ?_ | refine w_gdf ?_ ?_ | refine w_ite ?_ ?_) <;> intro h <;> (try rw [h]) <;> replace hr := And.intro h hr <;> replace h := nrm h <;> try (first | (exfalso; omega) | exact (bx h (by assumption)).elim | exact (bx (by assumption) h).elim) | ((with_reducible refine And.intro ?_ ?_); (focus omega))) <;> try simp -dsimp -implicitDefEqProofs (maxSteps := 1000000) (disch := first | exact dis | fail) only [hm, hk, Int.toNat_natCast, rep_zero, go_sem])
  refine ⟨_, vw_close (l := 1) rfl (.sl (p := 0) rfl (by simp [rows_length]) (by decide) (rows_allN (by simp)) flatLL_rows rfl (.v rfl (.v rfl (.v rfl .nil)))), some [1], rfl, rfl, ?_⟩
  simp only [clo, kills, foldA_eq, go_sem, Rg.A, Rg.ov, Rg.new, hk, Int.toNat_natCast]
end Go.Proofs.Ytapoilcpollmpaa
end
