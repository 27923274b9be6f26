/- QhR, QhS, put together. Conditions: none. -/
import Derived.Test.YtapoilcpollmpaaNQhQ
import Derived.Test.YtapoilcpollmpaaNHcM
/- BcmFull: setting up jobs whose frames are lent. -/
section
namespace Go.Proofs.Ytapoilcpollmpaa
open Go.SB
attribute [local irreducible] HW HSS HAS HRQ HEO HOP HCK
set_option maxRecDepth 100000
set_option maxHeartbeats 1000000
set_option linter.unusedSimpArgs false
set_option pp.deepTerms.threshold 6
attribute [local go_sem high] own_ren rp_ren rp_cells rp_one

/-- A job whose frames stand in a row. -/
def jS (j : Jb) (l : Nat) (t : Bool) : List AV := [.int .i64 j.id, .int .i64 j.count, .int .i64 j.first, .int .i64 j.second, .sl l 4 0 j.frs.length t, .bool j.now, .bool j.tell]
theorem jh_op (J : Jo) (xs : List Go.SB.Item) : ∀ (l : Nat) (o : AO), (JH J xs)[l]? = some (some o) → ∃ R, o = .opq R
  | 0, _, h => by cases h; exact ⟨_, rfl⟩
  | 1, _, h => by cases h; exact ⟨_, rfl⟩
  | _ + 2, _, h => by cases h
def XShr (xs : List Go.SB.Item) : Prop := ∀ it, it ∈ xs → ShrH it.2
theorem jo_shr (J : Jo) : (Assn.own J.ov).Shr := own_shr fun o ho => by
  simp only [Jo.ov, List.mem_cons, List.not_mem_nil, or_false] at ho
  rcases ho with rfl | rfl | rfl | rfl
  · intro e he
    obtain ⟨s, _, rfl⟩ := List.mem_map.1 he
    rfl
  · intro e he
    obtain ⟨s, _, rfl⟩ := List.mem_map.1 he
    rfl
  · intro kv he
    obtain ⟨s, _, rfl⟩ := List.mem_map.1 he
    exact ⟨rfl, rfl⟩
  · rfl
theorem jh_shr (J : Jo) {xs : List Go.SB.Item} (hx : XShr xs) : ∀ (l : Nat) (o : AO), (JH J xs)[l]? = some (some o) → ∃ R, o = .opq R ∧ R.Shr
  | 0, _, h => by cases h; exact ⟨_, rfl, jo_shr J⟩
  | 1, _, h => by cases h; exact ⟨_, rfl, pool_shr hx⟩
  | _ + 2, _, h => by cases h
theorem ch_shr (c : Cy) : ShrH (CH c)
  | 0, _, h => by cases h; rfl
  | 1, _, h => by
    cases h
    intro e he
    obtain ⟨s, _, rfl⟩ := List.mem_map.1 he
    rfl
  | 2, _, h => by cases h; rfl
  | 3, _, h => by cases h; rfl
  | _ + 4, _, h => by cases h
theorem wh_shr (w : Wt) (now : Int) : ShrH (WH w now)
  | 0, _, h => by cases h; rfl
  | _ + 1, _, h => by cases h
theorem XShr.add {xs : List Go.SB.Item} (h : XShr xs) {p : Nat × Nat} {A : AHeap} (hA : ShrH A) : XShr (xs ++ [(p, A)]) := fun it hi => by
  rcases List.mem_append.1 hi with hi | hi
  · exact h it hi
  · rw [List.mem_singleton.1 hi]; exact hA
/-- Too many jobs of sending. -/
theorem TxMany (J : Jo) (xs : List Go.SB.Item) (sock : Int) (hs : 0 ≤ sock ∧ sock < 100) (j : Jb) (hj : JOk j) (he : jobE j = 0) (now : Int) (hw : 0 ≤ now ∧ now ≤ 1099511627776) (hn : J.snd.length ≤ 900)
    (hroom : 100 ≤ cntG (ofS sock) (J.snd.filter fun c => !isS sock j.id c) (J.snd.filter fun c => !isS sock j.id c).length) :
    ACall Try.prog f_bcm_Jobs_Tx [.ptr 0 0, .int .i64 sock, .agg j.av, .int .i64 now] (JH J xs) fun v A => ∃ p, v = .tup [.nils, .int .i64 9] ∧ A = JH J (xs ++ [(p, CH (newC j now))]) := by
  have hR := right_ok sock
  have hN := cNewP xs j hj he now hw
  have hC := CloneSd_ok J.snd (by omega)
  have hD := DeleteSd2_ok f_bcm_Jobs_Tx_1 (.cells [.int .i64 sock]) (.cells j.av) (fun _ => rfl) (cells_ren (jb_flat j)) (isS sock j.id) (Tx1_ok j sock) J.snd (by omega)
  have hl : (J.snd.filter fun c => !isS sock j.id c).length ≤ 900 := Nat.le_trans (List.length_filter_le _ _) hn
  generalize (J.snd.filter fun c => !isS sock j.id c) = ys at hroom hl hD
  have hK := fun n => CountSd_ok f_bcm_Jobs_Tx_2 (.cells [.int .i64 sock]) (fun _ => rfl) (ofS sock) (Tx2_ok sock) ys n (by omega)
  generalize CH (newC j now) = B at hN ⊢
  refine acallV ok_bcm_Jobs_Tx (JO.opn J xs) ?_
  rw [show (JH J xs).length = 2 from rfl]
  have hr := trivial
  try simp -dsimp -implicitDefEqProofs (maxSteps := 1000000) (disch := first | exact dis | fail) only [hc_bcm_Jobs_Tx, JO, Jb.av, hs.1, hs.2, go_sem]
  repeat' ((first | (with_reducible refine PCall.aci hR ?_) | (with_reducible first | refine w_if ?_ ?_ | refine w_gt ?_ ?_ | refine w_gf ?_ ?_ | refine w_io ?_ ?_ | refine w_gdt ?_ ?_ | refine w_gdf ?_ ?_ | refine w_ite ?_ ?_) <;> intro h <;> (try rw [h]) <;> replace hr := And.intro h hr <;> replace h := nrm h <;> try (first | (exfalso; omega) | exact (bx h (by assumption)).elim | exact (bx (by assumption) h).elim) | ((with_reducible refine And.intro ?_ ?_); (focus omega))) <;> try simp -dsimp -implicitDefEqProofs (maxSteps := 1000000) (disch := first | exact dis | fail) only [JO, Jb.av, hs.1, hs.2, go_sem])
  refine hN.at' [1] (by decide) rfl (by simp only [standsL, go_sem]) (by simp only [Jb.av, go_sem]) ?_
  rintro v A ⟨p, rfl, rfl⟩
  have hr := trivial
  try simp -dsimp -implicitDefEqProofs (maxSteps := 1000000) (disch := first | exact dis | fail) only [Jb.av, go_sem]
  repeat' ((first | ((with_reducible refine ACall.atE (hC) [2] ?_ ?_ ?_ ?_ ?_); (focus decide); (focus rfl); (focus (simp -dsimp -implicitDefEqProofs (maxSteps := 1000000) (disch := first | exact dis | fail) only [standsL, Jb.av, go_sem]; done)); (focus (first | rfl | (simp -dsimp -implicitDefEqProofs (maxSteps := 1000000) (disch := first | exact dis | fail) only [Jb.av, go_sem]; done)))) | (with_reducible first | refine w_if ?_ ?_ | refine w_gt ?_ ?_ | refine w_gf ?_ ?_ | refine w_io ?_ ?_ | refine w_gdt ?_ ?_ | refine w_gdf ?_ ?_ | refine w_ite ?_ ?_) <;> intro h <;> (try rw [h]) <;> replace hr := And.intro h hr <;> replace h := nrm h <;> try (first | (exfalso; omega) | exact (bx h (by assumption)).elim | exact (bx (by assumption) h).elim) | ((with_reducible refine And.intro ?_ ?_); (focus omega))) <;> try simp -dsimp -implicitDefEqProofs (maxSteps := 1000000) (disch := first | exact dis | fail) only [Jb.av, go_sem])
  refine hD.at' [7, 5, 6] (by decide) rfl (by simp only [standsL, Jb.av, go_sem]) rfl ?_
  rintro v A ⟨rfl, n, rfl⟩
  have hle : ys.length ≤ ys.length + n := by omega
  have hr := trivial
  try simp -dsimp -implicitDefEqProofs (maxSteps := 1000000) (disch := first | exact dis | fail) only [Jb.av, padSd_len, go_sem]
  repeat' ((first | ((with_reducible refine ACall.atE ((hK n)) [7, 5] ?_ ?_ ?_ ?_ ?_); (focus decide); (focus rfl); (focus (simp -dsimp -implicitDefEqProofs (maxSteps := 1000000) (disch := first | exact dis | fail) only [standsL, Jb.av, padSd_len, go_sem]; done)); (focus (first | rfl | (simp -dsimp -implicitDefEqProofs (maxSteps := 1000000) (disch := first | exact dis | fail) only [Jb.av, padSd_len, go_sem]; done)))) | (with_reducible first | refine w_if ?_ ?_ | refine w_gt ?_ ?_ | refine w_gf ?_ ?_ | refine w_io ?_ ?_ | refine w_gdt ?_ ?_ | refine w_gdf ?_ ?_ | refine w_ite ?_ ?_) <;> intro h <;> (try rw [h]) <;> replace hr := And.intro h hr <;> replace h := nrm h <;> try (first | (exfalso; omega) | exact (bx h (by assumption)).elim | exact (bx (by assumption) h).elim) | ((with_reducible refine And.intro ?_ ?_); (focus omega))) <;> try simp -dsimp -implicitDefEqProofs (maxSteps := 1000000) (disch := first | exact dis | fail) only [Jb.av, padSd_len, go_sem])
  refine ex_in (r := fun _ => .tup [.nils, .int .i64 9]) (X := fun p => JH J (xs ++ [(p, B)])) p ?_
  exact jo_fin (J := J) rfl rfl rfl rfl rfl rows_all (by rw [rows_length]; exact Nat.le_refl _) (by decide) (by decide) rfl rfl
theorem jS_args {M M0 : Go.SB.Mod} {us : List Value} {c : Array Value} {uss : Nat → List Value} {sock now : Int} {j : Jb} {t : Bool} (hne : j.frs ≠ []) (hL : ConcL M [.ptr 0 0, .int .i64 sock, .agg (jS j 2 t), .int .i64 now] us)
    (hI : M0.I (M.blk 2) = some c) (hl : ∀ l, l < 2 → (M.D l → M0.D l) ∧ M0.blk l = M.blk l ∧ M0.base l = M.base l) (hrow : ∀ i ev, (rows frv j.frs)[i]? = some ev → ConcL M0 ev (uss i) ∧ ev.length = M.sz 2)
    (hc : ∀ i k u, i < (rows frv j.frs).length → (uss i)[k]? = some u → c[M.base 2 + i * M.sz 2 + k]? = some u) : ConcL M0 [.ptr 0 0, .int .i64 sock, .agg j.av, .int .i64 now] us := by
  obtain ⟨q1, q2, q3⟩ := hl 0 (by decide)
  cases hL with | cons h0 hL =>
  cases hL with | cons h1 hL =>
  cases hL with | cons h2 hL =>
  cases hL with | cons h3 hL =>
  cases hL
  cases h1
  cases h3
  cases h0 with | ptr hD =>
  rw [← q2, ← q3]
  refine .cons (.ptr (q1 hD)) (.cons (.int _ _) (.cons ?_ (.cons (.int _ _) .nil)))
  cases h2 with | @agg _ vs h2 =>
  refine .agg ?_
  generalize vs.toList = l at h2
  unfold jS at h2
  cases h2 with | cons a0 h2 =>
  cases h2 with | cons a1 h2 =>
  cases h2 with | cons a2 h2 =>
  cases h2 with | cons a3 h2 =>
  cases h2 with | cons a4 h2 =>
  cases h2 with | cons a5 h2 =>
  cases h2 with | cons a6 h2 =>
  cases h2
  cases a0; cases a1; cases a2; cases a3; cases a5; cases a6
  refine .cons (.int _ _) (.cons (.int _ _) (.cons (.int _ _) (.cons (.int _ _) (.cons ?_ (.cons (.bool _) (.cons (.bool _) .nil))))))
  have hlen : (rows frv j.frs).length = j.frs.length := rows_length
  generalize hn : j.frs.length = n at a4 hlen
  cases a4 with
  | @sl _ _ _ _ cap _ hD hs hcc ht hr =>
    rw [← hlen]
    exact .ps hI (by omega) (fun i k u hi hk => by
      have := hc i k u hi hk
      rw [hs] at this
      rw [Nat.zero_mul, Nat.add_zero]; exact this) fun i e he => (hrow i e he).1
  | sl0 hD hs => exact absurd (List.length_eq_zero_iff.1 hn) hne
theorem TxL {K0 : AV → Jo → List Go.SB.Item → Prop} (J : Jo) (xs : List Go.SB.Item) (sock : Int) (j : Jb) (t : Bool) (hne : j.frs ≠ []) (now : Int)
    (h : ACall Try.prog f_bcm_Jobs_Tx [.ptr 0 0, .int .i64 sock, .agg j.av, .int .i64 now] (JH J xs) fun v A => ∃ J' xs', K0 v J' xs' ∧ A = JH J' xs') (hK : ∀ v J' xs', K0 v J' xs' → AV.flat v = true ∧ noI v = true ∧ XShr xs') :
    ACall Try.prog f_bcm_Jobs_Tx [.ptr 0 0, .int .i64 sock, .agg (jS j 2 t), .int .i64 now] (JH J xs ++ [some (.arr (rows frv j.frs))]) fun v A => ∃ J' xs', K0 v J' xs' ∧ A = JH J' xs' ++ [some (.arr (rows frv j.frs))] := by
  refine (ACall.lend h (by simpa [rows] using hne) flatLL_rows (jh_op J xs) (fun M M0 us c e fr uss hL hD hI hl hrow hc => jS_args hne hL hI hl hrow hc) ?_).mono ?_
  · rintro r A' ⟨J', xs', hk, rfl⟩
    obtain ⟨q1, q2, q3⟩ := hK r J' xs' hk
    exact ⟨q1, q2, rfl, jh_shr J' q3⟩
  · rintro r B ⟨A', ⟨J', xs', hk, rfl⟩, rfl⟩
    exact ⟨J', xs', hk, rfl⟩
end Go.Proofs.Ytapoilcpollmpaa
end

/- BcmFull: the law's call. -/
section
namespace Go.Proofs.Ytapoilcpollmpaa
open Go.SB
attribute [local irreducible] HW HSS HAS HRQ HEO HOP HCK
set_option maxRecDepth 100000
set_option maxHeartbeats 1000000
set_option linter.unusedSimpArgs false
set_option pp.deepTerms.threshold 6
attribute [local go_sem high] own_ren rp_ren rp_cells rp_one

def jB (i : Int) : Jb := ⟨i, 0, 0, 0, [⟨1, 0, 0, []⟩], false, false⟩
def wB (i : Int) : Wt := ⟨i, 0, false, [], 0, 0⟩
theorem jB_bad : badB [⟨1, 0, 0, []⟩] = false := by decide +kernel
theorem jB_ok (i : Int) : JOk (jB i) := ⟨by simp [jB], by simp [jB], by simp [jB], by simp [jB]⟩
theorem jB_e (i : Int) : jobE (jB i) = 0 := by simp [jobE, jB, cntB, jB_bad]
theorem wB_ok (i : Int) : WtOk (wB i) := ⟨rfl, rfl, by simp [wB]⟩
def mkS (sock : Int) (ps : Nat → Nat × Nat) (k : Nat) : Sd := ⟨sock, k, ps k⟩
def mkW (sock : Int) (ps : Nat → Nat × Nat) (k : Nat) : Wa := ⟨sock, k, 0, false, ps k⟩
/-- So many jobs of a socket. -/
structure FI (sock : Int) (a b : Nat) (J : Jo) (xs : List Go.SB.Item) : Prop where
  snd : ∃ ps, J.snd = (List.range a).map (mkS sock ps)
  wat : ∃ ps, J.wat = (List.range b).map (mkW sock ps)
  notes : J.notes = []
  shr : XShr xs
theorem cnt_all {α : Type} {g : α → Bool} {l : List α} (h : ∀ x, x ∈ l → g x = true) : cntG g l l.length = l.length := by
  unfold cntG
  rw [List.take_length, List.filter_eq_self.2 h]
theorem snd_ne {sock id : Int} {a : Nat} {ps : Nat → Nat × Nat} (h : ∀ k : Nat, k < a → (k : Int) ≠ id) : (((List.range a).map (mkS sock ps)).filter fun c => !isS sock id c) = (List.range a).map (mkS sock ps) :=
  List.filter_eq_self.2 fun s hs => by
    obtain ⟨k, hk, rfl⟩ := List.mem_map.1 hs
    simp [isS, mkS, h k (List.mem_range.1 hk)]
theorem wat_ne {sock id : Int} {a : Nat} {ps : Nat → Nat × Nat} (h : ∀ k : Nat, k < a → (k : Int) ≠ id) : (((List.range a).map (mkW sock ps)).filter fun c => !isW sock id 0 false c) = (List.range a).map (mkW sock ps) :=
  List.filter_eq_self.2 fun s hs => by
    obtain ⟨k, hk, rfl⟩ := List.mem_map.1 hs
    simp [isW, mkW, h k (List.mem_range.1 hk)]
theorem snd_last {sock : Int} {a : Nat} {ps : Nat → Nat × Nat} : (((List.range (a + 1)).map (mkS sock ps)).filter fun c => !isS sock (a : Int) c) = (List.range a).map (mkS sock ps) := by
  rw [List.range_succ, List.map_append, List.filter_append, snd_ne fun k hk => by omega]
  simp [isS, mkS]
theorem wat_last {sock : Int} {a : Nat} {ps : Nat → Nat × Nat} : (((List.range (a + 1)).map (mkW sock ps)).filter fun c => !isW sock (a : Int) 0 false c) = (List.range a).map (mkW sock ps) := by
  rw [List.range_succ, List.map_append, List.filter_append, wat_ne fun k hk => by omega]
  simp [isW, mkW]
theorem snd_add {sock : Int} {a : Nat} {ps : Nat → Nat × Nat} {p : Nat × Nat} : ∃ ps', (List.range a).map (mkS sock ps) ++ [(⟨sock, (a : Int), p⟩ : Sd)] = (List.range (a + 1)).map (mkS sock ps') := by
  refine ⟨fun k => if k = a then p else ps k, ?_⟩
  rw [List.range_succ, List.map_append]
  congr 1
  · refine List.map_congr_left fun k hk => ?_
    have := List.mem_range.1 hk
    simp only [mkS]; rw [if_neg (by omega)]
  · simp [mkS]
theorem wat_add {sock : Int} {a : Nat} {ps : Nat → Nat × Nat} {p : Nat × Nat} : ∃ ps', (List.range a).map (mkW sock ps) ++ [(⟨sock, (a : Int), 0, false, p⟩ : Wa)] = (List.range (a + 1)).map (mkW sock ps') := by
  refine ⟨fun k => if k = a then p else ps k, ?_⟩
  rw [List.range_succ, List.map_append]
  congr 1
  · refine List.map_congr_left fun k hk => ?_
    have := List.mem_range.1 hk
    simp only [mkW]; rw [if_neg (by omega)]
  · simp [mkW]
theorem snd_cnt {sock : Int} {a : Nat} {ps : Nat → Nat × Nat} : cntG (ofS sock) ((List.range a).map (mkS sock ps)) ((List.range a).map (mkS sock ps)).length = a := by
  rw [cnt_all fun s hs => by obtain ⟨k, _, rfl⟩ := List.mem_map.1 hs; simp [ofS, mkS]]; simp
theorem wat_cnt {sock : Int} {a : Nat} {ps : Nat → Nat × Nat} : cntG (ofW sock) ((List.range a).map (mkW sock ps)) ((List.range a).map (mkW sock ps)).length = a := by
  rw [cnt_all fun s hs => by obtain ⟨k, _, rfl⟩ := List.mem_map.1 hs; simp [ofW, mkW]]; simp
/-- One more, or the last again. -/
theorem TxF {sock : Int} (hs : 0 ≤ sock ∧ sock < 100) {a b i : Nat} (hi : i < 100) (ha : a = i ∨ a = i + 1) {J : Jo} {xs : List Go.SB.Item} (h : FI sock a b J xs) :
    ACall Try.prog f_bcm_Jobs_Tx [.ptr 0 0, .int .i64 sock, .agg (jS (jB i) 2 true), .int .i64 0] (JH J xs ++ [some (.arr (rows frv (jB i).frs))]) fun v A => ∃ J' xs', (v = .tup [.nils, .int .i64 0] ∧ FI sock (i + 1) b J' xs') ∧ A = JH J' xs' ++ [some (.arr (rows frv (jB i).frs))] := by
  obtain ⟨ps, hps⟩ := h.snd
  have hf : (J.snd.filter fun c => !isS sock (jB i).id c) = (List.range i).map (mkS sock ps) := by
    rw [hps]
    rcases ha with rfl | rfl
    · exact snd_ne fun k hk => by show (k : Int) ≠ (a : Int); omega
    · exact snd_last
  refine TxL J xs sock (jB i) true (by simp [jB]) 0 ((Tx_all J xs sock hs (jB i) (jB_ok _) (jB_e _) 0 (by decide) ?_ ?_).1 rfl |>.mono ?_) ?_
  · rw [hps]; simp; omega
  · unfold Jo.roomy
    rw [hf, snd_cnt]; exact hi
  · rintro v A ⟨p, rfl, rfl⟩
    refine ⟨J.tx sock (jB i).id p, _, ⟨rfl, ⟨?_, h.wat, h.notes, h.shr.add (ch_shr _)⟩⟩, rfl⟩
    show ∃ ps, (J.snd.filter fun c => !isS sock (jB i).id c) ++ [⟨sock, (jB i).id, p⟩] = _
    rw [hf]; exact snd_add
  · rintro v J' xs' ⟨rfl, hF⟩
    exact ⟨rfl, rfl, hF.shr⟩
theorem TxFm {sock : Int} (hs : 0 ≤ sock ∧ sock < 100) {b : Nat} {id : Int} (hid : ∀ k : Nat, k < 100 → (k : Int) ≠ id) {J : Jo} {xs : List Go.SB.Item} (h : FI sock 100 b J xs) :
    ACall Try.prog f_bcm_Jobs_Tx [.ptr 0 0, .int .i64 sock, .agg (jS (jB id) 2 true), .int .i64 0] (JH J xs ++ [some (.arr (rows frv (jB id).frs))]) fun v A => ∃ J' xs', (v = .tup [.nils, .int .i64 9] ∧ FI sock 100 b J' xs') ∧ A = JH J' xs' ++ [some (.arr (rows frv (jB id).frs))] := by
  obtain ⟨ps, hps⟩ := h.snd
  have hf : (J.snd.filter fun c => !isS sock (jB id).id c) = (List.range 100).map (mkS sock ps) := by
    rw [hps]; exact snd_ne hid
  refine TxL J xs sock (jB id) true (by simp [jB]) 0 ((TxMany J xs sock hs (jB id) (jB_ok _) (jB_e _) 0 (by decide) ?_ ?_).mono ?_) ?_
  · rw [hps]; simp
  · rw [hf, snd_cnt]; exact Nat.le_refl _
  · rintro v A ⟨p, rfl, rfl⟩
    exact ⟨J, _, ⟨rfl, ⟨h.snd, h.wat, h.notes, h.shr.add (ch_shr _)⟩⟩, rfl⟩
  · rintro v J' xs' ⟨rfl, hF⟩
    exact ⟨rfl, rfl, hF.shr⟩
theorem RxF {sock : Int} (hs : 0 ≤ sock ∧ sock < 100) {a b i : Nat} (hi : i < 100) (hb : b = i ∨ b = i + 1) {J : Jo} {xs : List Go.SB.Item} (h : FI sock a b J xs) :
    ACall Try.prog f_bcm_Jobs_Rx [.ptr 0 0, .int .i64 sock, .agg (wB i).av, .int .i64 0] (JH J xs) fun v A => ∃ J' xs', (v = .int .i64 0 ∧ FI sock a (i + 1) J' xs') ∧ A = JH J' xs' := by
  obtain ⟨ps, hps⟩ := h.wat
  have hf : J.keepW sock (wB i) = (List.range i).map (mkW sock ps) := by
    unfold Jo.keepW
    rw [hps]
    rcases hb with rfl | rfl
    · exact wat_ne fun k hk => by show (k : Int) ≠ (b : Int); omega
    · exact wat_last
  refine ((Rx_all J xs sock hs (wB i) (wB_ok _) 0 ?_).1 ?_).mono ?_
  · rw [hps]; simp; omega
  · rw [hf, wat_cnt]; exact hi
  · rintro v A ⟨p, rfl, rfl⟩
    refine ⟨J.rx sock (wB i) p, _, ⟨rfl, ⟨h.snd, ?_, h.notes, h.shr.add (wh_shr _ _)⟩⟩, rfl⟩
    show ∃ ps, J.keepW sock (wB i) ++ [⟨sock, (wB i).id, (wB i).mask, (wB i).inv, p⟩] = _
    rw [hf]; exact wat_add
theorem RxFm {sock : Int} (hs : 0 ≤ sock ∧ sock < 100) {a : Nat} {J : Jo} {xs : List Go.SB.Item} (h : FI sock a 100 J xs) :
    ACall Try.prog f_bcm_Jobs_Rx [.ptr 0 0, .int .i64 sock, .agg (wB 100).av, .int .i64 0] (JH J xs) fun v A => ∃ J' xs', (v = .int .i64 9 ∧ FI sock a 100 J' xs') ∧ A = JH J' xs' := by
  obtain ⟨ps, hps⟩ := h.wat
  have hf : J.keepW sock (wB 100) = (List.range 100).map (mkW sock ps) := by
    unfold Jo.keepW
    rw [hps]; exact wat_ne fun k hk => by show (k : Int) ≠ 100; omega
  refine ((Rx_all J xs sock hs (wB 100) (wB_ok _) 0 ?_).2 ?_).mono ?_
  · rw [hps]; simp
  · rw [hf, wat_cnt]; exact Nat.le_refl _
  · rintro v A ⟨p, rfl, rfl⟩
    exact ⟨J, _, ⟨rfl, ⟨h.snd, h.wat, h.notes, h.shr.add (wh_shr _ _)⟩⟩, rfl⟩
theorem FI.lens {sock : Int} {a b : Nat} {J : Jo} {xs : List Go.SB.Item} (h : FI sock a b J xs) : J.snd.length = a ∧ J.wat.length = b ∧ J.len sock = a + b := by
  obtain ⟨ps, hps⟩ := h.snd
  obtain ⟨pw, hpw⟩ := h.wat
  refine ⟨by rw [hps]; simp, by rw [hpw]; simp, ?_⟩
  unfold Jo.len
  rw [hps, hpw, snd_cnt, wat_cnt]
theorem FI.drop {sock : Int} {a b : Nat} {J : Jo} {xs : List Go.SB.Item} (h : FI sock a b J xs) : FI sock 0 0 { J with snd := J.snd.filter fun c => !ofS sock c, wat := J.wat.filter fun c => !ofW sock c } xs := by
  obtain ⟨ps, hps⟩ := h.snd
  obtain ⟨pw, hpw⟩ := h.wat
  refine ⟨⟨ps, ?_⟩, ⟨pw, ?_⟩, h.notes, h.shr⟩
  · show (J.snd.filter fun c => !ofS sock c) = []
    refine List.filter_eq_nil_iff.2 fun s hs => ?_
    rw [hps] at hs
    obtain ⟨k, _, rfl⟩ := List.mem_map.1 hs
    simp [ofS, mkS]
  · show (J.wat.filter fun c => !ofW sock c) = []
    refine List.filter_eq_nil_iff.2 fun s hs => ?_
    rw [hpw] at hs
    obtain ⟨k, _, rfl⟩ := List.mem_map.1 hs
    simp [ofW, mkW]
end Go.Proofs.Ytapoilcpollmpaa
end
