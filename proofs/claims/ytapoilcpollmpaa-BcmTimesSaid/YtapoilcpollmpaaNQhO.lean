/- QhO, put together. Conditions: none. -/
import Derived.Test.YtapoilcpollmpaaNQhLN
/- BcmTimes: the law's call. -/
section
namespace Go.Proofs.Ytapoilcpollmpaa
open Go.SB
attribute [local irreducible] HW HSS HAS HRQ HEO HOP HCK
set_option maxRecDepth 100000
set_option maxHeartbeats 1000000
set_option linter.unusedSimpArgs false
set_option pp.deepTerms.threshold 6
attribute [local go_sem high] own_ren rp_ren rp_cells rp_one

/-- The socket's job is there, so many ticks having been. -/
def Rn (j : Jb) (m : Nat) (J : Jo) (got : List Int) (cs : List Cy) : Prop :=
  ∃ p rest k a b cr, J.snd = ⟨3, j.id, p⟩ :: rest ∧ (∀ s, s ∈ rest → s.sock ≠ 3) ∧ cs = cyK j k a b :: cr ∧ XI j m k got
/-- The socket's job was stopped. -/
def Sn (j : Jb) (stop : Int) (m : Nat) (J : Jo) (got : List Int) : Prop := (∀ s, s ∈ J.snd → s.sock ≠ 3) ∧ ∃ s k : Nat, stop = s ∧ 1 ≤ s ∧ s ≤ m ∧ XI j s k got
theorem Rn.tick {j : Jb} (hj : JOk j) {m : Nat} {J : Jo} {got : List Int} {cs : List Cy} (h : Rn j m J got cs) (hm : m < 900) (J' : Jo) (e : J'.snd = J.snd) :
    Rn j (m + 1) J' (gotN got (shN J.snd cs ((m + 1 : Nat) : Int) J.snd.length) ((m + 1 : Nat) : Int) (shN J.snd cs ((m + 1 : Nat) : Int) J.snd.length).length) (tkN cs ((m + 1 : Nat) : Int) J.snd.length) := by
  obtain ⟨p, rest, k, a, b, cr, h1, h2, rfl, hX⟩ := h
  have hg : gotN got (shN J.snd (cyK j k a b :: cr) ((m + 1 : Nat) : Int) J.snd.length) ((m + 1 : Nat) : Int) (shN J.snd (cyK j k a b :: cr) ((m + 1 : Nat) : Int) J.snd.length).length = got ++ if (cyK j k a b).dueB ((m + 1 : Nat) : Int) then [((m + 1 : Nat) : Int)] else [] := by
    unfold gotN
    rw [List.take_length, h1, List.length_cons, shN_one rfl h2]
    split <;> rfl
  rw [hg]
  obtain ⟨cr', htk⟩ := tkN_head (c := cyK j k a b) (crest := cr) (now := ((m + 1 : Nat) : Int)) rest.length
  rw [show J.snd.length = rest.length + 1 by rw [h1]; rfl, htk]
  cases hd : (cyK j k a b).dueB ((m + 1 : Nat) : Int)
  · simp only [Bool.false_eq_true, if_false, List.append_nil]
    refine ⟨p, rest, k, a, b, cr', by rw [e, h1], h2, by rw [Cy.tick, hd]; rfl, hX.wait fun hi => ?_⟩
    unfold Cy.dueB cyK at hd
    simp only [Bool.and_eq_false_iff, decide_eq_false_iff_not] at hd
    omega
  · have hd2 := hd
    unfold Cy.dueB cyK at hd2
    simp only [Bool.and_eq_true, decide_eq_true_eq] at hd2
    obtain ⟨e1, hX'⟩ := hX.fire hj hm hd2.1 hd2.2
    rw [← e1] at hd
    have hfr := cyK_fire hj k a b (by omega) hd
    rw [e1] at hfr
    exact ⟨p, rest, k + 1, _, b, cr', by rw [e, h1], h2, by rw [hfr], hX'⟩
theorem gotN_no {ss : List Sd} {cs : List Cy} {now t : Int} {got : List Int} (h : ∀ s, s ∈ ss → s.sock ≠ 3) : gotN got (shN ss cs now ss.length) t (shN ss cs now ss.length).length = got := by
  unfold gotN
  rw [List.take_length, shN_no h]; simp
theorem Rn.got_le {j : Jb} {m : Nat} {J : Jo} {got : List Int} {cs : List Cy} (h : Rn j m J got cs) : got.length ≤ m := by
  obtain ⟨_, _, k, _, _, _, _, _, _, hX⟩ := h
  rw [hX.len]; exact hX.kt
theorem Sn.got_le {j : Jb} {stop : Int} {m : Nat} {J : Jo} {got : List Int} (h : Sn j stop m J got) : got.length ≤ m := by
  obtain ⟨_, s, k, _, _, h1, hX⟩ := h
  rw [hX.len]; exact Nat.le_trans hX.kt h1
theorem Rn.want {j : Jb} (hj : JOk j) {m : Nat} {J : Jo} {got : List Int} {cs : List Cy} (h : Rn j m J got cs) {stop : Int} (hs : stop < 1 ∨ (m : Int) < stop) : (times j 0 m).filter (wantB stop) = got := by
  obtain ⟨_, _, k, _, _, _, _, _, _, hX⟩ := h
  rw [hX.done hj]
  refine List.filter_eq_self.2 fun x hx => ?_
  have := hX.le x hx
  simp only [wantB, Bool.or_eq_true, decide_eq_true_eq]
  omega
theorem Sn.want {j : Jb} (hj : JOk j) {stop : Int} {m : Nat} {J : Jo} {got : List Int} (h : Sn j stop m J got) : (times j 0 m).filter (wantB stop) = got := by
  obtain ⟨_, s, k, rfl, h1, h2, hX⟩ := h
  rw [← hX.stop hj (e := (m : Int)) (by omega)]
  refine List.filter_congr fun x _ => ?_
  simp only [wantB]
  rw [decide_eq_false (show ¬ (s : Int) < 1 by omega), Bool.or_false]
theorem T3 (j k : Jb) (hj : JOk j) (ticks : Nat) (ht : ticks ≤ 200) (stop : Int) (ts want : List Int) (J : Jo) (xs : List Go.SB.Item) (cs : List Cy) (hP : PI J xs cs 0) (hwat : J.wat = []) (hl : J.snd.length ≤ 2) (hR : Rn j 0 J [] cs) (v26 v27 v28 : AV) (Q : IExit → List AV → AHeap → Prop)
    (hq : ∀ J xs got, got = (times j 0 ticks).filter (wantB stop) → ∀ ρ, ρ = rg 50 [(2, .int .i64 ticks), (3, .int .i64 stop), (4, .ptr 0 0), (7, .ptr 2 0), (9, .sl 5 1 0 got.length false), (10, .sl 4 1 0 want.length false), (12, .int .i64 ((ticks : Int) + 1))] →
      Q (.exit 2) ρ (TH j k J xs ++ [some (.arr (rows i1 want)), some (.arr (rows i1 got))])) :
    HW Try.prog 0 hc_law24_BcmTimes_l3 (rg 50 [(2, .int .i64 ticks), (3, .int .i64 stop), (4, .ptr 0 0), (7, .ptr 2 0), (9, .nils), (10, .sl 5 1 0 want.length false), (12, .int .i64 1), (26, v26), (27, v27), (28, v28)]) (TH j k J xs ++ [some (.arr (rows i1 ts)), some (.arr (rows i1 want))]) Q := by
  unfold hc_law24_BcmTimes_l3
  refine hw_loopN ticks (fun m ρ A => ∃ J xs cs got, PI J xs cs (2 * m) ∧ J.wat = [] ∧ J.snd.length ≤ 2 ∧ (Rn j m J got cs ∧ (stop < 1 ∨ (m : Int) < stop) ∨ Sn j stop m J got) ∧
    ρ = rg 50 [(2, .int .i64 ticks), (3, .int .i64 stop), (4, .ptr 0 0), (7, .ptr 2 0), (9, .sl 5 1 0 got.length false), (10, .sl 4 1 0 want.length false), (12, .int .i64 ((m : Int) + 1))] ∧ A = TH j k J xs ++ [some (.arr (rows i1 want)), some (.arr (rows i1 got))]) [(9, 1)] ?_ ⟨some [0, 1, 2, 3, 5, 6], rfl, J, xs, cs, [], by simpa using hP, hwat, hl, .inl ⟨hR, by omega⟩, ?_, ?_⟩ ?_
  · simp only [nlOk, isNils, go_sem]
  · simp only [nlR, foldR_eq, TH, Jb.av, go_sem, List.cons_append, List.nil_append]
  · simp only [nlA, foldA_eq, TH, Jb.av, go_sem, List.cons_append, List.nil_append]
    rfl
  rintro m ρ A hm ⟨J, xs, cs, got, hP, hwat, hl, hM, rfl, rfl⟩
  have hgl : got.length ≤ m := by
    rcases hM with ⟨h, _⟩ | h
    · exact h.got_le
    · exact h.got_le
  by_cases hlt : m < ticks
  · have hT := bTick_ok J xs cs (2 * m) hP (by omega) (by omega) hwat ((m + 1 : Nat) : Int) (by omega)
    have hsl := shN_len (ss := J.snd) (cs := cs) (now := ((m + 1 : Nat) : Int)) J.snd.length
    have hm1 : ((m + 1 : Nat) : Int) = (m : Int) + 1 := by omega
    rw [hm1] at hT hsl
    have hr := trivial
    try simp -dsimp -implicitDefEqProofs (maxSteps := 1000000) (disch := first | exact dis | fail) only [hc_law24_BcmTimes_b3, TH, Jb.av, go_sem]
    repeat' ((first | (with_reducible first | refine w_if ?_ ?_ | refine w_gt ?_ ?_ | refine w_gf ?_ ?_ | refine w_io ?_ ?_ | refine w_gdt ?_ ?_ | refine w_gdf ?_ ?_ | refine w_ite ?_ ?_) <;> intro h <;> (try rw [h]) <;> replace hr := And.intro h hr <;> replace h := nrm h <;> try (first | (exfalso; omega) | exact (bx h (by assumption)).elim | exact (bx (by assumption) h).elim) | ((with_reducible refine And.intro ?_ ?_); (focus omega))) <;> try simp -dsimp -implicitDefEqProofs (maxSteps := 1000000) (disch := first | exact dis | fail) only [TH, Jb.av, go_sem])
    refine hT.at' [2, 3] (by decide) rfl (by simp only [standsL, JH, go_sem]) rfl ?_
    rintro v A ⟨J', xs', e1, e2, e3, hP', rfl, rfl⟩
    have key := fun v26 v27 v28 Q hq => T2 j k J' xs' ticks stop ((m : Int) + 1) want got (by omega) (shN J.snd cs ((m : Int) + 1) J.snd.length) (by omega) v26 v27 v28 Q hq
    simp only [TH, Jb.av, go_sem, List.cons_append, List.nil_append] at key
    have hr := trivial
    try simp -dsimp -implicitDefEqProofs (maxSteps := 1000000) (disch := first | exact dis | fail) only [JH, Jb.av, go_sem]
    repeat' ((first | (with_reducible first | refine w_if ?_ ?_ | refine w_gt ?_ ?_ | refine w_gf ?_ ?_ | refine w_io ?_ ?_ | refine w_gdt ?_ ?_ | refine w_gdf ?_ ?_ | refine w_ite ?_ ?_) <;> intro h <;> (try rw [h]) <;> replace hr := And.intro h hr <;> replace h := nrm h <;> try (first | (exfalso; omega) | exact (bx h (by assumption)).elim | exact (bx (by assumption) h).elim) | ((with_reducible refine And.intro ?_ ?_); (focus omega))) <;> try simp -dsimp -implicitDefEqProofs (maxSteps := 1000000) (disch := first | exact dis | fail) only [JH, Jb.av, go_sem])
    refine key _ _ _ _ ?_
    clear key hT
    rintro ρ rfl
    rcases hM with ⟨hRn, hs⟩ | hS
    · have hN := hRn.tick hj (by omega) J' e1
      rw [hm1] at hN
      generalize gotN got (shN J.snd cs ((m : Int) + 1) J.snd.length) ((m : Int) + 1) (shN J.snd cs ((m : Int) + 1) J.snd.length).length = got' at hN ⊢
      generalize tkN cs ((m : Int) + 1) J.snd.length = cs' at hN hP'
      by_cases hst : (m : Int) + 1 = stop
      · obtain ⟨p, rest, q, a, b, cr, h1, h2, rfl, hX⟩ := hN
        have hX2 := TxStop_ok J' xs' 3 j.id (by rw [e1]; omega)
        have hf : (J'.snd.filter fun c => !isS 3 j.id c) = rest := by
          rw [h1, List.filter_cons]
          simp only [isS, decide_true, Bool.and_self, Bool.not_true, Bool.false_eq_true, if_false]
          exact List.filter_eq_self.2 fun s hm => by simp [h2 s hm]
        rw [hf, if_neg (by rw [h1]; simp)] at hX2
        have hPt := PI.tail (J' := { J' with snd := rest }) hP' h1 rfl
        have hr := trivial
        try simp -dsimp -implicitDefEqProofs (maxSteps := 1000000) (disch := first | exact dis | fail) only [JH, hst, go_sem]
        repeat' ((first | ((with_reducible refine ACall.atE (hX2) [2, 3] ?_ ?_ ?_ ?_ ?_); (focus decide); (focus rfl); (focus (simp -dsimp -implicitDefEqProofs (maxSteps := 1000000) (disch := first | exact dis | fail) only [standsL, JH, hst, go_sem]; done)); (focus (first | rfl | (simp -dsimp -implicitDefEqProofs (maxSteps := 1000000) (disch := first | exact dis | fail) only [JH, hst, go_sem]; done)))) | (with_reducible first | refine w_if ?_ ?_ | refine w_gt ?_ ?_ | refine w_gf ?_ ?_ | refine w_io ?_ ?_ | refine w_gdt ?_ ?_ | refine w_gdf ?_ ?_ | refine w_ite ?_ ?_) <;> intro h <;> (try rw [h]) <;> replace hr := And.intro h hr <;> replace h := nrm h <;> try (first | (exfalso; omega) | exact (bx h (by assumption)).elim | exact (bx (by assumption) h).elim) | ((with_reducible refine And.intro ?_ ?_); (focus omega))) <;> try simp -dsimp -implicitDefEqProofs (maxSteps := 1000000) (disch := first | exact dis | fail) only [JH, hst, go_sem])
        refine ⟨some [0, 1, 2, 3, 4, 5], rfl, { J' with snd := rest }, xs', cr, got', hPt.mono (by omega), e2.trans hwat, ?_, .inr ⟨h2, m + 1, q, by omega, by omega, Nat.le_refl _, hX⟩, ?_, ?_⟩
        · rw [← e1, h1, List.length_cons] at hl; simp only []; omega
        · simp only [foldR_eq, go_sem, hm1, hst]
        · simp only [foldA_eq, go_sem, TH, Jb.av, List.cons_append, List.nil_append]
      · have hr := trivial
        try simp -dsimp -implicitDefEqProofs (maxSteps := 1000000) (disch := first | exact dis | fail) only [JH, hst, go_sem]
        repeat' ((first | (with_reducible first | refine w_if ?_ ?_ | refine w_gt ?_ ?_ | refine w_gf ?_ ?_ | refine w_io ?_ ?_ | refine w_gdt ?_ ?_ | refine w_gdf ?_ ?_ | refine w_ite ?_ ?_) <;> intro h <;> (try rw [h]) <;> replace hr := And.intro h hr <;> replace h := nrm h <;> try (first | (exfalso; omega) | exact (bx h (by assumption)).elim | exact (bx (by assumption) h).elim) | ((with_reducible refine And.intro ?_ ?_); (focus omega))) <;> try simp -dsimp -implicitDefEqProofs (maxSteps := 1000000) (disch := first | exact dis | fail) only [JH, hst, go_sem])
        refine ⟨some [0, 1, 2, 3, 4, 5], rfl, J', xs', cs', got', hP'.mono (by omega), e2.trans hwat, by rw [e1]; exact hl, .inl ⟨hN, by omega⟩, ?_, ?_⟩
        · simp only [foldR_eq, go_sem, hm1]
        · simp only [foldA_eq, go_sem, TH, Jb.av, List.cons_append, List.nil_append]
    · have hno := hS.1
      rw [gotN_no hno]
      obtain ⟨_, s, q, h1, h2, h3, hX⟩ := hS
      have hst : ¬ (m : Int) + 1 = stop := by omega
      generalize tkN cs ((m : Int) + 1) J.snd.length = cs' at hP'
      have hr := trivial
      try simp -dsimp -implicitDefEqProofs (maxSteps := 1000000) (disch := first | exact dis | fail) only [JH, hst, go_sem]
      repeat' ((first | (with_reducible first | refine w_if ?_ ?_ | refine w_gt ?_ ?_ | refine w_gf ?_ ?_ | refine w_io ?_ ?_ | refine w_gdt ?_ ?_ | refine w_gdf ?_ ?_ | refine w_ite ?_ ?_) <;> intro h <;> (try rw [h]) <;> replace hr := And.intro h hr <;> replace h := nrm h <;> try (first | (exfalso; omega) | exact (bx h (by assumption)).elim | exact (bx (by assumption) h).elim) | ((with_reducible refine And.intro ?_ ?_); (focus omega))) <;> try simp -dsimp -implicitDefEqProofs (maxSteps := 1000000) (disch := first | exact dis | fail) only [JH, hst, go_sem])
      refine ⟨some [0, 1, 2, 3, 4, 5], rfl, J', xs', cs', got, hP'.mono (by omega), e2.trans hwat, by rw [e1]; exact hl, .inr ⟨by rw [e1]; exact hno, s, q, h1, h2, by omega, hX⟩, ?_, ?_⟩
      · simp only [foldR_eq, go_sem, hm1]
      · simp only [foldA_eq, go_sem, TH, Jb.av, List.cons_append, List.nil_append]
  · obtain rfl : m = ticks := by omega
    have hw : got = (times j 0 m).filter (wantB stop) := by
      rcases hM with ⟨h, hs⟩ | h
      · exact (h.want hj hs).symm
      · exact (h.want hj).symm
    have hr := trivial
    try simp -dsimp -implicitDefEqProofs (maxSteps := 1000000) (disch := first | exact dis | fail) only [hc_law24_BcmTimes_b3, TH, Jb.av, go_sem]
    repeat' ((first | (with_reducible first | refine w_if ?_ ?_ | refine w_gt ?_ ?_ | refine w_gf ?_ ?_ | refine w_io ?_ ?_ | refine w_gdt ?_ ?_ | refine w_gdf ?_ ?_ | refine w_ite ?_ ?_) <;> intro h <;> (try rw [h]) <;> replace hr := And.intro h hr <;> replace h := nrm h <;> try (first | (exfalso; omega) | exact (bx h (by assumption)).elim | exact (bx (by assumption) h).elim) | ((with_reducible refine And.intro ?_ ?_); (focus omega))) <;> try simp -dsimp -implicitDefEqProofs (maxSteps := 1000000) (disch := first | exact dis | fail) only [TH, Jb.av, go_sem])
    simp only [TH, Jb.av, go_sem, List.cons_append, List.nil_append] at hq
    exact hq J xs got hw _ (by simp only [go_sem])
theorem Tx2P (j k : Jb) (hk : smallB k = true) (J : Jo) (xs : List Go.SB.Item) (cs : List Cy) (hP : PI J xs cs 0) (hwat : J.wat = []) (hl : J.snd.length = 1) (hR : Rn j 0 J [] cs) (h3 : ∀ s, s ∈ J.snd → s.sock = 3) :
    ACall Try.prog f_bcm_Jobs_Tx [.ptr 0 0, .int .i64 1, .agg k.av, .int .i64 0] (JH J xs) fun v A => v = .any ∧ ∃ J2 xs2 cs2, PI J2 xs2 cs2 0 ∧ J2.wat = [] ∧ J2.snd.length ≤ 2 ∧ Rn j 0 J2 [] cs2 ∧ A = JH J2 xs2 := by
  by_cases he : jobE k = 0
  · refine acall_weak (TxP J xs cs 0 hP 1 (by decide) k (jok hk he) he (by omega) (fun s hs => by rw [h3 s hs]; decide)) ?_
    rintro r B ⟨p, xs', hP', _, rfl⟩
    obtain ⟨p0, rest, q, a, b, cr, h1, h2, rfl, hX⟩ := hR
    refine ⟨.any, fun M u _ => .any u, rfl, _, xs', _, hP', hwat, by simp [hl], ⟨p0, rest ++ [⟨1, k.id, p⟩], q, a, b, cr ++ [(newC k 0).begC], by simp [h1], fun s hs => ?_, by simp, hX⟩, rfl⟩
    rcases List.mem_append.1 hs with hs | hs
    · exact h2 s hs
    · rw [List.mem_singleton.1 hs]; show (1 : Int) ≠ 3; decide
  · refine acall_weak (TxE_ok J xs 1 (by decide) k he) ?_
    rintro r B ⟨_, rfl⟩
    exact ⟨.any, fun M u _ => .any u, rfl, J, xs, cs, hP, hwat, by omega, hR, rfl⟩
theorem BcmTimes_call (j k : Jb) (ticks stop : Int) : ACall Try.prog f_law24_BcmTimes [.agg j.av, .agg k.av, .int .i64 ticks, .int .i64 stop] [] fun r _ => r = .bool true := by
  refine acallH ok_law24_BcmTimes ?_
  have alive := alive_ok
  have hSj := Small_ok j
  have hSk := Small_ok k
  by_cases hall : smallB j = true ∧ smallB k = true ∧ (j.frs.length : Int) ≤ 20 ∧ (k.frs.length : Int) ≤ 20 ∧ 0 ≤ ticks ∧ ticks ≤ 200
  · obtain ⟨hj, hk, hjl, hkl, ht0, ht1⟩ := hall
    obtain ⟨n, rfl⟩ : ∃ n : Nat, ticks = n := ⟨ticks.toNat, by omega⟩
    rw [hj] at hSj
    rw [hk] at hSk
    have hN := jNewP 1
    have hRt := RJRight_ok j
    by_cases he : jobE j = 0
    · have hJ := jok hj he
      have hT := TxP (Jo.new 1) [] [] 0 (PI.nil 1) 3 (by decide) j hJ he (by decide) (fun s hs => by simp [Jo.new] at hs)
      have hRT := RTimesS_ok j hJ n he
      have hlen : (times j 0 n).length ≤ 1000 := goT_len j 0 n 1000 1
      have hr := trivial
      try simp -dsimp -implicitDefEqProofs (maxSteps := 1000000) (disch := first | exact dis | fail) only [hc_law24_BcmTimes, Jb.av, JH, go_sem]
      repeat' ((first | (with_reducible refine PCall.aci hSj ?_) | (with_reducible refine PCall.aci hSk ?_) | ((with_reducible refine ACall.atE (hN) [] ?_ ?_ ?_ ?_ ?_); (focus decide); (focus rfl); (focus (simp -dsimp -implicitDefEqProofs (maxSteps := 1000000) (disch := first | exact dis | fail) only [standsL, Jb.av, JH, go_sem]; done)); (focus (first | rfl | (simp -dsimp -implicitDefEqProofs (maxSteps := 1000000) (disch := first | exact dis | fail) only [Jb.av, JH, go_sem]; done)))) | (with_reducible first | refine w_if ?_ ?_ | refine w_gt ?_ ?_ | refine w_gf ?_ ?_ | refine w_io ?_ ?_ | refine w_gdt ?_ ?_ | refine w_gdf ?_ ?_ | refine w_ite ?_ ?_) <;> intro h <;> (try rw [h]) <;> replace hr := And.intro h hr <;> replace h := nrm h <;> try (first | (exfalso; omega) | exact (bx h (by assumption)).elim | exact (bx (by assumption) h).elim) | ((with_reducible refine And.intro ?_ ?_); (focus omega))) <;> try simp -dsimp -implicitDefEqProofs (maxSteps := 1000000) (disch := first | exact dis | fail) only [Jb.av, JH, go_sem])
      refine hT.at' [2, 3] (by decide) rfl (by simp only [standsL, JH, go_sem]) (by simp only [Jb.av, go_sem]) ?_
      rintro v A ⟨p, xs1, hP1, rfl, rfl⟩
      obtain ⟨a, b, hab⟩ := cyK_beg j 0 0 false
      have hR1 : Rn j 0 { Jo.new 1 with snd := (Jo.new 1).snd ++ [⟨3, j.id, p⟩] } [] ([] ++ [(newC j 0).begC]) :=
        ⟨p, [], 0, a, b, [], rfl, (fun s hs => by cases hs), (by rw [cyK_0 hJ, hab]; rfl), XI.start hJ⟩
      have hT2 := Tx2P j k hk _ xs1 _ hP1 rfl rfl hR1 (fun s hs => by rw [List.mem_singleton.1 (show s ∈ [(⟨3, j.id, p⟩ : Sd)] from hs)])
      generalize ({ Jo.new 1 with snd := (Jo.new 1).snd ++ [⟨3, j.id, p⟩] } : Jo) = J1 at hT2
      have hr := trivial
      try simp -dsimp -implicitDefEqProofs (maxSteps := 1000000) (disch := first | exact dis | fail) only [Jb.av, JH, go_sem]
      repeat' ((first | (with_reducible first | refine w_if ?_ ?_ | refine w_gt ?_ ?_ | refine w_gf ?_ ?_ | refine w_io ?_ ?_ | refine w_gdt ?_ ?_ | refine w_gdf ?_ ?_ | refine w_ite ?_ ?_) <;> intro h <;> (try rw [h]) <;> replace hr := And.intro h hr <;> replace h := nrm h <;> try (first | (exfalso; omega) | exact (bx h (by assumption)).elim | exact (bx (by assumption) h).elim) | ((with_reducible refine And.intro ?_ ?_); (focus omega))) <;> try simp -dsimp -implicitDefEqProofs (maxSteps := 1000000) (disch := first | exact dis | fail) only [Jb.av, JH, go_sem])
      refine hT2.at' [2, 3] (by decide) rfl (by simp only [standsL, JH, go_sem]) (by simp only [Jb.av, go_sem]) ?_
      rintro v A ⟨rfl, J2, xs2, cs2, hP2, hw2, hl2, hR2, rfl⟩
      have key := fun v1 v6 v8 Q hq => T1 j k J2 xs2 n stop (times j 0 n) hlen v1 v6 v8 Q hq
      simp only [TH, Jb.av, go_sem, List.cons_append, List.nil_append] at key
      have hr := trivial
      try simp -dsimp -implicitDefEqProofs (maxSteps := 1000000) (disch := first | exact dis | fail) only [Jb.av, JH, go_sem]
      repeat' ((first | ((with_reducible refine ACall.atE (hRT) [] ?_ ?_ ?_ ?_ ?_); (focus decide); (focus rfl); (focus (simp -dsimp -implicitDefEqProofs (maxSteps := 1000000) (disch := first | exact dis | fail) only [standsL, Jb.av, JH, go_sem]; done)); (focus (first | rfl | (simp -dsimp -implicitDefEqProofs (maxSteps := 1000000) (disch := first | exact dis | fail) only [Jb.av, JH, go_sem]; done)))) | (with_reducible first | refine w_if ?_ ?_ | refine w_gt ?_ ?_ | refine w_gf ?_ ?_ | refine w_io ?_ ?_ | refine w_gdt ?_ ?_ | refine w_gdf ?_ ?_ | refine w_ite ?_ ?_) <;> intro h <;> (try rw [h]) <;> replace hr := And.intro h hr <;> replace h := nrm h <;> try (first | (exfalso; omega) | exact (bx h (by assumption)).elim | exact (bx (by assumption) h).elim) | ((with_reducible refine And.intro ?_ ?_); (focus omega))) <;> try simp -dsimp -implicitDefEqProofs (maxSteps := 1000000) (disch := first | exact dis | fail) only [Jb.av, JH, go_sem])
      refine key _ _ _ _ ?_
      clear key
      rintro ρ rfl
      have key := fun v26 v27 v28 Q hq => T3 j k hJ n (by omega) stop (times j 0 n) ((times j 0 n).filter (wantB stop)) J2 xs2 cs2 hP2 hw2 hl2 hR2 v26 v27 v28 Q hq
      simp only [TH, Jb.av, go_sem, List.cons_append, List.nil_append] at key
      have hr := trivial
      try simp -dsimp -implicitDefEqProofs (maxSteps := 1000000) (disch := first | exact dis | fail) only [Jb.av, JH, go_sem]
      repeat' ((first | (with_reducible first | refine w_if ?_ ?_ | refine w_gt ?_ ?_ | refine w_gf ?_ ?_ | refine w_io ?_ ?_ | refine w_gdt ?_ ?_ | refine w_gdf ?_ ?_ | refine w_ite ?_ ?_) <;> intro h <;> (try rw [h]) <;> replace hr := And.intro h hr <;> replace h := nrm h <;> try (first | (exfalso; omega) | exact (bx h (by assumption)).elim | exact (bx (by assumption) h).elim) | ((with_reducible refine And.intro ?_ ?_); (focus omega))) <;> try simp -dsimp -implicitDefEqProofs (maxSteps := 1000000) (disch := first | exact dis | fail) only [Jb.av, JH, go_sem])
      refine key _ _ _ _ ?_
      clear key
      rintro J3 xs3 got hgot ρ rfl
      have hI := Ints_ok got (by rw [hgot]; exact Nat.le_trans (List.length_filter_le _ _) hlen)
      rw [← hgot]
      have hr := trivial
      try simp -dsimp -implicitDefEqProofs (maxSteps := 1000000) (disch := first | exact dis | fail) only [Jb.av, go_sem]
      repeat' ((first | ((with_reducible refine ACall.atE (hI) [5, 4] ?_ ?_ ?_ ?_ ?_); (focus decide); (focus rfl); (focus (simp -dsimp -implicitDefEqProofs (maxSteps := 1000000) (disch := first | exact dis | fail) only [standsL, Jb.av, go_sem]; done)); (focus (first | rfl | (simp -dsimp -implicitDefEqProofs (maxSteps := 1000000) (disch := first | exact dis | fail) only [Jb.av, go_sem]; done)))) | (with_reducible refine PCall.aci alive ?_) | (with_reducible first | refine w_if ?_ ?_ | refine w_gt ?_ ?_ | refine w_gf ?_ ?_ | refine w_io ?_ ?_ | refine w_gdt ?_ ?_ | refine w_gdf ?_ ?_ | refine w_ite ?_ ?_) <;> intro h <;> (try rw [h]) <;> replace hr := And.intro h hr <;> replace h := nrm h <;> try (first | (exfalso; omega) | exact (bx h (by assumption)).elim | exact (bx (by assumption) h).elim) | ((with_reducible refine And.intro ?_ ?_); (focus omega))) <;> try simp -dsimp -implicitDefEqProofs (maxSteps := 1000000) (disch := first | exact dis | fail) only [Jb.av, go_sem])
      exact ⟨none, rfl, rfl⟩
    · have hE := TxE_ok (Jo.new 1) [] 3 (by decide) j he
      have hr := trivial
      try simp -dsimp -implicitDefEqProofs (maxSteps := 1000000) (disch := first | exact dis | fail) only [hc_law24_BcmTimes, Jb.av, JH, he, go_sem]
      repeat' ((first | (with_reducible refine PCall.aci hSj ?_) | (with_reducible refine PCall.aci hSk ?_) | ((with_reducible refine ACall.atE (hN) [] ?_ ?_ ?_ ?_ ?_); (focus decide); (focus rfl); (focus (simp -dsimp -implicitDefEqProofs (maxSteps := 1000000) (disch := first | exact dis | fail) only [standsL, Jb.av, JH, he, go_sem]; done)); (focus (first | rfl | (simp -dsimp -implicitDefEqProofs (maxSteps := 1000000) (disch := first | exact dis | fail) only [Jb.av, JH, he, go_sem]; done)))) | ((with_reducible refine ACall.atE (hE) [2, 3] ?_ ?_ ?_ ?_ ?_); (focus decide); (focus rfl); (focus (simp -dsimp -implicitDefEqProofs (maxSteps := 1000000) (disch := first | exact dis | fail) only [standsL, Jb.av, JH, he, go_sem]; done)); (focus (first | rfl | (simp -dsimp -implicitDefEqProofs (maxSteps := 1000000) (disch := first | exact dis | fail) only [Jb.av, JH, he, go_sem]; done)))) | (with_reducible refine PCall.aci hRt ?_) | (with_reducible refine PCall.aci alive ?_) | (with_reducible first | refine w_if ?_ ?_ | refine w_gt ?_ ?_ | refine w_gf ?_ ?_ | refine w_io ?_ ?_ | refine w_gdt ?_ ?_ | refine w_gdf ?_ ?_ | refine w_ite ?_ ?_) <;> intro h <;> (try rw [h]) <;> replace hr := And.intro h hr <;> replace h := nrm h <;> try (first | (exfalso; omega) | exact (bx h (by assumption)).elim | exact (bx (by assumption) h).elim) | ((with_reducible refine And.intro ?_ ?_); (focus omega))) <;> try simp -dsimp -implicitDefEqProofs (maxSteps := 1000000) (disch := first | exact dis | fail) only [Jb.av, JH, he, go_sem])
      exact ⟨none, rfl, rfl⟩
  · cases hj : smallB j
    · rw [hj] at hSj
      have hr := trivial
      try simp -dsimp -implicitDefEqProofs (maxSteps := 1000000) (disch := first | exact dis | fail) only [hc_law24_BcmTimes, Jb.av, go_sem]
      repeat' ((first | (with_reducible refine PCall.aci hSj ?_) | (with_reducible refine PCall.aci hSk ?_) | (with_reducible refine PCall.aci alive ?_) | (with_reducible first | refine w_if ?_ ?_ | refine w_gt ?_ ?_ | refine w_gf ?_ ?_ | refine w_io ?_ ?_ | refine w_gdt ?_ ?_ | refine w_gdf ?_ ?_ | refine w_ite ?_ ?_) <;> intro h <;> (try rw [h]) <;> replace hr := And.intro h hr <;> replace h := nrm h <;> try (first | (exfalso; omega) | exact (bx h (by assumption)).elim | exact (bx (by assumption) h).elim) | ((with_reducible refine And.intro ?_ ?_); (focus omega))) <;> try simp -dsimp -implicitDefEqProofs (maxSteps := 1000000) (disch := first | exact dis | fail) only [Jb.av, go_sem])
      exact ⟨none, rfl, rfl⟩
    · cases hk : smallB k
      · rw [hj] at hSj
        rw [hk] at hSk
        have hr := trivial
        try simp -dsimp -implicitDefEqProofs (maxSteps := 1000000) (disch := first | exact dis | fail) only [hc_law24_BcmTimes, Jb.av, go_sem]
        repeat' ((first | (with_reducible refine PCall.aci hSj ?_) | (with_reducible refine PCall.aci hSk ?_) | (with_reducible refine PCall.aci alive ?_) | (with_reducible first | refine w_if ?_ ?_ | refine w_gt ?_ ?_ | refine w_gf ?_ ?_ | refine w_io ?_ ?_ | refine w_gdt ?_ ?_ | refine w_gdf ?_ ?_ | refine w_ite ?_ ?_) <;> intro h <;> (try rw [h]) <;> replace hr := And.intro h hr <;> replace h := nrm h <;> try (first | (exfalso; omega) | exact (bx h (by assumption)).elim | exact (bx (by assumption) h).elim) | ((with_reducible refine And.intro ?_ ?_); (focus omega))) <;> try simp -dsimp -implicitDefEqProofs (maxSteps := 1000000) (disch := first | exact dis | fail) only [Jb.av, go_sem])
        exact ⟨none, rfl, rfl⟩
      · rw [hj] at hSj
        rw [hk] at hSk
        have hbad : 20 < (j.frs.length : Int) ∨ 20 < (k.frs.length : Int) ∨ ticks < 0 ∨ 200 < ticks := by
          by_cases c1 : 20 < (j.frs.length : Int)
          · exact .inl c1
          · by_cases c2 : 20 < (k.frs.length : Int)
            · exact .inr (.inl c2)
            · by_cases c3 : ticks < 0
              · exact .inr (.inr (.inl c3))
              · exact .inr (.inr (.inr (by
                  by_cases c4 : 200 < ticks
                  · exact c4
                  · exact absurd ⟨hj, hk, by omega, by omega, by omega, by omega⟩ hall)))
        have hr := trivial
        try simp -dsimp -implicitDefEqProofs (maxSteps := 1000000) (disch := first | exact dis | fail) only [hc_law24_BcmTimes, Jb.av, go_sem]
        repeat' ((first | (with_reducible refine PCall.aci hSj ?_) | (with_reducible refine PCall.aci hSk ?_) | (with_reducible refine PCall.aci alive ?_) | (with_reducible first | refine w_if ?_ ?_ | refine w_gt ?_ ?_ | refine w_gf ?_ ?_ | refine w_io ?_ ?_ | refine w_gdt ?_ ?_ | refine w_gdf ?_ ?_ | refine w_ite ?_ ?_) <;> intro h <;> (try rw [h]) <;> replace hr := And.intro h hr <;> replace h := nrm h <;> try (first | (exfalso; omega) | exact (bx h (by assumption)).elim | exact (bx (by assumption) h).elim) | ((with_reducible refine And.intro ?_ ?_); (focus omega))) <;> try simp -dsimp -implicitDefEqProofs (maxSteps := 1000000) (disch := first | exact dis | fail) only [Jb.av, go_sem])
        · exact ⟨none, rfl, rfl⟩
end Go.Proofs.Ytapoilcpollmpaa
end
