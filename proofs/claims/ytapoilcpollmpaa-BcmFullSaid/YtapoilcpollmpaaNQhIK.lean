/- QhI, QhJ, QhK, put together. Conditions: none. -/
import Derived.Test.YtapoilcpollmpaaNQhFH
/- bcm: telling. -/
section
namespace Go.Proofs.Ytapoilcpollmpaa
open Go.SB
attribute [local irreducible] HW HSS HAS HRQ HEO HOP HCK
set_option maxRecDepth 100000
set_option maxHeartbeats 1000000
set_option linter.unusedSimpArgs false
set_option pp.deepTerms.threshold 6
attribute [local go_sem high] own_ren rp_ren rp_cells rp_one

/-- The ring of a socket. -/
def lookN (l : List (Int × (Nat × Nat))) (sock : Int) : Option (Nat × Nat) := (l.find? fun n => decide (n.1 = sock)).map Prod.snd
theorem ringNew (xs : List Go.SB.Item) (room : Int) : ACall Try.prog f_ring_New_of_Note [.int .i64 room] [some (.pool xs)] fun r B => ∃ p, r = rp p ∧ B = [some (.pool (xs ++ [(p, (Rg.new room).A)]))] := by
  refine (ACall.born xs rfl (rNew_ok room) fun r A' hh => ⟨hh.1, by rw [hh.2]; rfl⟩).mono ?_
  rintro r B ⟨p, A', ⟨_, h1⟩, h2, h3⟩
  exact ⟨p, h2, by rw [h3, h1]⟩
theorem mf_some {sock : Int} {p : Nat × Nat} : ∀ {l : List (Int × (Nat × Nat))} {i : Nat}, lookN l sock = some p → ∃ k, mfind .int (.int .i64 sock) (l.map ntv) i = some (some (k, rp p))
  | [], _, h => by cases h
  | n :: l, i, h => by
    unfold lookN at h
    by_cases e : n.1 = sock
    · rw [List.find?_cons_of_pos (by simp [e])] at h
      cases h
      exact ⟨i, by simp [mfind, ntv, AV.eqK, e]⟩
    · rw [List.find?_cons_of_neg (by simp [e])] at h
      obtain ⟨k, hk⟩ := mf_some (l := l) (i := i + 1) h
      have e2 : (sock == n.1) = false := by simpa using fun h => e (Eq.symm h)
      exact ⟨k, by rw [← hk]; simp [mfind, ntv, AV.eqK, e2]⟩
theorem mf_none {sock : Int} : ∀ {l : List (Int × (Nat × Nat))} {i : Nat}, lookN l sock = none → mfind .int (.int .i64 sock) (l.map ntv) i = some none
  | [], _, _ => rfl
  | n :: l, i, h => by
    unfold lookN at h
    by_cases e : n.1 = sock
    · rw [List.find?_cons_of_pos (by simp [e])] at h
      cases h
    · rw [List.find?_cons_of_neg (by simp [e])] at h
      have e2 : (sock == n.1) = false := by simpa using fun h => e (Eq.symm h)
      rw [← mf_none (l := l) (i := i + 1) h]; simp [mfind, ntv, AV.eqK, e2]
theorem alk_t (x0 x1 x2 x3 x5 : Option AO) {l : List (Int × (Nat × Nat))} {sock : Int} {p : Nat × Nat} (h : lookN l sock = some p) :
    alookup [x0, x1, x2, x3, some (.map (l.map ntv)), x5] .int .nilp true (.mp 4) (.int .i64 sock) = some (.tup [rp p, .bool true]) := by
  obtain ⟨k, hk⟩ := mf_some (i := 0) h
  simp [alookup, hk]
theorem alk_f (x0 x1 x2 x3 x5 : Option AO) {l : List (Int × (Nat × Nat))} {sock : Int} (h : lookN l sock = none) :
    alookup [x0, x1, x2, x3, some (.map (l.map ntv)), x5] .int .nilp true (.mp 4) (.int .i64 sock) = some (.tup [.nilp, .bool false]) := by
  have hk := mf_none (i := 0) h
  simp [alookup, hk]
theorem ams_f (x0 x1 x2 x3 x5 : Option AO) {l : List (Int × (Nat × Nat))} {sock : Int} {p : Nat × Nat} (h : lookN l sock = none) :
    amset [x0, x1, x2, x3, some (.map (l.map ntv)), x5] .int (.mp 4) (.int .i64 sock) (rp p) = some [x0, x1, x2, x3, some (.map ((l ++ [(sock, p)]).map ntv)), x5] := by
  have hk := mf_none (i := 0) h
  simp [amset, hk, ntv]
def tellX (xs : List Go.SB.Item) (room : Int) (p : Nat × Nat) (n : Nt) : List Go.SB.Item := xs ++ [(p, ((Rg.new room).put n).A)]
theorem putP (xs : List Go.SB.Item) (p : Nat × Nat) (r : Rg) (hr : (p, r.A) ∈ xs) (hk : RgOk r) (hn : (xs.map fun it => it.1.1).Nodup) (n : Nt) :
    ACall Try.prog f_ring_Ring_of_Note_Put [rp p, .agg n.av] [some (.pool xs)] fun v A => v = .bool (decide (r.many ≠ r.cells.length)) ∧ A = [some (.pool (upd xs p (r.put n).A))] :=
  ACall.poolE hr hn (inferInstance : FlatL [AV.agg n.av]).h rfl rfl (rPut_ok r hk n)
theorem rgNew_ok (n : Int) : RgOk (Rg.new n) := by
  have := roomI_b n
  exact ⟨by simp [Rg.new]; omega, by simp [Rg.new]; omega, by simp [Rg.new]; omega, by simp [Rg.new]⟩
theorem putL (xs : List Go.SB.Item) (p : Nat × Nat) (room : Int) (n : Nt) :
    ACall Try.prog f_ring_Ring_of_Note_Put [rp p, .agg n.av] [some (.pool (xs ++ [(p, (Rg.new room).A)]))] fun v A => v = .bool (decide ((Rg.new room).many ≠ (Rg.new room).cells.length)) ∧ A = [some (.pool (tellX xs room p n))] := by
  have h1 := poolE (xs := xs ++ [(p, (Rg.new room).A)]) (i := xs.length) (p := p) (by rw [List.getElem?_append_right (Nat.le_refl _), Nat.sub_self]; rfl) (inferInstance : FlatL [AV.agg n.av]).h rfl rfl (rPut_ok (Rg.new room) (rgNew_ok room) n)
  rw [set_last] at h1
  exact h1
theorem tell_ok (J : Jo) (xs : List Go.SB.Item) (sock : Int) (n : Nt) (p : Nat × Nat) (hp : lookN J.notes sock = some p) (r : Rg) (hr : (p, r.A) ∈ xs) (hk : RgOk r) (hn : (xs.map fun it => it.1.1).Nodup) :
    ACall Try.prog f_bcm_Jobs_tell [.ptr 0 0, .int .i64 sock, .agg n.av] (JO J xs) fun v A => v = .tup [] ∧ A = JO J (upd xs p (r.put n).A) := by
  refine acallH ok_bcm_Jobs_tell ?_
  rw [show (JO J xs).length = 5 from rfl]
  have hl := fun x0 x1 x2 x3 x5 => alk_t x0 x1 x2 x3 x5 hp
  have hP := putP xs p r hr hk hn n
  have hr := trivial
  try simp -dsimp -implicitDefEqProofs (maxSteps := 1000000) (disch := first | exact dis | fail) only [hc_bcm_Jobs_tell, JO, Nt.av, hl, go_sem]
  repeat' ((first | ((with_reducible refine ACall.atE (hP) [1] ?_ ?_ ?_ ?_ ?_); (focus decide); (focus rfl); (focus (simp -dsimp -implicitDefEqProofs (maxSteps := 1000000) (disch := first | exact dis | fail) only [standsL, JO, Nt.av, hl, go_sem]; done)); (focus (first | rfl | (simp -dsimp -implicitDefEqProofs (maxSteps := 1000000) (disch := first | exact dis | fail) only [JO, Nt.av, hl, go_sem]; done)))) | (with_reducible first | refine w_if ?_ ?_ | refine w_gt ?_ ?_ | refine w_gf ?_ ?_ | refine w_io ?_ ?_ | refine w_gdt ?_ ?_ | refine w_gdf ?_ ?_ | refine w_ite ?_ ?_) <;> intro h <;> (try rw [h]) <;> replace hr := And.intro h hr <;> replace h := nrm h <;> try (first | (exfalso; omega) | exact (bx h (by assumption)).elim | exact (bx (by assumption) h).elim) | ((with_reducible refine And.intro ?_ ?_); (focus omega))) <;> try simp -dsimp -implicitDefEqProofs (maxSteps := 1000000) (disch := first | exact dis | fail) only [JO, Nt.av, hl, go_sem])
  exact ⟨some [], rfl, rfl, by simp only [foldA_eq, go_sem, notes_ren]⟩
theorem tell_new (J : Jo) (xs : List Go.SB.Item) (sock : Int) (n : Nt) (hp : lookN J.notes sock = none) :
    ACall Try.prog f_bcm_Jobs_tell [.ptr 0 0, .int .i64 sock, .agg n.av] (JO J xs) fun v A => ∃ p, v = .tup [] ∧ A = JO { J with notes := J.notes ++ [(sock, p)] } (tellX xs J.room p n) := by
  refine acallH ok_bcm_Jobs_tell ?_
  rw [show (JO J xs).length = 5 from rfl]
  have hl := fun x0 x1 x2 x3 x5 => alk_f x0 x1 x2 x3 x5 hp
  have hs := fun x0 x1 x2 x3 x5 p => ams_f x0 x1 x2 x3 x5 (p := p) hp
  have hN := ringNew xs J.room
  have hr := trivial
  try simp -dsimp -implicitDefEqProofs (maxSteps := 1000000) (disch := first | exact dis | fail) only [hc_bcm_Jobs_tell, JO, Nt.av, hl, go_sem]
  repeat' ((first | (with_reducible first | refine w_if ?_ ?_ | refine w_gt ?_ ?_ | refine w_gf ?_ ?_ | refine w_io ?_ ?_ | refine w_gdt ?_ ?_ | refine w_gdf ?_ ?_ | refine w_ite ?_ ?_) <;> intro h <;> (try rw [h]) <;> replace hr := And.intro h hr <;> replace h := nrm h <;> try (first | (exfalso; omega) | exact (bx h (by assumption)).elim | exact (bx (by assumption) h).elim) | ((with_reducible refine And.intro ?_ ?_); (focus omega))) <;> try simp -dsimp -implicitDefEqProofs (maxSteps := 1000000) (disch := first | exact dis | fail) only [JO, Nt.av, hl, go_sem])
  refine hN.at' [1] (by decide) rfl (by simp only [standsL, go_sem]) rfl ?_
  rintro v A ⟨p, rfl, rfl⟩
  have hP := putL xs p J.room n
  have hr := trivial
  try simp -dsimp -implicitDefEqProofs (maxSteps := 1000000) (disch := first | exact dis | fail) only [Nt.av, hs, go_sem]
  repeat' ((first | ((with_reducible refine ACall.atE (hP) [1] ?_ ?_ ?_ ?_ ?_); (focus decide); (focus rfl); (focus (simp -dsimp -implicitDefEqProofs (maxSteps := 1000000) (disch := first | exact dis | fail) only [standsL, Nt.av, hs, go_sem]; done)); (focus (first | rfl | (simp -dsimp -implicitDefEqProofs (maxSteps := 1000000) (disch := first | exact dis | fail) only [Nt.av, hs, go_sem]; done)))) | (with_reducible first | refine w_if ?_ ?_ | refine w_gt ?_ ?_ | refine w_gf ?_ ?_ | refine w_io ?_ ?_ | refine w_gdt ?_ ?_ | refine w_gdf ?_ ?_ | refine w_ite ?_ ?_) <;> intro h <;> (try rw [h]) <;> replace hr := And.intro h hr <;> replace h := nrm h <;> try (first | (exfalso; omega) | exact (bx h (by assumption)).elim | exact (bx (by assumption) h).elim) | ((with_reducible refine And.intro ?_ ?_); (focus omega))) <;> try simp -dsimp -implicitDefEqProofs (maxSteps := 1000000) (disch := first | exact dis | fail) only [Nt.av, hs, go_sem])
  exact ⟨some [], rfl, p, rfl, by simp only [foldA_eq, go_sem, notes_ren, JO]⟩
/-- What is kept of jobs: each job of sending has its object, each row of notes its ring. -/
structure PI (J : Jo) (xs : List Go.SB.Item) (cs : List Cy) (K : Int) : Prop where
  len : cs.length = J.snd.length
  nd : (J.snd.map Sd.p).Nodup
  has : ∀ (i : Nat) (s : Sd) (c : Cy), J.snd[i]? = some s → cs[i]? = some c → (s.p, CH c) ∈ xs ∧ c.Ok
  ring : ∀ n, n ∈ J.notes → ∃ r : Rg, (n.2, r.A) ∈ xs ∧ RgOk r ∧ r.lost ≤ K
theorem ch_ne (c : Cy) (r : Rg) : CH c ≠ r.A := fun h => by
  have := congrArg List.length h
  simp [CH, Rg.A] at this
theorem put_ok' {r : Rg} (h : RgOk r) (f : Nt) {K : Int} (hl : r.lost ≤ K) (hK : K < 1099511627776) : RgOk (r.put f) ∧ (r.put f).lost ≤ K + 1 := by
  have hc := h.c
  have hf := h.f
  have hm := h.m
  have hlo := h.l
  unfold Rg.put
  split
  · exact ⟨⟨hc, hf, hm, by simp only []; omega⟩, by simp only []; omega⟩
  · exact ⟨⟨by simpa using hc, by simpa using hf, by simp only [List.length_set]; omega, hlo⟩, by simp only []; omega⟩
theorem lookN_mem {l : List (Int × (Nat × Nat))} {sock : Int} {p : Nat × Nat} (h : lookN l sock = some p) : ∃ n, n ∈ l ∧ n.2 = p := by
  unfold lookN at h
  cases hf : l.find? fun n => decide (n.1 = sock) with
  | none => rw [hf] at h; cases h
  | some n => rw [hf] at h; cases h; exact ⟨n, List.mem_of_find?_eq_some hf, rfl⟩
/-- Telling, whether the socket has a row or not. -/
theorem tellAny (J : Jo) (xs : List Go.SB.Item) (cs : List Cy) (K : Int) (h : PI J xs cs K) (hK : 0 ≤ K ∧ K < 1000000000) (sock : Int) (n : Nt) :
    ACall Try.prog f_bcm_Jobs_tell [.ptr 0 0, .int .i64 sock, .agg n.av] (JO J xs) fun v A => v = .tup [] ∧ ∃ J' xs', J'.snd = J.snd ∧ J'.wat = J.wat ∧ J'.room = J.room ∧ PI J' xs' cs (K + 1) ∧ A = JO J' xs' := by
  refine ACall.dist (l := 1) (xs := xs) (callOk_of Try.func76 (by kernel_rfl) (by kernel_rfl)) rfl fun hn => ?_
  cases hp : lookN J.notes sock with
  | none =>
    refine (tell_new J xs sock n hp).mono ?_
    rintro v A ⟨p, rfl, rfl⟩
    refine ⟨rfl, { J with notes := J.notes ++ [(sock, p)] }, tellX xs J.room p n, rfl, rfl, rfl, ⟨h.len, h.nd, fun i s c h1 h2 => ?_, fun m hm => ?_⟩, rfl⟩
    · obtain ⟨q1, q2⟩ := h.has i s c h1 h2
      exact ⟨List.mem_append_left _ q1, q2⟩
    · rcases List.mem_append.1 hm with hm | hm
      · obtain ⟨r, q1, q2, q3⟩ := h.ring m hm
        exact ⟨r, List.mem_append_left _ q1, q2, by omega⟩
      · rw [List.mem_singleton.1 hm]
        obtain ⟨q1, q2⟩ := put_ok' (rgNew_ok J.room) n (K := 0) (Int.le_refl 0) (by decide)
        exact ⟨_, List.mem_append_right _ (List.mem_singleton.2 rfl), q1, by omega⟩
  | some p =>
    obtain ⟨m, hm, rfl⟩ := lookN_mem hp
    obtain ⟨r, r1, r2, r3⟩ := h.ring m hm
    obtain ⟨q1, q2⟩ := put_ok' r2 n r3 (by omega)
    refine (tell_ok J xs sock n m.2 hp r r1 r2 hn).mono ?_
    rintro v A ⟨rfl, rfl⟩
    refine ⟨rfl, J, upd xs m.2 (r.put n).A, rfl, rfl, rfl, ⟨h.len, h.nd, fun i s c h1 h2 => ?_, fun m2 hm2 => ?_⟩, rfl⟩
    · obtain ⟨z1, z2⟩ := h.has i s c h1 h2
      refine ⟨mem_upd_ne z1 fun e => ?_, z2⟩
      rw [e] at z1
      exact ch_ne c r (pool_one hn z1 r1)
    · obtain ⟨r', z1, z2, z3⟩ := h.ring m2 hm2
      by_cases e : m2.2 = m.2
      · rw [e]
        exact ⟨_, mem_upd r1, q1, q2⟩
      · exact ⟨r', mem_upd_ne z1 e, z2, by omega⟩
end Go.Proofs.Ytapoilcpollmpaa
end

/- bcm: ticking. -/
section
namespace Go.Proofs.Ytapoilcpollmpaa
open Go.SB
attribute [local irreducible] HW HSS HAS HRQ HEO HOP HCK
set_option maxRecDepth 100000
set_option maxHeartbeats 1000000
set_option linter.unusedSimpArgs false
set_option pp.deepTerms.threshold 6
attribute [local go_sem high] own_ren rp_ren rp_cells rp_one

theorem Cy.Ok.turn {c : Cy} (h : c.Ok) : (turnC c).Ok := by
  obtain ⟨hj, hl, ha⟩ := h
  have hL := hj.l
  refine ⟨hj, hl, ?_⟩
  unfold turnC
  simp only []
  rw [Int.tmod_eq_emod_of_nonneg (by omega)]
  exact ⟨Int.emod_nonneg _ (by omega), Int.emod_lt_of_pos _ (by omega)⟩
theorem Cy.Ok.beg {c : Cy} (h : c.Ok) : c.begC.Ok := by
  unfold Cy.begC
  split
  · exact Cy.Ok.turn (c := { c with beg := true }) ⟨h.1, h.2.1, h.2.2⟩
  · exact h
theorem Cy.Ok.tick {c : Cy} (h : c.Ok) (now : Int) : (c.tick now).Ok := by
  unfold Cy.tick Cy.fire
  split
  · refine Cy.Ok.turn ?_
    obtain ⟨hj, hl, ha⟩ := h
    refine ⟨hj, ?_, ha⟩
    show 0 ≤ (if 0 < c.left then c.left - 1 else c.left) ∧ (if 0 < c.left then c.left - 1 else c.left) ≤ 200
    split <;> omega
  · exact h
theorem PI.set {J : Jo} {xs : List Go.SB.Item} {cs : List Cy} {K : Int} (h : PI J xs cs K) (hn : (xs.map fun it => it.1.1).Nodup) {i : Nat} {s : Sd} {c c' : Cy} (hs : J.snd[i]? = some s) (hc : cs[i]? = some c) (hok : c'.Ok) : PI J (upd xs s.p (CH c')) (cs.set i c') K := by
  obtain ⟨m1, _⟩ := h.has i s c hs hc
  refine ⟨by rw [List.length_set]; exact h.len, h.nd, fun k t d ht hd => ?_, fun m hm => ?_⟩
  · by_cases e : i = k
    · subst e
      rw [hs] at ht; cases ht
      rw [List.getElem?_set_self (List.getElem?_eq_some_iff.1 hc).1] at hd; cases hd
      exact ⟨mem_upd m1, hok⟩
    · rw [List.getElem?_set_ne e] at hd
      obtain ⟨z1, z2⟩ := h.has k t d ht hd
      refine ⟨mem_upd_ne z1 fun e2 => ?_, z2⟩
      have hnd := h.nd
      rw [List.nodup_iff_pairwise_ne, List.pairwise_iff_getElem] at hnd
      have li := (List.getElem?_eq_some_iff.1 hs)
      have lk := (List.getElem?_eq_some_iff.1 ht)
      obtain ⟨li1, li2⟩ := li
      obtain ⟨lk1, lk2⟩ := lk
      rcases Nat.lt_or_gt_of_ne e with q | q
      · exact hnd i k (by simpa using li1) (by simpa using lk1) q (by rw [List.getElem_map, List.getElem_map, li2, lk2, e2])
      · exact hnd k i (by simpa using lk1) (by simpa using li1) q (by rw [List.getElem_map, List.getElem_map, li2, lk2, e2])
  · obtain ⟨r, z1, z2, z3⟩ := h.ring m hm
    refine ⟨r, mem_upd_ne z1 fun e => ?_, z2, z3⟩
    rw [e] at z1
    exact ch_ne c r (pool_one hn m1 z1)
theorem PI.mono {J : Jo} {xs : List Go.SB.Item} {cs : List Cy} {K K' : Int} (h : PI J xs cs K) (hk : K ≤ K') : PI J xs cs K' :=
  ⟨h.len, h.nd, h.has, fun n hn => by obtain ⟨r, a, b, c⟩ := h.ring n hn; exact ⟨r, a, b, by omega⟩⟩
theorem shot_flat (c : Cy) (now : Int) : AV.flatL (c.shot now) = true := by
  unfold Cy.shot
  split <;> rfl
theorem cTickP {J : Jo} {xs : List Go.SB.Item} {cs : List Cy} {K : Int} (h : PI J xs cs K) {i : Nat} {s : Sd} {c : Cy} (hs : J.snd[i]? = some s) (hc : cs[i]? = some c) (now : Int) (hw : 0 ≤ now) :
    ACall Try.prog f_cyc_Cyc_Tick [rp s.p, .int .i64 now] [some (.pool xs)] fun r B => ∃ xs', PI J xs' (cs.set i (c.tick now)) K ∧ r = .agg (c.shot now) ∧ B = [some (.pool xs')] := by
  refine ACall.dist (l := 0) (xs := xs) (callOk_of Try.func75 (by kernel_rfl) (by kernel_rfl)) rfl fun hn => ?_
  obtain ⟨m1, m2⟩ := h.has i s c hs hc
  refine (ACall.poolE m1 hn rfl (show AV.flat (.agg (c.shot now)) = true from shot_flat c now) rfl (Tick_ok c m2 now hw)).mono ?_
  rintro r B ⟨rfl, rfl⟩
  exact ⟨_, h.set hn hs hc (m2.tick now), rfl, rfl⟩
/-- What is sent. -/
def shv (x : Int × Fr) : List AV := [.int .i64 x.1, .int .i64 x.2.id, .int .i64 x.2.fl, .int .i64 x.2.len, .str x.2.data]
theorem shv_eq (x : Int × Fr) : shv x = [.int .i64 x.1, .int .i64 x.2.id, .int .i64 x.2.fl, .int .i64 x.2.len, .str x.2.data] := rfl
instance : Flt shv := ⟨fun _ => rfl⟩
instance : RowF shv 5 := ⟨fun _ => ⟨rfl, rfl⟩⟩
def cy0 : Cy := ⟨⟨0, 0, 0, 0, [], false, false⟩, 0, 0, false, 0, false⟩
def tkN (cs : List Cy) (now : Int) : Nat → List Cy
  | 0 => cs
  | i + 1 => (tkN cs now i).set i ((cs.getD i cy0).tick now)
def shN (ss : List Sd) (cs : List Cy) (now : Int) : Nat → List (Int × Fr)
  | 0 => []
  | i + 1 => shN ss cs now i ++ match ss[i]? with | some s => if (cs.getD i cy0).dueB now then [(s.sock, (cs.getD i cy0).fr)] else [] | none => []
theorem tkN_get {cs : List Cy} {now : Int} : ∀ i (j : Nat), i ≤ j → (tkN cs now i)[j]? = cs[j]?
  | 0, _, _ => rfl
  | i + 1, j, h => by rw [tkN, List.getElem?_set_ne (by omega), tkN_get i j (by omega)]
theorem shN_len {ss : List Sd} {cs : List Cy} {now : Int} : ∀ i, (shN ss cs now i).length ≤ i
  | 0 => Nat.le_refl _
  | i + 1 => by
    have := shN_len (ss := ss) (cs := cs) (now := now) i
    unfold shN
    rw [List.length_append]
    split
    · split
      · simp; omega
      · simp; omega
    · simp; omega
theorem tick_fin {A : AHeap} {v V : AV} {o : AO} {J J' : Jo} {xs' : List Go.SB.Item} {cs : List Cy} {K : Int} (e1 : J'.snd = J.snd) (e2 : J'.wat = J.wat) (e3 : J'.room = J.room) (hP : PI J' xs' cs K)
    (h : ∃ A2, Vw A A2 ∧ ∃ ks, okKeepO 2 ks = true ∧ foldVo 2 ks v = V ∧ foldAo 2 ks A2 = JH J' xs' ++ [some o]) :
    ∃ A2, Vw A A2 ∧ ∃ ks, okKeepO 2 ks = true ∧ ∃ J' xs', J'.snd = J.snd ∧ J'.wat = J.wat ∧ J'.room = J.room ∧ PI J' xs' cs K ∧ foldVo 2 ks v = V ∧ foldAo 2 ks A2 = JH J' xs' ++ [some o] := by
  obtain ⟨A2, h1, ks, h2, h3, h4⟩ := h
  exact ⟨A2, h1, ks, h2, J', xs', e1, e2, e3, hP, h3, h4⟩
theorem bTick_ok (J : Jo) (xs : List Go.SB.Item) (cs : List Cy) (K : Int) (h : PI J xs cs K) (hK : 0 ≤ K ∧ K < 900000000) (hn : J.snd.length ≤ 1000) (hwat : J.wat = []) (now : Int) (hw : 0 ≤ now) :
    ACall Try.prog f_bcm_Jobs_Tick [.ptr 0 0, .int .i64 now] (JH J xs) fun v A => ∃ J' xs', J'.snd = J.snd ∧ J'.wat = J.wat ∧ J'.room = J.room ∧ PI J' xs' (tkN cs now J.snd.length) (K + J.snd.length) ∧
      v = .sl 2 5 0 (shN J.snd cs now J.snd.length).length false ∧ A = JH J' xs' ++ [some (.arr (rows shv (shN J.snd cs now J.snd.length)))] := by
  refine acallV ok_bcm_Jobs_Tick (JO.opn J xs) ?_
  rw [show (JH J xs).length = 2 from rfl]
  have hr := trivial
  try simp -dsimp -implicitDefEqProofs (maxSteps := 1000000) (disch := first | exact dis | fail) only [hc_bcm_Jobs_Tick, JO, go_sem]
  repeat' ((first | (with_reducible first | refine w_if ?_ ?_ | refine w_gt ?_ ?_ | refine w_gf ?_ ?_ | refine w_io ?_ ?_ | refine w_gdt ?_ ?_ | refine w_gdf ?_ ?_ | refine w_ite ?_ ?_) <;> intro h <;> (try rw [h]) <;> replace hr := And.intro h hr <;> replace h := nrm h <;> try (first | (exfalso; omega) | exact (bx h (by assumption)).elim | exact (bx (by assumption) h).elim) | ((with_reducible refine And.intro ?_ ?_); (focus omega))) <;> try simp -dsimp -implicitDefEqProofs (maxSteps := 1000000) (disch := first | exact dis | fail) only [JO, go_sem])
  unfold hc_bcm_Jobs_Tick_l1
  refine hw_loopN J.snd.length (fun i ρ A => ∃ J' xs', J'.snd = J.snd ∧ J'.wat = J.wat ∧ J'.room = J.room ∧ PI J' xs' (tkN cs now i) (K + i) ∧
    ρ = rg 30 [(0, .ptr 0 0), (1, .int .i64 now), (3, .sl 5 5 0 (shN J.snd cs now i).length false), (9, .sl 2 3 0 J.snd.length false), (10, .int .i64 J.snd.length), (11, .int .i64 i)] ∧ A = JO J' xs' ++ [some (.arr (rows shv (shN J.snd cs now i)))]) [(3, 5)] ?_ ⟨none, rfl, J, xs, rfl, rfl, rfl, by simpa [tkN] using h, ?_, ?_⟩ ?_
  · simp only [nlOk, isNils, go_sem]
  · simp only [nlR, foldRo, go_sem]; rfl
  · rfl
  rintro i ρ A hi ⟨J', xs', e1, e2, e3, hP, rfl, rfl⟩
  have hsl := shN_len (ss := J.snd) (cs := cs) (now := now) i
  by_cases hlt : i < J.snd.length
  · have hx : J'.snd[i]? = some (J'.snd[i]'(by rw [e1]; exact hlt)) := List.getElem?_eq_getElem _
    generalize J'.snd[i]'(by rw [e1]; exact hlt) = s at hx
    have hcl : i < cs.length := by have := hP.len; have := h.len; omega
    have hc : cs[i]? = some (cs.getD i cy0) := by rw [List.getD, List.getElem?_eq_getElem hcl]; rfl
    have hc2 : (tkN cs now i)[i]? = some (cs.getD i cy0) := by rw [tkN_get i i (Nat.le_refl _), hc]
    have ht : tkN cs now (i + 1) = (tkN cs now i).set i ((cs.getD i cy0).tick now) := rfl
    have hsh : shN J.snd cs now (i + 1) = shN J.snd cs now i ++ if (cs.getD i cy0).dueB now then [(s.sock, (cs.getD i cy0).fr)] else [] := by
      rw [e1] at hx
      simp only [shN, hx]
    have hT := cTickP hP hx hc2 now hw
    rw [← ht] at hT
    generalize cs.getD i cy0 = c at hT hsh
    have hx2 := hx
    rw [e1] at hx2
    cases hd : c.dueB now
    · have e4 : c.shot now = [.int .i64 0, .int .i64 0, .int .i64 0, .str [], .bool false, .bool false] := by simp [Cy.shot, hd]
      rw [e4] at hT
      rw [hd] at hsh
      simp only [Bool.false_eq_true, if_false, List.append_nil] at hsh
      have hr := trivial
      try simp -dsimp -implicitDefEqProofs (maxSteps := 1000000) (disch := first | exact dis | fail) only [hc_bcm_Jobs_Tick_b1, JO, e1, Int.toNat_natCast, rows_get, hx2, sdv_eq, go_sem]
      repeat' ((first | (with_reducible first | refine w_if ?_ ?_ | refine w_gt ?_ ?_ | refine w_gf ?_ ?_ | refine w_io ?_ ?_ | refine w_gdt ?_ ?_ | refine w_gdf ?_ ?_ | refine w_ite ?_ ?_) <;> intro h <;> (try rw [h]) <;> replace hr := And.intro h hr <;> replace h := nrm h <;> try (first | (exfalso; omega) | exact (bx h (by assumption)).elim | exact (bx (by assumption) h).elim) | ((with_reducible refine And.intro ?_ ?_); (focus omega))) <;> try simp -dsimp -implicitDefEqProofs (maxSteps := 1000000) (disch := first | exact dis | fail) only [JO, e1, Int.toNat_natCast, rows_get, hx2, sdv_eq, go_sem])
      refine hT.at' [1] (by decide) rfl (by simp only [standsL, go_sem]) rfl ?_
      rintro v A ⟨xs2, hP2, rfl, rfl⟩
      have hr := trivial
      try simp -dsimp -implicitDefEqProofs (maxSteps := 1000000) (disch := first | exact dis | fail) only [sdv_eq, go_sem]
      repeat' ((first | (with_reducible first | refine w_if ?_ ?_ | refine w_gt ?_ ?_ | refine w_gf ?_ ?_ | refine w_io ?_ ?_ | refine w_gdt ?_ ?_ | refine w_gdf ?_ ?_ | refine w_ite ?_ ?_) <;> intro h <;> (try rw [h]) <;> replace hr := And.intro h hr <;> replace h := nrm h <;> try (first | (exfalso; omega) | exact (bx h (by assumption)).elim | exact (bx (by assumption) h).elim) | ((with_reducible refine And.intro ?_ ?_); (focus omega))) <;> try simp -dsimp -implicitDefEqProofs (maxSteps := 1000000) (disch := first | exact dis | fail) only [sdv_eq, go_sem])
      refine ⟨some [2, 3, 4, 5], rfl, J', xs2, e1, e2, e3, hP2.mono (by omega), ?_, ?_⟩
      · simp only [foldR_eq, go_sem, hsh]; rfl
      · simp only [foldA_eq, go_sem, notes_ren, hsh, JO, e1, e2, e3, List.cons_append, List.nil_append]
    · have e4 : c.shot now = c.fr.av ++ [.bool true, .bool c.overB] := by simp [Cy.shot, hd]
      rw [e4] at hT
      rw [hd] at hsh
      simp only [if_true] at hsh
      generalize c.fr = f at hT hsh
      have hsn : rows shv (shN J.snd cs now i) ++ [[.int .i64 s.sock, .int .i64 f.id, .int .i64 f.fl, .int .i64 f.len, .str f.data]] = rows shv (shN J.snd cs now i ++ [(s.sock, f)]) := by simp [rows, shv]
      simp only [List.cons_append, List.nil_append] at hT
      cases ho : c.overB
      · rw [ho] at hT
        have hr := trivial
        try simp -dsimp -implicitDefEqProofs (maxSteps := 1000000) (disch := first | exact dis | fail) only [hc_bcm_Jobs_Tick_b1, JO, e1, Int.toNat_natCast, rows_get, hx2, sdv_eq, go_sem]
        repeat' ((first | (with_reducible first | refine w_if ?_ ?_ | refine w_gt ?_ ?_ | refine w_gf ?_ ?_ | refine w_io ?_ ?_ | refine w_gdt ?_ ?_ | refine w_gdf ?_ ?_ | refine w_ite ?_ ?_) <;> intro h <;> (try rw [h]) <;> replace hr := And.intro h hr <;> replace h := nrm h <;> try (first | (exfalso; omega) | exact (bx h (by assumption)).elim | exact (bx (by assumption) h).elim) | ((with_reducible refine And.intro ?_ ?_); (focus omega))) <;> try simp -dsimp -implicitDefEqProofs (maxSteps := 1000000) (disch := first | exact dis | fail) only [JO, e1, Int.toNat_natCast, rows_get, hx2, sdv_eq, go_sem])
        refine hT.at' [1] (by decide) rfl (by simp only [standsL, go_sem]) rfl ?_
        rintro v A ⟨xs2, hP2, rfl, rfl⟩
        have hlf : (rows shv (shN J.snd cs now i)).length = (shN J.snd cs now i).length := rows_length
        have hr := trivial
        try simp -dsimp -implicitDefEqProofs (maxSteps := 1000000) (disch := first | exact dis | fail) only [sdv_eq, appF_full hlf, go_sem]
        repeat' ((first | (with_reducible first | refine w_if ?_ ?_ | refine w_gt ?_ ?_ | refine w_gf ?_ ?_ | refine w_io ?_ ?_ | refine w_gdt ?_ ?_ | refine w_gdf ?_ ?_ | refine w_ite ?_ ?_) <;> intro h <;> (try rw [h]) <;> replace hr := And.intro h hr <;> replace h := nrm h <;> try (first | (exfalso; omega) | exact (bx h (by assumption)).elim | exact (bx (by assumption) h).elim) | ((with_reducible refine And.intro ?_ ?_); (focus omega))) <;> try simp -dsimp -implicitDefEqProofs (maxSteps := 1000000) (disch := first | exact dis | fail) only [sdv_eq, appF_full hlf, go_sem])
        refine ⟨some [2, 3, 4, 9], rfl, J', xs2, e1, e2, e3, hP2.mono (by omega), ?_, ?_⟩
        · simp only [foldR_eq, go_sem, hsh, List.length_append, List.length_singleton]; rfl
        · simp only [foldA_eq, go_sem, notes_ren, hsn, hsh, JO, e1, e2, e3, List.cons_append, List.nil_append]
      · rw [ho] at hT
        have hr := trivial
        try simp -dsimp -implicitDefEqProofs (maxSteps := 1000000) (disch := first | exact dis | fail) only [hc_bcm_Jobs_Tick_b1, JO, e1, Int.toNat_natCast, rows_get, hx2, sdv_eq, go_sem]
        repeat' ((first | (with_reducible first | refine w_if ?_ ?_ | refine w_gt ?_ ?_ | refine w_gf ?_ ?_ | refine w_io ?_ ?_ | refine w_gdt ?_ ?_ | refine w_gdf ?_ ?_ | refine w_ite ?_ ?_) <;> intro h <;> (try rw [h]) <;> replace hr := And.intro h hr <;> replace h := nrm h <;> try (first | (exfalso; omega) | exact (bx h (by assumption)).elim | exact (bx (by assumption) h).elim) | ((with_reducible refine And.intro ?_ ?_); (focus omega))) <;> try simp -dsimp -implicitDefEqProofs (maxSteps := 1000000) (disch := first | exact dis | fail) only [JO, e1, Int.toNat_natCast, rows_get, hx2, sdv_eq, go_sem])
        refine hT.at' [1] (by decide) rfl (by simp only [standsL, go_sem]) rfl ?_
        rintro v A ⟨xs2, hP2, rfl, rfl⟩
        have hlf : (rows shv (shN J.snd cs now i)).length = (shN J.snd cs now i).length := rows_length
        have hQ := tellAny J' xs2 _ _ hP2 (by omega) s.sock ⟨3, s.id, f, now⟩
        have hr := trivial
        try simp -dsimp -implicitDefEqProofs (maxSteps := 1000000) (disch := first | exact dis | fail) only [sdv_eq, appF_full hlf, go_sem]
        repeat' ((first | (with_reducible first | refine w_if ?_ ?_ | refine w_gt ?_ ?_ | refine w_gf ?_ ?_ | refine w_io ?_ ?_ | refine w_gdt ?_ ?_ | refine w_gdf ?_ ?_ | refine w_ite ?_ ?_) <;> intro h <;> (try rw [h]) <;> replace hr := And.intro h hr <;> replace h := nrm h <;> try (first | (exfalso; omega) | exact (bx h (by assumption)).elim | exact (bx (by assumption) h).elim) | ((with_reducible refine And.intro ?_ ?_); (focus omega))) <;> try simp -dsimp -implicitDefEqProofs (maxSteps := 1000000) (disch := first | exact dis | fail) only [sdv_eq, appF_full hlf, go_sem])
        refine hQ.at' [0, 1, 2, 3, 4] (by decide) rfl (by simp only [standsL, JO, e1, notes_ren, go_sem]) rfl ?_
        rintro v A ⟨rfl, J2, xs3, q1, q2, q3, hP3, rfl⟩
        rw [e1] at q1
        have hr := trivial
        try simp -dsimp -implicitDefEqProofs (maxSteps := 1000000) (disch := first | exact dis | fail) only [JO, notes_ren, q1, go_sem]
        repeat' ((first | (with_reducible first | refine w_if ?_ ?_ | refine w_gt ?_ ?_ | refine w_gf ?_ ?_ | refine w_io ?_ ?_ | refine w_gdt ?_ ?_ | refine w_gdf ?_ ?_ | refine w_ite ?_ ?_) <;> intro h <;> (try rw [h]) <;> replace hr := And.intro h hr <;> replace h := nrm h <;> try (first | (exfalso; omega) | exact (bx h (by assumption)).elim | exact (bx (by assumption) h).elim) | ((with_reducible refine And.intro ?_ ?_); (focus omega))) <;> try simp -dsimp -implicitDefEqProofs (maxSteps := 1000000) (disch := first | exact dis | fail) only [JO, notes_ren, q1, go_sem])
        refine ⟨some [2, 3, 4, 9], rfl, J2, xs3, q1, q2.trans e2, q3.trans e3, hP3.mono (by omega), ?_, ?_⟩
        · simp only [foldR_eq, go_sem, hsh, List.length_append, List.length_singleton]; rfl
        · simp only [foldA_eq, go_sem, notes_ren, hsn, hsh, JO, q1, List.cons_append, List.nil_append]
  · obtain rfl : i = J.snd.length := by omega
    have hw0 : J'.wat.length = 0 := by rw [e2, hwat]; rfl
    have hr := trivial
    try simp -dsimp -implicitDefEqProofs (maxSteps := 1000000) (disch := first | exact dis | fail) only [hc_bcm_Jobs_Tick_b1, JO, e1, hw0, go_sem]
    repeat' ((first | (with_reducible first | refine w_if ?_ ?_ | refine w_gt ?_ ?_ | refine w_gf ?_ ?_ | refine w_io ?_ ?_ | refine w_gdt ?_ ?_ | refine w_gdf ?_ ?_ | refine w_ite ?_ ?_) <;> intro h <;> (try rw [h]) <;> replace hr := And.intro h hr <;> replace h := nrm h <;> try (first | (exfalso; omega) | exact (bx h (by assumption)).elim | exact (bx (by assumption) h).elim) | ((with_reducible refine And.intro ?_ ?_); (focus omega))) <;> try simp -dsimp -implicitDefEqProofs (maxSteps := 1000000) (disch := first | exact dis | fail) only [JO, e1, hw0, go_sem])
    unfold hc_bcm_Jobs_Tick_l3
    refine hw_loop 0 (fun k ρ A => k = 0 ∧ ρ = rg 30 [(0, .ptr 0 0), (1, .int .i64 now), (3, .sl 5 5 0 (shN J.snd cs now J.snd.length).length false), (20, .sl 3 5 0 0 false), (21, .int .i64 0), (22, .int .i64 0)] ∧ A = JO J' xs' ++ [some (.arr (rows shv (shN J.snd cs now J.snd.length)))]) ⟨none, rfl, rfl, by simp only [foldRn, go_sem], by simp only [foldAn, JO, e1, hw0]; rfl⟩ ?_
    rintro k ρ A hk0 ⟨rfl, rfl, rfl⟩
    have hr := trivial
    try simp -dsimp -implicitDefEqProofs (maxSteps := 1000000) (disch := first | exact dis | fail) only [hc_bcm_Jobs_Tick_b3, JO, e1, hw0, go_sem]
    repeat' ((first | (with_reducible first | refine w_if ?_ ?_ | refine w_gt ?_ ?_ | refine w_gf ?_ ?_ | refine w_io ?_ ?_ | refine w_gdt ?_ ?_ | refine w_gdf ?_ ?_ | refine w_ite ?_ ?_) <;> intro h <;> (try rw [h]) <;> replace hr := And.intro h hr <;> replace h := nrm h <;> try (first | (exfalso; omega) | exact (bx h (by assumption)).elim | exact (bx (by assumption) h).elim) | ((with_reducible refine And.intro ?_ ?_); (focus omega))) <;> try simp -dsimp -implicitDefEqProofs (maxSteps := 1000000) (disch := first | exact dis | fail) only [JO, e1, hw0, go_sem])
    refine tick_fin e1 e2 e3 hP ?_
    exact jo_fin1 (J := J') (k := 5) rfl rfl rfl rfl rfl rfl (by rw [e1]; exact rows_all) (by rw [rows_length]; exact Nat.le_refl _) (by decide) (by decide) (by decide) hw0.symm (by simp only [go_sem]) rfl
end Go.Proofs.Ytapoilcpollmpaa
end

/- bcm: stopping a job of sending, and jobs that are refused. -/
section
namespace Go.Proofs.Ytapoilcpollmpaa
open Go.SB
attribute [local irreducible] HW HSS HAS HRQ HEO HOP HCK
set_option maxRecDepth 100000
set_option maxHeartbeats 1000000
set_option linter.unusedSimpArgs false
set_option pp.deepTerms.threshold 6
attribute [local go_sem high] own_ren rp_ren rp_cells rp_one

theorem TxStop_ok (J : Jo) (xs : List Go.SB.Item) (sock id : Int) (hn : J.snd.length ≤ 900) :
    ACall Try.prog f_bcm_Jobs_TxStop [.ptr 0 0, .int .i64 sock, .int .i64 id] (JH J xs) fun v A => v = .int .i64 (if (J.snd.filter fun c => !isS sock id c).length = J.snd.length then 11 else 0) ∧ A = JH { J with snd := J.snd.filter fun c => !isS sock id c } xs := by
  refine acallV ok_bcm_Jobs_TxStop (JO.opn J xs) ?_
  rw [show (JH J xs).length = 2 from rfl]
  have hD := DeleteSd2_ok f_bcm_Jobs_TxStop_1 (.cells [.int .i64 sock]) (.cells [.int .i64 id]) (fun _ => rfl) (fun _ => rfl) (isS sock id) (TxStop1_ok sock id) J.snd (by omega)
  have hl : (J.snd.filter fun c => !isS sock id c).length ≤ 900 := Nat.le_trans (List.length_filter_le _ _) hn
  generalize (J.snd.filter fun c => !isS sock id c) = ys at hl hD ⊢
  have tk : ∀ n, (rows sdo (padSd ys n)).take ys.length = rows sdv ys := fun n => padSd_take.symm
  have hr := trivial
  try simp -dsimp -implicitDefEqProofs (maxSteps := 1000000) (disch := first | exact dis | fail) only [hc_bcm_Jobs_TxStop, JO, go_sem]
  repeat' ((first | (with_reducible first | refine w_if ?_ ?_ | refine w_gt ?_ ?_ | refine w_gf ?_ ?_ | refine w_io ?_ ?_ | refine w_gdt ?_ ?_ | refine w_gdf ?_ ?_ | refine w_ite ?_ ?_) <;> intro h <;> (try rw [h]) <;> replace hr := And.intro h hr <;> replace h := nrm h <;> try (first | (exfalso; omega) | exact (bx h (by assumption)).elim | exact (bx (by assumption) h).elim) | ((with_reducible refine And.intro ?_ ?_); (focus omega))) <;> try simp -dsimp -implicitDefEqProofs (maxSteps := 1000000) (disch := first | exact dis | fail) only [JO, go_sem])
  refine hD.at' [2, 5, 6] (by decide) rfl (by simp only [standsL, go_sem]) rfl ?_
  rintro v A ⟨rfl, n, rfl⟩
  by_cases h0 : ys.length = J.snd.length
  · rw [if_pos h0]
    have hr := trivial
    try simp -dsimp -implicitDefEqProofs (maxSteps := 1000000) (disch := first | exact dis | fail) only [h0, go_sem]
    repeat' ((first | (with_reducible first | refine w_if ?_ ?_ | refine w_gt ?_ ?_ | refine w_gf ?_ ?_ | refine w_io ?_ ?_ | refine w_gdt ?_ ?_ | refine w_gdf ?_ ?_ | refine w_ite ?_ ?_) <;> intro h <;> (try rw [h]) <;> replace hr := And.intro h hr <;> replace h := nrm h <;> try (first | (exfalso; omega) | exact (bx h (by assumption)).elim | exact (bx (by assumption) h).elim) | ((with_reducible refine And.intro ?_ ?_); (focus omega))) <;> try simp -dsimp -implicitDefEqProofs (maxSteps := 1000000) (disch := first | exact dis | fail) only [h0, go_sem])
    exact jo_fin (J := { J with snd := ys }) (n1 := J.snd.length) rfl rfl rfl rfl rfl (by rw [← h0]; exact padSd_take) (by rw [rows_length, padSd_len]; omega) (by decide) (by decide) rfl rfl
  · rw [if_neg h0]
    have hr := trivial
    try simp -dsimp -implicitDefEqProofs (maxSteps := 1000000) (disch := first | exact dis | fail) only [h0, go_sem]
    repeat' ((first | (with_reducible first | refine w_if ?_ ?_ | refine w_gt ?_ ?_ | refine w_gf ?_ ?_ | refine w_io ?_ ?_ | refine w_gdt ?_ ?_ | refine w_gdf ?_ ?_ | refine w_ite ?_ ?_) <;> intro h <;> (try rw [h]) <;> replace hr := And.intro h hr <;> replace h := nrm h <;> try (first | (exfalso; omega) | exact (bx h (by assumption)).elim | exact (bx (by assumption) h).elim) | ((with_reducible refine And.intro ?_ ?_); (focus omega))) <;> try simp -dsimp -implicitDefEqProofs (maxSteps := 1000000) (disch := first | exact dis | fail) only [h0, go_sem])
    exact jo_fin (J := { J with snd := ys }) rfl rfl rfl rfl rfl padSd_take (by rw [rows_length, padSd_len]; omega) (by decide) (by decide) rfl rfl
theorem TxE_ok (J : Jo) (xs : List Go.SB.Item) (sock : Int) (hs : 0 ≤ sock ∧ sock < 100) (j : Jb) (he : jobE j ≠ 0) :
    ACall Try.prog f_bcm_Jobs_Tx [.ptr 0 0, .int .i64 sock, .agg j.av, .int .i64 0] (JH J xs) fun v A => v = .tup [.nils, .int .i64 (jobE j)] ∧ A = JH J xs := by
  refine acallV ok_bcm_Jobs_Tx (JO.opn J xs) ?_
  rw [show (JH J xs).length = 2 from rfl]
  have hR := right_ok sock
  have hN := NewE_ok j 0 (.inr he)
  rw [show cntB 0 = true from rfl, if_pos rfl] at hN
  have hr := trivial
  try simp -dsimp -implicitDefEqProofs (maxSteps := 1000000) (disch := first | exact dis | fail) only [hc_bcm_Jobs_Tx, JO, Jb.av, hs.1, hs.2, he, go_sem]
  repeat' ((first | (with_reducible refine PCall.aci hR ?_) | (with_reducible refine PCall.aci hN ?_) | (with_reducible first | refine w_if ?_ ?_ | refine w_gt ?_ ?_ | refine w_gf ?_ ?_ | refine w_io ?_ ?_ | refine w_gdt ?_ ?_ | refine w_gdf ?_ ?_ | refine w_ite ?_ ?_) <;> intro h <;> (try rw [h]) <;> replace hr := And.intro h hr <;> replace h := nrm h <;> try (first | (exfalso; omega) | exact (bx h (by assumption)).elim | exact (bx (by assumption) h).elim) | ((with_reducible refine And.intro ?_ ?_); (focus omega))) <;> try simp -dsimp -implicitDefEqProofs (maxSteps := 1000000) (disch := first | exact dis | fail) only [JO, Jb.av, hs.1, hs.2, he, go_sem])
  exact jo_fin (J := J) rfl rfl rfl rfl rfl rows_all (by rw [rows_length]; exact Nat.le_refl _) (by decide) (by decide) rfl rfl
end Go.Proofs.Ytapoilcpollmpaa
end
