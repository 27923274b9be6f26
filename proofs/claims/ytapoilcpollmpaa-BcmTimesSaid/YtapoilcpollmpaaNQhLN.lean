/- QhL, QhM, QhN, put together. Conditions: none. -/
import Derived.Test.YtapoilcpollmpaaNQhIK
/- BcmTimes: the plain law of a job's times, tick by tick. -/
section
namespace Go.Proofs.Ytapoilcpollmpaa
open Go.SB
set_option linter.unusedSimpArgs false

/-- The job, so many times having come. -/
def cyK (j : Jb) (k : Nat) (at' : Int) (beg : Bool) : Cy := ⟨j, max (j.n - k) 0, D j 0 (k + 1), decide (0 < incJ j k), at', beg⟩
theorem D_0 {j : Jb} (hj : JOk j) : D j 0 0 = 0 := by
  have hn := hj.n
  unfold D
  rw [show min ((0 : Nat) : Int) j.n = 0 by omega, show max (((0 : Nat) : Int) - j.n) 0 = 0 by omega]; simp
theorem cyK_0 {j : Jb} (hj : JOk j) : newC j 0 = cyK j 0 0 false := by
  have hn := hj.n
  have h := D_step j 0 0
  rw [D_0 hj] at h
  unfold newC planC cyK
  rw [h]
  have e : max (j.n - ((0 : Nat) : Int)) 0 = j.n := by omega
  rw [e]
  unfold incJ
  simp
theorem cyK_beg (j : Jb) (k : Nat) (at' : Int) (beg : Bool) : ∃ a b, (cyK j k at' beg).begC = cyK j k a b := by
  unfold Cy.begC
  split
  · exact ⟨(at' + 1).tmod j.frs.length, true, rfl⟩
  · exact ⟨at', beg, rfl⟩
theorem cyK_fire {j : Jb} (hj : JOk j) (k : Nat) (at' : Int) (beg : Bool) (hf : D j 0 (k + 1) ≤ 2305843009213693952) (hd : (cyK j k at' beg).dueB (D j 0 (k + 1)) = true) :
    (cyK j k at' beg).tick (D j 0 (k + 1)) = cyK j (k + 1) ((at' + 1).tmod j.frs.length) beg := by
  have hn := hj.n
  have h := D_step j 0 (k + 1)
  have e : (if 0 < max (j.n - (k : Int)) 0 then max (j.n - (k : Int)) 0 - 1 else max (j.n - (k : Int)) 0) = max (j.n - ((k + 1 : Nat) : Int)) 0 := by split <;> omega
  have em : min (D j 0 (k + 1)) 2305843009213693952 = D j 0 (k + 1) := by omega
  rw [Cy.tick, if_pos hd]
  unfold Cy.fire turnC planC Cy.lessC cyK
  simp only [e, em, h]
  have e2 : (if 0 < max (j.n - ((k + 1 : Nat) : Int)) 0 then j.first else j.second) = incJ j (k + 1) := by
    unfold incJ
    by_cases h3 : ((k + 1 : Nat) : Int) < j.n
    · rw [if_pos h3, if_pos (by omega)]
    · rw [if_neg h3, if_neg (by omega)]
  rw [e2]
theorem inc_nn {j : Jb} (hj : JOk j) (k : Nat) : 0 ≤ incJ j k := by
  have := hj.f
  have := hj.s
  unfold incJ; split <;> omega
/-- So many ticks, so many times. -/
structure XI (j : Jb) (t k : Nat) (xs : List Int) : Prop where
  len : xs.length = k
  kt : k ≤ t
  all : ∀ e : Int, (t : Int) ≤ e → times j 0 e = xs ++ goT j 0 e (1000 - k) (k + 1)
  le : ∀ x, x ∈ xs → x ≤ t
  due : 0 < incJ j k → (t : Int) < D j 0 (k + 1)
theorem XI.start {j : Jb} (hj : JOk j) : XI j 0 0 [] :=
  ⟨rfl, Nat.le_refl _, fun _ _ => rfl, fun x h => (by cases h), fun h => by have := D_step j 0 0; rw [D_0 hj] at this; omega⟩
theorem XI.fire {j : Jb} (hj : JOk j) {t k : Nat} {xs : List Int} (h : XI j t k xs) (hk : t < 900) (hi : 0 < incJ j k) (hd : D j 0 (k + 1) ≤ ((t + 1 : Nat) : Int)) : D j 0 (k + 1) = ((t + 1 : Nat) : Int) ∧ XI j (t + 1) (k + 1) (xs ++ [((t + 1 : Nat) : Int)]) := by
  have hd2 := h.due hi
  have hkt := h.kt
  have e : D j 0 (k + 1) = ((t + 1 : Nat) : Int) := by omega
  have htm := tm_eq hj 0 k
  rw [if_pos hi, e] at htm
  refine ⟨e, ⟨by rw [List.length_append, h.len]; rfl, by omega, fun e2 he => ?_, fun x hx => ?_, fun hi2 => ?_⟩⟩
  · rw [h.all e2 (by omega), show 1000 - k = (1000 - (k + 1)) + 1 by omega, goT, htm, if_neg (by omega)]
    simp
  · rcases List.mem_append.1 hx with hx | hx
    · have := h.le x hx; omega
    · rw [List.mem_singleton.1 hx]; omega
  · have := D_step j 0 (k + 1)
    omega
theorem XI.wait {j : Jb} {t k : Nat} {xs : List Int} (h : XI j t k xs) (hd : 0 < incJ j k → ((t + 1 : Nat) : Int) < D j 0 (k + 1)) : XI j (t + 1) k xs :=
  ⟨h.len, by have := h.kt; omega, fun e he => h.all e (by omega), fun x hx => by have := h.le x hx; omega, hd⟩
theorem goT_ge {j : Jb} (hj : JOk j) (e : Int) : ∀ f k x, x ∈ goT j 0 e f (k + 1) → 0 < incJ j k ∧ D j 0 (k + 1) ≤ x
  | 0, _, _, h => by cases h
  | f + 1, k, x, h => by
    have htm := tm_eq hj 0 k
    have hst := D_step j 0 (k + 1)
    have hnn := inc_nn hj (k + 1)
    unfold goT at h
    split at h
    · cases h
    · rename_i hc
      by_cases hi : 0 < incJ j k
      · rw [if_pos hi] at htm
        rcases List.mem_cons.1 h with rfl | h
        · exact ⟨hi, by rw [htm]; exact Int.le_refl _⟩
        · have := goT_ge hj e f (k + 1) x h
          exact ⟨hi, by omega⟩
      · rw [if_neg hi] at htm
        exact absurd (.inl (by rw [htm]; decide)) hc
theorem XI.stop {j : Jb} (hj : JOk j) {s k : Nat} {xs : List Int} (h : XI j s k xs) {e : Int} (he : (s : Int) ≤ e) : (times j 0 e).filter (fun x => decide (x ≤ (s : Int))) = xs := by
  rw [h.all e he, List.filter_append]
  have h1 : xs.filter (fun x => decide (x ≤ (s : Int))) = xs := List.filter_eq_self.2 fun x hx => by simpa using h.le x hx
  have h2 : (goT j 0 e (1000 - k) (k + 1)).filter (fun x => decide (x ≤ (s : Int))) = [] := List.filter_eq_nil_iff.2 fun x hx => by
    obtain ⟨q1, q2⟩ := goT_ge hj e _ _ x hx
    have := h.due q1
    simp only [decide_eq_true_eq]
    omega
  rw [h1, h2, List.append_nil]
theorem XI.done {j : Jb} (hj : JOk j) {t k : Nat} {xs : List Int} (h : XI j t k xs) : times j 0 t = xs := by
  have h1 := h.stop hj (Int.le_refl _)
  rw [← h1]
  refine (List.filter_eq_self.2 fun x hx => ?_).symm
  simp only [decide_eq_true_eq]
  have : ∀ f k x, x ∈ goT j 0 t f k → x ≤ t := fun f => by
    induction f with
    | zero => intro k x h; cases h
    | succ f ih =>
      intro k x h
      unfold goT at h
      split at h
      · cases h
      · rcases List.mem_cons.1 h with rfl | h
        · omega
        · exact ih _ _ h
  exact this _ _ _ hx
/-- The times that are wanted. -/
def wantB (stop x : Int) : Bool := decide (x ≤ stop) || decide (stop < 1)
/-- Which shots are of a socket. -/
def of3 (x : Int × Fr) : Bool := decide (x.1 = 3)
theorem shN_no {ss : List Sd} {cs : List Cy} {now : Int} (h : ∀ s, s ∈ ss → s.sock ≠ 3) : ∀ i, (shN ss cs now i).filter of3 = []
  | 0 => rfl
  | i + 1 => by
    unfold shN
    rw [List.filter_append, shN_no h i, List.nil_append]
    cases hs : ss[i]? with
    | none => rfl
    | some s =>
      have := h s (List.mem_of_getElem? hs)
      simp only []
      split
      · simp [of3, this]
      · rfl
theorem shN_one {s : Sd} {rest : List Sd} {c : Cy} {crest : List Cy} {now : Int} (hs : s.sock = 3) (h : ∀ s, s ∈ rest → s.sock ≠ 3) : ∀ i, (shN (s :: rest) (c :: crest) now (i + 1)).filter of3 = if c.dueB now then [(3, c.fr)] else []
  | 0 => by
    simp only [shN, List.nil_append, List.getElem?_cons_zero, List.getD, Option.getD_some, hs]
    split <;> simp [of3]
  | i + 1 => by
    rw [shN, List.filter_append, shN_one hs h i]
    rw [List.getElem?_cons_succ]
    cases hr : rest[i]? with
    | none => simp
    | some r =>
      have := h r (List.mem_of_getElem? hr)
      simp only []
      split
      · simp [of3, this]
      · simp [of3, this]
theorem tkN_len {cs : List Cy} {now : Int} : ∀ i, (tkN cs now i).length = cs.length
  | 0 => rfl
  | i + 1 => by rw [tkN, List.length_set, tkN_len i]
theorem tkN_head {c : Cy} {crest : List Cy} {now : Int} : ∀ i, ∃ cr, tkN (c :: crest) now (i + 1) = c.tick now :: cr
  | 0 => ⟨crest, rfl⟩
  | i + 1 => by
    obtain ⟨cr, h⟩ := tkN_head (c := c) (crest := crest) (now := now) i
    rw [tkN, h]
    exact ⟨_, by rw [List.set_cons_succ]⟩
theorem PI.tail {J J' : Jo} {xs : List Go.SB.Item} {c : Cy} {cs : List Cy} {K : Int} {s : Sd} (h : PI J xs (c :: cs) K) (hs : J.snd = s :: J'.snd) (hn : J'.notes = J.notes) : PI J' xs cs K := by
  refine ⟨?_, ?_, fun i t d ht hd => ?_, fun n hm => h.ring n (by rw [← hn]; exact hm)⟩
  · have := h.len; rw [hs] at this; simpa using this
  · have := h.nd; rw [hs, List.map_cons, List.nodup_cons] at this; exact this.2
  · exact h.has (i + 1) t d (by rw [hs]; simpa using ht) (by simpa using hd)
end Go.Proofs.Ytapoilcpollmpaa
end

/- BcmTimes: the law's loops. -/
section
namespace Go.Proofs.Ytapoilcpollmpaa
open Go.SB
attribute [local irreducible] HW HSS HAS HRQ HEO HOP HCK
set_option maxRecDepth 100000
set_option maxHeartbeats 1000000
set_option linter.unusedSimpArgs false
set_option pp.deepTerms.threshold 6
attribute [local go_sem high] own_ren rp_ren rp_cells rp_one

theorem goT_len (j : Jb) (start e : Int) : ∀ f k, (goT j start e f k).length ≤ f
  | 0, _ => by simp [goT]
  | f + 1, k => by
    unfold goT; split
    · simp
    · have := goT_len j start e f (k + 1); simp; omega
theorem jok {j : Jb} (hs : smallB j = true) (h : jobE j = 0) : JOk j := by
  simp only [smallB, Bool.and_eq_true, decide_eq_true_eq] at hs
  unfold jobE at h
  split at h
  · omega
  · split at h
    · omega
    · rename_i h1 h2
      have hc : ∀ n, ¬ cntB n = false → 0 ≤ n ∧ n ≤ 1099511627776 := fun n hn => by simpa [cntB] using hn
      have hl : ¬ j.frs.length = 0 := fun h => h2 (.inl h)
      have := hc j.count fun h => h2 (.inr (.inl h))
      exact ⟨by omega, hc _ fun h => h2 (.inr (.inr (.inl h))), hc _ fun h => h2 (.inr (.inr (.inr h))), by omega⟩
theorem alive_ok : PCall Try.prog f_law24_alive [] (.bool true) := pcall_ev tabOk_QIf (by kernel_rfl)
theorem Ints_ok (xs : List Int) (hn : xs.length ≤ 1000) : ACall Try.prog f_ref09_Ints [.sl 0 1 0 xs.length false, .sl 1 1 0 xs.length false] [some (.arr (rows i1 xs)), some (.arr (rows i1 xs))] fun r A => r = .bool true ∧ A = [some (.arr (rows i1 xs)), some (.arr (rows i1 xs))] := by
  refine acallH ok_ref09_Ints ?_
  have hr := trivial
  try simp -dsimp -implicitDefEqProofs (maxSteps := 1000000) (disch := first | exact dis | fail) only [hc_ref09_Ints, go_sem]
  repeat' ((first | (with_reducible first | refine w_if ?_ ?_ | refine w_gt ?_ ?_ | refine w_gf ?_ ?_ | refine w_io ?_ ?_ | refine w_gdt ?_ ?_ | refine w_gdf ?_ ?_ | refine w_ite ?_ ?_) <;> intro h <;> (try rw [h]) <;> replace hr := And.intro h hr <;> replace h := nrm h <;> try (first | (exfalso; omega) | exact (bx h (by assumption)).elim | exact (bx (by assumption) h).elim) | ((with_reducible refine And.intro ?_ ?_); (focus omega))) <;> try simp -dsimp -implicitDefEqProofs (maxSteps := 1000000) (disch := first | exact dis | fail) only [go_sem])
  unfold hc_ref09_Ints_l1
  refine hw_loop xs.length (fun i ρ A => ρ = rg 7 [(0, .sl 0 1 0 xs.length false), (1, .sl 1 1 0 xs.length false), (3, .int .i64 i)] ∧ A = [some (.arr (rows i1 xs)), some (.arr (rows i1 xs))]) ⟨none, rfl, rfl, rfl⟩ ?_
  rintro i ρ A hi ⟨rfl, rfl⟩
  by_cases hlt : i < xs.length
  · have hx : xs[i]? = some xs[i] := List.getElem?_eq_getElem hlt
    generalize xs[i] = x at hx
    have hr := trivial
    try simp -dsimp -implicitDefEqProofs (maxSteps := 1000000) (disch := first | exact dis | fail) only [hc_ref09_Ints_b1, Int.toNat_natCast, rows_get, hx, i1, go_sem]
    repeat' ((first | (with_reducible first | refine w_if ?_ ?_ | refine w_gt ?_ ?_ | refine w_gf ?_ ?_ | refine w_io ?_ ?_ | refine w_gdt ?_ ?_ | refine w_gdf ?_ ?_ | refine w_ite ?_ ?_) <;> intro h <;> (try rw [h]) <;> replace hr := And.intro h hr <;> replace h := nrm h <;> try (first | (exfalso; omega) | exact (bx h (by assumption)).elim | exact (bx (by assumption) h).elim) | ((with_reducible refine And.intro ?_ ?_); (focus omega))) <;> try simp -dsimp -implicitDefEqProofs (maxSteps := 1000000) (disch := first | exact dis | fail) only [Int.toNat_natCast, rows_get, hx, i1, go_sem])
    exact ⟨none, rfl, rfl, rfl⟩
  · obtain rfl : i = xs.length := by omega
    have hr := trivial
    try simp -dsimp -implicitDefEqProofs (maxSteps := 1000000) (disch := first | exact dis | fail) only [hc_ref09_Ints_b1, go_sem]
    repeat' ((first | (with_reducible first | refine w_if ?_ ?_ | refine w_gt ?_ ?_ | refine w_gf ?_ ?_ | refine w_io ?_ ?_ | refine w_gdt ?_ ?_ | refine w_gdf ?_ ?_ | refine w_ite ?_ ?_) <;> intro h <;> (try rw [h]) <;> replace hr := And.intro h hr <;> replace h := nrm h <;> try (first | (exfalso; omega) | exact (bx h (by assumption)).elim | exact (bx (by assumption) h).elim) | ((with_reducible refine And.intro ?_ ?_); (focus omega))) <;> try simp -dsimp -implicitDefEqProofs (maxSteps := 1000000) (disch := first | exact dis | fail) only [go_sem])
    exact ⟨none, rfl, rfl, rfl⟩
/-- A job's times, as a row also where there are none. -/
theorem RTimesS_ok (j : Jb) (hj : JOk j) (e : Int) (he : jobE j = 0) : ACall Try.prog f_ref22_Times [.agg j.av, .int .i64 0, .int .i64 e] [] fun r A => r = .sl 0 1 0 (times j 0 e).length false ∧ A = [some (.arr (rows i1 (times j 0 e)))] := by
  have h := RTimes_ok j hj 0 e he (by decide)
  by_cases h0 : times j 0 e = []
  · rw [h0] at h ⊢
    refine acall_emp (z := 1) (by decide) (h.mono fun r A hh => ⟨.inl hh.1, hh.2⟩)
  · rw [(ls_cons (l := 0) h0).1, (ls_cons (l := 0) h0).2] at h
    exact h
/-- A place for objects. -/
theorem vw_pool (A : AHeap) : Vw A (A ++ [some (.pool [])]) := by
  refine ⟨by simp, fun j hj => ?_, fun h M F S => ?_⟩
  · rw [List.getElem?_append_left (List.getElem?_eq_some_iff.1 hj).1]; exact hj
  · obtain ⟨S1, hle1⟩ := S.add (b := 0) (bs := 0) (rm := 0) (sz := 1) (G := fun _ => False) (o := .pool []) ⟨⟨fun _ _ => False, fun x => by simp, fun i it hi => by simp at hi, fun i j x hi => by simp at hi⟩, fun h => by cases h⟩ (fun _ h => h.elim) (fun _ _ _ h => h.elim) (fun _ _ h => h.elim)
    refine ⟨_, _, S1, hle1, rfl, fun l o b hl hb => ?_⟩
    rcases ext_get hl with ⟨rfl, e⟩ | ⟨hk, ho⟩
    · rw [if_pos rfl] at hb; exact hb.elim
    · rw [if_neg (by omega)] at hb; exact ⟨l, o, ho, hb⟩
theorem jNewP (room : Int) : ACall Try.prog f_bcm_New [.int .i64 room] [] fun v A => v = .ptr 0 0 ∧ A = JH (Jo.new room) [] := by
  refine (jNew_ok room).post ?_
  rintro r B ⟨rfl, rfl⟩
  exact ⟨_, vw_pool _, none, rfl, rfl, rfl⟩
theorem acall_weak {P : Program} {f : FuncId} {args : List AV} {A : AHeap} {K K' : AV → AHeap → Prop} (h : ACall P f args A K) (hk : ∀ r B, K r B → ∃ r', (∀ M u, Conc M r u → Conc M r' u) ∧ K' r' B) : ACall P f args A K' := by
  refine ⟨h.1, fun w M F us S hL => (h.2 w M F us S hL).mono ?_⟩
  rintro e w' ⟨r, A', M', F', u, hK, rfl, hc, S', E', hf⟩
  obtain ⟨r', h1, h2⟩ := hk r A' hK
  exact ⟨r', A', M', F', u, h2, rfl, h1 M' u hc, S', E', hf⟩
theorem acall_distR {P : Program} {f : FuncId} {args : List AV} {A : AHeap} {K K' : AV → AHeap → Prop} (h : ACall P f args A K) (hk : ∀ r B, K r B → (∀ (l : Nat) xs, B[l]? = some (some (.pool xs)) → (xs.map fun it => it.1.1).Nodup) → K' r B) : ACall P f args A K' := by
  refine ⟨h.1, fun w M F us S hL => (h.2 w M F us S hL).mono ?_⟩
  rintro e w' ⟨r, A', M', F', u, hK, rfl, hc, S', E', hf⟩
  exact ⟨r, A', M', F', u, hk r A' hK fun l xs hl => pool_nodup S' hl, rfl, hc, S', E', hf⟩
theorem conc_any2 {M : Go.SB.Mod} {u : Value} {a b : AV} (h : Conc M (.tup [a, b]) u) : Conc M (.tup [.any, b]) u := by
  cases h with
  | @tup _ us hc =>
    refine .tup ?_
    generalize us.toList = l at hc
    cases hc with
    | cons h1 h2 => exact .cons (.any _) h2
/-- A job of sending is set up; its answer is let go. -/
theorem TxP (J : Jo) (xs : List Go.SB.Item) (cs : List Cy) (K : Int) (h : PI J xs cs K) (sock : Int) (hs : 0 ≤ sock ∧ sock < 100) (j : Jb) (hj : JOk j) (he : jobE j = 0) (hl : J.snd.length ≤ 1) (hno : ∀ s, s ∈ J.snd → s.sock ≠ sock) :
    ACall Try.prog f_bcm_Jobs_Tx [.ptr 0 0, .int .i64 sock, .agg j.av, .int .i64 0] (JH J xs) fun v A => ∃ p xs', PI { J with snd := J.snd ++ [⟨sock, j.id, p⟩] } xs' (cs ++ [(newC j 0).begC]) K ∧ v = .tup [.any, .int .i64 0] ∧ A = JH { J with snd := J.snd ++ [⟨sock, j.id, p⟩] } xs' := by
  have hf : (J.snd.filter fun c => !isS sock j.id c) = J.snd := List.filter_eq_self.2 fun s hm => by simp [isS, hno s hm]
  have hroom : J.roomy sock j.id := by
    unfold Jo.roomy
    rw [hf]
    have := cntG_le (g := ofS sock) (xs := J.snd) (j := J.snd.length)
    omega
  obtain ⟨h1, h2⟩ := Tx_all J xs sock hs j hj he 0 (by decide) (by omega) hroom
  have ht : ∀ p, J.tx sock j.id p = { J with snd := J.snd ++ [⟨sock, j.id, p⟩] } := fun p => by unfold Jo.tx; rw [hf]
  have key : ACall Try.prog f_bcm_Jobs_Tx [.ptr 0 0, .int .i64 sock, .agg j.av, .int .i64 0] (JH J xs) fun v A => ∃ p, v = .tup [.any, .int .i64 0] ∧ A = JH { J with snd := J.snd ++ [⟨sock, j.id, p⟩] } (xs ++ [(p, CH (newC j 0).begC)]) := by
    cases hn : j.now
    · refine acall_weak (h1 hn) ?_
      rintro r B ⟨p, rfl, rfl⟩
      exact ⟨_, fun M u hc => conc_any2 hc, p, rfl, by rw [ht]⟩
    · refine (h2 hn).post ?_
      rintro r B ⟨p, rfl, rfl⟩
      rw [ht]
      exact ⟨_, Vw.refl _, some [], rfl, p, rfl, by simp only [foldA_eq, go_sem, JH]⟩
  refine acall_distR key ?_
  rintro r B ⟨p, rfl, rfl⟩ hd
  have hnd := hd 1 _ rfl
  refine ⟨p, _, ⟨?_, ?_, fun i s c hs hc => ?_, fun n hm => ?_⟩, rfl, rfl⟩
  · simp [h.len]
  · rw [List.map_append, List.nodup_append]
    refine ⟨h.nd, by simp, fun a ha b hb e => ?_⟩
    simp only [List.map_cons, List.map_nil, List.mem_singleton] at hb
    rw [hb] at e
    obtain ⟨s, hsm, hsp⟩ := List.mem_map.1 ha
    obtain ⟨i, hi, hie⟩ := List.getElem_of_mem hsm
    have hx : J.snd[i]? = some s := by rw [List.getElem?_eq_getElem hi, hie]
    have hcl : i < cs.length := by rw [h.len]; exact hi
    obtain ⟨q1, _⟩ := h.has i s cs[i] hx (List.getElem?_eq_getElem hcl)
    rw [List.map_append, List.nodup_append] at hnd
    exact hnd.2.2 s.p.1 (List.mem_map.2 ⟨_, q1, rfl⟩) p.1 (by simp) (by rw [hsp, e])
  · rcases Nat.lt_or_ge i J.snd.length with hi | hi
    · rw [List.getElem?_append_left hi] at hs
      rw [List.getElem?_append_left (by rw [h.len]; exact hi)] at hc
      obtain ⟨q1, q2⟩ := h.has i s c hs hc
      exact ⟨List.mem_append_left _ q1, q2⟩
    · rw [List.getElem?_append_right hi] at hs
      rw [List.getElem?_append_right (by rw [h.len]; exact hi), h.len] at hc
      cases hz : i - J.snd.length with
      | zero =>
        rw [hz] at hs hc
        cases hs; cases hc
        exact ⟨by simp, (newC_ok hj 0).beg⟩
      | succ m => rw [hz] at hs; simp at hs
  · obtain ⟨r, q1, q2, q3⟩ := h.ring n hm
    exact ⟨r, List.mem_append_left _ q1, q2, q3⟩
theorem PI.nil (room : Int) : PI (Jo.new room) [] [] 0 := ⟨rfl, List.nodup_nil, fun i s c h => by simp [Jo.new] at h, fun n h => by simp [Jo.new] at h⟩
end Go.Proofs.Ytapoilcpollmpaa
end

/- BcmTimes: the law's inner loops. -/
section
namespace Go.Proofs.Ytapoilcpollmpaa
open Go.SB
attribute [local irreducible] HW HSS HAS HRQ HEO HOP HCK
set_option maxRecDepth 100000
set_option maxHeartbeats 1000000
set_option linter.unusedSimpArgs false
set_option pp.deepTerms.threshold 6
attribute [local go_sem high] own_ren rp_ren rp_cells rp_one

def TH (j k : Jb) (J : Jo) (xs : List Go.SB.Item) : AHeap := [some (.cells j.av), some (.cells k.av), some (.own J.ov), some (.pool xs)]
def wantN (stop : Int) (ts : List Int) (i : Nat) : List Int := (ts.take i).filter (wantB stop)
theorem wantN_step {stop : Int} {ts : List Int} {i : Nat} {x : Int} (h : ts[i]? = some x) : wantN stop ts (i + 1) = wantN stop ts i ++ if wantB stop x then [x] else [] := by
  unfold wantN
  rw [List.take_add_one, h, List.filter_append]
  cases hx : wantB stop x <;> simp [hx]
theorem wantN_len {stop : Int} {ts : List Int} {i : Nat} : (wantN stop ts i).length ≤ i := by
  unfold wantN
  have := List.length_filter_le (wantB stop) (ts.take i)
  rw [List.length_take] at this; omega
theorem T1 (j k : Jb) (J : Jo) (xs : List Go.SB.Item) (ticks stop : Int) (ts : List Int) (hts : ts.length ≤ 1000) (v1 v6 v8 : AV) (Q : IExit → List AV → AHeap → Prop)
    (hq : ∀ ρ, ρ = rg 50 [(2, .int .i64 ticks), (3, .int .i64 stop), (4, .ptr 0 0), (7, .ptr 2 0), (9, .nils), (10, .sl 5 1 0 (ts.filter (wantB stop)).length false), (26, .sl 4 1 0 ts.length false), (27, .int .i64 ts.length), (28, .int .i64 ts.length)] → Q (.exit 0) ρ (TH j k J xs ++ [some (.arr (rows i1 ts)), some (.arr (rows i1 (ts.filter (wantB stop))))])) :
    HW Try.prog 0 hc_law24_BcmTimes_l1 (rg 50 [(1, v1), (2, .int .i64 ticks), (3, .int .i64 stop), (4, .ptr 0 0), (6, v6), (7, .ptr 2 0), (8, v8), (9, .nils), (10, .nils), (26, .sl 4 1 0 ts.length false), (27, .int .i64 ts.length), (28, .int .i64 0)]) (TH j k J xs ++ [some (.arr (rows i1 ts))]) Q := by
  unfold hc_law24_BcmTimes_l1
  refine hw_loopN ts.length (fun i ρ A => ρ = rg 50 [(2, .int .i64 ticks), (3, .int .i64 stop), (4, .ptr 0 0), (7, .ptr 2 0), (9, .nils), (10, .sl 5 1 0 (wantN stop ts i).length false), (26, .sl 4 1 0 ts.length false), (27, .int .i64 ts.length), (28, .int .i64 i)] ∧ A = TH j k J xs ++ [some (.arr (rows i1 ts)), some (.arr (rows i1 (wantN stop ts i)))]) [(10, 1)] ?_ ⟨none, rfl, ?_, ?_⟩ ?_
  · simp only [nlOk, isNils, go_sem]
  · simp only [nlR, foldRo, TH, go_sem]; rfl
  · rfl
  rintro i ρ A hi ⟨rfl, rfl⟩
  have hwl := wantN_len (stop := stop) (ts := ts) (i := i)
  by_cases hlt : i < ts.length
  · have hx : ts[i]? = some ts[i] := List.getElem?_eq_getElem hlt
    generalize ts[i] = x at hx
    have hst := wantN_step (stop := stop) hx
    have hi1 : i1 x = [.int .i64 x] := rfl
    have hlf : (rows i1 (wantN stop ts i)).length = (wantN stop ts i).length := rows_length
    by_cases hw : x ≤ stop ∨ stop < 1
    · have hwb : wantB stop x = true := by simpa [wantB] using hw
      rw [hwb] at hst
      simp only [if_true] at hst
      have hr := trivial
      try simp -dsimp -implicitDefEqProofs (maxSteps := 1000000) (disch := first | exact dis | fail) only [hc_law24_BcmTimes_b1, TH, Jb.av, Int.toNat_natCast, rows_get, hx, hi1, i1_snoc, appF_full hlf, go_sem]
      repeat' ((first | (with_reducible first | refine w_if ?_ ?_ | refine w_gt ?_ ?_ | refine w_gf ?_ ?_ | refine w_io ?_ ?_ | refine w_gdt ?_ ?_ | refine w_gdf ?_ ?_ | refine w_ite ?_ ?_) <;> intro h <;> (try rw [h]) <;> replace hr := And.intro h hr <;> replace h := nrm h <;> try (first | (exfalso; omega) | exact (bx h (by assumption)).elim | exact (bx (by assumption) h).elim) | ((with_reducible refine And.intro ?_ ?_); (focus omega))) <;> try simp -dsimp -implicitDefEqProofs (maxSteps := 1000000) (disch := first | exact dis | fail) only [TH, Jb.av, Int.toNat_natCast, rows_get, hx, hi1, i1_snoc, appF_full hlf, go_sem])
      refine ⟨some [0, 1, 2, 3, 4, 7], rfl, ?_, ?_⟩
      · simp only [foldR_eq, go_sem, hst, List.length_append, List.length_singleton]; rfl
      · simp only [foldA_eq, go_sem, hst, TH, Jb.av, List.cons_append, List.nil_append]
    · have hwb : wantB stop x = false := by
        cases h : wantB stop x
        · rfl
        · exact absurd (by simpa [wantB] using h) hw
      rw [hwb] at hst
      simp only [Bool.false_eq_true, if_false, List.append_nil] at hst
      have hr := trivial
      try simp -dsimp -implicitDefEqProofs (maxSteps := 1000000) (disch := first | exact dis | fail) only [hc_law24_BcmTimes_b1, TH, Jb.av, Int.toNat_natCast, rows_get, hx, hi1, go_sem]
      repeat' ((first | (with_reducible first | refine w_if ?_ ?_ | refine w_gt ?_ ?_ | refine w_gf ?_ ?_ | refine w_io ?_ ?_ | refine w_gdt ?_ ?_ | refine w_gdf ?_ ?_ | refine w_ite ?_ ?_) <;> intro h <;> (try rw [h]) <;> replace hr := And.intro h hr <;> replace h := nrm h <;> try (first | (exfalso; omega) | exact (bx h (by assumption)).elim | exact (bx (by assumption) h).elim) | ((with_reducible refine And.intro ?_ ?_); (focus omega))) <;> try simp -dsimp -implicitDefEqProofs (maxSteps := 1000000) (disch := first | exact dis | fail) only [TH, Jb.av, Int.toNat_natCast, rows_get, hx, hi1, go_sem])
      refine ⟨none, rfl, ?_, ?_⟩
      · simp only [foldRn, go_sem, hst]; rfl
      · simp only [foldAn, hst, List.cons_append, List.nil_append]
  · obtain rfl : i = ts.length := by omega
    have hf : wantN stop ts ts.length = ts.filter (wantB stop) := by unfold wantN; rw [List.take_length]
    rw [hf]
    have hr := trivial
    try simp -dsimp -implicitDefEqProofs (maxSteps := 1000000) (disch := first | exact dis | fail) only [hc_law24_BcmTimes_b1, TH, Jb.av, go_sem]
    repeat' ((first | (with_reducible first | refine w_if ?_ ?_ | refine w_gt ?_ ?_ | refine w_gf ?_ ?_ | refine w_io ?_ ?_ | refine w_gdt ?_ ?_ | refine w_gdf ?_ ?_ | refine w_ite ?_ ?_) <;> intro h <;> (try rw [h]) <;> replace hr := And.intro h hr <;> replace h := nrm h <;> try (first | (exfalso; omega) | exact (bx h (by assumption)).elim | exact (bx (by assumption) h).elim) | ((with_reducible refine And.intro ?_ ?_); (focus omega))) <;> try simp -dsimp -implicitDefEqProofs (maxSteps := 1000000) (disch := first | exact dis | fail) only [TH, Jb.av, go_sem])
    simp only [TH, Jb.av, go_sem, List.cons_append, List.nil_append] at hq
    exact hq _ (by simp only [go_sem])
def gotN (got : List Int) (shots : List (Int × Fr)) (t : Int) (i : Nat) : List Int := got ++ ((shots.take i).filter of3).map fun _ => t
theorem gotN_step {got : List Int} {shots : List (Int × Fr)} {t : Int} {i : Nat} {x : Int × Fr} (h : shots[i]? = some x) : gotN got shots t (i + 1) = gotN got shots t i ++ if x.1 = 3 then [t] else [] := by
  unfold gotN
  rw [List.take_add_one, h, List.filter_append, List.map_append, List.append_assoc]
  by_cases hx : x.1 = 3 <;> simp [hx, of3]
theorem gotN_len {got : List Int} {shots : List (Int × Fr)} {t : Int} {i : Nat} : (gotN got shots t i).length ≤ got.length + i := by
  unfold gotN
  rw [List.length_append, List.length_map]
  have := List.length_filter_le of3 (shots.take i)
  rw [List.length_take] at this; omega
theorem T2 (j k : Jb) (J : Jo) (xs : List Go.SB.Item) (ticks stop t : Int) (want got : List Int) (hg : got.length ≤ 1000) (shots : List (Int × Fr)) (hs : shots.length ≤ 1000) (v26 v27 v28 : AV) (Q : IExit → List AV → AHeap → Prop)
    (hq : ∀ ρ, ρ = rg 50 [(2, .int .i64 ticks), (3, .int .i64 stop), (4, .ptr 0 0), (7, .ptr 2 0), (9, .sl 5 1 0 (gotN got shots t shots.length).length false), (10, .sl 4 1 0 want.length false), (12, .int .i64 t), (35, .sl 6 5 0 shots.length false), (36, .int .i64 shots.length), (37, .int .i64 shots.length)] →
      Q (.exit 4) ρ (TH j k J xs ++ [some (.arr (rows i1 want)), some (.arr (rows i1 (gotN got shots t shots.length))), some (.arr (rows shv shots))])) :
    HW Try.prog 0 hc_law24_BcmTimes_l2 (rg 50 [(2, .int .i64 ticks), (3, .int .i64 stop), (4, .ptr 0 0), (7, .ptr 2 0), (9, .sl 5 1 0 got.length false), (10, .sl 4 1 0 want.length false), (12, .int .i64 t), (26, v26), (27, v27), (28, v28), (35, .sl 6 5 0 shots.length false), (36, .int .i64 shots.length), (37, .int .i64 0)])
      (TH j k J xs ++ [some (.arr (rows i1 want)), some (.arr (rows i1 got)), some (.arr (rows shv shots))]) Q := by
  unfold hc_law24_BcmTimes_l2
  refine hw_loop shots.length (fun i ρ A => ρ = rg 50 [(2, .int .i64 ticks), (3, .int .i64 stop), (4, .ptr 0 0), (7, .ptr 2 0), (9, .sl 5 1 0 (gotN got shots t i).length false), (10, .sl 4 1 0 want.length false), (12, .int .i64 t), (35, .sl 6 5 0 shots.length false), (36, .int .i64 shots.length), (37, .int .i64 i)] ∧
      A = TH j k J xs ++ [some (.arr (rows i1 want)), some (.arr (rows i1 (gotN got shots t i))), some (.arr (rows shv shots))]) ⟨none, rfl, by simp only [foldRn, go_sem, gotN, List.take_zero, List.filter_nil, List.map_nil, List.append_nil], by simp only [foldAn, gotN, List.take_zero, List.filter_nil, List.map_nil, List.append_nil]⟩ ?_
  rintro i ρ A hi ⟨rfl, rfl⟩
  have hgl := gotN_len (got := got) (shots := shots) (t := t) (i := i)
  by_cases hlt : i < shots.length
  · have hx : shots[i]? = some shots[i] := List.getElem?_eq_getElem hlt
    generalize shots[i] = x at hx
    have hst := gotN_step (got := got) (t := t) hx
    have hlf : (rows i1 (gotN got shots t i)).length = (gotN got shots t i).length := rows_length
    by_cases hw : x.1 = 3
    · rw [if_pos hw] at hst
      have hr := trivial
      try simp -dsimp -implicitDefEqProofs (maxSteps := 1000000) (disch := first | exact dis | fail) only [hc_law24_BcmTimes_b2, TH, Jb.av, Int.toNat_natCast, rows_get, hx, shv_eq, hw, i1_snoc, appF_full hlf, go_sem]
      repeat' ((first | (with_reducible first | refine w_if ?_ ?_ | refine w_gt ?_ ?_ | refine w_gf ?_ ?_ | refine w_io ?_ ?_ | refine w_gdt ?_ ?_ | refine w_gdf ?_ ?_ | refine w_ite ?_ ?_) <;> intro h <;> (try rw [h]) <;> replace hr := And.intro h hr <;> replace h := nrm h <;> try (first | (exfalso; omega) | exact (bx h (by assumption)).elim | exact (bx (by assumption) h).elim) | ((with_reducible refine And.intro ?_ ?_); (focus omega))) <;> try simp -dsimp -implicitDefEqProofs (maxSteps := 1000000) (disch := first | exact dis | fail) only [TH, Jb.av, Int.toNat_natCast, rows_get, hx, shv_eq, hw, i1_snoc, appF_full hlf, go_sem])
      refine ⟨some [0, 1, 2, 3, 4, 9, 6], rfl, ?_, ?_⟩
      · simp only [foldR_eq, go_sem, hst, List.length_append, List.length_singleton]; rfl
      · simp only [foldA_eq, go_sem, hst, TH, Jb.av, List.cons_append, List.nil_append]
    · rw [if_neg hw, List.append_nil] at hst
      have hr := trivial
      try simp -dsimp -implicitDefEqProofs (maxSteps := 1000000) (disch := first | exact dis | fail) only [hc_law24_BcmTimes_b2, TH, Jb.av, Int.toNat_natCast, rows_get, hx, shv_eq, hw, go_sem]
      repeat' ((first | (with_reducible first | refine w_if ?_ ?_ | refine w_gt ?_ ?_ | refine w_gf ?_ ?_ | refine w_io ?_ ?_ | refine w_gdt ?_ ?_ | refine w_gdf ?_ ?_ | refine w_ite ?_ ?_) <;> intro h <;> (try rw [h]) <;> replace hr := And.intro h hr <;> replace h := nrm h <;> try (first | (exfalso; omega) | exact (bx h (by assumption)).elim | exact (bx (by assumption) h).elim) | ((with_reducible refine And.intro ?_ ?_); (focus omega))) <;> try simp -dsimp -implicitDefEqProofs (maxSteps := 1000000) (disch := first | exact dis | fail) only [TH, Jb.av, Int.toNat_natCast, rows_get, hx, shv_eq, hw, go_sem])
      refine ⟨some [0, 1, 2, 3, 4, 5, 6], rfl, ?_, ?_⟩
      · simp only [foldR_eq, go_sem, hst]; rfl
      · simp only [foldA_eq, go_sem, hst, TH, Jb.av, List.cons_append, List.nil_append]
  · obtain rfl : i = shots.length := by omega
    have hr := trivial
    try simp -dsimp -implicitDefEqProofs (maxSteps := 1000000) (disch := first | exact dis | fail) only [hc_law24_BcmTimes_b2, TH, Jb.av, go_sem]
    repeat' ((first | (with_reducible first | refine w_if ?_ ?_ | refine w_gt ?_ ?_ | refine w_gf ?_ ?_ | refine w_io ?_ ?_ | refine w_gdt ?_ ?_ | refine w_gdf ?_ ?_ | refine w_ite ?_ ?_) <;> intro h <;> (try rw [h]) <;> replace hr := And.intro h hr <;> replace h := nrm h <;> try (first | (exfalso; omega) | exact (bx h (by assumption)).elim | exact (bx (by assumption) h).elim) | ((with_reducible refine And.intro ?_ ?_); (focus omega))) <;> try simp -dsimp -implicitDefEqProofs (maxSteps := 1000000) (disch := first | exact dis | fail) only [TH, Jb.av, go_sem])
    simp only [TH, Jb.av, go_sem, List.cons_append, List.nil_append] at hq
    exact hq _ (by simp only [go_sem])
end Go.Proofs.Ytapoilcpollmpaa
end
