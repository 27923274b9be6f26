/- Framework, part M: append, copy, make, slice literals in the real heap. Conditions: none. -/
import Derived.Test.YtkkccabchhnebaaFwL
set_option linter.unusedVariables false
set_option linter.unusedSimpArgs false
namespace Go.SB
section
variable {P : Program} {M : Mod} {F : Nat → Nat → Prop} {A : AHeap} {ρ : List AV} {a : Act} {w : World}

/-- A location is let go; another one takes its blocks over. -/
theorem Sim.move (S : Sim w.heap M F A) {l p : Nat} {o o' : AO} (hA : A[l]? = some (some o)) (hp : A[p]? = some none) {w' : World} (hos : w'.os = w.os) (htp : w'.tape = w.tape) (hout : w'.output = w.output)
    (hsize : w'.heap.size = w.heap.size) (hkeep : ∀ b, ¬ F l b → w'.heap[b]? = w.heap[b]?) (bs rm s : Nat) (ho : o'.holds w'.heap (M.put p (M.blk l) bs rm s) (F l) p) :
    Sim w'.heap (M.put p (M.blk l) bs rm s) (fun k b => if k = p then F l b else if k = l then False else F k b) ((A.set l (some .dead)).set p (some o')) ∧
    Ext w M F A w' (M.put p (M.blk l) bs rm s) (fun k b => if k = p then F l b else if k = l then False else F k b) ((A.set l (some .dead)).set p (some o')) := by
  have hnD := S.notD hp
  have hle := Mod.le_put hnD (M.blk l) bs rm s
  have hlp : l ≠ p := fun e => by rw [e, hp] at hA; cases hA
  have hll := lt_of_get hA
  have hpl := lt_of_get hp
  have get : ∀ {k : Nat} {x : AO}, ((A.set l (some .dead)).set p (some o'))[k]? = some (some x) → (k = p ∧ x = o') ∨ (k = l ∧ x = .dead) ∨ (k ≠ p ∧ k ≠ l ∧ A[k]? = some (some x)) := by
    intro k x hx
    by_cases e : p = k
    · subst e; rw [List.getElem?_set_self (by simpa using hpl)] at hx; cases hx; exact .inl ⟨rfl, rfl⟩
    · rw [List.getElem?_set_ne e] at hx
      by_cases e2 : l = k
      · subst e2; rw [List.getElem?_set_self hll] at hx; cases hx; exact .inr (.inl ⟨rfl, rfl⟩)
      · rw [List.getElem?_set_ne e2] at hx; exact .inr (.inr ⟨fun h => e h.symm, fun h => e2 h.symm, hx⟩)
  refine ⟨⟨?_, ?_, ?_, ?_, ?_, ?_⟩, ⟨hos, htp, hout, by omega, hle, by simp, ?_, ?_, ?_⟩⟩
  · intro k x hx
    rcases get hx with ⟨rfl, rfl⟩ | ⟨rfl, rfl⟩ | ⟨h1, h2, h3⟩
    · refine ⟨.inr rfl, ?_⟩
      simpa using ho
    · refine ⟨.inl (S.holds _ _ hA).1, ?_⟩
      intro b hb
      simp [hlp] at hb
    · obtain ⟨hD, hh⟩ := S.holds k x h3
      refine ⟨.inl hD, ?_⟩
      rw [show (fun b => if k = p then F l b else if k = l then False else F k b) = F k from funext fun b => by rw [if_neg h1, if_neg h2]]
      exact AO.keep hh hD hle fun b hb => hkeep b fun hl => h2 (S.disj k l x o b h3 hA hb hl)
  · intro k hD
    by_cases e : p = k
    · subst e; exact ⟨o', by rw [List.getElem?_set_self (by simpa using hpl)]⟩
    · rcases hD with hD | hD
      · obtain ⟨x, hx⟩ := S.fresh k hD
        by_cases e2 : l = k
        · subst e2; exact ⟨.dead, by rw [List.getElem?_set_ne e, List.getElem?_set_self hll]⟩
        · exact ⟨x, by rw [List.getElem?_set_ne e, List.getElem?_set_ne e2]; exact hx⟩
      · exact absurd hD.symm e
  · intro k x b hx hb
    rw [hsize]
    rcases get hx with ⟨rfl, rfl⟩ | ⟨rfl, rfl⟩ | ⟨h1, h2, h3⟩
    · rw [if_pos rfl] at hb; exact S.lt l o b hA hb
    · simp [hlp] at hb
    · rw [if_neg h1, if_neg h2] at hb; exact S.lt k x b h3 hb
  · intro k k' x x' b hx hx' hb hb'
    rcases get hx with ⟨rfl, rfl⟩ | ⟨rfl, rfl⟩ | ⟨h1, h2, h3⟩ <;> rcases get hx' with ⟨rfl, rfl⟩ | ⟨rfl, rfl⟩ | ⟨h1', h2', h3'⟩
    · rfl
    · simp [hlp] at hb'
    · rw [if_pos rfl] at hb; rw [if_neg h1', if_neg h2'] at hb'
      exact absurd (S.disj l k' o x' b hA h3' hb hb') (fun e => h2' e.symm)
    · simp [hlp] at hb
    · rfl
    · simp [hlp] at hb
    · rw [if_pos rfl] at hb'; rw [if_neg h1, if_neg h2] at hb
      exact absurd (S.disj l k o x b hA h3 hb' hb) (fun e => h2 e.symm)
    · simp [hlp] at hb'
    · rw [if_neg h1, if_neg h2] at hb; rw [if_neg h1', if_neg h2'] at hb'
      exact S.disj k k' x x' b h3 h3' hb hb'
  · intro b c hI
    obtain ⟨e, fr, hb⟩ := S.imm b c hI
    exact ⟨e, fr, by rw [hkeep b (S.immNot b c l o hI hA)]; exact hb⟩
  · intro b c k x hI hx hb
    rcases get hx with ⟨rfl, rfl⟩ | ⟨rfl, rfl⟩ | ⟨h1, h2, h3⟩
    · rw [if_pos rfl] at hb; exact S.immNot b c l o hI hA hb
    · simp [hlp] at hb
    · rw [if_neg h1, if_neg h2] at hb; exact S.immNot b c k x hI h3 hb
  · intro b hb hn
    exact hkeep b (hn l o hA)
  · intro k x b hx hb hlt'
    rcases get hx with ⟨rfl, rfl⟩ | ⟨rfl, rfl⟩ | ⟨h1, h2, h3⟩
    · rw [if_pos rfl] at hb; exact ⟨l, o, hA, hb⟩
    · simp [hlp] at hb
    · rw [if_neg h1, if_neg h2] at hb; exact ⟨k, x, h3, hb⟩
  · intro b c hI _
    exact .inl hI

/-- A location is let go. -/
theorem Sim.drop (S : Sim w.heap M F A) {l : Nat} {o : AO} (hA : A[l]? = some (some o)) :
    Sim w.heap M (fun k b => if k = l then False else F k b) (A.set l (some .dead)) ∧ Ext w M F A w M (fun k b => if k = l then False else F k b) (A.set l (some .dead)) := by
  have hll := lt_of_get hA
  have get : ∀ {k : Nat} {x : AO}, (A.set l (some .dead))[k]? = some (some x) → (k = l ∧ x = .dead) ∨ (k ≠ l ∧ A[k]? = some (some x)) := by
    intro k x hx
    by_cases e2 : l = k
    · subst e2; rw [List.getElem?_set_self hll] at hx; cases hx; exact .inl ⟨rfl, rfl⟩
    · rw [List.getElem?_set_ne e2] at hx; exact .inr ⟨fun h => e2 h.symm, hx⟩
  refine ⟨⟨?_, ?_, ?_, ?_, S.imm, ?_⟩, ⟨rfl, rfl, rfl, Nat.le_refl _, .refl M, by simp, fun _ _ _ => rfl, ?_, fun b c hI _ => .inl hI⟩⟩
  · intro k x hx
    rcases get hx with ⟨rfl, rfl⟩ | ⟨h1, h2⟩
    · exact ⟨(S.holds _ _ hA).1, fun b hb => by simp at hb⟩
    · obtain ⟨hD, hh⟩ := S.holds k x h2
      refine ⟨hD, ?_⟩
      rw [show (fun b => if k = l then False else F k b) = F k from funext fun b => by rw [if_neg h1]]
      exact hh
  · intro k hD
    obtain ⟨x, hx⟩ := S.fresh k hD
    by_cases e2 : l = k
    · subst e2; exact ⟨.dead, by rw [List.getElem?_set_self hll]⟩
    · exact ⟨x, by rw [List.getElem?_set_ne e2]; exact hx⟩
  · intro k x b hx hb
    rcases get hx with ⟨rfl, rfl⟩ | ⟨h1, h2⟩
    · simp at hb
    · rw [if_neg h1] at hb; exact S.lt k x b h2 hb
  · intro k k' x x' b hx hx' hb hb'
    rcases get hx with ⟨rfl, rfl⟩ | ⟨h1, h2⟩
    · simp at hb
    · rcases get hx' with ⟨rfl, rfl⟩ | ⟨h1', h2'⟩
      · simp at hb'
      · rw [if_neg h1] at hb; rw [if_neg h1'] at hb'
        exact S.disj k k' x x' b h2 h2' hb hb'
  · intro b c k x hI hx hb
    rcases get hx with ⟨rfl, rfl⟩ | ⟨h1, h2⟩
    · simp at hb
    · rw [if_neg h1] at hb; exact S.immNot b c k x hI h2 hb
  · intro k x b hx hb _
    rcases get hx with ⟨rfl, rfl⟩ | ⟨h1, h2⟩
    · simp at hb
    · rw [if_neg h1] at hb; exact ⟨k, x, h2, hb⟩

/-- A new array. -/
theorem new_arr (S : Sim w.heap M F A) {p : Nat} (hp : A[p]? = some none) {sz : Nat} {xs : List (List AV)} {us : List Value} (hr : Rows M sz xs us) {c : Array Value}
    (hc : ∀ (j : Nat) (u : Value), us[j]? = some u → c[j]? = some u) (t : TypeId) {w' : World} (hos : w'.os = w.os) (htp : w'.tape = w.tape) (hout : w'.output = w.output) (hheap : w'.heap = w.heap.push (.cells c t))
    {n cap : Nat} {tt : Bool} (hn : n ≤ cap) (htt : tt = true → cap = n) (hfit : cap * sz ≤ c.size) :
    ∃ M' F', Conc M' (.sl p sz 0 n tt) (.slice (some ⟨w.heap.size, 0, none⟩) n cap) ∧ Sim w'.heap M' F' (A.set p (some (.arr xs))) ∧ Ext w M F A w' M' F' (A.set p (some (.arr xs))) := by
  have hnD := S.notD hp
  obtain ⟨S', E'⟩ := S.alloc hp hos htp hout hheap c.size sz (o := .arr xs) (by
    refine ⟨fun b => by simp [Mod.put], c, t, (0, 0), fun i => (us.drop (i * sz)).take sz, ?_, unfrozen0 c, by simp [Mod.put], ?_, ?_⟩
    · rw [hheap]; simp [Mod.put]
    · intro i ev he
      obtain ⟨a, b⟩ := hr.2 i ev he
      exact ⟨b.mono (Mod.le_put hnD _ _ _ _), by simpa [Mod.put] using a⟩
    · intro i j u hi hu
      rw [List.getElem?_take] at hu
      split at hu
      · rw [List.getElem?_drop] at hu
        simpa [Mod.put] using hc _ _ hu
      · cases hu)
  refine ⟨_, _, ?_, S', E'⟩
  have := Conc.sl (M := M.put p w.heap.size 0 c.size sz) (l := p) (sz := sz) (lo := 0) (len := n) (cap := cap) (tight := tt) (.inr rfl) (by simp [Mod.put]) hn htt (by simpa [Mod.put] using hfit)
  simpa [Mod.put] using this

theorem lenOf_slice (ad : Option Addr) (n c : Nat) : (Builtin.lenOf (.slice ad n c)).run P w = .ok n w := rfl

theorem append_stay {t e ty : TypeId} {i : TypeInfo} (ht : P.underlying t = some (.slice e)) (hi : P.info? e = some i) {b : Option Addr} {sLen sCap : Nat} {ad : Option Addr} {n c : Nat} {news : Array Value} {w' : World}
    (hf : (Builtin.firstCells i.size n (.slice ad n c)).run P w = .ok news w) (hroom : sLen + n ≤ sCap)
    (hst : match b with | some x => (storeCells (x.add (sLen * i.size)) news.toList).run P w = .ok () w' | none => w' = w) :
    (Builtin.append_ #[t, t] ty #[.slice b sLen sCap, .slice ad n c]).run P w = .ok (.slice b (sLen + n) sCap) w' := by
  cases b with
  | none =>
    subst hst
    simp [Builtin.append_, run_underlying ht, sizeOf, typeInfo, hi, Builtin.lenOf, hroom, hf]
  | some x =>
    simp only at hst
    simp [Builtin.append_, run_underlying ht, sizeOf, typeInfo, hi, Builtin.lenOf, hroom, hf, hst]

theorem append_grow {t e ty : TypeId} {i : TypeInfo} {z : Value} (ht : P.underlying t = some (.slice e)) (hi : P.info? e = some i) (hz : i.zero = some z) {b : Option Addr} {sLen sCap : Nat} {ad : Option Addr} {n c : Nat} {olds news : Array Value}
    (hfo : (Builtin.firstCells i.size sLen (.slice b sLen sCap)).run P w.drew = .ok olds w.drew) (hf : (Builtin.firstCells i.size n (.slice ad n c)).run P w.drew = .ok news w.drew) (hg : sCap < sLen + n)
    (hb : (sLen + n) * i.bytes ≤ 140737488355328) (h0 : 0 < i.bytes) :
    (Builtin.append_ #[t, t] ty #[.slice b sLen sCap, .slice ad n c]).run P w =
      .ok (.slice (some ⟨w.heap.size, 0, none⟩) (sLen + n) (grownCap w (sLen + n) sCap e)) (w.drew.alloc (.cells (olds ++ news ++ Builtin.zeroCells z.cells (grownCap w (sLen + n) sCap e - (sLen + n))) e)) := by
  have hn : ¬ (sLen + n ≤ sCap) := by omega
  have hle : sLen + n ≤ (sLen + n) * i.bytes := Nat.le_mul_of_pos_right _ h0
  have h63' : ¬ (9223372036854775807 < ((sLen : Int) + (n : Int))) := by omega
  have hfit := growslice_fits hg hb
  have h48' : ¬ (281474976710656 < Builtin.nextslicecap (sLen + n) sCap * i.bytes) := by omega
  simp [Builtin.append_, run_underlying ht, sizeOf, typeInfo, zeroValue, hi, hz, Builtin.lenOf, hn, h63', h48', Question.forced, hf, hfo, newRow, grownCap]

/-- The behind: spare cells of a grown array do not matter. -/
theorem grown_arr (S : Sim w.heap M F A) {p : Nat} (hp : A[p]? = some none) {sz need old : Nat} {xs : List (List AV)} {us : List Value} (hr : Rows M sz xs us) (hlen : xs.length = need) {z : Value} (hz : z.cells.size = sz) {e : TypeId}
    {rest : Array Value} (hrest : rest = Builtin.zeroCells z.cells (grownCap w need old e - need)) :
    ∃ M' F', Conc M' (.sl p sz 0 need false) (.slice (some ⟨w.heap.size, 0, none⟩) need (grownCap w need old e)) ∧
      Sim (w.drew.alloc (.cells (us.toArray ++ rest) e)).heap M' F' (A.set p (some (.arr xs))) ∧ Ext w M F A (w.drew.alloc (.cells (us.toArray ++ rest) e)) M' F' (A.set p (some (.arr xs))) := by
  refine new_arr S hp hr (c := us.toArray ++ rest) ?_ e (w' := w.drew.alloc (.cells (us.toArray ++ rest) e)) rfl rfl rfl rfl (n := need) (cap := grownCap w need old e) (tt := false) (grownCap_ge w need old e) (fun h => by cases h) ?_
  · intro j u hu
    have := lt_of_get hu
    rw [Array.getElem?_append_left (by simpa using this)]
    simpa using hu
  · rw [Array.size_append, hrest, size_zeroCells, hz]
    have := grownCap_ge w need old e
    have h1 := hr.1
    rw [hlen] at h1
    simp only [List.size_toArray, h1]
    rw [← Nat.add_mul]
    apply Nat.mul_le_mul_right
    omega

theorem ones_of_rows {sz : Nat} {xs : List (List AV)} (hr : rowsOk sz xs = true) {us : List Value} (h : Rows M sz xs us) (h0 : 0 < sz) : ∀ v ∈ us, v.oneCell' = true := by
  intro v hv
  obtain ⟨k, hk, e⟩ := List.mem_iff_getElem.1 hv
  have hk' : k < xs.length * sz := by rw [← h.1]; exact hk
  have hi : k / sz < xs.length := (Nat.div_lt_iff_lt_mul h0).2 hk'
  obtain ⟨ev, hev⟩ : ∃ ev, xs[k / sz]? = some ev := ⟨_, List.getElem?_eq_getElem hi⟩
  obtain ⟨h1, h2⟩ := h.2 _ _ hev
  have hm : k % sz < sz := Nat.mod_lt _ h0
  have hdm := Nat.div_add_mod k sz
  obtain ⟨x, hx⟩ : ∃ x, ev[k % sz]? = some x := ⟨_, List.getElem?_eq_getElem (by omega)⟩
  obtain ⟨u, hu, hc⟩ := h2.get hx
  rw [List.getElem?_take, if_pos hm, List.getElem?_drop, show k / sz * sz + k % sz = k by rw [Nat.mul_comm]; exact hdm, List.getElem?_eq_getElem hk, e] at hu
  cases hu
  refine hc.oneCell ?_
  simp only [rowsOk, List.all_eq_true] at hr
  have := hr ev (List.mem_of_getElem? hev)
  simp at this
  exact this.2 x (List.mem_of_getElem? hx)

theorem aapp_ok (S : Sim w.heap M F A) {t e ty : TypeId} {i : TypeInfo} {z : Value} {sz : Nat} (ht : P.underlying t = some (.slice e)) (hi : P.info? e = some i) (hz : i.zero = some z) (hsz : i.size = sz) (hzs : z.cells.size = sz)
    (hb0 : 0 < i.bytes) (h0 : 0 < sz) {p : Nat} {s x : AV} {us ux : Value} (hs : Conc M s us) (hx : Conc M x ux) {xs : List (List AV)} (he : elemsOf A sz x = some xs) (hr : rowsOk sz xs = true)
    {v : AV} {A' : AHeap} (h : aapp A p sz i.bytes s xs = some (v, A')) :
    ∃ w' M' F' u, (Builtin.append_ #[t, t] ty #[us, ux]).run P w = .ok u w' ∧ Conc M' v u ∧ Sim w'.heap M' F' A' ∧ Ext w M F A w' M' F' A' := by
  subst hsz
  obtain ⟨ad, cap, ns, rfl, hcap, hrows, hfc⟩ := elems_ok (P := P) S hx he hr
  have hlen := hrows.1
  have htk : ns.take (xs.length * i.size) = ns := List.take_of_length_le (by omega)
  have hfull := hfc w rfl xs.length (Nat.le_refl _)
  have hfull' := hfc w.drew rfl xs.length (Nat.le_refl _)
  rw [htk] at hfull hfull'
  have hones := ones_of_rows hr hrows h0
  -- nothing there yet
  have fromNone : ∀ (b : Option Addr), us = .slice b 0 0 → (∀ w0 : World, (Builtin.firstCells i.size 0 (.slice b 0 0)).run P w0 = .ok #[] w0) → ∀ (x0 : List AV) (xr : List (List AV)), xs = x0 :: xr → A[p]? = some none →
      (x0 :: xr).length * i.bytes ≤ 140737488355328 → v = .sl p i.size 0 (x0 :: xr).length false → A' = A.set p (some (.arr (x0 :: xr))) →
      ∃ w' M' F' u, (Builtin.append_ #[t, t] ty #[us, .slice ad xs.length cap]).run P w = .ok u w' ∧ Conc M' v u ∧ Sim w'.heap M' F' A' ∧ Ext w M F A w' M' F' A' := by
    intro b hb hfo x0 xr hxs hp hbytes hv hA'
    subst hb; subst hv; subst hA'
    have hg := append_grow (P := P) (w := w) (ty := ty) ht hi hz (b := b) (sLen := 0) (sCap := 0) (hfo w.drew) hfull' (by rw [hxs]; simp) (by rw [hxs]; simpa using hbytes) hb0
    obtain ⟨M', F', q1, q2, q3⟩ := grown_arr S hp hrows (need := xs.length) (old := 0) rfl hzs (e := e) rfl
    rw [hxs] at q1 q2 q3 hg ⊢
    simp only [Nat.zero_add, Array.empty_append] at hg
    exact ⟨_, M', F', _, hg, q1, q2, q3⟩
  -- nothing to append
  have stay0 : ∀ (b : Option Addr) (n c : Nat), us = .slice b n c → n ≤ c → xs = [] →
      (Builtin.append_ #[t, t] ty #[us, .slice ad xs.length cap]).run P w = .ok us w := by
    intro b n c hb hnc hxs
    subst hb
    have hn0 : ns = [] := List.eq_nil_of_length_eq_zero (by rw [hlen, hxs]; simp)
    have := append_stay (P := P) (w := w) (w' := w) (ty := ty) ht hi (b := b) (sLen := n) (sCap := c) hfull (by rw [hxs]; simpa using hnc) (by
      cases b with
      | none => rfl
      | some y => subst hn0; rfl)
    rw [this, hxs]; rfl
  cases s <;> simp only [aapp] at h <;> first | (cases h; done) | skip
  case nils =>
    cases hs
    cases xs with
    | nil =>
      simp only at h; cases h
      exact ⟨w, M, F, _, stay0 none 0 0 rfl (Nat.le_refl _) rfl, .nils, S, .refl _ _ _ _⟩
    | cons x0 xr =>
      simp only at h
      split at h
      · rename_i hp
        split at h
        · rename_i hbytes
          cases h
          exact fromNone none rfl (fun w0 => by simp [run_firstCells_none]) x0 xr rfl hp hbytes rfl rfl
        · cases h
      · cases h
  case es =>
    cases hs with
    | es ad0 =>
      cases xs with
      | nil =>
        simp only at h; cases h
        exact ⟨w, M, F, _, stay0 (some ad0) 0 0 rfl (Nat.le_refl _) rfl, .es _, S, .refl _ _ _ _⟩
      | cons x0 xr =>
        simp only at h
        split at h
        · rename_i hp
          split at h
          · rename_i hbytes
            cases h
            exact fromNone (some ad0) rfl (fun w0 => run_firstCells_some (P := P) w0 i.size 0 ad0 0 0 [] (by simp) (by simp)) x0 xr rfl hp hbytes rfl rfl
          · cases h
        · cases h
  case sl l sz' lo len tt =>
    split at h
    · rename_i es hA
      split at h
      · rename_i hp
        split at h
        · rename_i hc
          obtain ⟨rfl, hle, hbytes⟩ := hc
          obtain ⟨hD, hF, c, ty', fr, uss, g1, g2, g3, g4, g5⟩ := S.holds l _ hA
          have hlp : l ≠ p := fun e => by rw [e, hp] at hA; cases hA
          have helen : ((es.drop lo).take len).length = len := by simp; omega
          -- a grown array, over what is kept of the heap
          have grow : ∀ (b : Option Addr) (c' : Nat) (us0 : List Value), us = .slice b len c' → c' < len + xs.length → Rows M i.size ((es.drop lo).take len) us0 →
              (∀ w0 : World, w0.heap = w.heap → (Builtin.firstCells i.size len (.slice b len c')).run P w0 = .ok us0.toArray w0) →
              ∃ w' M' F' u, (Builtin.append_ #[t, t] ty #[us, .slice ad xs.length cap]).run P w = .ok u w' ∧ Conc M' v u ∧ Sim w'.heap M' F' A' ∧ Ext w M F A w' M' F' A' := by
            intro b c' us0 hus hg hrows0 hfo
            subst hus
            have hg' := append_grow (P := P) (w := w) (ty := ty) ht hi hz (b := b) (sLen := len) (sCap := c') (hfo w.drew rfl) hfull' hg hbytes hb0
            have hrr := hrows0.append hrows
            have hll : ((es.drop lo).take len ++ xs).length = len + xs.length := by rw [List.length_append, helen]
            by_cases hcase : (tt && !xs.isEmpty) = true
            · rw [hcase] at h
              simp only [cond_true] at h
              cases h
              obtain ⟨M', F', q1, q2, q3⟩ := grown_arr S hp hrr (need := len + xs.length) (old := c') hll hzs (e := e) rfl
              rw [← List.append_toArray] at q2 q3
              exact ⟨_, M', F', _, hg', q1, q2, q3⟩
            · have hcase : (tt && !xs.isEmpty) = false := by simpa using hcase
              rw [hcase] at h
              simp only [cond_false] at h
              cases h
              obtain ⟨S1, E1⟩ := S.drop hA
              have hp1 : (A.set l (some .dead))[p]? = some none := by rw [List.getElem?_set_ne hlp]; exact hp
              obtain ⟨M', F', q1, q2, q3⟩ := grown_arr S1 hp1 hrr (need := len + xs.length) (old := c') hll hzs (e := e) rfl
              rw [← List.append_toArray] at q2 q3
              exact ⟨_, M', F', _, hg', q1, q2, E1.trans q3⟩
          cases hs with
          | @sl _ _ _ _ c' _ hD' hs' hc' htt hrm =>
            obtain ⟨us0, r0, hl0, hcell0⟩ := rows_of_arr (M := M) (c := c) (base := M.base l) (sz := i.size) (lo := lo) (len := len) (es := es) (uss := uss) (by rw [← hs']; exact g4) (by rw [← hs']; exact g5) hle
            by_cases hroom : len + xs.length ≤ c'
            · have hcase : (tt && !xs.isEmpty) = false := by
                cases tt with
                | false => rfl
                | true =>
                  have := htt rfl
                  have : xs = [] := List.eq_nil_of_length_eq_zero (by omega)
                  simp [this]
              rw [hcase] at h
              simp only [cond_false] at h
              cases h
              have hfit : M.base l + lo * i.size + (len + xs.length) * i.size ≤ c.size := by
                rw [g3]
                have : (lo + (len + xs.length)) * i.size ≤ (lo + c') * i.size := Nat.mul_le_mul_right _ (by omega)
                rw [Nat.add_mul] at this
                omega
              have hfit2 : M.base l + lo * i.size + len * i.size + ns.length ≤ c.size := by rw [hlen]; rw [Nat.add_mul] at hfit; omega
              have hst := run_storeCells_cells (P := P) (M.blk l) (M.base l + lo * i.size + len * i.size) ns 0 w (by
                  intro j hj
                  rw [cell_of_block g1]
                  rw [Array.getElem?_eq_getElem (by omega)]; rfl) (by
                  intro j hj
                  exact frozen_of_block g1 g2 (by omega)) hones
              rw [Nat.add_zero] at hst
              have happ := append_stay (P := P) (w := w) (ty := ty) ht hi (b := some ⟨M.blk l, M.base l + lo * i.size, none⟩) (sLen := len) (sCap := c') hfull hroom (w' := w.setCells (M.blk l) (M.base l + lo * i.size + len * i.size) ns) (by
                simp only [addr_add]; exact hst)
              obtain ⟨c2, k1, k2, k3⟩ := setCells_block (M.blk l) ty' fr ns (M.base l + lo * i.size + len * i.size) w c g1
              obtain ⟨o1, o2, o3, o4⟩ := setCells_world (M.blk l) ns (M.base l + lo * i.size + len * i.size) w
              obtain ⟨uss', z1, z2⟩ := arr_write (M := M) (c := c) (c' := c2) (base := M.base l + lo * i.size) (sz := i.size) (i0 := len) (es := (es.drop lo).take len) (uss := fun k => uss (lo + k)) (by
                  intro k ev hev
                  rw [List.getElem?_take] at hev
                  split at hev
                  · rw [List.getElem?_drop] at hev
                    rw [← hs']; exact g4 _ _ hev
                  · cases hev) (by
                  intro k j u hk hu
                  rw [helen] at hk
                  have := g5 (lo + k) j u (by omega) hu
                  rw [hs', Nat.add_mul] at this
                  rw [← this]; congr 1; omega) (by omega) hrows hfit k3
              have hes : ((es.drop lo).take len).take len ++ xs ++ ((es.drop lo).take len).drop (len + xs.length) = (es.drop lo).take len ++ xs := by
                have e2 : ((es.drop lo).take len).drop (len + xs.length) = [] := List.drop_eq_nil_of_le (by omega)
                rw [e2, List.take_of_length_le (Nat.le_of_eq helen), List.append_nil]
              rw [hes] at z1 z2
              obtain ⟨S', E'⟩ := S.move hA hp (w' := w.setCells (M.blk l) (M.base l + lo * i.size + len * i.size) ns) o1 o2 o3 o4 (fun b hb => setCells_other _ b (fun e => hb ((hF b).2 e)) _ _ _) (M.base l + lo * i.size) (M.room l) i.size (o' := .arr ((es.drop lo).take len ++ xs)) (by
                refine ⟨fun b => by simp only [Mod.put, if_true]; exact hF b, c2, ty', fr, uss', by simp only [Mod.put, if_true]; exact k1, fun k hk => g2 k (by omega), by simp only [Mod.put, if_true]; omega, ?_, ?_⟩
                · intro k ev hev
                  obtain ⟨y1, y2⟩ := z1 k ev hev
                  exact ⟨y1.mono (Mod.le_put (S.notD hp) _ _ _ _), by simp only [Mod.put, if_true]; exact y2⟩
                · intro k j u hk hu
                  simp only [Mod.put, if_true]
                  exact z2 k j u hk hu)
              refine ⟨_, _, _, _, happ, ?_, S', E'⟩
              have := Conc.sl (M := M.put p (M.blk l) (M.base l + lo * i.size) (M.room l) i.size) (l := p) (sz := i.size) (lo := 0) (len := len + xs.length) (cap := c') (tight := false) (.inr rfl) (by simp [Mod.put]) hroom (fun h => by cases h) (by
                simp only [Mod.put, if_true, Nat.zero_add]
                rw [Nat.add_mul] at hrm; omega)
              simpa [Mod.put] using this
            · refine grow _ c' us0 rfl (by omega) r0 (fun w0 hw0 => ?_)
              have := run_firstCells_some (P := P) w0 i.size len ⟨M.blk l, M.base l + lo * i.size, none⟩ len c' us0 hl0 (fun j u hu => by
                rw [addr_add]
                have : w0.cell? ⟨M.blk l, M.base l + lo * i.size + j, none⟩ = w.cell? ⟨M.blk l, M.base l + lo * i.size + j, none⟩ := by simp [World.cell?, hw0]
                rw [this, cell_of_block g1]
                exact hcell0 j u hu)
              exact this
          | @sl0 _ _ _ _ a0 hD' hs' =>
            by_cases hx0 : xs = []
            · subst hx0
              simp only [List.isEmpty_nil, Bool.not_true, Bool.and_false, cond_false] at h
              cases h
              obtain ⟨S', E'⟩ := S.move hA hp (w' := w) rfl rfl rfl rfl (fun _ _ => rfl) (M.base l) (M.room l) i.size (o' := .arr ((es.drop lo).take 0 ++ [])) (by
                refine ⟨fun b => by simp only [Mod.put, if_true]; exact hF b, c, ty', fr, uss, by simp only [Mod.put, if_true]; exact g1, g2, by simp only [Mod.put, if_true]; exact g3, ?_, ?_⟩
                · intro k ev hev; simp at hev
                · intro k j u hk; simp at hk)
              refine ⟨w, _, _, _, stay0 (some a0) 0 0 rfl (Nat.le_refl _) rfl, ?_, S', E'⟩
              exact .sl0 (.inr rfl) (by simp [Mod.put])
            · have hn : 0 < xs.length := List.length_pos_iff.2 hx0
              refine grow (some a0) 0 [] rfl (by omega) (by simpa using Rows.nil M i.size) (fun w0 hw0 => ?_)
              exact run_firstCells_some (P := P) w0 i.size 0 a0 0 0 [] (by simp) (by simp)
        · cases h
      · cases h
    · cases h
end
end Go.SB
