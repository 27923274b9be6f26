/- Framework, part B: reading, writing and making cells of an abstract heap, and that the real heap follows. Conditions: none. -/
import Derived.Test.YtkkccabchhnebaaFwA
import Derived.Laws.IdiomCopy
import Derived.Laws.Strings
import Derived.Lib.Strings
set_option linter.unusedVariables false
set_option linter.unusedSimpArgs false
namespace Go.SB

def AV.one : AV → Bool
  | .agg _ | .tup _ | .any => false
  | _ => true

theorem Conc.oneCell {M : Mod} {a : AV} {u : Value} (h : Conc M a u) (h1 : a.one = true) : u.oneCell' = true := by
  cases h <;> first | rfl | (simp [AV.one] at h1; done) | assumption

/-- 'cs' written over 'vs' from place off on. -/
def wrt (vs : List AV) (off : Nat) : List AV → List AV
  | [] => vs
  | n :: ns => wrt (vs.set off n) (off + 1) ns

theorem wrt_length (vs : List AV) (off : Nat) (ns : List AV) : (wrt vs off ns).length = vs.length := by
  induction ns generalizing vs off with
  | nil => rfl
  | cons n ns ih => simp [wrt, ih]

/-- n cells from an address on. -/
def rdN (A : AHeap) (a : AV) (n : Nat) : Option (List AV) :=
  match a with
  | .ptr l off => match A[l]? with
    | some (some (.cells vs)) => if off + n ≤ vs.length then some ((vs.drop off).take n) else none
    | _ => none
  | .eptr l i off => match A[l]? with
    | some (some (.arr es)) => match es[i]? with
      | some e => if off + n ≤ e.length then some ((e.drop off).take n) else none
      | none => none
    | _ => none
  | .pp cs => if n ≤ cs.length then some (cs.take n) else none
  | _ => none

/-- Cells written from an address on. -/
def wrN (A : AHeap) (a : AV) (ns : List AV) : Option AHeap :=
  match a with
  | .ptr l off => match A[l]? with
    | some (some (.cells vs)) => if off + ns.length ≤ vs.length then (if ns.all AV.one then some (A.set l (some (.cells (wrt vs off ns)))) else none) else none
    | _ => none
  | .eptr l i off => match A[l]? with
    | some (some (.arr es)) => match es[i]? with
      | some e => if off + ns.length ≤ e.length then (if ns.all AV.one then some (A.set l (some (.arr (es.set i (wrt e off ns))))) else none) else none
      | none => none
    | _ => none
  | _ => none

section
variable {P : Program} {w : World} {M : Mod} {F : Nat → Nat → Prop} {A : AHeap}

theorem addr_add (b o n : Nat) : (⟨b, o, none⟩ : Addr).add n = ⟨b, o + n, none⟩ := by
  unfold Addr.add; split <;> simp_all

theorem cell_of_block {b o : Nat} {c : Array Value} {e : TypeId} {fr : Nat × Nat} (h : w.heap[b]? = some (.cells c e fr)) : w.cell? ⟨b, o, none⟩ = c[o]? := by
  simp [World.cell?, h]

theorem frozen_of_block {b o : Nat} {c : Array Value} {e : TypeId} {fr : Nat × Nat} (h : w.heap[b]? = some (.cells c e fr)) (hu : Unfrozen c fr) (ho : o < c.size) :
    w.frozen? ⟨b, o, none⟩ = false := by
  obtain ⟨lo, hi⟩ := fr
  have := hu o ho
  simp only [World.frozen?, h]
  simpa using this

/-- What is read stands in memory. -/
theorem Sim.rd (S : Sim w.heap M F A) {a : AV} {ad : Addr} (ha : Conc M a (.pointer (some ad))) (hn1 : ∀ v, a ≠ .raw v) (hn2 : a ≠ .any) {n : Nat} {r : List AV} (h : rdN A a n = some r) :
    ∃ us, ConcL M r us ∧ us.length = n ∧ ad.spot = none ∧ ∀ j u, us[j]? = some u → w.cell? (ad.add j) = some u := by
  cases ha with
  | @ptr l off hD =>
    simp only [rdN] at h
    split at h
    · rename_i vs hA
      split at h
      · rename_i hle
        cases h
        obtain ⟨-, hF, c, e, fr, us, h1, h2, h3, h4, h5⟩ := S.holds l _ hA
        refine ⟨(us.drop off).take n, (h4.drop off).take n, by have := h4.length; simp; omega, rfl, ?_⟩
        intro j u hu
        rw [addr_add, cell_of_block h1]
        rw [List.getElem?_take] at hu
        split at hu
        · rw [List.getElem?_drop] at hu
          rw [← h5 _ _ hu]; congr 1; omega
        · cases hu
      · cases h
    · cases h
  | @eptr l i off hD =>
    simp only [rdN] at h
    split at h
    · rename_i es hA
      split at h
      · rename_i e he
        split at h
        · rename_i hle
          cases h
          obtain ⟨-, hF, c, ty, fr, uss, h1, h2, h3, h4, h5⟩ := S.holds l _ hA
          have hi : i < es.length := by
            rcases Nat.lt_or_ge i es.length with h' | h'
            · exact h'
            · rw [List.getElem?_eq_none h'] at he; cases he
          obtain ⟨hL, hl⟩ := h4 i e he
          refine ⟨((uss i).drop off).take n, (hL.drop off).take n, by have := hL.length; simp; omega, rfl, ?_⟩
          intro j u hu
          rw [addr_add, cell_of_block h1]
          rw [List.getElem?_take] at hu
          split at hu
          · rw [List.getElem?_drop] at hu
            rw [← h5 i _ _ hi hu]; congr 1; omega
          · cases hu
        · cases h
      · cases h
    · cases h
  | @pp cs us c b o hI hr hL =>
    simp only [rdN] at h
    split at h
    · cases h
      obtain ⟨e, fr, hb⟩ := S.imm _ _ hI
      refine ⟨us.take n, hL.take n, by have := hL.length; simp; omega, rfl, ?_⟩
      intro j u hu
      rw [addr_add, cell_of_block hb]
      rw [List.getElem?_take] at hu
      split at hu
      · exact hr _ _ hu
      · cases hu
    · cases h
  | raw => exact absurd rfl (hn1 _)
  | any => exact absurd rfl hn2

/-- One location's object is turned; only blocks that it owns have changed. -/
theorem Sim.update (S : Sim w.heap M F A) {l : Nat} {o o' : AO} (hA : A[l]? = some (some o)) {w' : World} (hos : w'.os = w.os) (htp : w'.tape = w.tape) (hout : w'.output = w.output)
    (hsize : w'.heap.size = w.heap.size)
    (hkeep : ∀ b, ¬ F l b → w'.heap[b]? = w.heap[b]?) (ho : o'.holds w'.heap M (F l) l) :
    Sim w'.heap M F (A.set l (some o')) ∧ Ext w M F A w' M F (A.set l (some o')) := by
  have hlt : l < A.length := by
    rcases Nat.lt_or_ge l A.length with h | h
    · exact h
    · rw [List.getElem?_eq_none h] at hA; cases hA
  have get : ∀ {k : Nat} {x : AO}, (A.set l (some o'))[k]? = some (some x) → (k = l ∧ x = o') ∨ (k ≠ l ∧ A[k]? = some (some x)) := by
    intro k x hx
    by_cases e : l = k
    · subst e; rw [List.getElem?_set_self hlt] at hx; cases hx; exact .inl ⟨rfl, rfl⟩
    · rw [List.getElem?_set_ne e] at hx; exact .inr ⟨fun e' => e e'.symm, hx⟩
  have old : ∀ {k : Nat} {x : AO}, (A.set l (some o'))[k]? = some (some x) → ∃ y, A[k]? = some (some y) := by
    intro k x hx
    rcases get hx with ⟨rfl, _⟩ | ⟨_, h⟩
    · exact ⟨_, hA⟩
    · exact ⟨_, h⟩
  refine ⟨⟨?_, ?_, ?_, ?_, ?_, ?_⟩, ⟨hos, htp, hout, by omega, .refl M, by simp, ?_, ?_, ?_⟩⟩
  · intro k x hx
    rcases get hx with ⟨rfl, rfl⟩ | ⟨hk, h⟩
    · exact ⟨(S.holds _ _ hA).1, ho⟩
    · obtain ⟨hD, hh⟩ := S.holds k x h
      exact ⟨hD, AO.keep hh hD (.refl M) fun b hb => hkeep b fun hl => hk (S.disj k l x o b h hA hb hl)⟩
  · intro k hD
    obtain ⟨x, hx⟩ := S.fresh k hD
    by_cases e : l = k
    · subst e; exact ⟨o', by rw [List.getElem?_set_self hlt]⟩
    · exact ⟨x, by rw [List.getElem?_set_ne e]; exact hx⟩
  · intro k x b hx hb
    obtain ⟨y, hy⟩ := old hx
    rw [hsize]
    exact S.lt k y b hy hb
  · intro k k' x x' b hx hx' hb hb'
    obtain ⟨y, hy⟩ := old hx
    obtain ⟨y', hy'⟩ := old hx'
    exact S.disj k k' y y' b hy hy' hb hb'
  · intro b c hI
    obtain ⟨e, fr, hb⟩ := S.imm b c hI
    exact ⟨e, fr, by rw [hkeep b (S.immNot b c l o hI hA)]; exact hb⟩
  · intro b c k x hI hx
    obtain ⟨y, hy⟩ := old hx
    exact S.immNot b c k y hI hy
  · intro b hb hn
    exact hkeep b (hn l o hA)
  · intro k x b hx hb hlt'
    obtain ⟨y, hy⟩ := old hx
    exact ⟨k, y, hy, hb⟩
  · intro b c hI _
    exact .inl hI

theorem setCell_heap (w : World) (b o : Nat) (v : Value) (k : Nat) (hk : k ≠ b) : (w.setCell ⟨b, o, none⟩ v).heap[k]? = w.heap[k]? := by
  simp only [World.setCell, Array.getElem?_modify]
  rw [if_neg (by simpa using fun e => hk e.symm)]

theorem setCell_block {w : World} {b o : Nat} {c : Array Value} {e : TypeId} {fr : Nat × Nat} (v : Value) (h : w.heap[b]? = some (.cells c e fr)) :
    (w.setCell ⟨b, o, none⟩ v).heap[b]? = some (.cells (c.setIfInBounds o v) e fr) := by
  simp [World.setCell, Array.getElem?_modify, h]

/-- One cell of a struct is set. -/
theorem Sim.setCell (S : Sim w.heap M F A) {l off : Nat} {vs : List AV} (hA : A[l]? = some (some (.cells vs))) (ho : off < vs.length) {v : AV} {u : Value} (hv : Conc M v u) :
    (∃ u0, w.cell? ⟨M.blk l, M.base l + off, none⟩ = some u0) ∧ w.frozen? ⟨M.blk l, M.base l + off, none⟩ = false ∧
    Sim (w.setCell ⟨M.blk l, M.base l + off, none⟩ u).heap M F (A.set l (some (.cells (vs.set off v)))) ∧
    Ext w M F A (w.setCell ⟨M.blk l, M.base l + off, none⟩ u) M F (A.set l (some (.cells (vs.set off v)))) := by
  obtain ⟨hD, hF, c, e, fr, us, h1, h2, h3, h4, h5⟩ := S.holds l _ hA
  have hl := h4.length
  have hin : ∃ u0, us[off]? = some u0 := ⟨_, List.getElem?_eq_getElem (by omega)⟩
  obtain ⟨u0, hu0⟩ := hin
  have hc0 := h5 off u0 hu0
  have hlt : M.base l + off < c.size := by
    rcases Nat.lt_or_ge (M.base l + off) c.size with h | h
    · exact h
    · rw [Array.getElem?_eq_none h] at hc0; cases hc0
  refine ⟨⟨u0, by rw [cell_of_block h1]; exact hc0⟩, frozen_of_block h1 h2 hlt, ?_⟩
  refine S.update hA rfl rfl rfl (by simp) ?_ ?_
  · intro b hb
    exact setCell_heap w _ _ u b (fun h => hb ((hF b).2 h))
  · refine ⟨hF, c.setIfInBounds (M.base l + off) u, e, fr, us.set off u, setCell_block u h1, ?_, by simpa using h3, h4.set hv off, ?_⟩
    · intro i hi; exact h2 i (by simpa using hi)
    · intro j x hx
      by_cases e : off = j
      · subst e
        rw [List.getElem?_set_self (by omega)] at hx; cases hx
        simp [hlt]
      · rw [List.getElem?_set_ne e] at hx
        rw [Array.getElem?_setIfInBounds_ne (by omega)]
        exact h5 j x hx

/-- One cell of an element is set. -/
theorem Sim.setElem (S : Sim w.heap M F A) {l i off : Nat} {es : List (List AV)} {ev : List AV} (hA : A[l]? = some (some (.arr es))) (he : es[i]? = some ev) (ho : off < ev.length) {v : AV} {u : Value} (hv : Conc M v u) :
    (∃ u0, w.cell? ⟨M.blk l, M.base l + i * M.sz l + off, none⟩ = some u0) ∧ w.frozen? ⟨M.blk l, M.base l + i * M.sz l + off, none⟩ = false ∧
    Sim (w.setCell ⟨M.blk l, M.base l + i * M.sz l + off, none⟩ u).heap M F (A.set l (some (.arr (es.set i (ev.set off v))))) ∧
    Ext w M F A (w.setCell ⟨M.blk l, M.base l + i * M.sz l + off, none⟩ u) M F (A.set l (some (.arr (es.set i (ev.set off v))))) := by
  obtain ⟨hD, hF, c, ty, fr, uss, h1, h2, h3, h4, h5⟩ := S.holds l _ hA
  have hi : i < es.length := by
    rcases Nat.lt_or_ge i es.length with h' | h'
    · exact h'
    · rw [List.getElem?_eq_none h'] at he; cases he
  obtain ⟨hL, hsz⟩ := h4 i ev he
  have hl := hL.length
  obtain ⟨u0, hu0⟩ : ∃ u0, (uss i)[off]? = some u0 := ⟨_, List.getElem?_eq_getElem (by omega)⟩
  have hc0 := h5 i off u0 hi hu0
  have hlt : M.base l + i * M.sz l + off < c.size := by
    rcases Nat.lt_or_ge (M.base l + i * M.sz l + off) c.size with h | h
    · exact h
    · rw [Array.getElem?_eq_none h] at hc0; cases hc0
  refine ⟨⟨u0, by rw [cell_of_block h1]; exact hc0⟩, frozen_of_block h1 h2 hlt, ?_⟩
  refine S.update hA rfl rfl rfl (by simp) ?_ ?_
  · intro b hb
    exact setCell_heap w _ _ u b (fun h => hb ((hF b).2 h))
  · refine ⟨hF, c.setIfInBounds (M.base l + i * M.sz l + off) u, ty, fr, fun k => if k = i then (uss i).set off u else uss k, setCell_block u h1, ?_, by simpa using h3, ?_, ?_⟩
    · intro k hk; exact h2 k (by simpa using hk)
    · intro k e' hk
      by_cases e : i = k
      · subst e
        rw [List.getElem?_set_self hi] at hk; cases hk
        simp only [if_true, List.length_set]
        exact ⟨hL.set hv off, hsz⟩
      · rw [List.getElem?_set_ne e] at hk
        simp only [if_neg (show ¬ k = i from fun h => e h.symm)]
        exact h4 k e' hk
    · intro k j x hk hx
      rw [List.length_set] at hk
      by_cases e : k = i
      · subst e
        simp only [if_true] at hx
        by_cases ej : off = j
        · subst ej
          rw [List.getElem?_set_self (by omega)] at hx; cases hx
          simp [hlt]
        · rw [List.getElem?_set_ne ej] at hx
          rw [Array.getElem?_setIfInBounds_ne (by omega)]
          exact h5 k j x hk hx
      · simp only [if_neg e] at hx
        obtain ⟨ek, hek⟩ : ∃ ek, es[k]? = some ek := ⟨_, List.getElem?_eq_getElem hk⟩
        obtain ⟨hLk, hszk⟩ := h4 k ek hek
        have hj : j < M.sz l := by
          have := hLk.length
          rcases Nat.lt_or_ge j (uss k).length with h | h
          · omega
          · rw [List.getElem?_eq_none h] at hx; cases hx
        rw [Array.getElem?_setIfInBounds_ne ?_]
        · exact h5 k j x hk hx
        · intro heq
          have ho' : off < M.sz l := by omega
          rcases Nat.lt_or_gt_of_ne e with h | h
          · have : (k + 1) * M.sz l ≤ i * M.sz l := Nat.mul_le_mul_right _ h
            rw [Nat.add_mul] at this; omega
          · have : (i + 1) * M.sz l ≤ k * M.sz l := Nat.mul_le_mul_right _ h
            rw [Nat.add_mul] at this; omega

theorem wr_ptr (us : List Value) : ∀ {w : World} {A : AHeap} (S : Sim w.heap M F A) {l off : Nat} {vs ns : List AV} (hA : A[l]? = some (some (.cells vs))) (ho : off + ns.length ≤ vs.length)
    (hL : ConcL M ns us) (h1 : ns.all AV.one = true),
    (∀ j, j < us.length → (w.cell? ⟨M.blk l, M.base l + off + j, none⟩).isSome = true) ∧ (∀ j, j < us.length → w.frozen? ⟨M.blk l, M.base l + off + j, none⟩ = false) ∧
    Sim (w.setCells (M.blk l) (M.base l + off) us).heap M F (A.set l (some (.cells (wrt vs off ns)))) ∧
    Ext w M F A (w.setCells (M.blk l) (M.base l + off) us) M F (A.set l (some (.cells (wrt vs off ns)))) := by
  induction us with
  | nil =>
    intro w A S l off vs ns hA ho hL h1
    cases hL
    have : A.set l (some (.cells vs)) = A := by
      apply List.ext_getElem?; intro k
      by_cases e : l = k
      · subst e; rw [List.getElem?_set_self', hA]; simp
      · rw [List.getElem?_set_ne e]
    refine ⟨by simp, by simp, ?_⟩
    simp only [wrt, World.setCells, this]
    exact ⟨S, .refl _ _ _ _⟩
  | cons u us ih =>
    intro w A S l off vs ns hA ho hL h1
    cases hL with
    | @cons n ns' _ _ hn hL' =>
      simp only [List.length_cons, List.all_cons, Bool.and_eq_true] at ho h1
      obtain ⟨⟨u0, hu0⟩, hfz, S1, E1⟩ := S.setCell hA (off := off) (by omega) hn
      have hlt : l < A.length := by
        rcases Nat.lt_or_ge l A.length with h | h
        · exact h
        · rw [List.getElem?_eq_none h] at hA; cases hA
      obtain ⟨c1, c2, S2, E2⟩ := ih S1 (l := l) (off := off + 1) (vs := vs.set off n) (ns := ns') (by rw [List.getElem?_set_self hlt]) (by simp; omega) hL' h1.2
      rw [show M.base l + (off + 1) = M.base l + off + 1 by omega] at S2 E2 c1 c2
      rw [List.set_set] at S2 E2
      refine ⟨?_, ?_, S2, E1.trans E2⟩
      · intro j hj
        match j with
        | 0 => simp [hu0]
        | j + 1 =>
          have := c1 j (by simpa using hj)
          rw [World.cell?_setCell_other _ _ _ _ (by simp <;> omega)] at this
          rwa [show M.base l + off + 1 + j = M.base l + off + (j + 1) by omega] at this
      · intro j hj
        match j with
        | 0 => simpa using hfz
        | j + 1 =>
          have := c2 j (by simpa using hj)
          rw [World.frozen?_setCell] at this
          rwa [show M.base l + off + 1 + j = M.base l + off + (j + 1) by omega] at this

theorem wr_eptr (us : List Value) : ∀ {w : World} {A : AHeap} (S : Sim w.heap M F A) {l i off : Nat} {es : List (List AV)} {ev ns : List AV} (hA : A[l]? = some (some (.arr es))) (he : es[i]? = some ev) (ho : off + ns.length ≤ ev.length)
    (hL : ConcL M ns us) (h1 : ns.all AV.one = true),
    (∀ j, j < us.length → (w.cell? ⟨M.blk l, M.base l + i * M.sz l + off + j, none⟩).isSome = true) ∧ (∀ j, j < us.length → w.frozen? ⟨M.blk l, M.base l + i * M.sz l + off + j, none⟩ = false) ∧
    Sim (w.setCells (M.blk l) (M.base l + i * M.sz l + off) us).heap M F (A.set l (some (.arr (es.set i (wrt ev off ns))))) ∧
    Ext w M F A (w.setCells (M.blk l) (M.base l + i * M.sz l + off) us) M F (A.set l (some (.arr (es.set i (wrt ev off ns))))) := by
  induction us with
  | nil =>
    intro w A S l i off es ev ns hA he ho hL h1
    cases hL
    have e1 : es.set i ev = es := by
      apply List.ext_getElem?; intro k
      by_cases e : i = k
      · subst e; rw [List.getElem?_set_self', he]; simp
      · rw [List.getElem?_set_ne e]
    have : A.set l (some (.arr es)) = A := by
      apply List.ext_getElem?; intro k
      by_cases e : l = k
      · subst e; rw [List.getElem?_set_self', hA]; simp
      · rw [List.getElem?_set_ne e]
    refine ⟨by simp, by simp, ?_⟩
    simp only [wrt, World.setCells, e1, this]
    exact ⟨S, .refl _ _ _ _⟩
  | cons u us ih =>
    intro w A S l i off es ev ns hA he ho hL h1
    cases hL with
    | @cons n ns' _ _ hn hL' =>
      simp only [List.length_cons, List.all_cons, Bool.and_eq_true] at ho h1
      obtain ⟨⟨u0, hu0⟩, hfz, S1, E1⟩ := S.setElem hA he (off := off) (by omega) hn
      have hlt : l < A.length := by
        rcases Nat.lt_or_ge l A.length with h | h
        · exact h
        · rw [List.getElem?_eq_none h] at hA; cases hA
      have hi : i < es.length := by
        rcases Nat.lt_or_ge i es.length with h | h
        · exact h
        · rw [List.getElem?_eq_none h] at he; cases he
      obtain ⟨c1, c2, S2, E2⟩ := ih S1 (l := l) (i := i) (off := off + 1) (es := es.set i (ev.set off n)) (ev := ev.set off n) (ns := ns') (by rw [List.getElem?_set_self hlt]) (by rw [List.getElem?_set_self hi]) (by simp; omega) hL' h1.2
      rw [show M.base l + i * M.sz l + (off + 1) = M.base l + i * M.sz l + off + 1 by omega] at S2 E2 c1 c2
      rw [List.set_set, List.set_set] at S2 E2
      refine ⟨?_, ?_, S2, E1.trans E2⟩
      · intro j hj
        match j with
        | 0 => simp [hu0]
        | j + 1 =>
          have := c1 j (by simpa using hj)
          rw [World.cell?_setCell_other _ _ _ _ (by simp <;> omega)] at this
          rwa [show M.base l + i * M.sz l + off + 1 + j = M.base l + i * M.sz l + off + (j + 1) by omega] at this
      · intro j hj
        match j with
        | 0 => simpa using hfz
        | j + 1 =>
          have := c2 j (by simpa using hj)
          rw [World.frozen?_setCell] at this
          rwa [show M.base l + i * M.sz l + off + 1 + j = M.base l + i * M.sz l + off + (j + 1) by omega] at this

/-- Writing: the real stores go through. -/
theorem Sim.wr (S : Sim w.heap M F A) {a : AV} {ad : Addr} (ha : Conc M a (.pointer (some ad))) {ns : List AV} {us : List Value} (hL : ConcL M ns us) {A' : AHeap} (h : wrN A a ns = some A') :
    ad.spot = none ∧ ∃ w', (storeCells ad us).run P w = .ok () w' ∧ Sim w'.heap M F A' ∧ Ext w M F A w' M F A' := by
  have ones : ns.all AV.one = true → ∀ v ∈ us, v.oneCell' = true := by
    intro h1 v hv
    obtain ⟨i, hi, hiv⟩ := List.mem_iff_getElem.1 hv
    have hlen := hL.length
    obtain ⟨u, hu, hc⟩ := hL.get (List.getElem?_eq_getElem (show i < ns.length by omega))
    rw [List.getElem?_eq_getElem hi, hiv] at hu
    cases hu
    exact hc.oneCell (List.all_eq_true.1 h1 _ (List.getElem_mem _))
  unfold wrN at h
  split at h
  · rename_i l off
    split at h
    · rename_i vs hA
      split at h
      · rename_i hle
        split at h
        · rename_i h1
          cases h
          cases ha with
          | ptr hD =>
            obtain ⟨c1, c2, S', E'⟩ := wr_ptr us S hA hle hL h1
            refine ⟨rfl, _, run_storeCells_cells (P := P) (M.blk l) (M.base l + off) us 0 w (by simpa using c1) (by simpa using c2) (ones h1), ?_, ?_⟩
            · simpa using S'
            · simpa using E'
        · cases h
      · cases h
    · cases h
  · rename_i l i off
    split at h
    · rename_i es hA
      split at h
      · rename_i e he
        split at h
        · rename_i hle
          split at h
          · rename_i h1
            cases h
            cases ha with
            | eptr hD =>
              obtain ⟨c1, c2, S', E'⟩ := wr_eptr us S hA he hle hL h1
              refine ⟨rfl, _, run_storeCells_cells (P := P) (M.blk l) (M.base l + i * M.sz l + off) us 0 w (by simpa using c1) (by simpa using c2) (ones h1), ?_, ?_⟩
              · simpa using S'
              · simpa using E'
          · cases h
        · cases h
      · cases h
    · cases h
  · cases h

/-- The locations, one more laid. -/
def Mod.put (M : Mod) (p b bs rm s : Nat) : Mod where
  D l := M.D l ∨ l = p
  blk l := if l = p then b else M.blk l
  base l := if l = p then bs else M.base l
  room l := if l = p then rm else M.room l
  sz l := if l = p then s else M.sz l
  I := M.I

theorem Mod.le_put {p : Nat} (hp : ¬ M.D p) (b bs rm s : Nat) : M.Le (M.put p b bs rm s) where
  D l h := .inl h
  blk l h := by simp only [Mod.put]; rw [if_neg (show ¬ l = p from fun e => hp (by rw [← e]; exact h))]
  base l h := by simp only [Mod.put]; rw [if_neg (show ¬ l = p from fun e => hp (by rw [← e]; exact h))]
  room l h := by simp only [Mod.put]; rw [if_neg (show ¬ l = p from fun e => hp (by rw [← e]; exact h))]
  sz l h := by simp only [Mod.put]; rw [if_neg (show ¬ l = p from fun e => hp (by rw [← e]; exact h))]
  I b c h := h

/-- A place that is kept free is not laid. -/
theorem Sim.notD (S : Sim w.heap M F A) {p : Nat} (hp : A[p]? = some none) : ¬ M.D p := fun h => by
  obtain ⟨o, ho⟩ := S.fresh p h
  rw [hp] at ho; cases ho

/-- A new block at a place that was kept free. The count of draws may have moved. -/
theorem Sim.alloc (S : Sim w.heap M F A) {p : Nat} (hp : A[p]? = some none) {w' : World} {ob : Obj} (hos : w'.os = w.os) (htp : w'.tape = w.tape) (hout : w'.output = w.output)
    (hheap : w'.heap = w.heap.push ob) (rm s : Nat) {o : AO}
    (ho : o.holds w'.heap (M.put p w.heap.size 0 rm s) (fun b => b = w.heap.size) p) :
    Sim w'.heap (M.put p w.heap.size 0 rm s) (fun l b => if l = p then b = w.heap.size else F l b) (A.set p (some o)) ∧
    Ext w M F A w' (M.put p w.heap.size 0 rm s) (fun l b => if l = p then b = w.heap.size else F l b) (A.set p (some o)) := by
  have hnD := S.notD hp
  have hle := Mod.le_put hnD w.heap.size 0 rm s
  have hlt : p < A.length := by
    rcases Nat.lt_or_ge p A.length with h | h
    · exact h
    · rw [List.getElem?_eq_none h] at hp; cases hp
  have hsz : w'.heap.size = w.heap.size + 1 := by rw [hheap]; simp
  have hold : ∀ b, b < w.heap.size → w'.heap[b]? = w.heap[b]? := by
    intro b hb; rw [hheap, Array.getElem?_push, if_neg (by omega)]
  have get : ∀ {k : Nat} {x : AO}, (A.set p (some o))[k]? = some (some x) → (k = p ∧ x = o) ∨ (k ≠ p ∧ A[k]? = some (some x)) := by
    intro k x hx
    by_cases e : p = k
    · subst e; rw [List.getElem?_set_self hlt] at hx; cases hx; exact .inl ⟨rfl, rfl⟩
    · rw [List.getElem?_set_ne e] at hx; exact .inr ⟨fun e' => e e'.symm, hx⟩
  refine ⟨⟨?_, ?_, ?_, ?_, ?_, ?_⟩, ⟨hos, htp, hout, by omega, hle, by simp, ?_, ?_, ?_⟩⟩
  · intro k x hx
    rcases get hx with ⟨rfl, rfl⟩ | ⟨hk, h⟩
    · refine ⟨.inr rfl, ?_⟩
      simpa using ho
    · obtain ⟨hD, hh⟩ := S.holds k x h
      refine ⟨.inl hD, ?_⟩
      rw [show (fun b => if k = p then b = w.heap.size else F k b) = F k from funext fun b => by rw [if_neg hk]]
      exact AO.keep hh hD hle fun b hb => hold b (S.lt k x b h hb)
  · intro k hD
    rcases hD with hD | rfl
    · obtain ⟨x, hx⟩ := S.fresh k hD
      by_cases e : p = k
      · subst e; exact absurd hD hnD
      · exact ⟨x, by rw [List.getElem?_set_ne e]; exact hx⟩
    · exact ⟨o, by rw [List.getElem?_set_self hlt]⟩
  · intro k x b hx hb
    rw [hsz]
    rcases get hx with ⟨rfl, rfl⟩ | ⟨hk, h⟩
    · rw [if_pos rfl] at hb; omega
    · rw [if_neg hk] at hb; have := S.lt k x b h hb; omega
  · intro k k' x x' b hx hx' hb hb'
    rcases get hx with ⟨rfl, rfl⟩ | ⟨hk, h⟩ <;> rcases get hx' with ⟨rfl, rfl⟩ | ⟨hk', h'⟩
    · rfl
    · rw [if_pos rfl] at hb; rw [if_neg hk'] at hb'; have := S.lt k' x' b h' hb'; omega
    · rw [if_pos rfl] at hb'; rw [if_neg hk] at hb; have := S.lt k x b h hb; omega
    · rw [if_neg hk] at hb; rw [if_neg hk'] at hb'; exact S.disj k k' x x' b h h' hb hb'
  · intro b c hI
    obtain ⟨e, fr, hb⟩ := S.imm b c hI
    refine ⟨e, fr, ?_⟩
    rw [hold b ?_]
    · exact hb
    · rcases Nat.lt_or_ge b w.heap.size with h | h
      · exact h
      · rw [Array.getElem?_eq_none h] at hb; cases hb
  · intro b c k x hI hx hb
    rcases get hx with ⟨rfl, rfl⟩ | ⟨hk, h⟩
    · rw [if_pos rfl] at hb
      obtain ⟨e, fr, hbb⟩ := S.imm b c hI
      rw [hb, Array.getElem?_eq_none (Nat.le_refl _)] at hbb; cases hbb
    · rw [if_neg hk] at hb
      exact S.immNot b c k x hI h hb
  · intro b hb _
    exact hold b hb
  · intro k x b hx hb hlt'
    rcases get hx with ⟨rfl, rfl⟩ | ⟨hk, h⟩
    · rw [if_pos rfl] at hb; omega
    · rw [if_neg hk] at hb; exact ⟨k, x, h, hb⟩
  · intro b c hI _
    exact .inl hI

/-- The world's count of draws does not matter. -/
theorem Sim.drew {n : Nat} (E : Ext w M F A w M F A) : Ext w M F A { w with drawn := n } M F A :=
  ⟨rfl, rfl, rfl, Nat.le_refl _, .refl M, Nat.le_refl _, fun _ _ _ => rfl, fun l o b h hf _ => ⟨l, o, h, hf⟩, fun _ _ h _ => .inl h⟩
end
end Go.SB
