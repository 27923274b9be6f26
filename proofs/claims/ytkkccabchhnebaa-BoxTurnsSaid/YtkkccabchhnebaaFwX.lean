/- Framework, part X: a call shown on a small heap holds on a greater one (the frame rule). Conditions: none. -/
import Derived.Test.YtkkccabchhnebaaFwW
set_option linter.unusedVariables false
set_option linter.unusedSimpArgs false
namespace Go.SB

/-- The module seen through new numbers. -/
def Mod.pull (M : Mod) (f : Nat → Nat) : Mod := { D := fun j => M.D (f j), blk := fun j => M.blk (f j), base := fun j => M.base (f j), room := fun j => M.room (f j), sz := fun j => M.sz (f j), I := M.I }

abbrev rn (f : Nat → Nat) : Nat → Option Nat := fun l => some (f l)

section
variable {M : Mod} {f : Nat → Nat}

mutual
theorem Conc.unren : ∀ {v : AV} {u : Value}, Conc M (AV.ren (rn f) v) u → Conc (M.pull f) v u
  | .int k n, _, .int _ _ => .int k n
  | .bool b, _, .bool _ => .bool b
  | .str s, _, .str _ => .str s
  | .nilp, _, .nilp => .nilp
  | .nils, _, .nils => .nils
  | .nilm, _, .nilm => .nilm
  | .nilf, _, .nilf => .nilf
  | .nili, _, .nili => .nili
  | .ptr l off, _, h => by simp only [AV.ren] at h; cases h; exact .ptr (M := M.pull f) ‹_›
  | .eptr l i off, _, h => by simp only [AV.ren] at h; cases h; exact .eptr (M := M.pull f) ‹_›
  | .pp cs, _, h => by
    simp only [AV.ren] at h
    cases h with
    | pp hI hr hL => exact .pp (M := M.pull f) hI hr (ConcL.unren hL)
  | .sl l sz lo len t, _, h => by
    simp only [AV.ren] at h
    cases h with
    | sl h1 h2 h3 h4 h5 => exact .sl (M := M.pull f) h1 h2 h3 h4 h5
    | sl0 h1 h2 => exact .sl0 (M := M.pull f) h1 h2
  | .es, _, .es a => .es a
  | .ps sz xs, _, h => by
    simp only [AV.ren, renLL_eq] at h
    generalize hy : (xs.map fun e => e.map (AV.ren (rn f))) = ys at h
    cases h with
    | @ps _ _ uss c b o cap hI hc hr hL =>
      have hlen : ys.length = xs.length := by rw [← hy]; simp
      rw [hlen]
      refine .ps (M := M.pull f) (uss := uss) hI (by omega) (fun i j u hi => hr i j u (by omega)) ?_
      exact ConcLL.unren fun i e he => by
        rw [renL_eq]
        exact hL i (e.map (AV.ren (rn f))) (by rw [← hy]; simp [he])
    | ps0 =>
      cases xs with
      | nil => exact .ps0
      | cons x xs => simp at hy
  | .mp l, _, h => by simp only [AV.ren] at h; cases h; exact .mp (M := M.pull f) ‹_›
  | .fn g a b, _, h => by
    simp only [AV.ren] at h
    cases h with
    | fn h1 h2 => exact .fn (ConcL.unren h1) (ConcL.unren h2)
  | .ifc t x, _, h => by
    simp only [AV.ren] at h
    cases h with
    | ifc h1 => exact .ifc (Conc.unren h1)
  | .agg cs, _, h => by
    simp only [AV.ren] at h
    cases h with
    | agg h1 => exact .agg (ConcL.unren h1)
  | .tup cs, _, h => by
    simp only [AV.ren] at h
    cases h with
    | tup h1 => exact .tup (ConcL.unren h1)
  | .raw v, _, .raw _ h => .raw v h
  | .any, _, .any v => .any v
theorem ConcL.unren : ∀ {vs : List AV} {us : List Value}, ConcL M (AV.renL (rn f) vs) us → ConcL (M.pull f) vs us
  | [], _, h => by simp only [AV.renL] at h; cases h; exact .nil
  | v :: vs, _, h => by
    simp only [AV.renL] at h
    cases h with
    | cons h1 h2 => exact .cons (Conc.unren h1) (ConcL.unren h2)
theorem ConcLL.unren : ∀ {xs : List (List AV)} {g : Nat → List Value}, (∀ i e, xs[i]? = some e → ConcL M (AV.renL (rn f) e) (g i)) → ∀ i e, xs[i]? = some e → ConcL (M.pull f) e (g i)
  | [], _, _, _, _, he => by simp at he
  | x :: xs, g, h, 0, e, he => by
    have e' : x = e := by simpa using he
    rw [← e']
    exact ConcL.unren (h 0 x (by simp))
  | x :: xs, g, h, i + 1, e, he => ConcLL.unren (xs := xs) (g := fun i => g (i + 1)) (fun i e he => h (i + 1) e (by simpa using he)) i e (by simpa using he)
end

theorem ConcL.unren' {vs : List AV} {us : List Value} (h : ConcL M (vs.map (AV.ren (rn f))) us) : ConcL (M.pull f) vs us := by
  rw [← renL_eq] at h; exact h.unren

theorem AO.unren_holds {h : Array Obj} {F : Nat → Prop} {l : Nat} {o : AO} (hh : (o.ren (rn f)).holds h M F (f l)) : o.holds h (M.pull f) F l := by
  cases o with
  | cells vs =>
    obtain ⟨hF, c, e, fr, us, h1, h2, h3, h4, h5⟩ := hh
    exact ⟨hF, c, e, fr, us, h1, h2, h3, h4.unren', h5⟩
  | arr elems =>
    obtain ⟨hF, c, e, fr, uss, h1, h2, h3, h4, h5⟩ := hh
    refine ⟨hF, c, e, fr, uss, h1, h2, h3, fun i ev he => ?_, fun i j u hi => h5 i j u (by simpa using hi)⟩
    have := h4 i (ev.map (AV.ren (rn f))) (by simp [he])
    exact ⟨this.1.unren', by have := this.2; simp at this; exact this⟩
  | map es =>
    obtain ⟨hF, ents, clock, h1, h2, h3, h4⟩ := hh
    refine ⟨hF, ents, clock, h1, by simpa using h2, fun i k v he => ?_, h4⟩
    obtain ⟨en, a, b, c⟩ := h3 i (AV.ren (rn f) k) (AV.ren (rn f) v) (by simp [he])
    exact ⟨en, a, b.unren, c.unren⟩
  | opq R => exact hh
  | dead => exact hh
end

/-- Where the small heap's places stand in the great one: its own n places at js, what is made at the great one's end. -/
def place (js : List Nat) (top : Nat) (j : Nat) : Nat := if j < js.length then js.getD j 0 else top + (j - js.length)
def unplace (js : List Nat) (top : Nat) (l : Nat) : Option Nat := if l < top then js.idxOf? l else some (js.length + (l - top))

def putAll (g : Nat → Option Nat) : AHeap → List Nat → AHeap → AHeap
  | B, [], A => B ++ A.map fun o => o.map (AO.ren g)
  | B, j :: js, o :: A => putAll g (B.set j (o.map (AO.ren g))) js A
  | B, _ :: _, [] => B

theorem putAll_get (g : Nat → Option Nat) : ∀ (js : List Nat) (B A : AHeap), js.Nodup → (∀ j ∈ js, j < B.length) → js.length ≤ A.length → ∀ (l : Nat),
    (putAll g B js A)[l]? = if l < B.length then (match js.idxOf? l with | some i => (A[i]?).map fun o => o.map (AO.ren g) | none => B[l]?) else (A[js.length + (l - B.length)]?).map fun o => o.map (AO.ren g)
  | [], B, A, _, _, _, l => by
    simp only [putAll, List.idxOf?_nil, List.length_nil, Nat.zero_add]
    split
    · rename_i h; rw [List.getElem?_append_left h]
    · rename_i h; rw [List.getElem?_append_right (by omega), List.getElem?_map]
  | j :: js, B, [], _, _, h, l => by simp at h
  | j :: js, B, o :: A, hnd, hlt, hlen, l => by
    obtain ⟨h1, h2⟩ := List.nodup_cons.1 hnd
    have hjB := hlt j (by simp)
    simp only [putAll]
    rw [putAll_get g js (B.set j _) A h2 (fun k hk => by simpa using hlt k (by simp [hk])) (by simpa using hlen) l]
    simp only [List.length_set, List.idxOf?_cons]
    split
    · rename_i hl
      by_cases e : j = l
      · subst e
        have : js.idxOf? j = none := by simpa using h1
        simp [this, hjB]
      · have e' : (j == l) = false := by simpa using e
        simp only [e', Bool.false_eq_true, if_false]
        cases hx : js.idxOf? l with
        | none => simp [List.getElem?_set_ne e]
        | some i => simp
    · rename_i hl
      have : (j :: js).length + (l - B.length) = (js.length + (l - B.length)) + 1 := by simp; omega
      rw [this, List.getElem?_cons_succ]

section
variable {js : List Nat} {top : Nat}

theorem unplace_place (hnd : js.Nodup) (hlt : ∀ j ∈ js, j < top) (j : Nat) : unplace js top (place js top j) = some j := by
  unfold place
  split
  · rename_i h
    have e : js.getD j 0 = js[j] := by simp [List.getD, h]
    rw [e]
    unfold unplace
    rw [if_pos (hlt _ (List.getElem_mem h)), List.idxOf?_eq_some_iff]
    exact ⟨h, by simp, fun k hk he => by
      have := (List.getElem_inj hnd).1 (by simpa using he); omega⟩
  · rename_i h
    unfold unplace
    rw [if_neg (by omega)]
    congr 1; omega

theorem place_unplace (hnd : js.Nodup) {l j : Nat} (h : unplace js top l = some j) : place js top j = l := by
  unfold unplace at h
  split at h
  · rw [List.idxOf?_eq_some_iff] at h
    obtain ⟨h1, h2, _⟩ := h
    unfold place
    rw [if_pos h1]
    simpa [List.getD, h1] using h2
  · cases h
    unfold place
    rw [if_neg (by omega)]; omega

theorem place_inj (hnd : js.Nodup) (hlt : ∀ j ∈ js, j < top) {i j : Nat} (h : place js top i = place js top j) : i = j := by
  have h1 := unplace_place hnd hlt i
  rw [h, unplace_place hnd hlt j] at h1
  exact (Option.some.inj h1).symm
end

/-- The small heap stands in the great one. -/
structure Stands (js : List Nat) (A B : AHeap) : Prop where
  len : js.length = A.length
  nodup : js.Nodup
  lt : ∀ j ∈ js, j < B.length
  eq : ∀ (i j : Nat) (o : Option AO), js[i]? = some j → A[i]? = some o → B[j]? = some (o.map (AO.ren (rn (place js B.length))))

/-- **The frame rule.** -/
theorem ACall.frame {P : Program} {f : FuncId} {args : List AV} {A : AHeap} {K : AV → AHeap → Prop} (h : ACall P f args A K) {B : AHeap} {js : List Nat} (hst : Stands js A B) :
    ACall P f (args.map (AV.ren (rn (place js B.length)))) B fun r' B' => ∃ r A', K r A' ∧ r' = AV.ren (rn (place js B.length)) r ∧ B' = putAll (rn (place js B.length)) B js A' := by
  obtain ⟨hlen, hnd, hlt, heq⟩ := hst
  refine ⟨h.1, fun w M F us S hL => ?_⟩
  have upp := unplace_place hnd hlt
  have pup : ∀ {l j : Nat}, unplace js B.length l = some j → place js B.length j = l := fun h => place_unplace hnd h
  have pinj : ∀ {i j : Nat}, place js B.length i = place js B.length j → i = j := fun h => place_inj hnd hlt h
  generalize hf : place js B.length = ι at *
  generalize hk : unplace js B.length = κ at *
  have hjs : ∀ j, j < js.length → js[j]? = some (ι j) := fun j hj => by
    rw [← hf]; unfold place; rw [if_pos hj]; simp [List.getD, hj]
  have liveB : ∀ (j : Nat) (o : AO), A[j]? = some (some o) → B[ι j]? = some (some (o.ren (rn ι))) := fun j o ho => by
    have hj : j < js.length := by rw [hlen]; exact (List.getElem?_eq_some_iff.1 ho).1
    exact heq j (ι j) (some o) (hjs j hj) ho
  have Ss : Sim w.heap (M.pull ι) (fun j => F (ι j)) A := by
    refine ⟨fun j o ho => ?_, fun j hD => ?_, fun j o b ho hb => S.lt _ _ b (liveB j o ho) hb, fun j j' o o' b h1 h2 hb hb' => pinj (S.disj _ _ _ _ b (liveB j o h1) (liveB j' o' h2) hb hb'), S.imm, fun b c j o hI ho => S.immNot b c _ _ hI (liveB j o ho)⟩
    · obtain ⟨h1, h2⟩ := S.holds _ _ (liveB j o ho)
      exact ⟨h1, AO.unren_holds h2⟩
    · obtain ⟨o, ho⟩ := S.fresh (ι j) hD
      have hlB : ι j < B.length := (List.getElem?_eq_some_iff.1 ho).1
      have hj : j < js.length := by
        rcases Nat.lt_or_ge j js.length with h | h
        · exact h
        · rw [← hf] at hlB; unfold place at hlB; rw [if_neg (by omega)] at hlB; omega
      have hjA : j < A.length := by omega
      have h1 := heq j (ι j) A[j] (hjs j hj) (by simp [hjA])
      rw [ho] at h1
      cases hA : A[j] with
      | none => rw [hA] at h1; cases h1
      | some o0 => exact ⟨o0, by rw [List.getElem?_eq_getElem hjA, hA]⟩
  refine (h.2 w _ _ us Ss hL.unren').mono ?_
  rintro e w' ⟨r, A', M1, F1, u, hK, rfl, hc, S1, E1, hfree⟩
  have hlA' : js.length ≤ A'.length := by rw [hlen]; exact E1.len
  let M' : Mod := { D := fun l => match κ l with | some j => M1.D j | none => M.D l, blk := fun l => match κ l with | some j => M1.blk j | none => M.blk l, base := fun l => match κ l with | some j => M1.base j | none => M.base l,
                    room := fun l => match κ l with | some j => M1.room j | none => M.room l, sz := fun l => match κ l with | some j => M1.sz j | none => M.sz l, I := M1.I }
  let F' : Nat → Nat → Prop := fun l => match κ l with | some j => F1 j | none => F l
  have hsame : M1.Same M' (rn ι) := by
    constructor
    · intro j l hg hD
      have e : ι j = l := Option.some.inj hg
      subst e
      show (match κ (ι j) with | some j => M1.D j | none => M.D (ι j))
      rw [upp j]; exact hD
    · intro j l hg hD
      have e : ι j = l := Option.some.inj hg
      subst e
      show (match κ (ι j) with | some j => M1.blk j | none => M.blk (ι j)) = _
      rw [upp j]
    · intro j l hg hD
      have e : ι j = l := Option.some.inj hg
      subst e
      show (match κ (ι j) with | some j => M1.base j | none => M.base (ι j)) = _
      rw [upp j]
    · intro j l hg hD
      have e : ι j = l := Option.some.inj hg
      subst e
      show (match κ (ι j) with | some j => M1.room j | none => M.room (ι j)) = _
      rw [upp j]
    · intro j l hg hD
      have e : ι j = l := Option.some.inj hg
      subst e
      show (match κ (ι j) with | some j => M1.sz j | none => M.sz (ι j)) = _
      rw [upp j]
    · intro b c hI; exact hI
  have hle : M.Le M' := by
    have key : ∀ l j, κ l = some j → M.D l → (M.pull ι).D j := fun l j hkl hD => by show M.D (ι j); rw [pup hkl]; exact hD
    constructor
    · intro l hD
      show (match κ l with | some j => M1.D j | none => M.D l)
      cases hkl : κ l with
      | none => exact hD
      | some j => exact E1.le.D j (key l j hkl hD)
    · intro l hD
      show (match κ l with | some j => M1.blk j | none => M.blk l) = _
      cases hkl : κ l with
      | none => rfl
      | some j => simp only []; rw [E1.le.blk j (key l j hkl hD)]; show M.blk (ι j) = _; rw [pup hkl]
    · intro l hD
      show (match κ l with | some j => M1.base j | none => M.base l) = _
      cases hkl : κ l with
      | none => rfl
      | some j => simp only []; rw [E1.le.base j (key l j hkl hD)]; show M.base (ι j) = _; rw [pup hkl]
    · intro l hD
      show (match κ l with | some j => M1.room j | none => M.room l) = _
      cases hkl : κ l with
      | none => rfl
      | some j => simp only []; rw [E1.le.room j (key l j hkl hD)]; show M.room (ι j) = _; rw [pup hkl]
    · intro l hD
      show (match κ l with | some j => M1.sz j | none => M.sz l) = _
      cases hkl : κ l with
      | none => rfl
      | some j => simp only []; rw [E1.le.sz j (key l j hkl hD)]; show M.sz (ι j) = _; rw [pup hkl]
    · exact E1.le.I
  -- what stands in the new heap
  have hget : ∀ (l : Nat), (putAll (rn ι) B js A')[l]? = match κ l with | some j => (A'[j]?).map (fun o => o.map (AO.ren (rn ι))) | none => B[l]? := fun l => by
    rw [putAll_get (rn ι) js B A' hnd hlt hlA' l, ← hk]
    unfold unplace
    split
    · rfl
    · rfl
  have live' : ∀ (l : Nat) (o : AO), (putAll (rn ι) B js A')[l]? = some (some o) → (∃ j o0, κ l = some j ∧ A'[j]? = some (some o0) ∧ o = o0.ren (rn ι)) ∨ (κ l = none ∧ B[l]? = some (some o)) := fun l o ho => by
    rw [hget l] at ho
    cases hkl : κ l with
    | none => rw [hkl] at ho; exact .inr ⟨rfl, ho⟩
    | some j =>
      rw [hkl] at ho
      simp only [] at ho
      cases hA : A'[j]? with
      | none => rw [hA] at ho; cases ho
      | some x =>
        rw [hA] at ho
        cases x with
        | none => cases ho
        | some o0 => simp at ho; exact .inl ⟨j, o0, rfl, hA, ho.symm⟩
  have F'some : ∀ {l j : Nat}, κ l = some j → F' l = F1 j := fun hkl => by show (match κ _ with | some j => F1 j | none => F _) = _; rw [hkl]
  have F'none : ∀ {l : Nat}, κ l = none → F' l = F l := fun hkl => by show (match κ _ with | some j => F1 j | none => F _) = _; rw [hkl]
  -- what a place outside owns, the call does not own
  have apart : ∀ (l : Nat) (o : AO) (b : Nat), κ l = none → B[l]? = some (some o) → F l b → ∀ l0 o0, A[l0]? = some (some o0) → ¬ F (ι l0) b := fun l o b hkl ho hb l0 o0 h0 hb0 => by
    have e := S.disj _ _ _ _ b (liveB l0 o0 h0) ho hb0 hb
    rw [← e, upp l0] at hkl; cases hkl
  have keepB : ∀ (l : Nat) (o : AO) (b : Nat), κ l = none → B[l]? = some (some o) → F l b → w'.heap[b]? = w.heap[b]? := fun l o b hkl ho hb => E1.keep b (S.lt l o b ho hb) fun l0 o0 h0 => apart l o b hkl ho hb l0 o0 h0
  refine ⟨AV.ren (rn ι) r, putAll (rn ι) B js A', M', F', u, ⟨r, A', hK, rfl, rfl⟩, rfl, hc.ren hsame, ?_, ?_, ?_⟩
  · refine ⟨fun l o ho => ?_, fun l hD => ?_, fun l o b ho hb => ?_, fun l l' o o' b h1 h2 hb hb' => ?_, S1.imm, fun b c l o hI ho hb => ?_⟩
    · rcases live' l o ho with ⟨j, o0, hkl, hA, rfl⟩ | ⟨hkl, hB⟩
      · obtain ⟨h1, h2⟩ := S1.holds j o0 hA
        have e := pup hkl
        refine ⟨?_, ?_⟩
        · show (match κ l with | some j => M1.D j | none => M.D l); rw [hkl]; exact h1
        · rw [F'some hkl]; exact AO.ren_holds hsame (fun _ => rfl) (by rw [← e]) h1 h2
      · obtain ⟨h1, h2⟩ := S.holds l o hB
        refine ⟨hle.D l h1, ?_⟩
        rw [F'none hkl]
        exact AO.keep h2 h1 hle fun b hb => keepB l o b hkl hB hb
    · have hD' : (match κ l with | some j => M1.D j | none => M.D l) := hD
      rw [hget l]
      cases hkl : κ l with
      | none => rw [hkl] at hD'; exact S.fresh l hD'
      | some j =>
        rw [hkl] at hD'
        obtain ⟨o, ho⟩ := S1.fresh j hD'
        exact ⟨o.ren (rn ι), by simp [ho]⟩
    · rcases live' l o ho with ⟨j, o0, hkl, hA, rfl⟩ | ⟨hkl, hB⟩
      · rw [F'some hkl] at hb; exact S1.lt j o0 b hA hb
      · rw [F'none hkl] at hb; exact Nat.lt_of_lt_of_le (S.lt l o b hB hb) E1.size
    · rcases live' l o h1 with ⟨j, o0, hkl, hA, rfl⟩ | ⟨hkl, hB⟩
      · rw [F'some hkl] at hb
        rcases live' l' o' h2 with ⟨j', o1, hkl', hA', rfl⟩ | ⟨hkl', hB'⟩
        · rw [F'some hkl'] at hb'
          have e := S1.disj _ _ _ _ b hA hA' hb hb'
          rw [← pup hkl, ← pup hkl', e]
        · rw [F'none hkl'] at hb'
          obtain ⟨l0, o2, h0, hb0⟩ := E1.foot j o0 b hA hb (S.lt l' o' b hB' hb')
          exact absurd hb0 (apart l' o' b hkl' hB' hb' l0 o2 h0)
      · rw [F'none hkl] at hb
        rcases live' l' o' h2 with ⟨j', o1, hkl', hA', rfl⟩ | ⟨hkl', hB'⟩
        · rw [F'some hkl'] at hb'
          obtain ⟨l0, o2, h0, hb0⟩ := E1.foot j' o1 b hA' hb' (S.lt l o b hB hb)
          exact absurd hb0 (apart l o b hkl hB hb l0 o2 h0)
        · rw [F'none hkl'] at hb'
          exact S.disj _ _ _ _ b hB hB' hb hb'
    · rcases live' l o ho with ⟨j, o0, hkl, hA, rfl⟩ | ⟨hkl, hB⟩
      · rw [F'some hkl] at hb; exact S1.immNot b c j o0 hI hA hb
      · rw [F'none hkl] at hb
        rcases E1.immFoot b c hI (S.lt l o b hB hb) with h1 | ⟨l0, o2, h0, hb0⟩
        · exact S.immNot b c l o h1 hB hb
        · exact apart l o b hkl hB hb l0 o2 h0 hb0
  · refine ⟨E1.os, E1.tape, E1.output, E1.size, hle, ?_, fun b hb hn => E1.keep b hb fun l0 o0 h0 => hn _ _ (liveB l0 o0 h0), fun l o b ho hb hlt' => ?_, fun b c hI hlt' => ?_⟩
    · rcases Nat.lt_or_ge (putAll (rn ι) B js A').length B.length with hlt' | h
      · exfalso
        have h1 := hget (putAll (rn ι) B js A').length
        rw [List.getElem?_eq_none (Nat.le_refl _)] at h1
        cases hkl : κ (putAll (rn ι) B js A').length with
        | none => rw [hkl, List.getElem?_eq_getElem hlt'] at h1; cases h1
        | some j =>
          rw [hkl] at h1
          have hj : j < js.length := by
            rw [← hk] at hkl; unfold unplace at hkl; rw [if_pos hlt', List.idxOf?_eq_some_iff] at hkl; exact hkl.1
          simp only [List.getElem?_eq_getElem (show j < A'.length by omega)] at h1; cases h1
      · exact h
    · rcases live' l o ho with ⟨j, o0, hkl, hA, rfl⟩ | ⟨hkl, hB⟩
      · rw [F'some hkl] at hb
        obtain ⟨l0, o2, h0, hb0⟩ := E1.foot j o0 b hA hb hlt'
        exact ⟨_, _, liveB l0 o2 h0, hb0⟩
      · rw [F'none hkl] at hb; exact ⟨l, o, hB, hb⟩
    · rcases E1.immFoot b c hI hlt' with h1 | ⟨l0, o2, h0, hb0⟩
      · exact .inl h1
      · exact .inr ⟨_, _, liveB l0 o2 h0, hb0⟩
  · intro l hl
    rw [hget l]
    cases hkl : κ l with
    | none => exact hl
    | some j =>
      have hlB : l < B.length := (List.getElem?_eq_some_iff.1 hl).1
      have hj : js[j]? = some l := by
        rw [← hk] at hkl; unfold unplace at hkl; rw [if_pos hlB, List.idxOf?_eq_some_iff] at hkl
        obtain ⟨h1, h2, _⟩ := hkl
        rw [List.getElem?_eq_getElem h1]; simpa using h2
      have hjA : j < A.length := by have := (List.getElem?_eq_some_iff.1 hj).1; omega
      have h1 := heq j l A[j] hj (by simp [hjA])
      rw [hl] at h1
      cases hA : A[j] with
      | some o0 => rw [hA] at h1; cases h1
      | none =>
        have h2 := hfree j (by rw [List.getElem?_eq_getElem hjA, hA])
        simp [h2]
end Go.SB
