/- FwL, FwM, FwN, FwO, FwP, FwQ, FwR, FwS, FwT, FwU, FwUa, put together. Conditions: none. -/
import Derived.Test.YtapoilcpollmpaaMA
import Derived.Laws.AppendOwn
import Derived.ScopeJumps
/- Framework, part L: append, copy, make, slice literals. -/
section
set_option linter.unusedVariables false
set_option linter.unusedSimpArgs false
namespace Go.SB
section
variable {P : Program} {M : Mod} {F : Nat → Nat → Prop} {A : AHeap} {ρ : List AV} {a : Act} {w : World}

/-- A flat list of values is these elements, one behind the other. -/
def Rows (M : Mod) (sz : Nat) (xs : List (List AV)) (us : List Value) : Prop :=
  us.length = xs.length * sz ∧ ∀ i e, xs[i]? = some e → e.length = sz ∧ ConcL M e ((us.drop (i * sz)).take sz)

theorem Rows.mono {M' : Mod} (hm : M.Le M') {sz : Nat} {xs : List (List AV)} {us : List Value} (h : Rows M sz xs us) : Rows M' sz xs us :=
  ⟨h.1, fun i e he => ⟨(h.2 i e he).1, (h.2 i e he).2.mono hm⟩⟩

theorem Rows.nil (M : Mod) (sz : Nat) : Rows M sz [] [] := ⟨by simp, by simp⟩

theorem lt_of_get {α : Type} {l : List α} {i : Nat} {x : α} (h : l[i]? = some x) : i < l.length := by
  rcases Nat.lt_or_ge i l.length with h' | h'
  · exact h'
  · rw [List.getElem?_eq_none h'] at h; cases h

theorem mul_lt {i n s : Nat} (h : i < n) : i * s + s ≤ n * s := by
  have : (i + 1) * s ≤ n * s := Nat.mul_le_mul_right _ h
  rw [Nat.add_mul, Nat.one_mul] at this; exact this

theorem Rows.append {sz : Nat} {xs ys : List (List AV)} {us vs : List Value} (h : Rows M sz xs us) (k : Rows M sz ys vs) : Rows M sz (xs ++ ys) (us ++ vs) := by
  refine ⟨by rw [List.length_append, List.length_append, h.1, k.1, Nat.add_mul], ?_⟩
  intro i e he
  rw [List.getElem?_append] at he
  split at he
  · rename_i hlt
    obtain ⟨a, b⟩ := h.2 i e he
    refine ⟨a, ?_⟩
    have := mul_lt (s := sz) hlt
    rw [List.drop_append_of_le_length (by rw [h.1]; omega), List.take_append_of_le_length (by rw [List.length_drop, h.1]; omega)]
    exact b
  · rename_i hge
    obtain ⟨a, b⟩ := k.2 _ e he
    refine ⟨a, ?_⟩
    have h1 : xs.length * sz ≤ i * sz := Nat.mul_le_mul_right _ (by omega)
    rw [List.drop_append, List.drop_eq_nil_of_le (by rw [h.1]; omega), List.nil_append, h.1, ← Nat.sub_mul]
    exact b

/-- The elements stand in a block. -/
theorem rows_of_arr {c : Array Value} {base sz lo len : Nat} {es : List (List AV)} {uss : Nat → List Value} (h4 : ∀ i ev, es[i]? = some ev → ConcL M ev (uss i) ∧ ev.length = sz)
    (h5 : ∀ (i j : Nat) (u : Value), i < es.length → (uss i)[j]? = some u → c[base + i * sz + j]? = some u) (hle : lo + len ≤ es.length) :
    ∃ us, Rows M sz ((es.drop lo).take len) us ∧ us.length = len * sz ∧ ∀ (j : Nat) (u : Value), us[j]? = some u → c[base + lo * sz + j]? = some u := by
  induction len with
  | zero => exact ⟨[], by simpa using Rows.nil M sz, by simp, by simp⟩
  | succ len ih =>
    obtain ⟨us, r, hl, hc⟩ := ih (by omega)
    have hi : lo + len < es.length := by omega
    obtain ⟨ev, hev⟩ : ∃ ev, es[lo + len]? = some ev := ⟨_, List.getElem?_eq_getElem hi⟩
    obtain ⟨q1, q2⟩ := h4 _ _ hev
    have hlu := q1.length
    have e1 : (es.drop lo).take (len + 1) = (es.drop lo).take len ++ [ev] := by
      rw [List.take_add_one, List.getElem?_drop, hev]; rfl
    have r1 : Rows M sz [ev] (uss (lo + len)) := by
      refine ⟨by simp [hlu, q2], ?_⟩
      intro i e he
      match i with
      | 0 =>
        simp at he; subst he
        refine ⟨q2, ?_⟩
        rw [Nat.zero_mul, List.drop_zero, List.take_of_length_le (by omega)]
        exact q1
      | i + 1 => simp at he
    refine ⟨us ++ uss (lo + len), by rw [e1]; exact r.append r1, by rw [List.length_append, hl, hlu, q2, Nat.add_mul]; omega, ?_⟩
    intro j u hu
    rw [List.getElem?_append] at hu
    split at hu
    · exact hc j u hu
    · rename_i hge
      rw [← h5 (lo + len) (j - us.length) u hi hu, hl, Nat.add_mul]
      congr 1
      rw [hl] at hge
      omega

/-- What a slice shows, in memory. -/
theorem elems_ok (S : Sim w.heap M F A) {sz : Nat} {x : AV} {ux : Value} (hx : Conc M x ux) {xs : List (List AV)} (h : elemsOf A sz x = some xs) (hr : rowsOk sz xs = true) :
    ∃ ad cap us, ux = .slice ad xs.length cap ∧ xs.length ≤ cap ∧ Rows M sz xs us ∧ ∀ w0 : World, w0.heap = w.heap → ∀ n, n ≤ xs.length → (Builtin.firstCells sz n ux).run P w0 = .ok (us.take (n * sz)).toArray w0 := by
  have hsz : ∀ (i : Nat) (e : List AV), xs[i]? = some e → e.length = sz := by
    intro i e he
    simp only [rowsOk, List.all_eq_true] at hr
    have := hr e (List.mem_of_getElem? he)
    simp at this; exact this.1
  have fc : ∀ (w0 : World), w0.heap = w.heap → ∀ (ad : Addr) (n cap : Nat) (us : List Value), n ≤ xs.length → us.length = xs.length * sz → (∀ (j : Nat) (u : Value), us[j]? = some u → w.cell? (ad.add j) = some u) →
      (Builtin.firstCells sz n (.slice (some ad) xs.length cap)).run P w0 = .ok (us.take (n * sz)).toArray w0 := by
    intro w0 hw0 ad n cap us hn hl hc
    have hm : n * sz ≤ xs.length * sz := Nat.mul_le_mul_right _ hn
    exact run_firstCells_some (P := P) w0 sz n ad xs.length cap (us.take (n * sz)) (by simp; omega) (fun j u hu => by
      rw [List.getElem?_take] at hu
      split at hu
      · rw [← hc j u hu]; simp [World.cell?, hw0]
      · cases hu)
  cases x <;> simp only [elemsOf] at h <;> first | (cases h; done) | skip
  case nils =>
    cases h; cases hx
    exact ⟨none, 0, [], rfl, Nat.le_refl _, Rows.nil _ _, fun w0 hw0 n hn => by
      have : n = 0 := by simpa using hn
      subst this
      simp [run_firstCells_none]⟩
  case es =>
    cases h
    cases hx with
    | es ad =>
      refine ⟨some ad, 0, [], rfl, Nat.le_refl _, Rows.nil _ _, fun w0 hw0 n hn => ?_⟩
      exact fc w0 hw0 ad n 0 [] hn (by simp) (by simp)
  case raw v =>
    cases hx
    cases ux with
    | slice a n c =>
      cases a with
      | none => cases h
      | some ad =>
        cases n with
        | zero =>
          cases h
          refine ⟨some ad, c, [], rfl, Nat.zero_le _, Rows.nil _ _, fun w0 hw0 n hn => ?_⟩
          exact fc w0 hw0 ad n c [] hn (by simp) (by simp)
        | succ n => cases h
    | _ => cases h
  case ps sz' es =>
    split at h
    rotate_left
    · cases h
    rename_i hsz'
    subst hsz'
    cases h
    cases hx with
    | @ps _ _ uss c b o cap hI hc hr' hL =>
      obtain ⟨e, fr, hb⟩ := S.imm _ _ hI
      obtain ⟨us, r, hlu, hcell⟩ := rows_of_arr (M := M) (c := c) (base := o) (sz := sz') (lo := 0) (len := xs.length) (es := xs) (uss := uss) (fun i ev he => ⟨hL i ev he, hsz i ev he⟩) hr' (by omega)
      rw [List.drop_zero, List.take_length] at r
      refine ⟨some ⟨b, o, none⟩, cap, us, rfl, hc, r, fun w0 hw0 n hn => ?_⟩
      refine fc w0 hw0 _ n cap us hn hlu (fun j u hu => ?_)
      rw [addr_add, cell_of_block hb]
      simpa using hcell j u hu
    | @ps0 _ ad cap _ =>
      refine ⟨ad, cap, [], rfl, Nat.zero_le _, Rows.nil _ _, fun w0 hw0 n hn => ?_⟩
      have : n = 0 := by simpa using hn
      subst this
      cases ad with
      | none => simp [run_firstCells_none]
      | some ad => exact fc w0 hw0 ad 0 cap [] hn (by simp) (by simp)
  case sl l sz' lo len tt =>
    split at h
    · rename_i es hA
      split at h
      · rename_i hszle
        obtain ⟨hsz', hle⟩ := hszle
        subst hsz'
        cases h
        have hh := (S.holds l _ hA).2
        have hl : ((es.drop lo).take len).length = len := by simp; omega
        rw [hl] at fc ⊢
        cases hx with
        | @sl _ _ _ _ cap _ hD' hs hc ht hrm =>
          by_cases h0 : len = 0
          · subst h0
            refine ⟨_, cap, [], rfl, hc, by simpa using Rows.nil M sz', fun w0 hw0 n hn => ?_⟩
            exact fc w0 hw0 _ n cap [] hn (by simp) (by simp)
          · obtain ⟨hF, c, ty, fr, uss, g1, g2, g3, g4, g5⟩ := AO.arr_live hh (.inl (by rintro rfl; simp at hle; omega))
            rw [hs] at g4 g5
            obtain ⟨us, r, hlu, hcell⟩ := rows_of_arr g4 g5 hle
            refine ⟨_, cap, us, rfl, hc, r, fun w0 hw0 n hn => ?_⟩
            refine fc w0 hw0 _ n cap us hn hlu (fun j u hu => ?_)
            rw [addr_add, cell_of_block g1]
            exact hcell j u hu
        | @sl0 _ _ _ _ ad hD' hs =>
          refine ⟨ad, 0, [], rfl, Nat.le_refl _, by simpa using Rows.nil M sz', fun w0 hw0 n hn => ?_⟩
          cases ad with
          | none =>
            have : n = 0 := by simpa using hn
            subst this
            simp [run_firstCells_none]
          | some ad => exact fc w0 hw0 ad n 0 [] hn (by simp) (by simp)
      · cases h
    · cases h

/-- A block, after a run of cells was written into it. -/
theorem setCells_block (b : Nat) (e : TypeId) (fr : Nat × Nat) : ∀ (vs : List Value) (o : Nat) (w : World) (c : Array Value), w.heap[b]? = some (.cells c e fr) →
    ∃ c' : Array Value, (w.setCells b o vs).heap[b]? = some (.cells c' e fr) ∧ c'.size = c.size ∧
      (∀ i, c'[i]? = if o ≤ i ∧ i < o + vs.length ∧ i < c.size then vs[i - o]? else c[i]?)
  | [], o, w, c, h => ⟨c, h, rfl, fun i => by rw [if_neg]; simp; omega⟩
  | v :: vs, o, w, c, h => by
    obtain ⟨c', h1, h2, h3⟩ := setCells_block b e fr vs (o + 1) (w.setCell ⟨b, o, none⟩ v) (c.setIfInBounds o v) (setCell_block v h)
    refine ⟨c', h1, by simpa using h2, ?_⟩
    intro i
    rw [h3 i]
    simp only [Array.size_setIfInBounds, List.length_cons]
    by_cases hi : i = o
    · subst hi
      rw [if_neg (by omega)]
      by_cases hs : i < c.size
      · rw [if_pos (by omega)]; simp [hs]
      · rw [if_neg (by omega)]
        rw [Array.getElem?_eq_none (by simp; omega), Array.getElem?_eq_none (by omega)]
    · rw [Array.getElem?_setIfInBounds_ne (fun e => hi e.symm)]
      by_cases hc : o + 1 ≤ i ∧ i < o + 1 + vs.length ∧ i < c.size
      · rw [if_pos hc, if_pos (by omega), show i - o = (i - (o + 1)) + 1 by omega, List.getElem?_cons_succ]
      · rw [if_neg hc, if_neg (by omega)]

theorem setCells_other (b : Nat) (k : Nat) (hk : k ≠ b) : ∀ (vs : List Value) (o : Nat) (w : World), (w.setCells b o vs).heap[k]? = w.heap[k]?
  | [], _, _ => rfl
  | v :: vs, o, w => by rw [World.setCells, setCells_other b k hk vs, setCell_heap w b o v k hk]

theorem setCells_world (b : Nat) : ∀ (vs : List Value) (o : Nat) (w : World), (w.setCells b o vs).os = w.os ∧ (w.setCells b o vs).tape = w.tape ∧ (w.setCells b o vs).output = w.output ∧ (w.setCells b o vs).heap.size = w.heap.size
  | [], _, _ => ⟨rfl, rfl, rfl, rfl⟩
  | v :: vs, o, w => by
    obtain ⟨h1, h2, h3, h4⟩ := setCells_world b vs (o + 1) (w.setCell ⟨b, o, none⟩ v)
    exact ⟨h1, h2, h3, by rw [World.setCells, h4]; simp⟩

/-- Elements written over a part of an array, or behind it, within the block. -/
theorem arr_write {c c' : Array Value} {base sz i0 : Nat} {es : List (List AV)} {uss : Nat → List Value} (h4 : ∀ i ev, es[i]? = some ev → ConcL M ev (uss i) ∧ ev.length = sz)
    (h5 : ∀ (i j : Nat) (u : Value), i < es.length → (uss i)[j]? = some u → c[base + i * sz + j]? = some u) (hi : i0 ≤ es.length) {xs : List (List AV)} {us : List Value} (hr : Rows M sz xs us)
    (hfit : base + (i0 + xs.length) * sz ≤ c.size) (hc : ∀ i, c'[i]? = if base + i0 * sz ≤ i ∧ i < base + i0 * sz + us.length ∧ i < c.size then us[i - (base + i0 * sz)]? else c[i]?) :
    ∃ uss' : Nat → List Value, (∀ i ev, (es.take i0 ++ xs ++ es.drop (i0 + xs.length))[i]? = some ev → ConcL M ev (uss' i) ∧ ev.length = sz) ∧
      ∀ (i j : Nat) (u : Value), i < (es.take i0 ++ xs ++ es.drop (i0 + xs.length)).length → (uss' i)[j]? = some u → c'[base + i * sz + j]? = some u := by
  have hlu := hr.1
  have hfit' : base + i0 * sz + us.length ≤ c.size := by rw [hlu]; rw [Nat.add_mul] at hfit; omega
  have lt : (es.take i0).length = i0 := by simp; omega
  refine ⟨fun i => if i0 ≤ i ∧ i < i0 + xs.length then (us.drop ((i - i0) * sz)).take sz else uss i, ?_, ?_⟩
  · intro i ev he
    by_cases h : i0 ≤ i ∧ i < i0 + xs.length
    · simp only [if_pos h]
      rw [List.append_assoc, List.getElem?_append_right (by omega), lt, List.getElem?_append_left (by omega)] at he
      exact ⟨(hr.2 _ _ he).2, (hr.2 _ _ he).1⟩
    · simp only [if_neg h]
      by_cases h1 : i < i0
      · rw [List.append_assoc, List.getElem?_append_left (by omega), List.getElem?_take, if_pos h1] at he
        exact h4 i ev he
      · rw [List.getElem?_append_right (by simp; omega), List.getElem?_drop] at he
        simp only [List.length_append, lt] at he
        rw [show i0 + xs.length + (i - (i0 + xs.length)) = i by omega] at he
        exact h4 i ev he
  · intro i j u hlt hu
    by_cases h : i0 ≤ i ∧ i < i0 + xs.length
    · simp only [if_pos h] at hu
      rw [List.getElem?_take] at hu
      split at hu
      · rename_i hj
        rw [List.getElem?_drop] at hu
        have h1 : (i - i0) * sz + sz ≤ xs.length * sz := mul_lt (by omega)
        have h2 : i * sz = i0 * sz + (i - i0) * sz := by rw [← Nat.add_mul]; congr 1; omega
        rw [hc, if_pos (by omega), ← hu]
        congr 1; omega
      · cases hu
    · simp only [if_neg h] at hu
      have hlen : i < es.length := by
        simp only [List.length_append, List.length_drop, lt] at hlt
        omega
      obtain ⟨ev, hev⟩ : ∃ ev, es[i]? = some ev := ⟨_, List.getElem?_eq_getElem hlen⟩
      have hj : j < sz := by
        have h1 := (h4 i ev hev).1.length
        have h2 := (h4 i ev hev).2
        have := lt_of_get hu
        omega
      rw [hc, if_neg ?_]
      · exact h5 i j u hlen hu
      · intro hcon
        by_cases h1 : i < i0
        · have := mul_lt (s := sz) h1; omega
        · have h2 : (i0 + xs.length) * sz ≤ i * sz := Nat.mul_le_mul_right _ (by omega)
          rw [Nat.add_mul] at h2; omega
end
end Go.SB
end

/- Framework, part M: append, copy, make, slice literals in the real heap. -/
section
set_option linter.unusedVariables false
set_option linter.unusedSimpArgs false
namespace Go.SB
section
variable {P : Program} {M : Mod} {F : Nat → Nat → Prop} {A : AHeap} {ρ : List AV} {a : Act} {w : World}

/-- A location is let go; another one takes its blocks over. -/
theorem Sim.move (S : Sim w.heap M F A) {l p : Nat} {o o' : AO} (hA : A[l]? = some (some o)) (hp : A[p]? = some none) {w' : World} (hos : w'.os = w.os) (htp : w'.tape = w.tape) (hout : w'.output = w.output)
    (hsize : w'.heap.size = w.heap.size) (hkeep : ∀ b, ¬ F l b → w'.heap[b]? = w.heap[b]?) (bs rm s : Nat) (ho : o'.holds w'.heap (M.put p (M.blk l) bs rm s) (F l) p) :
    Sim w'.heap (M.put p (M.blk l) bs rm s) (fun k b => if k = p then F l b else if k = l then False else F k b) ((A.set l (some .dead)).set p (some o')) ∧
    Ext w M F A w' (M.put p (M.blk l) bs rm s) (fun k b => if k = p then F l b else if k = l then False else F k b) ((A.set l (some .dead)).set p (some o')) := by
  have hnD := S.notD hp
  have hle := Mod.le_put hnD (M.blk l) bs rm s
  have hlp : l ≠ p := fun e => by rw [e, hp] at hA; cases hA
  have hll := lt_of_get hA
  have hpl := lt_of_get hp
  have get : ∀ {k : Nat} {x : AO}, ((A.set l (some .dead)).set p (some o'))[k]? = some (some x) → (k = p ∧ x = o') ∨ (k = l ∧ x = .dead) ∨ (k ≠ p ∧ k ≠ l ∧ A[k]? = some (some x)) := by
    intro k x hx
    by_cases e : p = k
    · subst e; rw [List.getElem?_set_self (by simpa using hpl)] at hx; cases hx; exact .inl ⟨rfl, rfl⟩
    · rw [List.getElem?_set_ne e] at hx
      by_cases e2 : l = k
      · subst e2; rw [List.getElem?_set_self hll] at hx; cases hx; exact .inr (.inl ⟨rfl, rfl⟩)
      · rw [List.getElem?_set_ne e2] at hx; exact .inr (.inr ⟨fun h => e h.symm, fun h => e2 h.symm, hx⟩)
  refine ⟨⟨?_, ?_, ?_, ?_, ?_, ?_⟩, ⟨hos, htp, hout, by omega, hle, by simp, ?_, ?_, ?_⟩⟩
  · intro k x hx
    rcases get hx with ⟨rfl, rfl⟩ | ⟨rfl, rfl⟩ | ⟨h1, h2, h3⟩
    · refine ⟨.inr rfl, ?_⟩
      simpa using ho
    · refine ⟨.inl (S.holds _ _ hA).1, ?_⟩
      intro b hb
      simp [hlp] at hb
    · obtain ⟨hD, hh⟩ := S.holds k x h3
      refine ⟨.inl hD, ?_⟩
      rw [show (fun b => if k = p then F l b else if k = l then False else F k b) = F k from funext fun b => by rw [if_neg h1, if_neg h2]]
      exact AO.keep hh hD hle fun b hb => hkeep b fun hl => h2 (S.disj k l x o b h3 hA hb hl)
  · intro k hD
    by_cases e : p = k
    · subst e; exact ⟨o', by rw [List.getElem?_set_self (by simpa using hpl)]⟩
    · rcases hD with hD | hD
      · obtain ⟨x, hx⟩ := S.fresh k hD
        by_cases e2 : l = k
        · subst e2; exact ⟨.dead, by rw [List.getElem?_set_ne e, List.getElem?_set_self hll]⟩
        · exact ⟨x, by rw [List.getElem?_set_ne e, List.getElem?_set_ne e2]; exact hx⟩
      · exact absurd hD.symm e
  · intro k x b hx hb
    rw [hsize]
    rcases get hx with ⟨rfl, rfl⟩ | ⟨rfl, rfl⟩ | ⟨h1, h2, h3⟩
    · rw [if_pos rfl] at hb; exact S.lt l o b hA hb
    · simp [hlp] at hb
    · rw [if_neg h1, if_neg h2] at hb; exact S.lt k x b h3 hb
  · intro k k' x x' b hx hx' hb hb'
    rcases get hx with ⟨rfl, rfl⟩ | ⟨rfl, rfl⟩ | ⟨h1, h2, h3⟩ <;> rcases get hx' with ⟨rfl, rfl⟩ | ⟨rfl, rfl⟩ | ⟨h1', h2', h3'⟩
    · rfl
    · simp [hlp] at hb'
    · rw [if_pos rfl] at hb; rw [if_neg h1', if_neg h2'] at hb'
      exact absurd (S.disj l k' o x' b hA h3' hb hb') (fun e => h2' e.symm)
    · simp [hlp] at hb
    · rfl
    · simp [hlp] at hb
    · rw [if_pos rfl] at hb'; rw [if_neg h1, if_neg h2] at hb
      exact absurd (S.disj l k o x b hA h3 hb' hb) (fun e => h2 e.symm)
    · simp [hlp] at hb'
    · rw [if_neg h1, if_neg h2] at hb; rw [if_neg h1', if_neg h2'] at hb'
      exact S.disj k k' x x' b h3 h3' hb hb'
  · intro b c hI
    obtain ⟨e, fr, hb⟩ := S.imm b c hI
    exact ⟨e, fr, by rw [hkeep b (S.immNot b c l o hI hA)]; exact hb⟩
  · intro b c k x hI hx hb
    rcases get hx with ⟨rfl, rfl⟩ | ⟨rfl, rfl⟩ | ⟨h1, h2, h3⟩
    · rw [if_pos rfl] at hb; exact S.immNot b c l o hI hA hb
    · simp [hlp] at hb
    · rw [if_neg h1, if_neg h2] at hb; exact S.immNot b c k x hI h3 hb
  · intro b hb hn
    exact hkeep b (hn l o hA)
  · intro k x b hx hb hlt'
    rcases get hx with ⟨rfl, rfl⟩ | ⟨rfl, rfl⟩ | ⟨h1, h2, h3⟩
    · rw [if_pos rfl] at hb; exact ⟨l, o, hA, hb⟩
    · simp [hlp] at hb
    · rw [if_neg h1, if_neg h2] at hb; exact ⟨k, x, h3, hb⟩
  · intro b c hI _
    exact .inl hI

/-- A location is let go. -/
theorem Sim.drop (S : Sim w.heap M F A) {l : Nat} {o : AO} (hA : A[l]? = some (some o)) :
    Sim w.heap M (fun k b => if k = l then False else F k b) (A.set l (some .dead)) ∧ Ext w M F A w M (fun k b => if k = l then False else F k b) (A.set l (some .dead)) := by
  have hll := lt_of_get hA
  have get : ∀ {k : Nat} {x : AO}, (A.set l (some .dead))[k]? = some (some x) → (k = l ∧ x = .dead) ∨ (k ≠ l ∧ A[k]? = some (some x)) := by
    intro k x hx
    by_cases e2 : l = k
    · subst e2; rw [List.getElem?_set_self hll] at hx; cases hx; exact .inl ⟨rfl, rfl⟩
    · rw [List.getElem?_set_ne e2] at hx; exact .inr ⟨fun h => e2 h.symm, hx⟩
  refine ⟨⟨?_, ?_, ?_, ?_, S.imm, ?_⟩, ⟨rfl, rfl, rfl, Nat.le_refl _, .refl M, by simp, fun _ _ _ => rfl, ?_, fun b c hI _ => .inl hI⟩⟩
  · intro k x hx
    rcases get hx with ⟨rfl, rfl⟩ | ⟨h1, h2⟩
    · exact ⟨(S.holds _ _ hA).1, fun b hb => by simp at hb⟩
    · obtain ⟨hD, hh⟩ := S.holds k x h2
      refine ⟨hD, ?_⟩
      rw [show (fun b => if k = l then False else F k b) = F k from funext fun b => by rw [if_neg h1]]
      exact hh
  · intro k hD
    obtain ⟨x, hx⟩ := S.fresh k hD
    by_cases e2 : l = k
    · subst e2; exact ⟨.dead, by rw [List.getElem?_set_self hll]⟩
    · exact ⟨x, by rw [List.getElem?_set_ne e2]; exact hx⟩
  · intro k x b hx hb
    rcases get hx with ⟨rfl, rfl⟩ | ⟨h1, h2⟩
    · simp at hb
    · rw [if_neg h1] at hb; exact S.lt k x b h2 hb
  · intro k k' x x' b hx hx' hb hb'
    rcases get hx with ⟨rfl, rfl⟩ | ⟨h1, h2⟩
    · simp at hb
    · rcases get hx' with ⟨rfl, rfl⟩ | ⟨h1', h2'⟩
      · simp at hb'
      · rw [if_neg h1] at hb; rw [if_neg h1'] at hb'
        exact S.disj k k' x x' b h2 h2' hb hb'
  · intro b c k x hI hx hb
    rcases get hx with ⟨rfl, rfl⟩ | ⟨h1, h2⟩
    · simp at hb
    · rw [if_neg h1] at hb; exact S.immNot b c k x hI h2 hb
  · intro k x b hx hb _
    rcases get hx with ⟨rfl, rfl⟩ | ⟨h1, h2⟩
    · simp at hb
    · rw [if_neg h1] at hb; exact ⟨k, x, h2, hb⟩

/-- A new array. -/
theorem new_arr (S : Sim w.heap M F A) {p : Nat} (hp : A[p]? = some none) {sz : Nat} {xs : List (List AV)} {us : List Value} (hr : Rows M sz xs us) {c : Array Value}
    (hc : ∀ (j : Nat) (u : Value), us[j]? = some u → c[j]? = some u) (t : TypeId) {w' : World} (hos : w'.os = w.os) (htp : w'.tape = w.tape) (hout : w'.output = w.output) (hheap : w'.heap = w.heap.push (.cells c t))
    {n cap : Nat} {tt : Bool} (hn : n ≤ cap) (htt : tt = true → cap = n) (hfit : cap * sz ≤ c.size) :
    ∃ M' F', Conc M' (.sl p sz 0 n tt) (.slice (some ⟨w.heap.size, 0, none⟩) n cap) ∧ Sim w'.heap M' F' (A.set p (some (.arr xs))) ∧ Ext w M F A w' M' F' (A.set p (some (.arr xs))) := by
  have hnD := S.notD hp
  obtain ⟨S', E'⟩ := S.alloc hp hos htp hout hheap c.size sz (o := .arr xs) (by
    refine .inr ⟨fun b => by simp [Mod.put], c, t, (0, 0), fun i => (us.drop (i * sz)).take sz, ?_, unfrozen0 c, by simp [Mod.put], ?_, ?_⟩
    · rw [hheap]; simp [Mod.put]
    · intro i ev he
      obtain ⟨a, b⟩ := hr.2 i ev he
      exact ⟨b.mono (Mod.le_put hnD _ _ _ _), by simpa [Mod.put] using a⟩
    · intro i j u hi hu
      rw [List.getElem?_take] at hu
      split at hu
      · rw [List.getElem?_drop] at hu
        simpa [Mod.put] using hc _ _ hu
      · cases hu)
  refine ⟨_, _, ?_, S', E'⟩
  have := Conc.sl (M := M.put p w.heap.size 0 c.size sz) (l := p) (sz := sz) (lo := 0) (len := n) (cap := cap) (tight := tt) (.inr rfl) (by simp [Mod.put]) hn htt (by simpa [Mod.put] using hfit)
  simpa [Mod.put] using this

theorem lenOf_slice (ad : Option Addr) (n c : Nat) : (Builtin.lenOf (.slice ad n c)).run P w = .ok n w := rfl

theorem append_stay {t e ty : TypeId} {i : TypeInfo} (ht : P.underlying t = some (.slice e)) (hi : P.info? e = some i) {b : Option Addr} {sLen sCap : Nat} {ad : Option Addr} {n c : Nat} {news : Array Value} {w' : World}
    (hf : (Builtin.firstCells i.size n (.slice ad n c)).run P w = .ok news w) (hroom : sLen + n ≤ sCap)
    (hst : match b with | some x => (storeCells (x.add (sLen * i.size)) news.toList).run P w = .ok () w' | none => w' = w) :
    (Builtin.append_ #[t, t] ty #[.slice b sLen sCap, .slice ad n c]).run P w = .ok (.slice b (sLen + n) sCap) w' := by
  cases b with
  | none =>
    subst hst
    simp [Builtin.append_, run_underlying ht, sizeOf, typeInfo, hi, Builtin.lenOf, hroom, hf]
  | some x =>
    simp only at hst
    simp [Builtin.append_, run_underlying ht, sizeOf, typeInfo, hi, Builtin.lenOf, hroom, hf, hst]

theorem append_grow {t e ty : TypeId} {i : TypeInfo} {z : Value} (ht : P.underlying t = some (.slice e)) (hi : P.info? e = some i) (hz : i.zero = some z) {b : Option Addr} {sLen sCap : Nat} {ad : Option Addr} {n c : Nat} {olds news : Array Value}
    (hfo : (Builtin.firstCells i.size sLen (.slice b sLen sCap)).run P w.drew = .ok olds w.drew) (hf : (Builtin.firstCells i.size n (.slice ad n c)).run P w.drew = .ok news w.drew) (hg : sCap < sLen + n)
    (hb : (sLen + n) * i.bytes ≤ 140737488355328) (h0 : 0 < i.bytes) :
    (Builtin.append_ #[t, t] ty #[.slice b sLen sCap, .slice ad n c]).run P w =
      .ok (.slice (some ⟨w.heap.size, 0, none⟩) (sLen + n) (grownCap w (sLen + n) sCap e)) (w.drew.alloc (.cells (olds ++ news ++ Builtin.zeroCells z.cells (grownCap w (sLen + n) sCap e - (sLen + n))) e)) := by
  have hn : ¬ (sLen + n ≤ sCap) := by omega
  have hle : sLen + n ≤ (sLen + n) * i.bytes := Nat.le_mul_of_pos_right _ h0
  have h63' : ¬ (9223372036854775807 < ((sLen : Int) + (n : Int))) := by omega
  have hfit := growslice_fits hg hb
  have h48' : ¬ (281474976710656 < Builtin.nextslicecap (sLen + n) sCap * i.bytes) := by omega
  simp [Builtin.append_, run_underlying ht, sizeOf, typeInfo, zeroValue, hi, hz, Builtin.lenOf, hn, h63', h48', Question.forced, hf, hfo, newRow, grownCap]

/-- The behind: spare cells of a grown array do not matter. -/
theorem grown_arr (S : Sim w.heap M F A) {p : Nat} (hp : A[p]? = some none) {sz need old : Nat} {xs : List (List AV)} {us : List Value} (hr : Rows M sz xs us) (hlen : xs.length = need) {z : Value} (hz : z.cells.size = sz) {e : TypeId}
    {rest : Array Value} (hrest : rest = Builtin.zeroCells z.cells (grownCap w need old e - need)) :
    ∃ M' F', Conc M' (.sl p sz 0 need false) (.slice (some ⟨w.heap.size, 0, none⟩) need (grownCap w need old e)) ∧
      Sim (w.drew.alloc (.cells (us.toArray ++ rest) e)).heap M' F' (A.set p (some (.arr xs))) ∧ Ext w M F A (w.drew.alloc (.cells (us.toArray ++ rest) e)) M' F' (A.set p (some (.arr xs))) := by
  refine new_arr S hp hr (c := us.toArray ++ rest) ?_ e (w' := w.drew.alloc (.cells (us.toArray ++ rest) e)) rfl rfl rfl rfl (n := need) (cap := grownCap w need old e) (tt := false) (grownCap_ge w need old e) (fun h => by cases h) ?_
  · intro j u hu
    have := lt_of_get hu
    rw [Array.getElem?_append_left (by simpa using this)]
    simpa using hu
  · rw [Array.size_append, hrest, size_zeroCells, hz]
    have := grownCap_ge w need old e
    have h1 := hr.1
    rw [hlen] at h1
    simp only [List.size_toArray, h1]
    rw [← Nat.add_mul]
    apply Nat.mul_le_mul_right
    omega

theorem ones_of_rows {sz : Nat} {xs : List (List AV)} (hr : rowsOk sz xs = true) {us : List Value} (h : Rows M sz xs us) (h0 : 0 < sz) : ∀ v ∈ us, v.oneCell' = true := by
  intro v hv
  obtain ⟨k, hk, e⟩ := List.mem_iff_getElem.1 hv
  have hk' : k < xs.length * sz := by rw [← h.1]; exact hk
  have hi : k / sz < xs.length := (Nat.div_lt_iff_lt_mul h0).2 hk'
  obtain ⟨ev, hev⟩ : ∃ ev, xs[k / sz]? = some ev := ⟨_, List.getElem?_eq_getElem hi⟩
  obtain ⟨h1, h2⟩ := h.2 _ _ hev
  have hm : k % sz < sz := Nat.mod_lt _ h0
  have hdm := Nat.div_add_mod k sz
  obtain ⟨x, hx⟩ : ∃ x, ev[k % sz]? = some x := ⟨_, List.getElem?_eq_getElem (by omega)⟩
  obtain ⟨u, hu, hc⟩ := h2.get hx
  rw [List.getElem?_take, if_pos hm, List.getElem?_drop, show k / sz * sz + k % sz = k by rw [Nat.mul_comm]; exact hdm, List.getElem?_eq_getElem hk, e] at hu
  cases hu
  refine hc.oneCell ?_
  simp only [rowsOk, List.all_eq_true] at hr
  have := hr ev (List.mem_of_getElem? hev)
  simp at this
  exact this.2 x (List.mem_of_getElem? hx)

theorem aapp_ok (S : Sim w.heap M F A) {t e ty : TypeId} {i : TypeInfo} {z : Value} {sz : Nat} (ht : P.underlying t = some (.slice e)) (hi : P.info? e = some i) (hz : i.zero = some z) (hsz : i.size = sz) (hzs : z.cells.size = sz)
    (hb0 : 0 < i.bytes) (h0 : 0 < sz) {p : Nat} {s x : AV} {us ux : Value} (hs : Conc M s us) (hx : Conc M x ux) {xs : List (List AV)} (he : elemsOf A sz x = some xs) (hr : rowsOk sz xs = true)
    {v : AV} {A' : AHeap} (h : aapp A p sz i.bytes s xs = some (v, A')) :
    ∃ w' M' F' u, (Builtin.append_ #[t, t] ty #[us, ux]).run P w = .ok u w' ∧ Conc M' v u ∧ Sim w'.heap M' F' A' ∧ Ext w M F A w' M' F' A' := by
  subst hsz
  obtain ⟨ad, cap, ns, rfl, hcap, hrows, hfc⟩ := elems_ok (P := P) S hx he hr
  have hlen := hrows.1
  have htk : ns.take (xs.length * i.size) = ns := List.take_of_length_le (by omega)
  have hfull := hfc w rfl xs.length (Nat.le_refl _)
  have hfull' := hfc w.drew rfl xs.length (Nat.le_refl _)
  rw [htk] at hfull hfull'
  have hones := ones_of_rows hr hrows h0
  -- nothing there yet
  have fromNone : ∀ (b : Option Addr), us = .slice b 0 0 → (∀ w0 : World, (Builtin.firstCells i.size 0 (.slice b 0 0)).run P w0 = .ok #[] w0) → ∀ (x0 : List AV) (xr : List (List AV)), xs = x0 :: xr → A[p]? = some none →
      (x0 :: xr).length * i.bytes ≤ 140737488355328 → v = .sl p i.size 0 (x0 :: xr).length false → A' = A.set p (some (.arr (x0 :: xr))) →
      ∃ w' M' F' u, (Builtin.append_ #[t, t] ty #[us, .slice ad xs.length cap]).run P w = .ok u w' ∧ Conc M' v u ∧ Sim w'.heap M' F' A' ∧ Ext w M F A w' M' F' A' := by
    intro b hb hfo x0 xr hxs hp hbytes hv hA'
    subst hb; subst hv; subst hA'
    have hg := append_grow (P := P) (w := w) (ty := ty) ht hi hz (b := b) (sLen := 0) (sCap := 0) (hfo w.drew) hfull' (by rw [hxs]; simp) (by rw [hxs]; simpa using hbytes) hb0
    obtain ⟨M', F', q1, q2, q3⟩ := grown_arr S hp hrows (need := xs.length) (old := 0) rfl hzs (e := e) rfl
    rw [hxs] at q1 q2 q3 hg ⊢
    simp only [Nat.zero_add, Array.empty_append] at hg
    exact ⟨_, M', F', _, hg, q1, q2, q3⟩
  -- nothing to append
  have stay0 : ∀ (b : Option Addr) (n c : Nat), us = .slice b n c → n ≤ c → xs = [] →
      (Builtin.append_ #[t, t] ty #[us, .slice ad xs.length cap]).run P w = .ok us w := by
    intro b n c hb hnc hxs
    subst hb
    have hn0 : ns = [] := List.eq_nil_of_length_eq_zero (by rw [hlen, hxs]; simp)
    have := append_stay (P := P) (w := w) (w' := w) (ty := ty) ht hi (b := b) (sLen := n) (sCap := c) hfull (by rw [hxs]; simpa using hnc) (by
      cases b with
      | none => rfl
      | some y => subst hn0; rfl)
    rw [this, hxs]; rfl
  cases s <;> simp only [aapp] at h <;> first | (cases h; done) | skip
  case nils =>
    cases hs
    cases xs with
    | nil =>
      simp only at h; cases h
      exact ⟨w, M, F, _, stay0 none 0 0 rfl (Nat.le_refl _) rfl, .nils, S, .refl _ _ _ _⟩
    | cons x0 xr =>
      simp only at h
      split at h
      · rename_i hp
        split at h
        · rename_i hbytes
          cases h
          exact fromNone none rfl (fun w0 => by simp [run_firstCells_none]) x0 xr rfl hp hbytes rfl rfl
        · cases h
      · cases h
  case es =>
    cases hs with
    | es ad0 =>
      cases xs with
      | nil =>
        simp only at h; cases h
        exact ⟨w, M, F, _, stay0 (some ad0) 0 0 rfl (Nat.le_refl _) rfl, .es _, S, .refl _ _ _ _⟩
      | cons x0 xr =>
        simp only at h
        split at h
        · rename_i hp
          split at h
          · rename_i hbytes
            cases h
            exact fromNone (some ad0) rfl (fun w0 => run_firstCells_some (P := P) w0 i.size 0 ad0 0 0 [] (by simp) (by simp)) x0 xr rfl hp hbytes rfl rfl
          · cases h
        · cases h
  case sl l sz' lo len tt =>
    split at h
    · rename_i es hA
      split at h
      · rename_i hp
        split at h
        · rename_i hc
          obtain ⟨rfl, hle, hbytes⟩ := hc
          have hh := (S.holds l _ hA).2
          have hlp : l ≠ p := fun e => by rw [e, hp] at hA; cases hA
          have helen : ((es.drop lo).take len).length = len := by simp; omega
          -- a grown array, over what is kept of the heap
          have grow : ∀ (b : Option Addr) (c' : Nat) (us0 : List Value), us = .slice b len c' → c' < len + xs.length → Rows M i.size ((es.drop lo).take len) us0 →
              (∀ w0 : World, w0.heap = w.heap → (Builtin.firstCells i.size len (.slice b len c')).run P w0 = .ok us0.toArray w0) →
              ∃ w' M' F' u, (Builtin.append_ #[t, t] ty #[us, .slice ad xs.length cap]).run P w = .ok u w' ∧ Conc M' v u ∧ Sim w'.heap M' F' A' ∧ Ext w M F A w' M' F' A' := by
            intro b c' us0 hus hg hrows0 hfo
            subst hus
            have hg' := append_grow (P := P) (w := w) (ty := ty) ht hi hz (b := b) (sLen := len) (sCap := c') (hfo w.drew rfl) hfull' hg hbytes hb0
            have hrr := hrows0.append hrows
            have hll : ((es.drop lo).take len ++ xs).length = len + xs.length := by rw [List.length_append, helen]
            by_cases hcase : (tt && !xs.isEmpty) = true
            · rw [hcase] at h
              simp only [cond_true] at h
              cases h
              obtain ⟨M', F', q1, q2, q3⟩ := grown_arr S hp hrr (need := len + xs.length) (old := c') hll hzs (e := e) rfl
              rw [← List.append_toArray] at q2 q3
              exact ⟨_, M', F', _, hg', q1, q2, q3⟩
            · have hcase : (tt && !xs.isEmpty) = false := by simpa using hcase
              rw [hcase] at h
              simp only [cond_false] at h
              cases h
              obtain ⟨S1, E1⟩ := S.drop hA
              have hp1 : (A.set l (some .dead))[p]? = some none := by rw [List.getElem?_set_ne hlp]; exact hp
              obtain ⟨M', F', q1, q2, q3⟩ := grown_arr S1 hp1 hrr (need := len + xs.length) (old := c') hll hzs (e := e) rfl
              rw [← List.append_toArray] at q2 q3
              exact ⟨_, M', F', _, hg', q1, q2, E1.trans q3⟩
          have empt : ∀ (a0 : Option Addr), len = 0 → us = .slice a0 0 0 → M.sz l = i.size →
              ∃ w' M' F' u, (Builtin.append_ #[t, t] ty #[us, .slice ad xs.length cap]).run P w = .ok u w' ∧ Conc M' v u ∧ Sim w'.heap M' F' A' ∧ Ext w M F A w' M' F' A' := by
            intro a0 h0 hus hs'
            subst h0
            by_cases hx0 : xs = []
            · subst hx0 hus
              simp only [List.isEmpty_nil, Bool.not_true, Bool.and_false, cond_false] at h
              cases h
              obtain ⟨S', E'⟩ := S.move hA hp (w' := w) rfl rfl rfl rfl (fun _ _ => rfl) (M.base l) (M.room l) i.size (o' := .arr ((es.drop lo).take 0 ++ [])) (by
                rcases hh with ⟨he, hr0, hz0, hF⟩ | ⟨hF, c, ty', fr, uss, g1, g2, g3, g4, g5⟩
                · exact .inl ⟨rfl, by simp only [Mod.put, if_true]; exact hr0, by simp only [Mod.put, if_true]; omega, hF⟩
                refine .inr ⟨fun b => by simp only [Mod.put, if_true]; exact hF b, c, ty', fr, uss, by simp only [Mod.put, if_true]; exact g1, g2, by simp only [Mod.put, if_true]; exact g3, ?_, ?_⟩
                · intro k ev hev; simp at hev
                · intro k j u hk; simp at hk)
              refine ⟨w, _, _, _, stay0 a0 0 0 rfl (Nat.le_refl _) rfl, ?_, S', E'⟩
              exact .sl0 (.inr rfl) (by simp [Mod.put])
            · have hn : 0 < xs.length := List.length_pos_iff.2 hx0
              refine grow a0 0 [] hus (by omega) (by simpa using Rows.nil M i.size) (fun w0 hw0 => ?_)
              cases a0 with
              | none => simp [run_firstCells_none]
              | some a0 => exact run_firstCells_some (P := P) w0 i.size 0 a0 0 0 [] (by simp) (by simp)
          cases hs with
          | @sl _ _ _ _ c' _ hD' hs' hc' htt hrm =>
            rcases hh with ⟨he, hr0, hz0, hF⟩ | ⟨hF, c, ty', fr, uss, g1, g2, g3, g4, g5⟩
            · have : (lo + c') * i.size = 0 := by omega
              have hc0 : c' = 0 := by
                rcases Nat.mul_eq_zero.1 this with h1 | h1 <;> omega
              subst hc0
              obtain rfl : len = 0 := by omega
              exact empt _ rfl rfl hs'
            obtain ⟨us0, r0, hl0, hcell0⟩ := rows_of_arr (M := M) (c := c) (base := M.base l) (sz := i.size) (lo := lo) (len := len) (es := es) (uss := uss) (by rw [← hs']; exact g4) (by rw [← hs']; exact g5) hle
            by_cases hroom : len + xs.length ≤ c'
            · have hcase : (tt && !xs.isEmpty) = false := by
                cases tt with
                | false => rfl
                | true =>
                  have := htt rfl
                  have : xs = [] := List.eq_nil_of_length_eq_zero (by omega)
                  simp [this]
              rw [hcase] at h
              simp only [cond_false] at h
              cases h
              have hfit : M.base l + lo * i.size + (len + xs.length) * i.size ≤ c.size := by
                rw [g3]
                have : (lo + (len + xs.length)) * i.size ≤ (lo + c') * i.size := Nat.mul_le_mul_right _ (by omega)
                rw [Nat.add_mul] at this
                omega
              have hfit2 : M.base l + lo * i.size + len * i.size + ns.length ≤ c.size := by rw [hlen]; rw [Nat.add_mul] at hfit; omega
              have hst := run_storeCells_cells (P := P) (M.blk l) (M.base l + lo * i.size + len * i.size) ns 0 w (by
                  intro j hj
                  rw [cell_of_block g1]
                  rw [Array.getElem?_eq_getElem (by omega)]; rfl) (by
                  intro j hj
                  exact frozen_of_block g1 g2 (by omega)) hones
              rw [Nat.add_zero] at hst
              have happ := append_stay (P := P) (w := w) (ty := ty) ht hi (b := some ⟨M.blk l, M.base l + lo * i.size, none⟩) (sLen := len) (sCap := c') hfull hroom (w' := w.setCells (M.blk l) (M.base l + lo * i.size + len * i.size) ns) (by
                simp only [addr_add]; exact hst)
              obtain ⟨c2, k1, k2, k3⟩ := setCells_block (M.blk l) ty' fr ns (M.base l + lo * i.size + len * i.size) w c g1
              obtain ⟨o1, o2, o3, o4⟩ := setCells_world (M.blk l) ns (M.base l + lo * i.size + len * i.size) w
              obtain ⟨uss', z1, z2⟩ := arr_write (M := M) (c := c) (c' := c2) (base := M.base l + lo * i.size) (sz := i.size) (i0 := len) (es := (es.drop lo).take len) (uss := fun k => uss (lo + k)) (by
                  intro k ev hev
                  rw [List.getElem?_take] at hev
                  split at hev
                  · rw [List.getElem?_drop] at hev
                    rw [← hs']; exact g4 _ _ hev
                  · cases hev) (by
                  intro k j u hk hu
                  rw [helen] at hk
                  have := g5 (lo + k) j u (by omega) hu
                  rw [hs', Nat.add_mul] at this
                  rw [← this]; congr 1; omega) (by omega) hrows hfit k3
              have hes : ((es.drop lo).take len).take len ++ xs ++ ((es.drop lo).take len).drop (len + xs.length) = (es.drop lo).take len ++ xs := by
                have e2 : ((es.drop lo).take len).drop (len + xs.length) = [] := List.drop_eq_nil_of_le (by omega)
                rw [e2, List.take_of_length_le (Nat.le_of_eq helen), List.append_nil]
              rw [hes] at z1 z2
              obtain ⟨S', E'⟩ := S.move hA hp (w' := w.setCells (M.blk l) (M.base l + lo * i.size + len * i.size) ns) o1 o2 o3 o4 (fun b hb => setCells_other _ b (fun e => hb ((hF b).2 e)) _ _ _) (M.base l + lo * i.size) (M.room l) i.size (o' := .arr ((es.drop lo).take len ++ xs)) (by
                refine .inr ⟨fun b => by simp only [Mod.put, if_true]; exact hF b, c2, ty', fr, uss', by simp only [Mod.put, if_true]; exact k1, fun k hk => g2 k (by omega), by simp only [Mod.put, if_true]; omega, ?_, ?_⟩
                · intro k ev hev
                  obtain ⟨y1, y2⟩ := z1 k ev hev
                  exact ⟨y1.mono (Mod.le_put (S.notD hp) _ _ _ _), by simp only [Mod.put, if_true]; exact y2⟩
                · intro k j u hk hu
                  simp only [Mod.put, if_true]
                  exact z2 k j u hk hu)
              refine ⟨_, _, _, _, happ, ?_, S', E'⟩
              have := Conc.sl (M := M.put p (M.blk l) (M.base l + lo * i.size) (M.room l) i.size) (l := p) (sz := i.size) (lo := 0) (len := len + xs.length) (cap := c') (tight := false) (.inr rfl) (by simp [Mod.put]) hroom (fun h => by cases h) (by
                simp only [Mod.put, if_true, Nat.zero_add]
                rw [Nat.add_mul] at hrm; omega)
              simpa [Mod.put] using this
            · refine grow _ c' us0 rfl (by omega) r0 (fun w0 hw0 => ?_)
              have := run_firstCells_some (P := P) w0 i.size len ⟨M.blk l, M.base l + lo * i.size, none⟩ len c' us0 hl0 (fun j u hu => by
                rw [addr_add]
                have : w0.cell? ⟨M.blk l, M.base l + lo * i.size + j, none⟩ = w.cell? ⟨M.blk l, M.base l + lo * i.size + j, none⟩ := by simp [World.cell?, hw0]
                rw [this, cell_of_block g1]
                exact hcell0 j u hu)
              exact this
          | @sl0 _ _ _ _ a0 hD' hs' => exact empt a0 rfl rfl hs'
        · cases h
      · cases h
    · cases h
end
end Go.SB
end

/- Framework, part N: every operation that is no call. -/
section
set_option linter.unusedVariables false
set_option linter.unusedSimpArgs false
namespace Go.SB
section
variable {P : Program} {M : Mod} {F : Nat → Nat → Prop} {A : AHeap} {ρ : List AV} {a : Act} {w : World}

theorem acpy_ok (S : Sim w.heap M F A) {t e ty : TypeId} {sz : Nat} (ht : P.underlying t = some (.slice e)) (hi : elemSize P e = some sz) (h0 : 0 < sz) {d x : AV} {us ux : Value} (hd : Conc M d us) (hx : Conc M x ux)
    {xs : List (List AV)} (he : elemsOf A sz x = some xs) (hr : rowsOk sz xs = true) {v : AV} {A' : AHeap} (h : acpy A sz d xs = some (v, A')) :
    ∃ w' M' F' u, (Builtin.copy_ #[t, t] ty #[us, ux]).run P w = .ok u w' ∧ Conc M' v u ∧ Sim w'.heap M' F' A' ∧ Ext w M F A w' M' F' A' := by
  obtain ⟨ad, cap, ns, rfl, hcap, hrows, hfc⟩ := elems_ok (P := P) S hx he hr
  have hlen := hrows.1
  have hones := ones_of_rows hr hrows h0
  have none0 : ∀ (b : Option Addr) (c : Nat), us = .slice b 0 c → v = .int .i64 0 → A' = A → ∃ w' M' F' u, (Builtin.copy_ #[t, t] ty #[us, .slice ad xs.length cap]).run P w = .ok u w' ∧ Conc M' v u ∧ Sim w'.heap M' F' A' ∧ Ext w M F A w' M' F' A' := by
    intro b c h1 h2 h3
    subst h1; subst h2; subst h3
    have hf := hfc w rfl 0 (Nat.zero_le _)
    simp only [Nat.zero_mul, List.take_zero] at hf
    refine ⟨w, M, F, .int .i64 0, ?_, .int _ _, S, .refl _ _ _ _⟩
    have hm : Nat.min xs.length 0 = 0 := by simp [Nat.min_def]
    cases b with
    | none => simp [Builtin.copy_, run_underlying ht, Builtin.lenOf, hm, run_elemSize w hi, hf, goInt]
    | some b => simp [Builtin.copy_, run_underlying ht, Builtin.lenOf, hm, run_elemSize w hi, hf, goInt, storeCells]
  cases d <;> simp only [acpy] at h <;> first | (cases h; done) | skip
  case nils => cases h; cases hd; exact none0 none 0 rfl rfl rfl
  case es =>
    cases h
    cases hd with
    | es a0 => exact none0 (some a0) 0 rfl rfl rfl
  case sl l sz' lo len tt =>
    split at h
    · rename_i es hA
      split at h
      · rename_i hc
        obtain ⟨rfl, hle⟩ := hc
        cases h
        have hh := (S.holds l _ hA).2
        cases hd with
        | @sl _ _ _ _ c' _ hD' hs' hc' htt hrm =>
          rcases hh with ⟨he, hr0, hz0, hF⟩ | ⟨hF, c, ty', fr, uss, g1, g2, g3, g4, g5⟩
          · subst he
            simp only [List.length_nil] at hle
            obtain rfl : len = 0 := by omega
            have : (([] : List (List AV)).take lo ++ xs.take 0 ++ ([] : List (List AV)).drop (lo + min xs.length 0)) = [] := by simp
            exact none0 _ c' rfl (by simp) (by rw [this, set_self hA])
          have hmn : Nat.min xs.length len = min xs.length len := rfl
          have hn : min xs.length len ≤ xs.length := Nat.min_le_left _ _
          have hn2 : min xs.length len ≤ len := Nat.min_le_right _ _
          have hf := hfc w rfl (min xs.length len) hn
          have htake : xs.take len = xs.take (min xs.length len) := by
            rcases Nat.le_total xs.length len with hh | hh
            · rw [Nat.min_eq_left hh, List.take_of_length_le hh, List.take_length]
            · rw [Nat.min_eq_right hh]
          have hxl : (xs.take (min xs.length len)).length = min xs.length len := by rw [List.length_take]; omega
          have hml : min xs.length len * sz' ≤ xs.length * sz' := Nat.mul_le_mul_right _ hn
          have hnl : (ns.take (min xs.length len * sz')).length = min xs.length len * sz' := by rw [List.length_take, hlen]; omega
          rw [htake]
          generalize hk : min xs.length len = k at *
          have hrows' : Rows M sz' (xs.take k) (ns.take (k * sz')) := by
            refine ⟨by rw [hnl, hxl], ?_⟩
            intro i ev hev
            rw [List.getElem?_take] at hev
            split at hev
            · rename_i hik
              obtain ⟨y1, y2⟩ := hrows.2 i ev hev
              refine ⟨y1, ?_⟩
              have := mul_lt (s := sz') hik
              rw [List.drop_take, List.take_take, Nat.min_eq_left (by omega)]
              exact y2
            · cases hev
          have hfit : M.base l + (lo + k) * sz' ≤ c.size := by
            rw [g3]
            have : (lo + k) * sz' ≤ (lo + c') * sz' := Nat.mul_le_mul_right _ (by omega)
            omega
          have hfit2 : M.base l + lo * sz' + (ns.take (k * sz')).length ≤ c.size := by rw [hnl]; rw [Nat.add_mul] at hfit; omega
          have hst := run_storeCells_cells (P := P) (M.blk l) (M.base l + lo * sz') (ns.take (k * sz')) 0 w (by
              intro j hj
              rw [cell_of_block g1]
              rw [Array.getElem?_eq_getElem (by omega)]; rfl) (by
              intro j hj
              exact frozen_of_block g1 g2 (by omega)) (fun v hv => hones v (List.mem_of_mem_take hv))
          rw [Nat.add_zero] at hst
          obtain ⟨c2, k1, k2, k3⟩ := setCells_block (M.blk l) ty' fr (ns.take (k * sz')) (M.base l + lo * sz') w c g1
          obtain ⟨o1, o2, o3, o4⟩ := setCells_world (M.blk l) (ns.take (k * sz')) (M.base l + lo * sz') w
          obtain ⟨uss', z1, z2⟩ := arr_write (M := M) (c := c) (c' := c2) (base := M.base l) (sz := sz') (i0 := lo) (es := es) (uss := uss) (by rw [← hs']; exact g4) (by rw [← hs']; exact g5) (by omega) hrows' (by rw [hxl]; exact hfit) k3
          rw [hxl] at z1 z2
          obtain ⟨S', E'⟩ := S.update hA (w' := w.setCells (M.blk l) (M.base l + lo * sz') (ns.take (k * sz'))) o1 o2 o3 o4 (fun b hb => setCells_other _ b (fun e => hb ((hF b).2 e)) _ _ _)
            (o' := .arr (es.take lo ++ xs.take k ++ es.drop (lo + k))) (by
              refine .inr ⟨hF, c2, ty', fr, uss', k1, fun i hi => g2 i (by omega), by omega, ?_, ?_⟩
              · intro i ev hev
                rw [hs']; exact z1 i ev hev
              · intro i j u hi hu
                rw [hs']; exact z2 i j u hi hu)
          refine ⟨_, M, F, .int .i64 k, ?_, .int _ _, S', E'⟩
          simp [Builtin.copy_, run_underlying ht, Builtin.lenOf, hmn, hk, run_elemSize w hi, hf, goInt, hst]
        | @sl0 _ _ _ _ a0 hD' hs' =>
          have e0 : xs.take 0 = [] := rfl
          have : (es.take lo ++ xs.take 0 ++ es.drop (lo + min xs.length 0)) = es := by
            rw [e0, List.append_nil, Nat.min_zero, Nat.add_zero, List.take_append_drop]
          exact none0 a0 0 rfl (by simp) (by rw [this, set_self hA])
      · cases h
    · cases h

theorem range0_map {α : Type} (f : Nat → α) : (Array.range 0).map f = #[] := by
  apply Array.ext'; simp

theorem zeros_get {z : Array Value} {n i j : Nat} (hj : j < z.size) (hi : i < n) : ((Array.range (n * z.size)).map (fun k => z[k % z.size]!))[i * z.size + j]? = z[j]? := by
  have := mul_lt (s := z.size) hi
  rw [Array.getElem?_map, Array.getElem?_range]
  rw [if_pos (by omega)]
  simp only [Option.map_some]
  have hm : (i * z.size + j) % z.size = j := by
    rw [Nat.add_comm, Nat.add_mul_mod_self_right, Nat.mod_eq_of_lt hj]
  rw [hm, getElem!_pos z j hj, Array.getElem?_eq_getElem hj]

theorem rows_zeros {z : List AV} {uz : Array Value} {sz n : Nat} (hz : ConcL M z uz.toList) (hzl : z.length = sz) (h0 : 0 < sz) : Rows M sz (List.replicate n z) (Builtin.zeroCells uz n).toList := by
  have hs : uz.size = sz := by have := hz.length; simp at this; omega
  refine ⟨by simp [Builtin.zeroCells, hs], ?_⟩
  intro i ev hev
  have hi := lt_of_get hev
  rw [List.length_replicate] at hi
  rw [List.getElem?_replicate, if_pos hi] at hev
  cases hev
  refine ⟨hzl, ?_⟩
  have e : ((Builtin.zeroCells uz n).toList.drop (i * sz)).take sz = uz.toList := by
    apply List.ext_getElem?
    intro j
    rw [List.getElem?_take]
    split
    · rename_i hj
      rw [List.getElem?_drop, Array.getElem?_toList, Array.getElem?_toList, ← hs]
      exact zeros_get (by omega) hi
    · rename_i hj
      rw [List.getElem?_eq_none (by simp [hs]; omega)]
  rw [e]; exact hz

theorem aclrs_ok (S : Sim w.heap M F A) {t e ty : TypeId} {sz : Nat} {z : List AV} {ts : Array TypeId} (ht0 : ts[0]? = some t) (ht : P.underlying t = some (.slice e)) (hi : elemSize P e = some sz) (hz : zeroCellsOf P e = some z) (h0 : 0 < sz) (hr : rowsOk sz [z] = true)
    {x : AV} {ux : Value} (hx : Conc M x ux) {A' : AHeap} (h : aclrs A sz z x = some A') :
    ∃ w', (Builtin.clear_ ts ty #[ux]).run P w = .ok (.tuple #[]) w' ∧ Sim w'.heap M F A' ∧ Ext w M F A w' M F A' := by
  obtain ⟨uz, hz1, hz2, -⟩ := run_zeroCells (P := P) w hz M
  have hzl : z.length = sz := by simp [rowsOk] at hr; exact hr.1
  cases x <;> simp only [aclrs] at h <;> first | (cases h; done) | skip
  case nils => cases h; cases hx; exact ⟨w, by simp [Builtin.clear_, ht0, run_underlying ht], S, .refl _ _ _ _⟩
  case es => cases h; cases hx; exact ⟨w, by simp [Builtin.clear_, ht0, run_underlying ht], S, .refl _ _ _ _⟩
  case sl l sz' lo len tt =>
    split at h
    · rename_i es hA
      split at h
      · rename_i hc
        obtain ⟨rfl, hle⟩ := hc
        cases h
        have hh := (S.holds l _ hA).2
        have zero : ∀ (a0 : Option Addr) (cap : Nat), len = 0 → ux = .slice a0 0 cap → (a0 = none → cap = 0) → ∃ w', (Builtin.clear_ ts ty #[ux]).run P w = .ok (.tuple #[]) w' ∧ Sim w'.heap M F (A.set l (some (.arr (es.take lo ++ List.replicate len z ++ es.drop (lo + len))))) ∧
            Ext w M F A w' M F (A.set l (some (.arr (es.take lo ++ List.replicate len z ++ es.drop (lo + len))))) := by
          intro a0 cap e0 e1 e2
          subst e0; subst e1
          have : (es.take lo ++ List.replicate 0 z ++ es.drop (lo + 0)) = es := by simp
          rw [this, set_self hA]
          cases a0 with
          | none => obtain rfl := e2 rfl; exact ⟨w, by simp [Builtin.clear_, ht0, run_underlying ht], S, .refl _ _ _ _⟩
          | some a0 => exact ⟨w, by simp [Builtin.clear_, ht0, run_underlying ht], S, .refl _ _ _ _⟩
        cases hx with
        | @sl _ _ _ _ c' _ hD' hs' hc' htt hrm =>
          rcases hh with ⟨he, hr0, hz0, hF⟩ | ⟨hF, c, ty', fr, uss, g1, g2, g3, g4, g5⟩
          · subst he
            simp only [List.length_nil] at hle
            obtain rfl : len = 0 := by omega
            exact zero _ c' rfl rfl (fun h => by cases h)
          have hrows := rows_zeros (n := len) hz2 hzl h0
          have hrall : rowsOk sz' (List.replicate len z) = true := by
            simp only [rowsOk, List.all_cons, List.all_nil, Bool.and_true] at hr
            simp only [rowsOk, List.all_eq_true]
            intro y hy
            rw [(List.mem_replicate.1 hy).2]; exact hr
          have hones := ones_of_rows hrall hrows h0
          have hxl : (List.replicate len z).length = len := by simp
          generalize hns : (Builtin.zeroCells uz.cells len).toList = ns at *
          have hnl : ns.length = len * sz' := by rw [hrows.1, hxl]
          have hfit : M.base l + (lo + len) * sz' ≤ c.size := by
            rw [g3]
            have : (lo + len) * sz' ≤ (lo + c') * sz' := Nat.mul_le_mul_right _ (by omega)
            omega
          have hfit2 : M.base l + lo * sz' + ns.length ≤ c.size := by rw [hnl]; rw [Nat.add_mul] at hfit; omega
          have hst := run_storeCells_cells (P := P) (M.blk l) (M.base l + lo * sz') ns 0 w (by
              intro j hj
              rw [cell_of_block g1]
              rw [Array.getElem?_eq_getElem (by omega)]; rfl) (by
              intro j hj
              exact frozen_of_block g1 g2 (by omega)) hones
          rw [Nat.add_zero] at hst
          obtain ⟨c2, k1, k2, k3⟩ := setCells_block (M.blk l) ty' fr ns (M.base l + lo * sz') w c g1
          obtain ⟨o1, o2, o3, o4⟩ := setCells_world (M.blk l) ns (M.base l + lo * sz') w
          obtain ⟨uss', z1, z2⟩ := arr_write (M := M) (c := c) (c' := c2) (base := M.base l) (sz := sz') (i0 := lo) (es := es) (uss := uss) (by rw [← hs']; exact g4) (by rw [← hs']; exact g5) (by omega) hrows (by rw [hxl]; exact hfit) k3
          rw [hxl] at z1 z2
          obtain ⟨S', E'⟩ := S.update hA (w' := w.setCells (M.blk l) (M.base l + lo * sz') ns) o1 o2 o3 o4 (fun b hb => setCells_other _ b (fun e => hb ((hF b).2 e)) _ _ _)
            (o' := .arr (es.take lo ++ List.replicate len z ++ es.drop (lo + len))) (by
              refine .inr ⟨hF, c2, ty', fr, uss', k1, fun i hi => g2 i (by omega), by omega, ?_, ?_⟩
              · intro i ev hev
                rw [hs']; exact z1 i ev hev
              · intro i j u hi hu
                rw [hs']; exact z2 i j u hi hu)
          cases len with
          | zero => exact zero _ c' rfl rfl (fun h => by cases h)
          | succ len =>
            refine ⟨_, ?_, S', E'⟩
            simp [Builtin.clear_, ht0, run_underlying ht, hz1, hns, hst]
        | @sl0 _ _ _ _ a0 hD' hs' => exact zero a0 0 rfl rfl (fun _ => rfl)
      · cases h
    · cases h

theorem amksl_ok (S : Sim w.heap M F A) {t e : TypeId} {i : TypeInfo} {z : List AV} (ht : P.underlying t = some (.slice e)) (hi : P.info? e = some i) (hz : zeroCellsOf P e = some z) (hzl : z.length = i.size) (h0 : 0 < i.size) (hb : 0 < i.bytes)
    {p : Nat} {n c : AV} {un uc : Value} (hn : Conc M n un) (hc : Conc M c uc) {v : AV} {A' : AHeap} (h : amksl A p i.size i.bytes z n c = some (v, A')) :
    ∃ w' M' F' u, (Instr.makeSlice t un uc).run P w = .ok u w' ∧ Conc M' v u ∧ Sim w'.heap M' F' A' ∧ Ext w M F A w' M' F' A' := by
  unfold amksl at h
  split at h
  · rename_i hp
    split at h
    · rename_i k1 n k2 c
      split at h
      · rename_i hcond
        obtain ⟨hn0, rfl, hbytes⟩ := hcond
        cases h
        rw [conc_int hn, conc_int hc]
        obtain ⟨uz, hz1, hz2, i', hi', hiz⟩ := run_zeroCells (P := P) w hz M
        rw [hi] at hi'; cases hi'
        have hzs : uz.cells.size = i.size := by have := hz2.length; simp at this; omega
        have hle : n ≤ n * i.bytes := by
          have : (1 : Int) ≤ i.bytes := by omega
          have := Int.mul_le_mul_of_nonneg_left this hn0
          omega
        obtain ⟨m, rfl⟩ := Int.eq_ofNat_of_zero_le hn0
        simp only [Int.toNat_natCast] at *
        have hmb : (i.bytes : Int) * (m : Int) ≤ 140737488355328 := by rw [Int.mul_comm]; exact hbytes
        have hw : IntKind.i64.wrap (m : Int) = m := by
          rw [IntKind.wrap_i64]; omega
        have hrows : Rows M i.size (List.replicate m z) ((List.replicate m uz.cells.toList).flatten) := by
          have hl : ∀ m, ((List.replicate m uz.cells.toList).flatten).length = m * i.size := by
            intro m
            rw [List.length_flatten, List.map_replicate, List.sum_replicate_nat]
            simp [hzs]
          refine ⟨by rw [hl, List.length_replicate], ?_⟩
          intro k ev hev
          have hk := lt_of_get hev
          rw [List.length_replicate] at hk
          rw [List.getElem?_replicate, if_pos hk] at hev
          cases hev
          refine ⟨hzl, ?_⟩
          have e1 : (List.replicate m uz.cells.toList).flatten = (List.replicate k uz.cells.toList).flatten ++ (uz.cells.toList ++ (List.replicate (m - k - 1) uz.cells.toList).flatten) := by
            rw [show m = k + ((m - k - 1) + 1) by omega, List.replicate_append_replicate.symm, List.flatten_append, List.replicate_succ, List.flatten_cons]
            simp
          rw [e1, List.drop_left' (hl k), List.take_left' (by simpa using hzs)]
          exact hz2
        obtain ⟨M', F', q1, q2, q3⟩ := new_arr S hp hrows (c := (Array.range (m * uz.cells.size)).map (fun k => uz.cells[k % uz.cells.size]!)) (by
            intro j u hu
            have hj := lt_of_get hu
            have hl : ((List.replicate m uz.cells.toList).flatten).length = m * i.size := hrows.1.trans (by rw [List.length_replicate])
            rw [hl] at hj
            have hi2 : j / i.size < m := (Nat.div_lt_iff_lt_mul h0).2 hj
            have hdm := Nat.div_add_mod j i.size
            have hmod : j % i.size < i.size := Nat.mod_lt _ h0
            have hrow := (hrows.2 (j / i.size) z (by rw [List.getElem?_replicate, if_pos hi2])).2
            have e2 : (((List.replicate m uz.cells.toList).flatten).drop (j / i.size * i.size)).take i.size = uz.cells.toList := by
              have e1 : (List.replicate m uz.cells.toList).flatten = (List.replicate (j / i.size) uz.cells.toList).flatten ++ (uz.cells.toList ++ (List.replicate (m - j / i.size - 1) uz.cells.toList).flatten) := by
                rw [← List.flatten_cons, ← List.replicate_succ, ← List.flatten_append, List.replicate_append_replicate]
                congr 2; omega
              rw [e1, List.drop_left' (by rw [List.length_flatten, List.map_replicate, List.sum_replicate_nat]; simp [hzs]), List.take_left' (by simpa using hzs)]
            have hu2 : (((List.replicate m uz.cells.toList).flatten).drop (j / i.size * i.size))[j % i.size]? = some u := by
              rw [List.getElem?_drop, show j / i.size * i.size + j % i.size = j by rw [Nat.mul_comm]; exact hdm]; exact hu
            have hu3 : uz.cells.toList[j % i.size]? = some u := by
              rw [← e2, List.getElem?_take, if_pos hmod]; exact hu2
            have := zeros_get (z := uz.cells) (n := m) (i := j / i.size) (j := j % i.size) (by omega) hi2
            rw [hzs, show j / i.size * i.size + j % i.size = j by rw [Nat.mul_comm]; exact hdm] at this
            rw [hzs, this]
            rw [Array.getElem?_toList] at hu3
            exact hu3) e (w' := w.alloc (.cells ((Array.range (m * uz.cells.size)).map (fun k => uz.cells[k % uz.cells.size]!)) e)) rfl rfl rfl rfl (n := m) (cap := m) (tt := true) (Nat.le_refl _) (fun _ => rfl) (by simp [hzs])
        refine ⟨_, M', F', _, ?_, q1, q2, q3⟩
        have hnl : ¬ ((m : Int) < 0) := by omega
        have hnb : ¬ ((281474976710656 : Int) < (i.bytes : Int) * (m : Int)) := by omega
        by_cases hm0 : m = 0
        · subst hm0
          have hw0 : IntKind.i64.wrap 0 = 0 := by decide
          simp [Instr.makeSlice, run_underlying ht, asInt, asIntOf, run_typeInfo' w hi, hw0, run_sizeOf' w hi, newRow, range0_map]
        · have hms : ¬ (m * i.size = 0) := by
            have := Nat.mul_pos (show 0 < m by omega) h0; omega
          simp [Instr.makeSlice, run_underlying ht, asInt, asIntOf, run_typeInfo' w hi, hw, hnl, hnb, run_sizeOf' w hi, newRow, hz1, hzs]
          exact fun hh => absurd hh hms
      · cases h
    · cases h
  · cases h

/-- A slice's literal: the elements, in order. -/
theorem bfill_seq {size : Nat} (h0 : 0 < size) : ∀ {xs : List AV} {k : Nat} {z r : List AV}, (∀ x ∈ xs, x.cells.length = size) →
    bfill z (xs.zipIdx k |>.map fun (x, i) => (i * size, size, x)) = some r →
    r.length = z.length ∧ (∀ j, j < k * size → r[j]? = z[j]?) ∧ ∀ i x, xs[i]? = some x → (r.drop ((k + i) * size)).take size = x.cells := by
  have wrt_get : ∀ (ns : List AV) (z : List AV) (off : Nat), off + ns.length ≤ z.length → ∀ j, (wrt z off ns)[j]? = if off ≤ j ∧ j < off + ns.length then ns[j - off]? else z[j]? := by
    intro ns
    induction ns with
    | nil => intro z off _ j; rw [if_neg (by simp only [List.length_nil]; omega)]; rfl
    | cons n ns ih =>
      intro z off hl j
      simp only [List.length_cons] at hl ⊢
      simp only [wrt]
      rw [ih (z.set off n) (off + 1) (by simp; omega) j]
      by_cases hj : j = off
      · subst hj
        rw [if_neg (by omega), if_pos (by omega), List.getElem?_set_self (by omega)]
        simp
      · rw [List.getElem?_set_ne (fun e => hj e.symm)]
        by_cases hc : off + 1 ≤ j ∧ j < off + 1 + ns.length
        · rw [if_pos hc, if_pos (by omega), show j - off = (j - (off + 1)) + 1 by omega, List.getElem?_cons_succ]
        · rw [if_neg hc, if_neg (by omega)]
  intro xs
  induction xs with
  | nil =>
    intro k z r _ h
    simp only [List.zipIdx_nil, List.map_nil, bfill] at h
    cases h
    exact ⟨rfl, fun _ _ => rfl, by simp⟩
  | cons x xs ih =>
    intro k z r hall h
    simp only [List.zipIdx_cons, List.map_cons, bfill] at h
    split at h
    · rename_i hc
      obtain ⟨h1, h2, h3⟩ := ih (fun y hy => hall y (by simp [hy])) h
      have hx := hall x (by simp)
      refine ⟨by rw [h1, wrt_length], ?_, ?_⟩
      · intro j hj
        rw [h2 j (by rw [Nat.add_mul]; omega), wrt_get _ _ _ (by rw [hx]; exact hc.2), if_neg (by omega)]
      · intro i y hy
        match i with
        | 0 =>
          simp at hy; subst hy
          apply List.ext_getElem?
          intro j
          rw [List.getElem?_take]
          by_cases hj : j < size
          · rw [if_pos hj, List.getElem?_drop, h2 _ (by rw [Nat.add_zero, Nat.add_mul]; omega), wrt_get _ _ _ (by rw [hx]; exact hc.2), if_pos (by rw [hx, Nat.add_zero]; omega)]
            congr 1; rw [Nat.add_zero]; omega
          · rw [if_neg hj, List.getElem?_eq_none (by omega)]
        | i + 1 =>
          have := h3 i y (by simpa using hy)
          rw [show k + (i + 1) = k + 1 + i by omega]; exact this
    · cases h

theorem cseq_ok (hρ : ConcL M ρ a.tmps.toList) : ∀ {ps : List (Nat × Operand)} {k : Nat} {ys : List Opd}, cseq k ps = some ys →
    ps.length = ys.length ∧ ∀ (i : Nat) (p : Nat × Operand) (y : Opd), ps[i]? = some p → ys[i]? = some y → p.1 = k + i ∧ Conc M (y.get ρ) (a.eval p.2)
  | [], k, ys, h => by cases h; exact ⟨rfl, by simp⟩
  | (i, x) :: ps, k, ys, h => by
    simp only [cseq] at h
    split at h
    · rename_i hik
      split at h
      · rename_i y hy
        split at h
        · rename_i r hr
          cases h
          obtain ⟨h1, h2⟩ := cseq_ok hρ hr
          refine ⟨by simp [h1], ?_⟩
          intro j p y' hp hy'
          match j with
          | 0 => simp at hp hy'; subst hp; subst hy'; exact ⟨by simpa using hik, copd_ok hy hρ⟩
          | j + 1 =>
            obtain ⟨a1, a2⟩ := h2 j p y' (by simpa using hp) (by simpa using hy')
            exact ⟨by omega, a2⟩
        · cases h
      · cases h
    · cases h

theorem abslice_ok (S : Sim w.heap M F A) (hρ : ConcL M ρ a.tmps.toList) {t e : TypeId} {size n : Nat} {z : List AV} (ht : P.underlying t = some (.slice e)) (hs : elemSize P e = some size) (hz : zeroCellsOf P e = some z) (hzl : z.length = size)
    (h0 : 0 < size) (hbig : n * size ≤ 16777216) {ps : Array (Nat × Operand)} {ys : List Opd} (hc : cseq 0 ps.toList = some ys) (hn : ys.length = n) {p : Nat} {v : AV} {A' : AHeap}
    (h : abslice A p size (ys.map fun x => (x.get ρ).cells) = some (v, A')) :
    ∃ w' M' F' u, (Instr.buildSlice t n (ps.map fun (i, x) => (i, a.eval x))).run P w = .ok u w' ∧ Conc M' v u ∧ Sim w'.heap M' F' A' ∧ Ext w M F A w' M' F' A' := by
  unfold abslice at h
  split at h
  · rename_i hp
    split at h
    · rename_i hall
      cases h
      obtain ⟨uz, hz1, hz2, i, hi, hiz⟩ := run_zeroCells (P := P) w hz M
      have hzs : uz.cells.size = size := by have := hz2.length; simp at this; omega
      obtain ⟨l1, l2⟩ := cseq_ok hρ hc
      have hsz : ∀ x ∈ ys.map (·.get ρ), x.cells.length = size := by
        intro x hx
        obtain ⟨y, hy, rfl⟩ := List.mem_map.1 hx
        simp only [List.all_eq_true, List.mem_map, forall_exists_index, and_imp] at hall
        simpa using hall _ y hy rfl
      -- the row before it is filled
      let base : List AV := (List.replicate n z).flatten
      have hbl : base.length = n * size := by
        show ((List.replicate n z).flatten).length = _
        rw [List.length_flatten, List.map_replicate, List.sum_replicate_nat, hzl]
      have hbc : ConcL M base ((Array.range (n * size)).map (fun k => (if n * size = 0 then #[] else uz.cells)[k % (if n * size = 0 then #[] else uz.cells).size]!)).toList := by
        by_cases hn0 : n = 0
        · subst hn0
          show ConcL M [] _
          simp
          exact .nil
        · have hne : ¬ (n * size = 0) := by have := Nat.mul_pos (show 0 < n by omega) h0; omega
          simp only [if_neg hne]
          refine ConcL.of_get (by simp [hbl]) ?_
          intro j x u hx hu
          have hj : j < n * size := by have := lt_of_get hx; omega
          have hi2 : j / size < n := (Nat.div_lt_iff_lt_mul h0).2 hj
          have hmod : j % size < size := Nat.mod_lt _ h0
          have hdm := Nat.div_add_mod j size
          have hg := zeros_get (z := uz.cells) (n := n) (i := j / size) (j := j % size) (by omega) hi2
          rw [hzs, show j / size * size + j % size = j by rw [Nat.mul_comm]; exact hdm] at hg
          rw [Array.getElem?_toList, hzs, hg] at hu
          have hx2 : z[j % size]? = some x := by
            have e1 : base = (List.replicate (j / size) z).flatten ++ (z ++ (List.replicate (n - j / size - 1) z).flatten) := by
              show (List.replicate n z).flatten = _
              rw [← List.flatten_cons, ← List.replicate_succ, ← List.flatten_append, List.replicate_append_replicate]
              congr 2; omega
            rw [e1] at hx
            have hl : ((List.replicate (j / size) z).flatten).length = j / size * size := by
              rw [List.length_flatten, List.map_replicate, List.sum_replicate_nat, hzl]
            rw [List.getElem?_append_right (by rw [hl, Nat.mul_comm]; omega), hl, show j - j / size * size = j % size by rw [Nat.mul_comm]; omega,
              List.getElem?_append_left (by omega)] at hx
            exact hx
          obtain ⟨u2, hu2, hc2⟩ := hz2.get hx2
          rw [Array.getElem?_toList] at hu2
          rw [hu2] at hu; cases hu
          exact hc2
      -- it can be filled
      have hfill : ∀ (xs : List AV) (k : Nat) (b : List AV), (∀ x ∈ xs, x.cells.length = size) → (k + xs.length) * size ≤ b.length → ∃ r, bfill b (xs.zipIdx k |>.map fun (x, i) => (i * size, size, x)) = some r := by
        intro xs
        induction xs with
        | nil => intro k b _ _; exact ⟨b, rfl⟩
        | cons x xs ih =>
          intro k b hx hl
          simp only [List.length_cons] at hl
          have hk : k * size + size ≤ b.length := by
            have : (k + 1) * size ≤ (k + (xs.length + 1)) * size := Nat.mul_le_mul_right _ (by omega)
            rw [Nat.add_mul, Nat.one_mul] at this; omega
          obtain ⟨r, hr⟩ := ih (k + 1) (wrt b (k * size) x.cells) (fun y hy => hx y (by simp [hy])) (by rw [wrt_length, show k + 1 + xs.length = k + (xs.length + 1) by omega]; exact hl)
          refine ⟨r, ?_⟩
          simp only [List.zipIdx_cons, List.map_cons, bfill]
          rw [if_pos ⟨hx x (by simp), hk⟩]
          exact hr
      obtain ⟨r, hr⟩ := hfill (ys.map (·.get ρ)) 0 base hsz (by rw [List.length_map, hbl, hn, Nat.zero_add]; exact Nat.le_refl _)
      obtain ⟨b1, b2, b3⟩ := bfill_seq h0 hsz hr
      obtain ⟨rs, q1, q2⟩ := fill_ok (M := M) (place := fun i => some (i * size, size)) (ps := ps.toList.map fun (i, x) => (i, a.eval x)) (qs := ((ys.map (·.get ρ)).zipIdx 0).map fun (x, i) => (i * size, size, x))
        (z := base) (r := r) (by simp [l1]) (by
          intro k p' q' hp' hq'
          rw [List.getElem?_map] at hp' hq'
          rw [List.getElem?_zipIdx, List.getElem?_map] at hq'
          cases h1 : ps.toList[k]? with
          | none => simp [h1] at hp'
          | some p0 =>
            cases h2 : ys[k]? with
            | none => simp [h2] at hq'
            | some y0 =>
              simp [h1] at hp'; simp [h2] at hq'; subst hp'; subst hq'
              obtain ⟨a1, a2⟩ := l2 k p0 y0 h1 h2
              refine ⟨?_, h0, a2⟩
              simp only [Option.some.injEq, Prod.mk.injEq, and_true]
              rw [a1, Nat.zero_add]) hbc hr
      have hrl := q2.length
      obtain ⟨M', F', k1, k2, k3⟩ := new_arr S hp (sz := size) (xs := ys.map fun x => (x.get ρ).cells) (us := rs.toList) (by
          refine ⟨by rw [hrl, b1, hbl, List.length_map, hn], ?_⟩
          intro j ev hev
          rw [List.getElem?_map] at hev
          cases hy : ys[j]? with
          | none => simp [hy] at hev
          | some y =>
            simp [hy] at hev; subst hev
            have := b3 j (y.get ρ) (by rw [List.getElem?_map, hy]; rfl)
            rw [Nat.zero_add] at this
            refine ⟨hsz _ (List.mem_map.2 ⟨y, List.mem_of_getElem? hy, rfl⟩), ?_⟩
            rw [← this]
            exact (q2.drop _).take _) (c := rs) (by intro j u hu; rw [Array.getElem?_toList] at hu; exact hu) e (w' := w.alloc (.cells rs e)) rfl rfl rfl rfl (n := n) (cap := n) (tt := true) (Nat.le_refl _) (fun _ => rfl) (by
          have : rs.size = rs.toList.length := by simp
          rw [this, hrl, b1, hbl]; exact Nat.le_refl _)
      refine ⟨_, M', F', _, ?_, by rw [List.length_map, hn]; exact k1, k2, k3⟩
      have hnb : ¬ (16777216 < n * size) := by omega
      have e : (ps.map fun (x : Nat × Operand) => (x.1, a.eval x.2)).toList = ps.toList.map fun (x : Nat × Operand) => (x.1, a.eval x.2) := by simp
      simp only [Instr.buildSlice, Sem.run_bind, run_underlying ht, Result.andThen_ok, run_elemSize w hs, e]
      rw [if_neg (by simpa using hnb)]
      by_cases hn0 : n * size = 0
      · simp only [hn0, if_true] at q1 ⊢
        simp only [Array.toArray_toList, range0_map] at q1
        simp only [Sem.run_pure, Result.andThen_ok, range0_map, q1]
        simp [newRow]
      · simp only [hn0, if_false] at q1 ⊢
        simp only [Array.toArray_toList] at q1
        simp [hz1, q1, newRow]
    · cases h
  · cases h
end
end Go.SB
end

/- Framework, part O: one operation of the loaded program is one operation of the IR. -/
section
set_option linter.unusedVariables false
set_option linter.unusedSimpArgs false
namespace Go.SB
section
variable {P : Program} {M : Mod} {F : Nat → Nat → Prop} {A : AHeap} {ρ : List AV} {a : Act} {w : World}

theorem withAny_some {o : Option AHeap} {v : AV} {A' : AHeap} (h : withAny o = some (v, A')) : o = some A' ∧ v = .any := by
  unfold withAny at h
  split at h
  · cases h; exact ⟨rfl, rfl⟩
  · cases h

theorem anew_some {p : Nat} {x v : AV} {o : AO} {A' : AHeap} (h : anew A p x o = some (v, A')) : A[p]? = some none ∧ v = x ∧ A' = A.set p (some o) := by
  unfold anew at h
  split at h
  · cases h; exact ⟨‹_›, rfl, rfl⟩
  · cases h

theorem wrote_value {o : Oper} {v : AV} {A' : AHeap} {s : Sem Value} {u : Value} {w' : World} {M' : Mod} {F' : Nat → Nat → Prop} (he : execOp a.eval o = (do pure (.value (← s)))) (h : s.run P w = .ok u w') (hc : Conc M' v u)
    (S' : Sim w'.heap M' F' A') (E' : Ext w M F A w' M' F' A') : Wrote P M F A a w o v A' :=
  ⟨.value u, w', M', F', u, by rw [he]; simp [h], .inl rfl, hc, S', E'⟩

theorem wrote_skip {o : Oper} {A' : AHeap} {s : Sem Unit} {w' : World} {M' : Mod} {F' : Nat → Nat → Prop} (he : execOp a.eval o = (do s; pure .skip)) (h : s.run P w = .ok () w')
    (S' : Sim w'.heap M' F' A') (E' : Ext w M F A w' M' F' A') : Wrote P M F A a w o .any A' :=
  ⟨.skip, w', M', F', undef, by rw [he]; simp [h], .inr ⟨rfl, rfl⟩, .any _, S', E'⟩

theorem wrN_addr {x : AV} {ns : List AV} {A' : AHeap} (h : wrN A x ns = some A') {u : Value} (hx : Conc M x u) : ∃ ad, u = .pointer (some ad) := by
  unfold wrN at h
  split at h
  · cases hx; exact ⟨_, rfl⟩
  · cases hx; exact ⟨_, rfl⟩
  · cases h

set_option maxHeartbeats 1600000 in
theorem wstep_ok (S : Sim w.heap M F A) {o : Oper} {io : IOp} (hc : cop P o = some io) {p : Nat} {v : AV} {A' : AHeap} (hs : wstep ρ A p io = some (v, A')) (hρ : ConcL M ρ a.tmps.toList) : Wrote P M F A a w o v A' := by
  obtain ⟨dst, op, type, pos, after, guard⟩ := o
  cases op with
  | alloc t =>
    obtain ⟨z, hz, rfl⟩ := opt_map hc
    simp only [wstep] at hs
    obtain ⟨hp, rfl, rfl⟩ := anew_some hs
    obtain ⟨uz, hz1, hz2, -⟩ := run_zeroCells (P := P) w hz M
    obtain ⟨M', F', r1, r2, r3, r4⟩ := new_cells (P := P) S hp (us := uz.cells) (fun _ => hz2) t
    exact wrote_value rfl (by simp [Instr.alloc, hz1, newVar, r1]) r2 r3 r4
  | box t x =>
    obtain ⟨y, hy, rfl⟩ := opt_map hc
    simp only [wstep] at hs
    obtain ⟨hp, rfl, rfl⟩ := anew_some hs
    have e := copd_ok hy hρ
    obtain ⟨M', F', r1, r2, r3, r4⟩ := new_cells (P := P) S hp (us := (a.eval x).cells) (fun hn => cells_conc e hn) t
    exact wrote_value rfl (by simp [Instr.box, newVar, r1]) r2 r3 r4
  | buildSlice t n ps =>
    simp only [cop] at hc
    split at hc
    · rename_i e ht
      split at hc
      · rename_i size z hsz hz
        split at hc
        · rename_i hcond
          split at hc
          · rename_i xs hxs
            split at hc
            · rename_i hn
              cases hc
              simp only [wstep] at hs
              obtain ⟨w', M', F', u, r1, r2, r3, r4⟩ := abslice_ok (P := P) S hρ ht hsz hz hcond.1 hcond.2.1 hcond.2.2 hxs hn hs
              exact wrote_value rfl r1 r2 r3 r4
            · cases hc
          · cases hc
        · cases hc
      · cases hc
    · cases hc
  | store t x y =>
    simp only [cop] at hc
    split at hc
    · rename_i n x' y' hn hx hy
      split at hc
      · rename_i h0
        cases hc
        simp only [wstep] at hs
        split at hs
        · rename_i hlen
          obtain ⟨hw, rfl⟩ := withAny_some hs
          have ex := copd_ok hx hρ
          have ey := copd_ok hy hρ
          obtain ⟨ad, had⟩ := wrN_addr hw ex
          rw [had] at ex
          have hne : (y'.get ρ).cells ≠ [] := fun e => by rw [e] at hlen; simp at hlen; omega
          have hL := cells_conc ey hne
          obtain ⟨hsp, w', r1, r2, r3⟩ := S.wr (P := P) ex hL hw
          have hsz : (a.eval y).cells.size = n := by have := hL.length; simp at this; omega
          exact wrote_skip rfl (by simp [Instr.storeAt, had, Instr.sureAddr, storeVar, run_elemSize w hn, hsz, r1]) r2 r3
        · cases hs
      · cases hc
    · cases hc
  | makeMap t r =>
    simp only [cop] at hc
    split at hc
    · rename_i k e ht
      split at hc
      · cases hc
        simp only [wstep] at hs
        obtain ⟨hp, rfl, rfl⟩ := anew_some hs
        obtain ⟨S', E'⟩ := S.alloc hp (w' := w.alloc (.map #[] 0)) (ob := .map #[] 0) rfl rfl rfl rfl 0 1 (o := .map []) (by
          refine ⟨fun b => by simp [Mod.put], #[], 0, by simp only [Mod.put, if_true]; exact heap_alloc_new w _, rfl, by simp, by simp⟩)
        refine wrote_value rfl (u := .map (some w.heap.size)) (by simp [Instr.makeMap]) ?_ S' E'
        have := Conc.mp (M := M.put p w.heap.size 0 0 1) (l := p) (.inr rfl)
        simpa [Mod.put] using this
      · cases hc
    · cases hc
  | makeSlice t n c =>
    simp only [cop] at hc
    split at hc
    · rename_i e ht
      split at hc
      · rename_i i z n' c' hi hz hn hcc
        split at hc
        · rename_i hcond
          cases hc
          simp only [wstep] at hs
          obtain ⟨w', M', F', u, r1, r2, r3, r4⟩ := amksl_ok (P := P) S ht hi hz hcond.1 hcond.2.1 hcond.2.2 (copd_ok hn hρ) (copd_ok hcc hρ) hs
          exact wrote_value rfl r1 r2 r3 r4
        · cases hc
      · cases hc
    · cases hc
  | mapUpdate t m k x =>
    simp only [cop] at hc
    split at hc
    · rename_i kt e ht
      split at hc
      · rename_i lk m' k' x' hk hm hkk hx
        cases hc
        simp only [wstep] at hs
        obtain ⟨hw, rfl⟩ := withAny_some hs
        obtain ⟨w', r1, r2, r3⟩ := mset_ok (P := P) S ht hk (copd_ok hm hρ) (copd_ok hkk hρ) (copd_ok hx hρ) hw
        exact wrote_skip rfl r1 r2 r3
      · cases hc
    · cases hc
  | makeFunc f x y =>
    cases f with
    | func f =>
      simp only [cop] at hc
      split at hc
      · cases hc; simp [wstep] at hs
      · cases hc
    | _ => simp [cop] at hc
  | call c =>
    obtain ⟨callee, args, argTypes⟩ := c
    cases callee with
    | value f =>
      simp only [cop] at hc
      split at hc
      · cases hc; simp [wstep] at hs
      · cases hc
    | invoke r m => simp [cop] at hc
    | builtin b =>
      cases b with
      | append =>
        simp only [cop] at hc
        split at hc
        · rename_i t t' s x hts hargs
          split at hc
          · rename_i htt
            subst htt
            split at hc
            · rename_i e ht
              split at hc
              · rename_i i z s' x' hi hz hss hx
                split at hc
                · rename_i hcond
                  cases hc
                  simp only [wstep] at hs
                  split at hs
                  · cases hs
                  · rename_i xs hxs
                    split at hs
                    · rename_i hr
                      obtain ⟨uz, hz1, hz2, i', hi', hiz⟩ := run_zeroCells (P := P) w hz M
                      rw [hi] at hi'; cases hi'
                      have hzs : uz.cells.size = i.size := by have := hz2.length; simp at this; omega
                      obtain ⟨w', M', F', u, r1, r2, r3, r4⟩ := aapp_ok (P := P) (ty := type) S ht hi hiz rfl hzs hcond.2.2 hcond.2.1 (copd_ok hss hρ) (copd_ok hx hρ) hxs hr hs
                      have ha : args.map a.eval = #[a.eval s, a.eval x] := by apply Array.ext'; simp [hargs]
                      have ht2 : argTypes = #[t', t'] := by apply Array.ext'; simpa using hts
                      subst ht2
                      exact ⟨.value u, w', M', F', u, by simp [execOp, resolve, invoke, builtin, ha, r1], .inl rfl, r2, r3, r4⟩
                    · cases hs
                · cases hc
              · cases hc
            · cases hc
          · cases hc
        · cases hc
      | copy =>
        simp only [cop] at hc
        split at hc
        · rename_i t t' s x hts hargs
          split at hc
          · rename_i htt
            subst htt
            split at hc
            · rename_i e ht
              split at hc
              · rename_i n s' x' hi hss hx
                split at hc
                · rename_i h0
                  cases hc
                  simp only [wstep] at hs
                  split at hs
                  · cases hs
                  · rename_i xs hxs
                    split at hs
                    · rename_i hr
                      obtain ⟨w', M', F', u, r1, r2, r3, r4⟩ := acpy_ok (P := P) (ty := type) S ht hi h0 (copd_ok hss hρ) (copd_ok hx hρ) hxs hr hs
                      have ha : args.map a.eval = #[a.eval s, a.eval x] := by apply Array.ext'; simp [hargs]
                      have ht2 : argTypes = #[t', t'] := by apply Array.ext'; simpa using hts
                      subst ht2
                      exact ⟨.value u, w', M', F', u, by simp [execOp, resolve, invoke, builtin, ha, r1], .inl rfl, r2, r3, r4⟩
                    · cases hs
                · cases hc
              · cases hc
            · cases hc
          · cases hc
        · cases hc
      | delete =>
        simp only [cop] at hc
        split at hc
        · rename_i t m k hts hargs
          split at hc
          · rename_i kt e ht
            split at hc
            · rename_i lk m' k' hk hm hkk
              cases hc
              simp only [wstep] at hs
              obtain ⟨hw, rfl⟩ := withAny_some hs
              obtain ⟨w', r1, r2, r3⟩ := del_ok (P := P) (ty := type) S ht hk hts (copd_ok hm hρ) (copd_ok hkk hρ) hw
              have ha : args.map a.eval = #[a.eval m, a.eval k] := by apply Array.ext'; simp [hargs]
              exact ⟨.value (.tuple #[]), w', M, F, .tuple #[], by simp [execOp, resolve, invoke, builtin, ha, r1], .inl rfl, .any _, r2, r3⟩
            · cases hc
          · cases hc
        · cases hc
      | clear =>
        simp only [cop] at hc
        split at hc
        · rename_i t m hts hargs
          split at hc
          · rename_i kt e m' ht hm
            cases hc
            simp only [wstep] at hs
            obtain ⟨hw, rfl⟩ := withAny_some hs
            obtain ⟨w', r1, r2, r3⟩ := clr_ok (P := P) (ty := type) S ht hts (copd_ok hm hρ) hw
            have ha : args.map a.eval = #[a.eval m] := by apply Array.ext'; simp [hargs]
            exact ⟨.value (.tuple #[]), w', M, F, .tuple #[], by simp [execOp, resolve, invoke, builtin, ha, r1], .inl rfl, .any _, r2, r3⟩
          · rename_i e m' ht hm
            split at hc
            · rename_i sz z hsz hz
              split at hc
              · rename_i hcc
                cases hc
                simp only [wstep] at hs
                obtain ⟨hw, rfl⟩ := withAny_some hs
                obtain ⟨w', r1, r2, r3⟩ := aclrs_ok (P := P) (ty := type) S hts ht hsz hz hcc.1 hcc.2 (copd_ok hm hρ) hw
                have ha : args.map a.eval = #[a.eval m] := by apply Array.ext'; simp [hargs]
                exact ⟨.value (.tuple #[]), w', M, F, .tuple #[], by simp [execOp, resolve, invoke, builtin, ha, r1], .inl rfl, .any _, r2, r3⟩
              · cases hc
            · cases hc
          · cases hc
        · cases hc
      | len =>
        simp only [cop] at hc
        split at hc
        · split at hc
          · obtain ⟨y, hy, rfl⟩ := opt_map hc; simp [wstep] at hs
          · obtain ⟨y, hy, rfl⟩ := opt_map hc; simp [wstep] at hs
          · cases hc; simp [wstep] at hs
          · obtain ⟨y, hy, rfl⟩ := opt_map hc; simp [wstep] at hs
          · cases hc
        · cases hc
      | min => obtain ⟨y, hy, rfl⟩ := opt_map hc; simp [wstep] at hs
      | max => obtain ⟨y, hy, rfl⟩ := opt_map hc; simp [wstep] at hs
      | _ => simp [cop] at hc
  | _ =>
    first
    | (simp [cop] at hc; done)
    | (simp only [cop] at hc
       repeat' (split at hc)
       all_goals first | (cases hc; done) | (cases hc; simp [wstep] at hs; done) | (obtain ⟨y, hy, rfl⟩ := opt_map hc; simp [wstep] at hs))

theorem astep_ok (S : Sim w.heap M F A) {o : Oper} {io : IOp} (hc : cop P o = some io) {p : Nat} {v : AV} {A' : AHeap} (hs : astep ρ A p io = some (v, A')) (hρ : ConcL M ρ a.tmps.toList) : Wrote P M F A a w o v A' := by
  unfold astep at hs
  split at hs
  · rename_i v' hn
    cases hs
    obtain ⟨u, h1, h2⟩ := nstep_ok w hc hn hρ
    exact ⟨.value u, w, M, F, u, h1, .inl rfl, h2, S, .refl _ _ _ _⟩
  · split at hs
    · rename_i v' hr
      cases hs
      obtain ⟨u, h1, h2⟩ := rstep_ok S hc hr hρ
      exact ⟨.value u, w, M, F, u, h1, .inl rfl, h2, S, .refl _ _ _ _⟩
    · exact wstep_ok S hc hs hρ
end
end Go.SB
end

/- Framework, part P: control: the IR's code, its weakest precondition, and that the loaded program follows it (regions that draw no order). -/
section
set_option linter.unusedVariables false
set_option linter.unusedSimpArgs false
namespace Go.SB

structure IOper where
  dst : Option Nat
  op : IOp
  guard : Option (Nat × Bool)
  slot : Nat
  pre : List Nat
  deriving Inhabited

inductive IExit where
  | normal
  | exit (id : Nat)
  | goto (l : Nat)
  | ret
  deriving DecidableEq, Inhabited

def IExit.is : IExit → Exit → Prop
  | .normal, .normal => True
  | .exit a, .exit b => a = b
  | .goto a, .goto b => a = b
  | .ret, .ret => True
  | _, _ => False

/-- The function can be entered. -/
def CallOk (P : Program) (f : FuncId) : Prop := ∃ fn, P.funcs[f]? = some fn ∧ fn.name ≠ "runtime.NumGoroutine" ∧ fn.body.isSome = true

/-- Places that are kept free stay so. -/
def Free (A A' : AHeap) : Prop := ∀ (l : Nat), A[l]? = some none → A'[l]? = some none

theorem Free.refl (A : AHeap) : Free A A := fun _ h => h
theorem Free.trans {A B C : AHeap} (h : Free A B) (k : Free B C) : Free A C := fun l e => k l (h l e)

/-- A call, on abstract values. -/
def ACall (P : Program) (f : FuncId) (args : List AV) (A : AHeap) (K : AV → AHeap → Prop) : Prop :=
  CallOk P f ∧ ∀ (w : World) (M : Mod) (F : Nat → Nat → Prop) (us : List Value), Sim w.heap M F A → ConcL M args us →
    Calls P f us.toArray w fun e w' => ∃ r A' M' F' u, K r A' ∧ e = .returned u ∧ Conc M' r u ∧ Sim w'.heap M' F' A' ∧ Ext w M F A w' M' F' A' ∧ Free A A'

theorem ACall.mono {P : Program} {f : FuncId} {args : List AV} {A : AHeap} {K K' : AV → AHeap → Prop} (h : ACall P f args A K) (hk : ∀ r A', K r A' → K' r A') : ACall P f args A K' :=
  ⟨h.1, fun w M F us S hL => (h.2 w M F us S hL).mono fun e w' ⟨r, A', M', F', u, hK, rest⟩ => ⟨r, A', M', F', u, hk r A' hK, rest⟩⟩

/-- A call of a function value. -/
def ACallV (P : Program) (fv : AV) (args : List AV) (A : AHeap) (K : AV → AHeap → Prop) : Prop :=
  match fv with
  | .fn f first caps => ACall P f (first ++ args ++ caps) A K
  | _ => False

def aput (ρ : List AV) (d : Option Nat) (v : AV) : List AV :=
  match d with
  | some d => ρ.set d v
  | none => ρ

def mask (ks : List Nat) (ρ : List AV) : List AV := ks.foldl (fun ρ k => ρ.set k .any) ρ

def awpOp (P : Program) (p0 : Nat) (o : IOper) (ρ : List AV) (A : AHeap) (K : List AV → AHeap → Prop) : Prop :=
  match o.op with
  | .call f args => ACallV P (f.get ρ) (args.map (·.get ρ)) A fun r A' => K (aput ρ o.dst r) A'
  | op => match astep ρ A (p0 + o.slot) op with
    | some (v, A') => K (aput ρ o.dst v) A'
    | none => False

def awpG (P : Program) (p0 : Nat) (o : IOper) (ρ : List AV) (A : AHeap) (K : List AV → AHeap → Prop) : Prop :=
  match o.guard with
  | none => awpOp P p0 o ρ A K
  | some (t, want) => match ρ.getD t .any with
    | .bool b => (b = want → awpOp P p0 o ρ A K) ∧ (b = !want → K (aput ρ o.dst (.tup [])) A)
    | .tup _ => K (aput ρ o.dst (.tup [])) A
    | _ => False

def awpOps (P : Program) (p0 : Nat) : List IOper → List AV → AHeap → (List AV → AHeap → Prop) → Prop
  | [], ρ, A, K => K ρ A
  | o :: os, ρ, A, K => awpG P p0 o ρ A fun ρ' A' => awpOps P p0 os ρ' A' K

section
variable {P : Program}

/-- Where the function began. -/
structure Ctx where
  w : World
  M : Mod
  F : Nat → Nat → Prop
  A : AHeap
  lt : ∀ l, M.D l → l < A.length

/-- The real state, beside the abstract one. -/
def St (c : Ctx) (ρ : List AV) (A : AHeap) (a : Act) (w : World) : Prop :=
  ∃ M F, Sim w.heap M F A ∧ ConcL M ρ a.tmps.toList ∧ a.defers = [] ∧ Ext c.w c.M c.F c.A w M F A ∧ Free c.A A

def APost (c : Ctx) (Q : IExit → List AV → AHeap → Prop) : Exit → Act → World → Prop :=
  fun e a w => ∃ ie ρ A, Q ie ρ A ∧ ie.is e ∧ St c ρ A a w

/-- 'n0: how many places the heap had when the function began'. -/
def AExec (P : Program) (n0 : Nat) (c : Code) (ρ : List AV) (A : AHeap) (Q : IExit → List AV → AHeap → Prop) : Prop :=
  ∀ (x : Ctx) (a : Act) (w : World), x.A.length = n0 → St x ρ A a w → c.wp P (APost x Q) a w

theorem AExec.mono {n0 : Nat} {c : Code} {ρ : List AV} {A : AHeap} {Q Q' : IExit → List AV → AHeap → Prop} (h : AExec P n0 c ρ A Q) (hq : ∀ e ρ A, Q e ρ A → Q' e ρ A) : AExec P n0 c ρ A Q' :=
  fun x a w hx hs => wp_mono (h x a w hx hs) fun e a' w' ⟨ie, ρ', A', q, r⟩ => ⟨ie, ρ', A', hq _ _ _ q, r⟩

theorem St.mask {c : Ctx} {ρ : List AV} {A : AHeap} {a : Act} {w : World} (h : St c ρ A a w) (ks : List Nat) : St c (mask ks ρ) A a w := by
  obtain ⟨M, F, S, hL, hd, E, hf⟩ := h
  refine ⟨M, F, S, ?_, hd, E, hf⟩
  clear S E
  induction ks generalizing ρ with
  | nil => exact hL
  | cons k ks ih =>
    refine ih ?_
    refine ConcL.of_get (by simp [hL.length]) ?_
    intro i x u hx hu
    by_cases e : k = i
    · subst e
      rw [List.getElem?_set_self'] at hx
      cases h : ρ[k]? with
      | none => simp [h] at hx
      | some y => simp [h] at hx; subst hx; exact .any _
    · rw [List.getElem?_set_ne e] at hx
      obtain ⟨u', hu', hc⟩ := hL.get hx
      rw [hu] at hu'; cases hu'; exact hc

theorem aexec_skip {n0 : Nat} {ρ : List AV} {A : AHeap} {Q : IExit → List AV → AHeap → Prop} (h : Q .normal ρ A) : AExec P n0 .skip ρ A Q :=
  fun x a w _ hs => wp_skip ⟨.normal, ρ, A, h, trivial, hs⟩
theorem aexec_label {n0 l : Nat} {ρ : List AV} {A : AHeap} {Q : IExit → List AV → AHeap → Prop} (h : Q .normal ρ A) : AExec P n0 (.label l) ρ A Q :=
  fun x a w _ hs => wp_label ⟨.normal, ρ, A, h, trivial, hs⟩
theorem aexec_exit {n0 id : Nat} {ρ : List AV} {A : AHeap} {Q : IExit → List AV → AHeap → Prop} (h : Q (.exit id) ρ A) : AExec P n0 (.exit id) ρ A Q :=
  fun x a w _ hs => wp_exit ⟨.exit id, ρ, A, h, rfl, hs⟩
theorem aexec_goto {n0 l : Nat} {ρ : List AV} {A : AHeap} {Q : IExit → List AV → AHeap → Prop} (h : Q (.goto l) ρ A) : AExec P n0 (.goto l) ρ A Q :=
  fun x a w _ hs => wp_goto ⟨.goto l, ρ, A, h, rfl, hs⟩
theorem aexec_ret {n0 : Nat} {ρ : List AV} {A : AHeap} {Q : IExit → List AV → AHeap → Prop} (h : Q .ret ρ A) : AExec P n0 .ret ρ A Q :=
  fun x a w _ hs => wp_ret ⟨.ret, ρ, A, h, trivial, hs⟩

def seqQ (next : List AV → AHeap → Prop) (Q : IExit → List AV → AHeap → Prop) (e : IExit) (ρ : List AV) (A : AHeap) : Prop :=
  match e with
  | .normal => next ρ A
  | e => Q e ρ A

theorem aexec_seq {n0 : Nat} {x y : Code} {ρ : List AV} {A : AHeap} {Q : IExit → List AV → AHeap → Prop} {N : List AV → AHeap → Prop} (h : AExec P n0 x ρ A (seqQ N Q)) (hy : ∀ ρ A, N ρ A → AExec P n0 y ρ A Q) : AExec P n0 (.seq x y) ρ A Q := by
  intro c a w hn hs
  refine wp_seq (wp_mono (h c a w hn hs) ?_)
  rintro e a' w' ⟨ie, ρ', A', hq, hi, hs'⟩
  cases ie <;> cases e <;> simp only [IExit.is] at hi <;> simp only [seqQ] at hq <;> simp only [Exit.then]
  · exact hy _ _ hq c a' w' hn hs'
  · exact ⟨.exit _, ρ', A', hq, hi, hs'⟩
  · exact ⟨.goto _, ρ', A', hq, hi, hs'⟩
  · exact ⟨.ret, ρ', A', hq, trivial, hs'⟩

theorem aexec_cond {n0 : Nat} {c : Operand} {c' : Opd} {x y : Code} {ρ : List AV} {A : AHeap} {Q : IExit → List AV → AHeap → Prop} {b : Bool} (hc : copd c = some c') (hb : c'.get ρ = .bool b) {ks : List Nat}
    (hx : b = true → AExec P n0 x (mask ks ρ) A Q) (hy : b = false → AExec P n0 y (mask ks ρ) A Q) : AExec P n0 (.cond c x y) ρ A Q := by
  intro ctx a w hn hs
  have hs0 := hs
  obtain ⟨M, F, S, hL, hd, E, hf⟩ := hs
  have hv := copd_ok hc hL
  rw [hb] at hv
  have hv := conc_bool hv
  cases b
  · exact wp_cond_false hv (hy rfl ctx a w hn (hs0.mask ks))
  · exact wp_cond_true hv (hx rfl ctx a w hn (hs0.mask ks))

def blockQ (id : Nat) (Q : IExit → List AV → AHeap → Prop) (e : IExit) (ρ : List AV) (A : AHeap) : Prop :=
  match e with
  | .exit id' => if id' = id then Q .normal ρ A else Q (.exit id') ρ A
  | e => Q e ρ A

theorem aexec_block {n0 id : Nat} {x : Code} {ρ : List AV} {A : AHeap} {Q : IExit → List AV → AHeap → Prop} (h : AExec P n0 x ρ A (blockQ id Q)) : AExec P n0 (.block id x) ρ A Q := by
  intro c a w hn hs
  refine wp_block (wp_mono (h c a w hn hs) ?_)
  rintro e a' w' ⟨ie, ρ', A', hq, hi, hs'⟩
  cases ie <;> cases e <;> simp only [IExit.is] at hi <;> simp only [blockQ] at hq <;> simp only [Exit.inBlock]
  · exact ⟨.normal, ρ', A', hq, trivial, hs'⟩
  · subst hi
    split at hq
    · rename_i e; rw [if_pos e]; exact ⟨.normal, ρ', A', hq, trivial, hs'⟩
    · rename_i e; rw [if_neg e]; exact ⟨.exit _, ρ', A', hq, rfl, hs'⟩
  · exact ⟨.goto _, ρ', A', hq, hi, hs'⟩
  · exact ⟨.ret, ρ', A', hq, trivial, hs'⟩

theorem wp_loop_ix {ι : Type} {Q : Exit → Act → World → Prop} {a : Act} {w : World} {c : Code} (I : ι → Act → World → Prop) (μ : ι → Nat) (i : ι) (h₀ : I i a w)
    (round : ∀ i a w, I i a w → c.wp P (Exit.then (fun a' w' => ∃ j, I j a' w' ∧ μ j < μ i) Q) a w) : (Code.loop c).wp P Q a w := by
  intro b k cs
  have key : ∀ n i a w, μ i = n → I i a w →
      ∃ e a' w', Q e a' w' ∧ Arrives P (lone (b.at a (.code c :: .inLoop c :: k)) cs w) b k cs e a' w' := by
    intro n
    induction n using Nat.strongRecOn with
    | _ n ih =>
      intro i a w hn hI
      obtain ⟨e, a₁, w₁, hq, harr⟩ := round i a w hI b (.inLoop c :: k) cs
      cases e with
      | normal =>
        obtain ⟨j, hI₁, hlt⟩ := hq
        obtain ⟨e₂, a₂, w₂, hq₂, harr₂⟩ := ih (μ j) (hn ▸ hlt) j a₁ w₁ rfl hI₁
        exact ⟨e₂, a₂, w₂, hq₂, .of_steps (Steps.trans harr (.one step_inLoop)) harr₂⟩
      | exit id => exact ⟨_, a₁, w₁, hq, .pass (x := .inLoop c) rfl (fun _ _ => .inl (by simp)) harr⟩
      | goto l => exact ⟨_, a₁, w₁, hq, .pass (x := .inLoop c) rfl (fun _ _ => .inl (by simp)) harr⟩
      | ret => exact ⟨_, a₁, w₁, hq, .pass (x := .inLoop c) rfl (fun _ _ => .inl (by simp)) harr⟩
      | panic ch => exact ⟨_, a₁, w₁, hq, .pass (x := .inLoop c) rfl (fun _ _ => .inl (by simp)) harr⟩
      | outgrown => exact ⟨_, a₁, w₁, hq, .pass (x := .inLoop c) rfl (fun _ _ => .inl (by simp)) harr⟩
  obtain ⟨e, a', w', hq, harr⟩ := key _ i a w rfl h₀
  exact ⟨e, a', w', hq, .of_steps (.one step_loop) harr⟩
end
end Go.SB
end

/- Framework, part Q: an operation of a region, and a region that draws no order. -/
section
set_option linter.unusedVariables false
set_option linter.unusedSimpArgs false
namespace Go.SB

theorem set_none {A : AHeap} {p l : Nat} {o : Option AO} (h : A[l]? = some none) (hne : l ≠ p) : (A.set p o)[l]? = some none := by
  rw [List.getElem?_set_ne (Ne.symm hne)]; exact h

theorem ne_of_live {A : AHeap} {p l : Nat} {o : AO} (h : A[l]? = some none) (hp : A[p]? = some (some o)) : l ≠ p := by
  rintro rfl; rw [h] at hp; cases hp

theorem wrN_free {A A' : AHeap} {x : AV} {ns : List AV} (h : wrN A x ns = some A') : A'.length = A.length ∧ Free A A' := by
  unfold wrN at h
  split at h
  · split at h
    · split at h
      · split at h
        · cases h; exact ⟨by simp, fun l hl => set_none hl (ne_of_live hl ‹_›)⟩
        · cases h
      · cases h
    · cases h
  · split at h
    · split at h
      · split at h
        · split at h
          · cases h; exact ⟨by simp, fun l hl => set_none hl (ne_of_live hl ‹_›)⟩
          · cases h
        · cases h
      · cases h
    · cases h
  · cases h

theorem amset_free {A A' : AHeap} {lk : LK} {m k v : AV} (h : amset A lk m k v = some A') : A'.length = A.length ∧ Free A A' := by
  unfold amset at h
  split at h
  · split at h
    · split at h <;> cases h <;> exact ⟨by simp, fun l hl => set_none hl (ne_of_live hl ‹_›)⟩
    · cases h
  · cases h

theorem amdel_free {A A' : AHeap} {lk : LK} {m k : AV} (h : amdel A lk m k = some A') : A'.length = A.length ∧ Free A A' := by
  unfold amdel at h
  split at h
  · cases h; exact ⟨rfl, .refl _⟩
  · split at h
    · split at h <;> cases h
      · exact ⟨by simp, fun l hl => set_none hl (ne_of_live hl ‹_›)⟩
      · exact ⟨rfl, .refl _⟩
    · cases h
  · cases h

theorem amclr_free {A A' : AHeap} {m : AV} (h : amclr A m = some A') : A'.length = A.length ∧ Free A A' := by
  unfold amclr at h
  split at h
  · cases h; exact ⟨rfl, .refl _⟩
  · split at h
    · cases h; exact ⟨by simp, fun l hl => set_none hl (ne_of_live hl ‹_›)⟩
    · cases h
  · cases h

theorem aclrs_free {A A' : AHeap} {sz : Nat} {z : List AV} {x : AV} (h : aclrs A sz z x = some A') : A'.length = A.length ∧ Free A A' := by
  unfold aclrs at h
  split at h
  · cases h; exact ⟨rfl, .refl _⟩
  · cases h; exact ⟨rfl, .refl _⟩
  · split at h
    · split at h
      · cases h; exact ⟨by simp, fun l hl => set_none hl (ne_of_live hl ‹_›)⟩
      · cases h
    · cases h
  · cases h

theorem aapp_free {A A' : AHeap} {p sz bytes : Nat} {s v : AV} {xs : List (List AV)} (h : aapp A p sz bytes s xs = some (v, A')) : A'.length = A.length ∧ ∀ (l : Nat), l ≠ p → A[l]? = some none → A'[l]? = some none := by
  unfold aapp at h
  split at h
  · split at h
    · cases h; exact ⟨rfl, fun _ _ h => h⟩
    · split at h
      · split at h
        · cases h; exact ⟨by simp, fun l hne hl => set_none hl hne⟩
        · cases h
      · cases h
  · split at h
    · cases h; exact ⟨rfl, fun _ _ h => h⟩
    · split at h
      · split at h
        · cases h; exact ⟨by simp, fun l hne hl => set_none hl hne⟩
        · cases h
      · cases h
  · split at h
    · split at h
      · split at h
        · cases hb : (_ && !xs.isEmpty : Bool) with
          | true => rw [hb] at h; cases h; exact ⟨by simp, fun l hne hl => set_none hl hne⟩
          | false => rw [hb] at h; cases h; exact ⟨by simp, fun l hne hl => set_none (set_none hl (ne_of_live hl ‹_›)) hne⟩
        · cases h
      · cases h
    · cases h
  · cases h

theorem acpy_free {A A' : AHeap} {sz : Nat} {d v : AV} {xs : List (List AV)} (h : acpy A sz d xs = some (v, A')) : A'.length = A.length ∧ Free A A' := by
  unfold acpy at h
  split at h
  · split at h
    · split at h
      · cases h; exact ⟨by simp, fun l hl => set_none hl (ne_of_live hl ‹_›)⟩
      · cases h
    · cases h
  · cases h; exact ⟨rfl, .refl _⟩
  · cases h; exact ⟨rfl, .refl _⟩
  · cases h

theorem anew_free {A A' : AHeap} {p : Nat} {x v : AV} {o : AO} (h : anew A p x o = some (v, A')) : A'.length = A.length ∧ ∀ (l : Nat), l ≠ p → A[l]? = some none → A'[l]? = some none := by
  obtain ⟨_, _, rfl⟩ := anew_some h
  exact ⟨by simp, fun l hne hl => set_none hl hne⟩

theorem withAny_free {o : Option AHeap} {A A' : AHeap} {v : AV} (h : withAny o = some (v, A')) (hh : ∀ B, o = some B → B.length = A.length ∧ Free A B) : A'.length = A.length ∧ Free A A' :=
  hh _ (withAny_some h).1

theorem wstep_free {ρ : List AV} {A A' : AHeap} {p : Nat} {io : IOp} {v : AV} (h : wstep ρ A p io = some (v, A')) : A'.length = A.length ∧ ∀ (l : Nat), l ≠ p → A[l]? = some none → A'[l]? = some none := by
  cases io <;> simp only [wstep] at h
  case alloc z => exact anew_free h
  case box x => exact anew_free h
  case bslice sz es =>
    unfold abslice at h
    split at h
    · split at h
      · cases h; exact ⟨by simp, fun l hne hl => set_none hl hne⟩
      · cases h
    · cases h
  case mkmap => exact anew_free h
  case mksl sz bytes z n c =>
    unfold amksl at h
    split at h
    · split at h
      · split at h
        · cases h; exact ⟨by simp, fun l hne hl => set_none hl hne⟩
        · cases h
      · cases h
    · cases h
  case store n a x =>
    split at h
    · exact ⟨(withAny_free h fun B hB => wrN_free hB).1, fun l _ hl => (withAny_free h fun B hB => wrN_free hB).2 l hl⟩
    · cases h
  case mset lk m k v => exact ⟨(withAny_free h fun B hB => amset_free hB).1, fun l _ hl => (withAny_free h fun B hB => amset_free hB).2 l hl⟩
  case del lk m k => exact ⟨(withAny_free h fun B hB => amdel_free hB).1, fun l _ hl => (withAny_free h fun B hB => amdel_free hB).2 l hl⟩
  case clrs sz z x => exact ⟨(withAny_free h fun B hB => aclrs_free hB).1, fun l _ hl => (withAny_free h fun B hB => aclrs_free hB).2 l hl⟩
  case clr m => exact ⟨(withAny_free h fun B hB => amclr_free hB).1, fun l _ hl => (withAny_free h fun B hB => amclr_free hB).2 l hl⟩
  case app sz bytes s x =>
    split at h
    · cases h
    · split at h
      · exact aapp_free h
      · cases h
  case cpy sz d s =>
    split at h
    · cases h
    · split at h
      · exact ⟨(acpy_free h).1, fun l _ hl => (acpy_free h).2 l hl⟩
      · cases h
  all_goals cases h

theorem astep_free {ρ : List AV} {A A' : AHeap} {p : Nat} {io : IOp} {v : AV} (h : astep ρ A p io = some (v, A')) : A'.length = A.length ∧ ∀ (l : Nat), l ≠ p → A[l]? = some none → A'[l]? = some none := by
  unfold astep at h
  split at h
  · cases h; exact ⟨rfl, fun _ _ h => h⟩
  · split at h
    · cases h; exact ⟨rfl, fun _ _ h => h⟩
    · exact wstep_free h

section
variable {P : Program}

/-- An operation of the loaded program, and the IR's. -/
structure OpRel (P : Program) (kops : Array Oper) (o : Oper) (io : IOper) : Prop where
  dst : io.dst = o.dst
  op : cop P o = some io.op
  guard : (o.guard = none ∧ io.guard = none) ∨ ∃ g want t, o.guard = some (g, want) ∧ io.guard = some (t, want) ∧ (kops[g]?).bind (·.dst) = some t

theorem put_conc {M : Mod} {ρ : List AV} {a : Act} {v : AV} {u : Value} (hL : ConcL M ρ a.tmps.toList) (hv : Conc M v u) (d : Option Nat) : ConcL M (aput ρ d v) (a.put d u).tmps.toList := by
  cases d with
  | none => exact hL
  | some d => simpa [aput, Act.put] using hL.set hv d

theorem put_defers' (a : Act) (d : Option Nat) (u : Value) : (a.put d u).defers = a.defers := by cases d <;> rfl

variable {c : Ctx} {ρ : List AV} {A : AHeap} {a : Act} {w : World}

theorem call_run {o : Oper} {f : Opd} {args : List Opd} (hc : cop P o = some (.call f args)) : ∃ (cl : Call) (fo : Operand), o.op = .call cl ∧ cl.callee = .value fo ∧ copd fo = some f ∧ copds cl.args.toList = some args := by
  obtain ⟨dst, op, type, pos, after, guard⟩ := o
  cases op
  case makeFunc fn fi ca =>
    exfalso
    cases fn <;> simp only [cop] at hc
    all_goals (repeat' (split at hc))
    all_goals (cases hc; done)
  all_goals simp only [cop] at hc
  case call cl =>
    refine ⟨cl, ?_⟩
    cases hcl : cl.callee with
    | value fo =>
      simp only [hcl] at hc
      split at hc
      · cases hc; exact ⟨fo, rfl, rfl, ‹_›, ‹_›⟩
      · cases hc
    | invoke r m => simp only [hcl] at hc; cases hc
    | builtin b =>
      exfalso
      simp only [hcl] at hc
      cases b <;> simp only [] at hc
      all_goals first
        | (cases hc; done)
        | (obtain ⟨_, _, h⟩ := opt_map hc; cases h; done)
        | (repeat' (split at hc)
           all_goals first | (cases hc; done) | (obtain ⟨_, _, h⟩ := opt_map hc; cases h; done))
  all_goals (first
    | (cases hc; done)
    | (obtain ⟨_, _, h⟩ := opt_map hc; cases h; done)
    | (exfalso; repeat' (split at hc)
       all_goals first | (cases hc; done) | (obtain ⟨_, _, h⟩ := opt_map hc; cases h; done)))

theorem callFunc_enter {f : FuncId} (h : CallOk P f) (args : Array Value) (w : World) : (callFunc f args).run P w = .ok (.enter f args) w := by
  obtain ⟨fn, h1, h2, h3⟩ := h
  have hb : fn.body.isNone = false := by cases hx : fn.body <;> simp_all
  have hn : (fn.name == "runtime.NumGoroutine") = false := by simpa using h2
  have hb2 : fn.body ≠ none := by intro e; rw [e] at h3; cases h3
  simp [callFunc, go_sem, h1, h2, hb2]

theorem awpOp_ok {o : Oper} {io : IOper} (hR : cop P o = some io.op) (hdst : io.dst = o.dst) (hs : St c ρ A a w) {p0 : Nat} (hp : c.A.length ≤ p0) {K : List AV → AHeap → Prop} (h : awpOp P p0 io ρ A K)
    {Q : Exit → Act → World → Prop} {K' : Act → World → Prop} (hK : ∀ ρ' A' a' w', K ρ' A' → St c ρ' A' a' w' → K' a' w') : o.wp P a w K' Q := by
  obtain ⟨M, F, S, hL, hd, E, hf⟩ := hs
  have hlen := E.len
  have simple : ∀ (v : AV) (A' : AHeap), astep ρ A (p0 + io.slot) io.op = some (v, A') → K (aput ρ io.dst v) A' → o.wp P a w K' Q := by
    intro v A' hst hk
    obtain ⟨nx, w', M', F', u, r1, r2, r3, r4, r5⟩ := astep_ok S hR hst hL
    obtain ⟨fl, ff⟩ := astep_free hst
    have hs' : St c (aput ρ io.dst v) A' (a.put o.dst u) w' :=
      ⟨M', F', r4, by rw [hdst]; exact put_conc (hL.mono r5.le) r3 _, (put_defers' _ _ _).trans hd, E.trans r5, fun l hl => by
        refine ff l ?_ (hf l hl)
        have : l < c.A.length := (List.getElem?_eq_some_iff.1 hl).1
        omega⟩
    rcases r2 with rfl | ⟨rfl, rfl⟩
    · simp only [Oper.wp, r1, Oper.upon]; exact hK _ _ _ _ hk hs'
    · simp only [Oper.wp, r1, Oper.upon]; exact hK _ _ _ _ hk hs'
  cases hop : io.op with
  | call f args =>
    rw [hop] at hR
    simp only [awpOp, hop] at h
    obtain ⟨cl, fo, h1, h2, h3, h4⟩ := call_run hR
    have hf1 := copd_ok h3 hL
    have ha1 := copds_ok hL h4
    unfold ACallV at h
    split at h
    · rename_i fid first caps hfv
      rw [hfv] at hf1
      generalize hev : a.eval fo = fe at hf1
      cases hf1 with
      | fn hc1 hc2 =>
        rename_i us vs
        have hargs : ConcL M (first ++ args.map (·.get ρ) ++ caps) (us ++ cl.args.map a.eval ++ vs).toList := by
          simp only [Array.toList_append, Array.toList_map]
          exact (hc1.append ha1).append hc2
        have hcall := h.2 w M F _ S hargs
        simp only [Array.toArray_toList] at hcall
        have hrun : (execOp a.eval o).run P w = .ok (.enter fid (us ++ cl.args.map a.eval ++ vs)) w := by
          have : execOp a.eval o = (do let d ← resolve a.eval cl o.type; invoke d.target d.args) := by
            obtain ⟨dst, op, type, pos, after, guard⟩ := o
            simp only at h1; subst h1
            rfl
          have hres : resolve a.eval cl o.type = pure { target := .fn (.func fid) vs, args := us ++ cl.args.map a.eval } := by
            unfold resolve
            simp only [h2]
            rw [hev]
            rfl
          rw [this, hres]
          simp only [pure_bind]
          exact callFunc_enter h.1 _ _
        simp only [Oper.wp, hrun, Oper.upon]
        refine hcall.mono ?_
        rintro e w' ⟨r, A', M', F', u, hk, rfl, r3, r4, r5, r6⟩
        exact hK _ _ _ _ hk ⟨M', F', r4, by rw [hdst]; exact put_conc (hL.mono r5.le) r3 _, (put_defers' _ _ _).trans hd, E.trans r5, hf.trans r6⟩
    · exact h.elim
  | _ =>
    simp only [awpOp, hop] at h
    split at h
    · rename_i v A' hst
      exact simple v A' (by rw [hop]; exact hst) h
    · exact h.elim

theorem awpG_ok {kops : Array Oper} {i : Nat} {o : Oper} {io : IOper} (hi : kops[i]? = some o) (hR : OpRel P kops o io) (hs : St c ρ A a w) {p0 : Nat} (hp : c.A.length ≤ p0) {K : List AV → AHeap → Prop} (h : awpG P p0 io ρ A K)
    {Q : Exit → Act → World → Prop} {K' : Act → World → Prop} (hK : ∀ ρ' A' a' w', K ρ' A' → St c ρ' A' a' w' → K' a' w') : wpOp P kops Q i K' a w := by
  unfold wpOp
  simp only [hi]
  rcases hR.guard with ⟨h1, h2⟩ | ⟨g, want, t, h1, h2, h3⟩
  · rw [if_pos (by simp [Region.wanted, h1])]
    unfold awpG at h
    rw [h2] at h
    exact .inl (awpOp_ok hR.op hR.dst hs hp h hK)
  · unfold awpG at h
    rw [h2] at h
    simp only [] at h
    split at h
    · rename_i b hb
      have hs0 := hs
      obtain ⟨M, F, S, hL, hd, E, hf⟩ := hs
      have hy : yielded kops a.tmps g = some b := by
        have ht : ∃ u, a.tmps[t]? = some u ∧ Conc M (.bool b) u := by
          cases ht : ρ[t]? with
          | none => simp [List.getD, ht] at hb
          | some v =>
            simp [List.getD, ht] at hb; subst hb
            obtain ⟨u, hu, hc⟩ := hL.get ht
            exact ⟨u, by simpa using hu, hc⟩
        obtain ⟨u, hu, hc⟩ := ht
        have := conc_bool hc
        subst this
        simp [yielded, h3, hu]
      by_cases hbw : b = want
      · rw [if_pos (by simp [Region.wanted, h1, hy, hbw])]
        exact .inl (awpOp_ok hR.op hR.dst hs0 hp (h.1 hbw) hK)
      · rw [if_neg (by simp [Region.wanted, h1, hy, hbw])]
        have hk := h.2 (by cases b <;> cases want <;> simp_all)
        exact hK _ _ _ _ hk ⟨M, F, S, by rw [hR.dst]; exact put_conc hL (.tup .nil) _, (put_defers' _ _ _).trans hd, E, hf⟩
    · rename_i vs hb
      obtain ⟨M, F, S, hL, hd, E, hf⟩ := hs
      have hy : yielded kops a.tmps g = none := by
        cases ht : ρ[t]? with
        | none => simp [List.getD, ht] at hb
        | some v =>
          simp [List.getD, ht] at hb; subst hb
          obtain ⟨u, hu, hc⟩ := hL.get ht
          have hu' : a.tmps[t]? = some u := by simpa using hu
          cases hc
          simp [yielded, h3, hu']
      rw [if_neg (by simp [Region.wanted, h1, hy])]
      exact hK _ _ _ _ h ⟨M, F, S, by rw [hR.dst]; exact put_conc hL (.tup .nil) _, (put_defers' _ _ _).trans hd, E, hf⟩
    · exact h.elim

theorem awpG_mono {p0 : Nat} {o : IOper} {K K' : List AV → AHeap → Prop} (h : awpG P p0 o ρ A K) (hk : ∀ ρ A, K ρ A → K' ρ A) : awpG P p0 o ρ A K' := by
  have hop : ∀ {ρ A}, awpOp P p0 o ρ A K → awpOp P p0 o ρ A K' := by
    intro ρ A h
    unfold awpOp at *
    split
    · simp only [*] at h
      unfold ACallV at *
      split
      · simp only [*] at h; exact h.mono fun r A' => hk _ _
      · simp only [*] at h
    · rename_i op hno
      split at h
      · exact absurd ‹_› (hno _ _)
      · split
        · rename_i he; simp only [he] at h; exact hk _ _ h
        · rename_i he; simp only [he] at h
  unfold awpG at *
  split
  · simp only [*] at h; exact hop h
  · simp only [*] at h
    split
    · rename_i hb; simp only [hb] at h; exact ⟨fun e => hop (h.1 e), fun e => hk _ _ (h.2 e)⟩
    · rename_i hb; simp only [hb] at h; exact hk _ _ h
    · rename_i hb hb2; split at h
      · rename_i b hb'; exact absurd hb' (hb b)
      · rename_i b hb'; exact absurd hb' (hb2 b)
      · exact h

/-- A region's operations, pairwise. -/
def OpsRel (P : Program) (kops : Array Oper) (ios : List IOper) : Prop := kops.size = ios.length ∧ ∀ (i : Nat) (o : Oper), kops[i]? = some o → ∃ io, ios[i]? = some io ∧ OpRel P kops o io ∧ (∀ p, p ∈ io.pre ↔ ∃ e ∈ o.after, Region.binds .any e = true ∧ e.on = p)

/-- Room for m more. -/
def AHeap.more (A : AHeap) (m : Nat) : AHeap := A ++ List.replicate m none

theorem more_live {A : AHeap} {m l : Nat} {o : AO} (h : (A.more m)[l]? = some (some o)) : A[l]? = some (some o) := by
  unfold AHeap.more at h
  by_cases hl : l < A.length
  · rwa [List.getElem?_append_left hl] at h
  · rw [List.getElem?_append_right (by omega)] at h
    rw [List.getElem?_replicate] at h
    split at h <;> cases h

theorem live_more {A : AHeap} {m l : Nat} {x : Option AO} (h : A[l]? = some x) : (A.more m)[l]? = some x := by
  have hl : l < A.length := (List.getElem?_eq_some_iff.1 h).1
  unfold AHeap.more; rw [List.getElem?_append_left hl]; exact h

theorem Sim.more {h : Array Obj} {M : Mod} {F : Nat → Nat → Prop} (S : Sim h M F A) (m : Nat) : Sim h M F (A.more m) where
  holds l o ho := S.holds l o (more_live ho)
  fresh l hl := by obtain ⟨o, ho⟩ := S.fresh l hl; exact ⟨o, live_more ho⟩
  lt l o b ho hf := S.lt l o b (more_live ho) hf
  disj l l' o o' b h1 h2 := S.disj l l' o o' b (more_live h1) (more_live h2)
  imm := S.imm
  immNot b c l o hI ho := S.immNot b c l o hI (more_live ho)

theorem Ext.more {w w' : World} {M M' : Mod} {F F' : Nat → Nat → Prop} {A A' : AHeap} (E : Ext w M F A w' M' F' A') (m : Nat) : Ext w M F A w' M' F' (A'.more m) :=
  { E with len := by have := E.len; simp [AHeap.more]; omega
           foot := fun l o b ho hf hb => E.foot l o b (more_live ho) hf hb }

theorem St.more (h : St c ρ A a w) (m : Nat) : St c ρ (A.more m) a w := by
  obtain ⟨M, F, S, hL, hd, E, hf⟩ := h
  exact ⟨M, F, S.more m, hL, hd, E.more m, fun l hl => live_more (hf l hl)⟩

theorem awpOps_ok {kops : Array Oper} {p0 : Nat} {Q : Exit → Act → World → Prop} {K : List AV → AHeap → Prop} (hx : c.A.length ≤ p0) (hK : ∀ ρ A a w, K ρ A → St c ρ A a w → Q .normal a w) :
    ∀ (ios : List IOper) (k : Nat), (∀ (j : Nat) (io : IOper), ios[j]? = some io → ∃ o, kops[k + j]? = some o ∧ OpRel P kops o io) → ∀ (ρ : List AV) (A : AHeap) (a : Act) (w : World), St c ρ A a w → awpOps P p0 ios ρ A K →
      wpOps P kops Q (List.range' k ios.length) a w
  | [], k, _, ρ, A, a, w, hs, h => by simpa [wpOps] using hK _ _ _ _ h hs
  | io :: ios, k, hrel, ρ, A, a, w, hs, h => by
    obtain ⟨o, ho, hR⟩ := hrel 0 io (by simp)
    simp only [List.length_cons, List.range'_succ]
    rw [wpOps_cons]
    refine awpG_ok (by simpa using ho) hR hs hx h ?_
    intro ρ' A' a' w' hk hs'
    exact awpOps_ok hx hK ios (k + 1) (fun j io' hj => by
      obtain ⟨o', ho', hR'⟩ := hrel (j + 1) io' (by simpa using hj)
      exact ⟨o', by rw [show k + 1 + j = k + (j + 1) by omega]; exact ho', hR'⟩) ρ' A' a' w' hs' hk

theorem aexec_region {n0 id m : Nat} {kops : Array Oper} {ios : List IOper} (hR : OpsRel P kops ios) {Q : IExit → List AV → AHeap → Prop} (h : awpOps P A.length ios ρ (A.more m) (Q .normal)) :
    AExec P n0 (.region id kops false) ρ A Q := by
  intro c a w hx hs
  have hn : n0 ≤ A.length := by obtain ⟨M, F, S, hL, hd, E, hf⟩ := hs; have := E.len; omega
  refine wp_region ?_
  have := awpOps_ok (c := c) (kops := kops) (Q := APost c Q) (K := Q .normal) (p0 := A.length) (by omega) (fun ρ A a w hk hs => ⟨.normal, ρ, A, hk, trivial, hs⟩) ios 0
    (fun j io hj => by
      have hlt : j < kops.size := by have := hR.1; have := (List.getElem?_eq_some_iff.1 hj).1; omega
      obtain ⟨io', h1, h2, _⟩ := hR.2 j kops[j] (by simp [hlt])
      rw [hj] at h1; cases h1
      exact ⟨kops[j], by simp [hlt], h2⟩) ρ (A.more m) a w (hs.more m) h
  rw [List.range_eq_range', hR.1]
  exact this
end
end Go.SB
end

/- Framework, part R: what an operation looks at; operations that can be taken in either order. -/
section
set_option linter.unusedVariables false
set_option linter.unusedSimpArgs false
namespace Go.SB

def IOp.opds : IOp → List Opd
  | .mv x | .box x | .load _ x | .nilck x | .un _ x | .cvi _ x | .cvs x | .faddr _ x | .fld _ _ x | .ext _ x | .lenst x | .lens x | .lenm x | .clr x | .clrs _ _ x | .mkif _ x => [x]
  | .pick c a b => [c, a, b]
  | .alloc _ | .mkmap | .lenc _ => []
  | .build _ ps => ps.map (·.2.2)
  | .bslice _ es => es
  | .store _ a x => [a, x]
  | .bin _ x y | .eqv _ _ x y => [x, y]
  | .mkfn _ a b => a ++ b
  | .mksl _ _ _ n c => [n, c]
  | .slcs x lo hi => x :: (lo.toList ++ hi.toList)
  | .slc _ x lo hi m => x :: (lo.toList ++ hi.toList ++ m.toList)
  | .iaddr _ x i | .iaddra _ _ x i | .idxs x i | .idxa _ _ _ x i => [x, i]
  | .lookup _ _ _ m k => [m, k]
  | .mset _ m k v => [m, k, v]
  | .app _ _ s x => [s, x]
  | .cpy _ d s => [d, s]
  | .mn xs | .mx xs => xs
  | .del _ m k => [m, k]
  | .call f args => f :: args

theorem optmap_congr {f g : Opd → AV} {o : Option Opd} (h : ∀ x ∈ o.toList, f x = g x) : o.map f = o.map g := by
  cases o with
  | none => rfl
  | some x => simp [h x (by simp)]

theorem nstep_congr {ρ ρ' : List AV} {io : IOp} (h : ∀ x ∈ io.opds, x.get ρ = x.get ρ') : nstep ρ io = nstep ρ' io := by
  cases io <;> simp only [IOp.opds] at h <;> simp only [nstep]
  case build z ps =>
    have e : (ps.map fun (x : Nat × Nat × Opd) => (x.1, x.2.1, x.2.2.get ρ)) = ps.map fun (x : Nat × Nat × Opd) => (x.1, x.2.1, x.2.2.get ρ') := List.map_congr_left fun p hp => by
      rw [h p.2.2 (List.mem_map.2 ⟨p, hp, rfl⟩)]
    simp only [e]
  case mkfn f a b =>
    rw [List.map_congr_left fun x hx => h x (by simp [hx]), List.map_congr_left (l := b) fun x hx => h x (by simp [hx])]
  case slcs x lo hi =>
    rw [h x (by simp), optmap_congr (o := lo) fun y hy => h y (by simp [Option.mem_toList.1 hy]), optmap_congr (o := hi) fun y hy => h y (by simp [Option.mem_toList.1 hy])]
  case slc sz x lo hi mx =>
    rw [h x (by simp), optmap_congr (o := lo) fun y hy => h y (by simp [Option.mem_toList.1 hy]), optmap_congr (o := hi) fun y hy => h y (by simp [Option.mem_toList.1 hy]),
      optmap_congr (o := mx) fun y hy => h y (by simp [Option.mem_toList.1 hy])]
  case mn xs => rw [List.map_congr_left h]
  case mx xs => rw [List.map_congr_left h]
  all_goals (first | rfl | (simp only [List.mem_cons, List.not_mem_nil, or_false, forall_eq_or_imp, forall_eq] at h; simp only [h]))

theorem rstep_congr {ρ ρ' : List AV} {A : AHeap} {io : IOp} (h : ∀ x ∈ io.opds, x.get ρ = x.get ρ') : rstep ρ A io = rstep ρ' A io := by
  cases io <;> simp only [IOp.opds] at h <;> simp only [rstep]
  all_goals (simp only [List.mem_cons, List.not_mem_nil, or_false, forall_eq_or_imp, forall_eq] at h; simp only [h])

theorem wstep_congr {ρ ρ' : List AV} {A : AHeap} {p : Nat} {io : IOp} (h : ∀ x ∈ io.opds, x.get ρ = x.get ρ') : wstep ρ A p io = wstep ρ' A p io := by
  cases io <;> simp only [IOp.opds] at h <;> simp only [wstep]
  case bslice sz es => rw [List.map_congr_left fun x hx => by rw [h x hx]]
  all_goals (first | rfl | (simp only [List.mem_cons, List.not_mem_nil, or_false, forall_eq_or_imp, forall_eq] at h; simp only [h]))

theorem astep_congr {ρ ρ' : List AV} {A : AHeap} {p : Nat} {io : IOp} (h : ∀ x ∈ io.opds, x.get ρ = x.get ρ') : astep ρ A p io = astep ρ' A p io := by
  unfold astep; rw [nstep_congr h, rstep_congr h, wstep_congr h]

/-- The temporaries that an operation looks at. -/
def IOper.looks (o : IOper) : List Nat := (o.op.opds.filterMap fun | .t i => some i | .c _ => none) ++ (match o.guard with | some (t, _) => [t] | none => [])

theorem getD_aput {ρ : List AV} {d : Option Nat} {v : AV} {t : Nat} (h : d ≠ some t) : (aput ρ d v).getD t .any = ρ.getD t .any := by
  cases d with
  | none => rfl
  | some d =>
    have : d ≠ t := fun e => h (by rw [e])
    simp [aput, List.getD, List.getElem?_set_ne this]

theorem opds_aput {o : IOper} {ρ : List AV} {d : Option Nat} {v : AV} (h : ∀ t, d = some t → t ∉ o.looks) : ∀ x ∈ o.op.opds, x.get (aput ρ d v) = x.get ρ := by
  intro x hx
  cases x with
  | c v => rfl
  | t i =>
    refine getD_aput fun e => h i e ?_
    exact List.mem_append_left _ (List.mem_filterMap.2 ⟨.t i, hx, rfl⟩)

theorem guard_aput {o : IOper} {ρ : List AV} {d : Option Nat} {v : AV} {t : Nat} {b : Bool} (h : ∀ t, d = some t → t ∉ o.looks) (hg : o.guard = some (t, b)) : (aput ρ d v).getD t .any = ρ.getD t .any :=
  getD_aput fun e => h t e (List.mem_append_right _ (by simp [hg]))

theorem aput_comm {ρ : List AV} {d e : Option Nat} {u v : AV} (h : ∀ t, d = some t → e ≠ some t) : aput (aput ρ d u) e v = aput (aput ρ e v) d u := by
  cases d with
  | none => rfl
  | some d =>
    cases e with
    | none => rfl
    | some e =>
      have hne : d ≠ e := fun he => h d rfl (by rw [he])
      simp only [aput]
      exact List.set_comm _ _ hne

inductive Cls where
  | pure | read | make | eff
  deriving DecidableEq, Inhabited

def IOp.cls : IOp → Cls
  | .load .. | .lookup .. | .lenm .. => .read
  | .alloc .. | .box .. | .bslice .. | .mkmap | .mksl .. => .make
  | .store .. | .mset .. | .app .. | .cpy .. | .del .. | .clr .. | .clrs .. | .call .. => .eff
  | _ => .pure

/-- What it yields, where it changes nothing. -/
def yld (o : IOper) (ρ : List AV) (A : AHeap) : Option AV :=
  match o.guard with
  | none => (match nstep ρ o.op with | some v => some v | none => rstep ρ A o.op)
  | some (t, want) => match ρ.getD t .any with
    | .bool b => if b = want then (match nstep ρ o.op with | some v => some v | none => rstep ρ A o.op) else some (.tup [])
    | .tup _ => some (.tup [])
    | _ => none

theorem nstep_call {ρ : List AV} {f : Opd} {args : List Opd} : nstep ρ (.call f args) = none := rfl

section
variable {P : Program} {p0 : Nat} {o : IOper} {ρ : List AV} {A : AHeap} {K : List AV → AHeap → Prop} {v : AV}

theorem awpOp_nr (h : (match nstep ρ o.op with | some v => some v | none => rstep ρ A o.op) = some v) (hk : K (aput ρ o.dst v) A) : awpOp P p0 o ρ A K := by
  unfold awpOp
  split
  · rename_i f args he
    rw [he] at h
    simp [nstep, rstep] at h
  · rename_i op hno
    have : astep ρ A (p0 + o.slot) o.op = some (v, A) := by
      unfold astep
      split
      · rename_i v' h1; rw [h1] at h; cases h; rfl
      · rename_i h1; rw [h1] at h; simp only [] at h; rw [h]
    rw [this]; exact hk

theorem awpG_yld (h : yld o ρ A = some v) (hk : K (aput ρ o.dst v) A) : awpG P p0 o ρ A K := by
  unfold yld at h
  unfold awpG
  cases hg : o.guard with
  | none => rw [hg] at h; exact awpOp_nr h hk
  | some tw =>
    obtain ⟨t, want⟩ := tw
    rw [hg] at h
    simp only [] at h ⊢
    cases hb : ρ.getD t .any <;> rw [hb] at h <;> simp only [] at h ⊢
    case bool b =>
      refine ⟨fun e => ?_, fun e => ?_⟩
      · rw [if_pos e] at h; exact awpOp_nr h hk
      · rw [if_neg (by rintro rfl; cases b <;> simp at e)] at h; cases h; exact hk
    case tup vs => cases h; exact hk
    all_goals cases h

theorem yld_congr {d : Option Nat} {u : AV} (h : ∀ t, d = some t → t ∉ o.looks) : yld o (aput ρ d u) A = yld o ρ A := by
  unfold yld
  rw [nstep_congr (opds_aput h), rstep_congr (opds_aput h)]
  cases hg : o.guard with
  | none => rfl
  | some tw => obtain ⟨t, want⟩ := tw; simp only []; rw [guard_aput h hg]

theorem rstep_more {io : IOp} {p : Nat} {x : Option AO} (h : rstep ρ A io = some v) (hp : A[p]? = some none) : rstep ρ (A.set p x) io = some v := by
  have key : ∀ (l : Nat) (y : AO), A[l]? = some (some y) → (A.set p x)[l]? = some (some y) := by
    intro l y hl
    rw [List.getElem?_set_ne (by rintro rfl; rw [hp] at hl; cases hl)]; exact hl
  have krd : ∀ (a : AV) (n : Nat) (vs : List AV), rdN A a n = some vs → rdN (A.set p x) a n = some vs := by
    intro a n vs h
    cases a <;> simp only [rdN] at h ⊢
    case ptr l off =>
      split at h
      · rename_i h1; rw [key _ _ h1]; exact h
      · cases h
    case eptr l i off =>
      split at h
      · rename_i h1; rw [key _ _ h1]; exact h
      · cases h
    case pp cs => exact h
    all_goals cases h
  cases io <;> simp only [rstep] at h ⊢
  case load n y =>
    unfold aload at *
    cases n with
    | none =>
      simp only [] at h ⊢
      split at h
      · rename_i h1; rw [krd _ _ _ h1]; exact h
      · cases h
    | some n =>
      simp only [] at h ⊢
      split at h
      · rename_i h1; rw [krd _ _ _ h1]; exact h
      · cases h
  case lookup lk z ok m k =>
    generalize m.get ρ = mv at *
    cases mv <;> simp only [alookup] at h ⊢
    case nilm => exact h
    case mp l =>
      split at h
      · rename_i h1; rw [key _ _ h1]; exact h
      · cases h
    all_goals cases h
  case lenm y =>
    generalize y.get ρ = mv at *
    cases mv <;> simp only [alenm] at h ⊢
    case nilm => exact h
    case mp l =>
      split at h
      · rename_i h1; rw [key _ _ h1]; exact h
      · cases h
    all_goals cases h
  all_goals cases h

theorem yld_more {p : Nat} {x : Option AO} (h : yld o ρ A = some v) (hp : A[p]? = some none) : yld o ρ (A.set p x) = some v := by
  have key : ∀ {v}, (match nstep ρ o.op with | some v => some v | none => rstep ρ A o.op) = some v → (match nstep ρ o.op with | some v => some v | none => rstep ρ (A.set p x) o.op) = some v := by
    intro v h
    cases h1 : nstep ρ o.op with
    | some y => rw [h1] at h; exact h
    | none => rw [h1] at h; exact rstep_more h hp
  unfold yld at *
  cases hg : o.guard with
  | none => rw [hg] at h; exact key h
  | some tw =>
    obtain ⟨t, want⟩ := tw
    rw [hg] at h
    simp only [] at h ⊢
    cases hb : ρ.getD t .any <;> rw [hb] at h <;> simp only [] at h ⊢
    case bool b =>
      by_cases e : b = want
      · rw [if_pos e] at h ⊢; exact key h
      · rw [if_neg e] at h ⊢; exact h
    case tup vs => exact h
    all_goals cases h

theorem rstep_pure {io : IOp} (h : io.cls = .pure ∨ io.cls = .make ∨ io.cls = .eff) : rstep ρ A io = none := by
  cases io <;> first | rfl | (simp [IOp.cls] at h)
theorem wstep_pure {io : IOp} {p : Nat} (h : io.cls = .pure ∨ io.cls = .read) : wstep ρ A p io = none := by
  cases io <;> first | rfl | (simp [IOp.cls] at h)
theorem nstep_make {io : IOp} (h : io.cls = .make ∨ io.cls = .eff ∨ io.cls = .read) : nstep ρ io = none := by
  cases io <;> first | rfl | (simp [IOp.cls] at h)

/-- Of an operation that looks into no memory, or only reads: it yields. -/
theorem yld_of_awpG (hc : o.op.cls = .pure ∨ o.op.cls = .read) (h : awpG P p0 o ρ A K) : ∃ v, yld o ρ A = some v ∧ K (aput ρ o.dst v) A := by
  have key : awpOp P p0 o ρ A K → ∃ v, (match nstep ρ o.op with | some v => some v | none => rstep ρ A o.op) = some v ∧ K (aput ρ o.dst v) A := by
    intro h
    unfold awpOp at h
    split at h
    · rename_i he; rw [he] at hc; simp [IOp.cls] at hc
    · split at h
      · rename_i v A' he
        unfold astep at he
        cases h1 : nstep ρ o.op with
        | some y => rw [h1] at he; cases he; exact ⟨_, rfl, h⟩
        | none =>
          rw [h1] at he
          cases h2 : rstep ρ A o.op with
          | some y => rw [h2] at he; cases he; exact ⟨_, rfl, h⟩
          | none => rw [h2, wstep_pure hc] at he; cases he
      · exact h.elim
  unfold awpG at h
  unfold yld
  cases hg : o.guard with
  | none => rw [hg] at h; exact key h
  | some tw =>
    obtain ⟨t, want⟩ := tw
    rw [hg] at h
    simp only [] at h ⊢
    cases hb : ρ.getD t .any <;> rw [hb] at h <;> simp only [] at h ⊢
    case bool b =>
      by_cases e : b = want
      · rw [if_pos e]; exact key (h.1 e)
      · rw [if_neg e]; exact ⟨.tup [], rfl, h.2 (by cases b <;> cases want <;> simp_all)⟩
    case tup vs => exact ⟨.tup [], rfl, h⟩

theorem yld_pure {A' : AHeap} (hc : o.op.cls = .pure) : yld o ρ A' = yld o ρ A := by
  unfold yld; rw [rstep_pure (A := A) (.inl hc), rstep_pure (A := A') (.inl hc)]

/-- What an operation leaves. -/
def Stepped (o : IOper) (ρ : List AV) (A : AHeap) (ρ' : List AV) (A' : AHeap) : Prop :=
  (∃ u, ρ' = aput ρ o.dst u) ∧ (o.op.cls ≠ .eff → A' = A ∨ ∃ p x, A[p]? = some none ∧ A' = A.set p (some x))

theorem wstep_make {io : IOp} {p : Nat} {A' : AHeap} (hc : io.cls = .make) (h : wstep ρ A p io = some (v, A')) : A[p]? = some none ∧ ∃ x, A' = A.set p (some x) ∧ ∀ B : AHeap, B[p]? = some none → wstep ρ B p io = some (v, B.set p (some x)) := by
  cases io <;> simp only [IOp.cls] at hc <;> simp only [wstep] at h ⊢
  case alloc z => obtain ⟨h1, rfl, rfl⟩ := anew_some h; exact ⟨h1, _, rfl, fun B hB => by simp [anew, hB]⟩
  case box x => obtain ⟨h1, rfl, rfl⟩ := anew_some h; exact ⟨h1, _, rfl, fun B hB => by simp [anew, hB]⟩
  case mkmap => obtain ⟨h1, rfl, rfl⟩ := anew_some h; exact ⟨h1, _, rfl, fun B hB => by simp [anew, hB]⟩
  case bslice sz es =>
    unfold abslice at *
    split at h
    · rename_i hp
      split at h
      · cases h; exact ⟨hp, _, rfl, fun B hB => by simp only [hB]; rw [if_pos ‹_›]⟩
      · cases h
    · cases h
  case mksl sz bytes z n c =>
    unfold amksl at *
    split at h
    · rename_i hp
      split at h
      · rename_i h1 h2
        split at h
        · cases h; exact ⟨hp, _, rfl, fun B hB => by simp only [hB]; rw [if_pos ‹_›]⟩
        · cases h
      · cases h
    · cases h
  all_goals cases hc

/-- Of an operation that makes memory. -/
theorem make_of_awpG (hc : o.op.cls = .make) (h : awpG P p0 o ρ A K) :
    (∃ v x, A[p0 + o.slot]? = some none ∧ K (aput ρ o.dst v) (A.set (p0 + o.slot) (some x)) ∧
      ∀ (B : AHeap) (K' : List AV → AHeap → Prop), B[p0 + o.slot]? = some none → K' (aput ρ o.dst v) (B.set (p0 + o.slot) (some x)) → awpG P p0 o ρ B K') ∨
    (∃ v, K (aput ρ o.dst v) A ∧ ∀ (B : AHeap) (K' : List AV → AHeap → Prop), K' (aput ρ o.dst v) B → awpG P p0 o ρ B K') := by
  have key : awpOp P p0 o ρ A K → ∃ v x, A[p0 + o.slot]? = some none ∧ K (aput ρ o.dst v) (A.set (p0 + o.slot) (some x)) ∧
      ∀ (B : AHeap) (K' : List AV → AHeap → Prop), B[p0 + o.slot]? = some none → K' (aput ρ o.dst v) (B.set (p0 + o.slot) (some x)) → awpOp P p0 o ρ B K' := by
    intro h
    unfold awpOp at h
    split at h
    · rename_i he; rw [he] at hc; simp [IOp.cls] at hc
    · rename_i op hno
      split at h
      · rename_i v A' he
        unfold astep at he
        rw [nstep_make (.inl hc), rstep_pure (.inr (.inl hc))] at he
        simp only [] at he
        obtain ⟨h1, x, rfl, h3⟩ := wstep_make hc he
        refine ⟨v, x, h1, h, fun B K' hB hk => ?_⟩
        unfold awpOp
        split
        · exact absurd ‹_› (hno _ _)
        · have : astep ρ B (p0 + o.slot) o.op = some (v, B.set (p0 + o.slot) (some x)) := by
            unfold astep
            rw [nstep_make (.inl hc), rstep_pure (.inr (.inl hc))]
            exact h3 B hB
          rw [this]; exact hk
      · exact h.elim
  unfold awpG at h
  cases hg : o.guard with
  | none =>
    rw [hg] at h
    obtain ⟨v, x, h1, h2, h3⟩ := key h
    exact .inl ⟨v, x, h1, h2, fun B K' hB hk => by unfold awpG; rw [hg]; exact h3 B K' hB hk⟩
  | some tw =>
    obtain ⟨t, want⟩ := tw
    rw [hg] at h
    simp only [] at h
    cases hb : ρ.getD t .any <;> rw [hb] at h <;> simp only [] at h
    case bool b =>
      by_cases e : b = want
      · obtain ⟨v, x, h1, h2, h3⟩ := key (h.1 e)
        refine .inl ⟨v, x, h1, h2, fun B K' hB hk => ?_⟩
        unfold awpG; rw [hg]; simp only [hb]
        exact ⟨fun _ => h3 B K' hB hk, fun e' => by subst e; cases b <;> simp at e'⟩
      · have hk := h.2 (by cases b <;> cases want <;> simp_all)
        refine .inr ⟨.tup [], hk, fun B K' hk' => ?_⟩
        unfold awpG; rw [hg]; simp only [hb]
        exact ⟨fun e' => absurd e' e, fun _ => hk'⟩
    case tup vs =>
      refine .inr ⟨.tup [], h, fun B K' hk' => ?_⟩
      unfold awpG; rw [hg]; simp only [hb]
      exact hk'

theorem awpOp_stepped (h : awpOp P p0 o ρ A K) : awpOp P p0 o ρ A fun ρ' A' => K ρ' A' ∧ Stepped o ρ A ρ' A' := by
  unfold awpOp at *
  split
  · rename_i f args he
    simp only [he] at h
    unfold ACallV at *
    split
    · rename_i h1; simp only [h1] at h; exact h.mono fun r A' hk => ⟨hk, ⟨r, rfl⟩, fun hne => by rw [he] at hne; exact absurd rfl hne⟩
    · rename_i h1; split at h
      · exact absurd ‹_› (h1 _ _ _)
      · exact h
  · rename_i op hno
    split at h
    · exact absurd ‹_› (hno _ _)
    · split at h
      · rename_i v A' he
        refine ⟨h, ⟨v, rfl⟩, fun hne => ?_⟩
        unfold astep at he
        split at he
        · cases he; exact .inl rfl
        · split at he
          · cases he; exact .inl rfl
          · have hm : o.op.cls = .make := by
              cases hc : o.op.cls with
              | make => rfl
              | eff => exact absurd hc hne
              | pure => rw [wstep_pure (.inl hc)] at he; cases he
              | read => rw [wstep_pure (.inr hc)] at he; cases he
            obtain ⟨h1, x, rfl, _⟩ := wstep_make hm he
            exact .inr ⟨_, x, h1, rfl⟩
      · exact h.elim

theorem awpG_stepped (h : awpG P p0 o ρ A K) : awpG P p0 o ρ A fun ρ' A' => K ρ' A' ∧ Stepped o ρ A ρ' A' := by
  unfold awpG at *
  cases hg : o.guard with
  | none => rw [hg] at h; exact awpOp_stepped h
  | some tw =>
    obtain ⟨t, want⟩ := tw
    rw [hg] at h
    simp only [] at h ⊢
    cases hb : ρ.getD t .any <;> rw [hb] at h <;> simp only [] at h ⊢
    case bool b => exact ⟨fun e => awpOp_stepped (h.1 e), fun e => ⟨h.2 e, ⟨.tup [], rfl⟩, fun _ => .inl rfl⟩⟩
    case tup vs => exact ⟨h, ⟨.tup [], rfl⟩, fun _ => .inl rfl⟩

theorem awpOp_put {d : Option Nat} {u : AV} (h1 : ∀ t, d = some t → t ∉ o.looks) (h2 : ∀ t, d = some t → o.dst ≠ some t) (h : awpOp P p0 o (aput ρ d u) A K) : awpOp P p0 o ρ A fun ρ' A' => K (aput ρ' d u) A' := by
  have hx := opds_aput (ρ := ρ) (v := u) h1
  unfold awpOp at *
  split
  · rename_i f args he
    simp only [he, IOp.opds] at h hx
    rw [hx f (by simp), List.map_congr_left fun x hm => hx x (by simp [hm])] at h
    unfold ACallV at *
    split
    · rename_i h3; simp only [h3] at h; exact h.mono fun r A' hk => by show K (aput (aput ρ o.dst r) d u) A'; rw [← aput_comm h2]; exact hk
    · rename_i h3; split at h
      · exact absurd ‹_› (h3 _ _ _)
      · exact h
  · rename_i op hno
    split at h
    · exact absurd ‹_› (hno _ _)
    · rw [astep_congr hx] at h
      split at h
      · rename_i he; simp only [he]; rw [← aput_comm h2]; exact h
      · exact h.elim

/-- Whether the value is already there makes no difference to an operation that is apart. -/
theorem awpG_put {d : Option Nat} {u : AV} (h1 : ∀ t, d = some t → t ∉ o.looks) (h2 : ∀ t, d = some t → o.dst ≠ some t) (h : awpG P p0 o (aput ρ d u) A K) : awpG P p0 o ρ A fun ρ' A' => K (aput ρ' d u) A' := by
  unfold awpG at *
  cases hg : o.guard with
  | none => rw [hg] at h; exact awpOp_put h1 h2 h
  | some tw =>
    obtain ⟨t, want⟩ := tw
    rw [hg] at h
    simp only [] at h ⊢
    rw [guard_aput h1 hg] at h
    cases hb : ρ.getD t .any <;> rw [hb] at h <;> simp only [] at h ⊢
    case bool b => exact ⟨fun e => awpOp_put h1 h2 (h.1 e), fun e => by rw [← aput_comm h2]; exact h.2 e⟩
    case tup vs => rw [← aput_comm h2]; exact h
end
end Go.SB
end

/- Framework, part S: a region that draws its order: one order serves all. -/
section
set_option linter.unusedVariables false
set_option linter.unusedSimpArgs false
namespace Go.SB

/-- i has not come up yet and all that it waits for has. -/
def isReady (ios : List IOper) (L : List Nat) (i : Nat) : Bool :=
  !L.contains i && (match ios[i]? with | some io => io.pre.all fun p => L.contains p | none => false)

theorem isReady_iff {ios : List IOper} {L : List Nat} {i : Nat} : isReady ios L i = true ↔ i ∉ L ∧ ∃ io, ios[i]? = some io ∧ ∀ p ∈ io.pre, p ∈ L := by
  unfold isReady
  cases h : ios[i]? with
  | none => simp
  | some io => simp

/-- For each operation, as bits, all that it waits for. -/
def ancMasks : List IOper → List Nat → List Nat
  | [], acc => acc
  | io :: r, acc => ancMasks r (acc ++ [io.pre.foldl (fun m p => m ||| (1 <<< p) ||| acc.getD p 0) 0])

/-- j waits for i. -/
def waits (ms : List Nat) (i j : Nat) : Bool := (ms.getD j 0).testBit i

/-- What waits, waits for something that it says. -/
def AncOK (ios : List IOper) (anc : Nat → Nat → Bool) : Prop := ∀ (i j : Nat) (io : IOper), ios[j]? = some io → anc i j = true → ∃ p ∈ io.pre, p = i ∨ (p < j ∧ anc i p = true)

theorem foldl_bit {f : Nat → Nat} {i : Nat} : ∀ (ps : List Nat) (m : Nat), (ps.foldl (fun m p => m ||| (1 <<< p) ||| f p) m).testBit i = true → m.testBit i = true ∨ ∃ p ∈ ps, p = i ∨ (f p).testBit i = true
  | [], m, h => .inl h
  | p :: ps, m, h => by
    rcases foldl_bit ps _ h with h | ⟨q, hq, h⟩
    · simp only [Nat.testBit_or, Bool.or_eq_true] at h
      rcases h with (h | h) | h
      · exact .inl h
      · refine .inr ⟨p, by simp, .inl ?_⟩
        rw [Nat.shiftLeft_eq, Nat.one_mul, Nat.testBit_two_pow] at h
        simpa using h
      · exact .inr ⟨p, by simp, .inr h⟩
    · exact .inr ⟨q, by simp [hq], h⟩

theorem ancMasks_ok : ∀ (ios : List IOper) (acc : List Nat) (i j : Nat), (ancMasks ios acc).length = acc.length + ios.length ∧
    (j < acc.length → (ancMasks ios acc).getD j 0 = acc.getD j 0) ∧
    (∀ io, ios[j - acc.length]? = some io → acc.length ≤ j → ((ancMasks ios acc).getD j 0).testBit i = true → ∃ p ∈ io.pre, p = i ∨ (p < j ∧ ((ancMasks ios acc).getD p 0).testBit i = true))
  | [], acc, i, j => ⟨by simp [ancMasks], fun _ => rfl, fun io h => by simp at h⟩
  | io0 :: r, acc, i, j => by
    have ih := ancMasks_ok r (acc ++ [io0.pre.foldl (fun m p => m ||| (1 <<< p) ||| acc.getD p 0) 0])
    simp only [ancMasks]
    refine ⟨by rw [(ih i j).1]; simp; omega, fun hj => ?_, fun io hio hj hb => ?_⟩
    · rw [(ih i j).2.1 (by simp; omega)]
      simp [List.getD, List.getElem?_append_left hj]
    · by_cases e : j = acc.length
      · subst e
        have hio0 : io0 = io := by simpa using hio
        subst hio0
        rw [(ih i acc.length).2.1 (by simp)] at hb
        simp only [List.getD, List.getElem?_append_right (Nat.le_refl _), Nat.sub_self, List.getElem?_cons_zero, Option.getD_some] at hb
        rcases foldl_bit _ _ hb with h | ⟨p, hp, h⟩
        · simp at h
        · rcases h with h | h
          · exact ⟨p, hp, .inl h⟩
          · by_cases hlt : p < acc.length
            · refine ⟨p, hp, .inr ⟨hlt, ?_⟩⟩
              rw [(ih i p).2.1 (by simp; omega)]
              simpa [List.getD, List.getElem?_append_left hlt] using h
            · exfalso
              have hn : acc[p]? = none := List.getElem?_eq_none (by omega)
              simp [hn] at h
      · have := (ih i j).2.2 io (by
          rw [show j - acc.length = (j - (acc.length + 1)) + 1 by omega] at hio
          simpa using hio) (by simp; omega) hb
        exact this

theorem anc_ok (ios : List IOper) : AncOK ios (waits (ancMasks ios [])) := by
  intro i j io hj h
  exact (ancMasks_ok ios [] i j).2.2 io (by simpa using hj) (by simp) h

def ClosedL (ios : List IOper) (L : List Nat) : Prop := ∀ (j : Nat) (io : IOper), ios[j]? = some io → j ∈ L → ∀ p ∈ io.pre, p ∈ L

section
variable {P : Program} {p0 : Nat} {ios : List IOper} {anc : Nat → Nat → Bool}

theorem ClosedL.cons {L : List Nat} {i : Nat} (h : ClosedL ios L) (hi : isReady ios L i = true) : ClosedL ios (i :: L) := by
  obtain ⟨_, io, hio, hall⟩ := isReady_iff.1 hi
  intro j oj hj hm p hp
  rcases List.mem_cons.1 hm with rfl | hm
  · rw [hio] at hj; cases hj; exact List.mem_cons_of_mem _ (hall p hp)
  · exact List.mem_cons_of_mem _ (h j oj hj hm p hp)

/-- What has come up: all that it waits for has. -/
theorem anc_mem (ha : AncOK ios anc) {L : List Nat} (hc : ClosedL ios L) {i : Nat} : ∀ (n j : Nat), j ≤ n → ∀ io, ios[j]? = some io → anc i j = true → (∀ p ∈ io.pre, p ∈ L) → i ∈ L := by
  intro n
  induction n with
  | zero =>
    intro j hj io hio h hall
    obtain ⟨p, hp, h | ⟨hlt, h⟩⟩ := ha i j io hio h
    · subst h; exact hall _ hp
    · omega
  | succ n ih =>
    intro j hj io hio h hall
    obtain ⟨p, hp, h | ⟨hlt, h⟩⟩ := ha i j io hio h
    · subst h; exact hall _ hp
    · have hpL := hall p hp
      cases hpi : ios[p]? with
      | none => exact absurd (List.getElem?_eq_none_iff.1 hpi) (by have := (List.getElem?_eq_some_iff.1 hio).1; omega)
      | some iop => exact ih p (by omega) iop hpi h (hc p iop hpi hpL)

theorem ready_apart (ha : AncOK ios anc) {L : List Nat} (hc : ClosedL ios L) {i j : Nat} (hi : isReady ios L i = true) (hj : isReady ios L j = true) : anc i j = false := by
  obtain ⟨hn, _⟩ := isReady_iff.1 hi
  obtain ⟨_, io, hio, hall⟩ := isReady_iff.1 hj
  cases h : anc i j with
  | false => rfl
  | true => exact absurd (anc_mem ha hc j j (Nat.le_refl _) io hio h hall) hn

abbrev Chk := List (Nat × AV)

/-- Each of what was read earlier than it had to be would be read so still. -/
def chks (ios : List IOper) (anc : Nat → Nat → Bool) (R : Chk) (j : Nat) (ρ : List AV) (A : AHeap) : Prop :=
  match R with
  | [] => True
  | (i, v) :: R => (anc i j = true ∨ ∃ io, ios[i]? = some io ∧ yld io ρ A = some v) ∧ chks ios anc R j ρ A

theorem chks_iff {R : Chk} {j : Nat} {ρ : List AV} {A : AHeap} : chks ios anc R j ρ A ↔ ∀ i v, (i, v) ∈ R → anc i j = false → ∃ io, ios[i]? = some io ∧ yld io ρ A = some v := by
  induction R with
  | nil => simp [chks]
  | cons x R ih =>
    obtain ⟨i, v⟩ := x
    simp only [chks, ih]
    constructor
    · rintro ⟨h, h2⟩ k u hm hf
      rcases List.mem_cons.1 hm with e | hm
      · cases e; rcases h with h | h
        · rw [h] at hf; cases hf
        · exact h
      · exact h2 k u hm hf
    · intro h
      refine ⟨?_, fun k u hm hf => h k u (by simp [hm]) hf⟩
      cases hx : anc i j with
      | true => exact .inl rfl
      | false => exact .inr (h i v (by simp) hx)

def isEff (ios : List IOper) (i : Nat) : Bool := match ios[i]? with | some io => io.op.cls == .eff | none => false

/-- Whatever order is taken from here on; behind every effect the checks hold. -/
def awpAny (P : Program) (p0 : Nat) (ios : List IOper) (anc : Nat → Nat → Bool) (K : List AV → AHeap → Prop) : Nat → Chk → List Nat → List AV → AHeap → Prop
  | 0, R, L, ρ, A => (∀ i, isReady ios L i = false) ∧ K ρ A
  | fuel + 1, R, L, ρ, A => ((∀ i, isReady ios L i = false) → K ρ A) ∧
    ∀ i io, isReady ios L i = true → ios[i]? = some io → awpG P p0 io ρ A fun ρ' A' => (isEff ios i = true → chks ios anc R i ρ' A') ∧ awpAny P p0 ios anc K fuel R (i :: L) ρ' A'

theorem isReady_perm {L L' : List Nat} (h : ∀ x, x ∈ L ↔ x ∈ L') (i : Nat) : isReady ios L i = isReady ios L' i := by
  rw [Bool.eq_iff_iff, isReady_iff, isReady_iff, h]
  simp only [h]

theorem awpAny_perm {K : List AV → AHeap → Prop} : ∀ (fuel : Nat) (R : Chk) (L L' : List Nat) (ρ : List AV) (A : AHeap), (∀ x, x ∈ L ↔ x ∈ L') → awpAny P p0 ios anc K fuel R L ρ A → awpAny P p0 ios anc K fuel R L' ρ A
  | 0, R, L, L', ρ, A, h, H => ⟨fun i => by rw [← isReady_perm h]; exact H.1 i, H.2⟩
  | fuel + 1, R, L, L', ρ, A, h, H => by
    refine ⟨fun hn => H.1 fun i => by rw [isReady_perm h]; exact hn i, fun i io hi hio => ?_⟩
    rw [← isReady_perm h] at hi
    exact awpG_mono (H.2 i io hi hio) fun ρ' A' ⟨h1, h2⟩ => ⟨h1, awpAny_perm fuel R _ _ ρ' A' (fun x => by simp [h x]) h2⟩

theorem awpAny_weaken {K : List AV → AHeap → Prop} {x : Nat × AV} : ∀ (fuel : Nat) (R : Chk) (L : List Nat) (ρ : List AV) (A : AHeap), awpAny P p0 ios anc K fuel (x :: R) L ρ A → awpAny P p0 ios anc K fuel R L ρ A
  | 0, R, L, ρ, A, H => H
  | fuel + 1, R, L, ρ, A, H => ⟨H.1, fun i io hi hio => awpG_mono (H.2 i io hi hio) fun ρ' A' ⟨h1, h2⟩ => ⟨fun e => (h1 e).2, awpAny_weaken fuel R _ ρ' A' h2⟩⟩

/-- Two operations of which neither waits for the other look at nothing that the other sets. -/
structure Apart (x y : IOper) : Prop where
  l : ∀ t, x.dst = some t → t ∉ y.looks
  r : ∀ t, y.dst = some t → t ∉ x.looks
  d : ∀ t, x.dst = some t → y.dst ≠ some t

def ApartAll (ios : List IOper) (anc : Nat → Nat → Bool) : Prop := ∀ (i j : Nat) (x y : IOper), ios[i]? = some x → ios[j]? = some y → i ≠ j → anc i j = false → anc j i = false → Apart x y

/-- What a read looks at is set, in this region, only before it. -/
def ReadsAll (ios : List IOper) (anc : Nat → Nat → Bool) : Prop := ∀ (i j : Nat) (x y : IOper), ios[i]? = some x → ios[j]? = some y → x.op.cls = .read → anc j i = false → ∀ t, y.dst = some t → t ∉ x.looks

/-- The checks are of reads that have been made. -/
def ChkOK (ios : List IOper) (R : Chk) (L : List Nat) : Prop := ∀ i v, (i, v) ∈ R → i ∈ L ∧ ∃ io, ios[i]? = some io ∧ io.op.cls = .read

theorem anc_false (ha : AncOK ios anc) {L : List Nat} (hc : ClosedL ios L) {i k : Nat} (hk : k ∈ L) (hkl : k < ios.length) (hi : i ∉ L) : anc i k = false := by
  cases h : anc i k with
  | false => rfl
  | true =>
    exfalso
    have hio : ios[k]? = some ios[k] := by simp [hkl]
    exact hi (anc_mem ha hc k k (Nat.le_refl _) _ hio h (hc k _ hio hk))

/-- **A read, or an operation that looks into no memory, may be taken first.** -/
theorem awpAny_first (ha : AncOK ios anc) (hap : ApartAll ios anc) (hrd : ReadsAll ios anc) {K : List AV → AHeap → Prop} {i : Nat} {x : IOper} {v : AV} (hi : ios[i]? = some x) {R' : Chk}
    (hcl : x.op.cls = .pure ∧ R' = [] ∨ x.op.cls = .read ∧ R' = [(i, v)]) : ∀ (fuel : Nat) (R : Chk) (L : List Nat) (ρ : List AV) (A : AHeap), ClosedL ios L → ChkOK ios R L →
      isReady ios L i = true → yld x ρ A = some v → awpAny P p0 ios anc K fuel (R' ++ R) (i :: L) (aput ρ x.dst v) A → awpAny P p0 ios anc K (fuel + 1) R L ρ A := by
  have hne : x.op.cls ≠ .eff := by rcases hcl with ⟨h, _⟩ | ⟨h, _⟩ <;> rw [h] <;> decide
  have hneB : isEff ios i = false := by simp [isEff, hi, hne]
  have weak : ∀ (fuel : Nat) (R : Chk) (L : List Nat) (ρ : List AV) (A : AHeap), awpAny P p0 ios anc K fuel (R' ++ R) L ρ A → awpAny P p0 ios anc K fuel R L ρ A := by
    intro fuel R L ρ A h
    rcases hcl with ⟨_, rfl⟩ | ⟨_, rfl⟩
    · exact h
    · exact awpAny_weaken fuel R L ρ A h
  intro fuel
  induction fuel with
  | zero =>
    intro R L ρ A hc hck hr hy H
    refine ⟨fun h => (by rw [h i] at hr; cases hr), fun j y hj hjy => ?_⟩
    by_cases hji : j = i
    · subst hji; rw [hi] at hjy; cases hjy
      exact awpG_yld hy ⟨fun e => absurd e (by rw [hneB]; decide), weak 0 R _ _ _ H⟩
    · have : isReady ios (i :: L) j = true := by
        obtain ⟨h1, io, h2, h3⟩ := isReady_iff.1 hj
        exact isReady_iff.2 ⟨by simp [hji, h1], io, h2, fun p hp => by simp [h3 p hp]⟩
      rw [H.1 j] at this; cases this
  | succ fuel ih =>
    intro R L ρ A hc hck hr hy H
    refine ⟨fun h => (by rw [h i] at hr; cases hr), fun j y hj hjy => ?_⟩
    by_cases hji : j = i
    · subst hji; rw [hi] at hjy; cases hjy
      exact awpG_yld hy ⟨fun e => absurd e (by rw [hneB]; decide), weak _ R _ _ _ H⟩
    · have hj' : isReady ios (i :: L) j = true := by
        obtain ⟨h1, io, h2, h3⟩ := isReady_iff.1 hj
        exact isReady_iff.2 ⟨by simp [hji, h1], io, h2, fun p hp => by simp [h3 p hp]⟩
      have a1 := ready_apart ha hc hr hj
      have a2 := ready_apart ha hc hj hr
      have hA := hap i j x y hi hjy (Ne.symm hji) a1 a2
      have h1 := awpG_stepped (awpG_put hA.l hA.d (H.2 j y hj' hjy))
      refine awpG_mono h1 ?_
      rintro ρ' A' ⟨⟨hchk, hrest⟩, ⟨u, rfl⟩, hmk⟩
      -- what was read is read so still
      have hy' : yld x (aput ρ y.dst u) A' = some v := by
        rw [yld_congr hA.r]
        rcases hcl with ⟨hp, _⟩ | ⟨hp, rfl⟩
        · rw [yld_pure (A := A) hp]; exact hy
        · by_cases he : y.op.cls = .eff
          · have hB : isEff ios j = true := by simp [isEff, hjy, he]
            have hc1 := hchk hB
            obtain ⟨io, h2, h3⟩ := (chks_iff.1 hc1) i v (by simp) a1
            rw [hi] at h2; cases h2
            have h4 : ∀ t, x.dst = some t → t ∉ x.looks := fun t ht => hrd i i x x hi hi hp (by
              cases hq : anc i i with
              | false => rfl
              | true =>
                obtain ⟨hnL, io, hio, hall⟩ := isReady_iff.1 hr
                exact absurd (anc_mem ha hc i i (Nat.le_refl _) io hio hq hall) hnL) t ht
            rw [yld_congr h4, yld_congr hA.r] at h3
            exact h3
          · rcases hmk he with rfl | ⟨p, z, hp, rfl⟩
            · exact hy
            · exact yld_more hy hp
      have hi' : isReady ios (j :: L) i = true := by
        obtain ⟨h1, io, h2, h3⟩ := isReady_iff.1 hr
        exact isReady_iff.2 ⟨by simp [Ne.symm hji, h1], io, h2, fun p hp => by simp [h3 p hp]⟩
      refine ⟨fun e => ?_, ?_⟩
      · have hc1 := chks_iff.1 (hchk e)
        refine chks_iff.2 fun k w hm hf => ?_
        obtain ⟨io, h2, h3⟩ := hc1 k w (List.mem_append_right _ hm) hf
        refine ⟨io, h2, ?_⟩
        obtain ⟨hkL, io', h4, h5⟩ := hck k w hm
        rw [h2] at h4; cases h4
        rw [yld_congr (hrd k i io x h2 hi h5 (anc_false ha hc hkL (List.getElem?_eq_some_iff.1 h2).1 (isReady_iff.1 hr).1))] at h3
        exact h3
      · refine ih R (j :: L) (aput ρ y.dst u) A' (hc.cons hj) (fun k w hm => ⟨by simp [(hck k w hm).1], (hck k w hm).2⟩) hi' hy' ?_
        exact awpAny_perm _ _ _ _ _ _ (fun z => by simp only [List.mem_cons]; exact ⟨fun h => by rcases h with h | h | h <;> simp [h], fun h => by rcases h with h | h | h <;> simp [h]⟩) hrest
end
end Go.SB
end

/- Framework, part T: regions that draw: one order, checked, serves all; and the loaded program's region follows it. -/
section
set_option linter.unusedVariables false
set_option linter.unusedSimpArgs false
namespace Go.SB
section
variable {P : Program} {p0 : Nat} {ios : List IOper} {anc : Nat → Nat → Bool}

def SlotsApart (ios : List IOper) : Prop := ∀ (i j : Nat) (x y : IOper), ios[i]? = some x → ios[j]? = some y → i ≠ j → x.op.cls = .make → y.op.cls = .make → x.slot ≠ y.slot

theorem ready_cons {L : List Nat} {i j : Nat} (hj : isReady ios L j = true) (hji : j ≠ i) : isReady ios (i :: L) j = true := by
  obtain ⟨h1, io, h2, h3⟩ := isReady_iff.1 hj
  exact isReady_iff.2 ⟨by simp [hji, h1], io, h2, fun p hp => by simp [h3 p hp]⟩

theorem isEff_false {i : Nat} {x : IOper} (hi : ios[i]? = some x) (h : x.op.cls ≠ .eff) : isEff ios i = false := by simp [isEff, hi, h]

/-- **What makes memory may be taken first**, where all else that may come before it looks into no memory or makes memory too. -/
theorem awpAny_make (ha : AncOK ios anc) (hap : ApartAll ios anc) (hsl : SlotsApart ios) {K : List AV → AHeap → Prop} {i : Nat} {x : IOper} (hi : ios[i]? = some x) (hcl : x.op.cls = .make) :
    ∀ (fuel : Nat) (R : Chk) (L : List Nat) (ρ : List AV) (A : AHeap), ClosedL ios L →
      (∀ (j : Nat) (y : IOper), ios[j]? = some y → j ∉ L → j ≠ i → anc i j = false → y.op.cls = .pure ∨ y.op.cls = .make) →
      isReady ios L i = true → awpG P p0 x ρ A (fun ρ' A' => awpAny P p0 ios anc K fuel R (i :: L) ρ' A') → awpAny P p0 ios anc K (fuel + 1) R L ρ A := by
  have hneB : isEff ios i = false := isEff_false hi (by rw [hcl]; decide)
  intro fuel
  induction fuel with
  | zero =>
    intro R L ρ A hc hst hr H
    refine ⟨fun h => (by rw [h i] at hr; cases hr), fun j y hj hjy => ?_⟩
    by_cases hji : j = i
    · subst hji; rw [hi] at hjy; cases hjy
      exact awpG_mono H fun ρ' A' h => ⟨fun e => absurd e (by rw [hneB]; decide), h⟩
    · exfalso
      have h1 := ready_cons (i := i) hj hji
      rcases make_of_awpG hcl H with ⟨v, z, _, hk, _⟩ | ⟨v, hk, _⟩ <;> rw [hk.1 j] at h1 <;> cases h1
  | succ fuel ih =>
    intro R L ρ A hc hst hr H
    refine ⟨fun h => (by rw [h i] at hr; cases hr), fun j y hj hjy => ?_⟩
    by_cases hji : j = i
    · subst hji; rw [hi] at hjy; cases hjy
      exact awpG_mono H fun ρ' A' h => ⟨fun e => absurd e (by rw [hneB]; decide), h⟩
    · have hj' := ready_cons (i := i) hj hji
      have a1 := ready_apart ha hc hr hj
      have a2 := ready_apart ha hc hj hr
      have hA := hap i j x y hi hjy (Ne.symm hji) a1 a2
      have hcy := hst j y hjy (isReady_iff.1 hj).1 hji a1
      have hyne : isEff ios j = false := isEff_false hjy (by rcases hcy with h | h <;> rw [h] <;> decide)
      have hst' : ∀ (k : Nat) (y' : IOper), ios[k]? = some y' → k ∉ j :: L → k ≠ i → anc i k = false → y'.op.cls = .pure ∨ y'.op.cls = .make := fun k y' hk hn hki hf =>
        hst k y' hk (fun hm => hn (by simp [hm])) hki hf
      have hperm : ∀ z : Nat, z ∈ j :: i :: L ↔ z ∈ i :: j :: L := fun z => by
        simp only [List.mem_cons]; exact ⟨fun h => by rcases h with h | h | h <;> simp [h], fun h => by rcases h with h | h | h <;> simp [h]⟩
      have hri := ready_cons (i := j) hr (Ne.symm hji)
      -- what i does, in any heap
      have main : ∀ (v : AV) (put : AHeap → AHeap) (okp : AHeap → Prop),
          awpAny P p0 ios anc K (fuel + 1) R (i :: L) (aput ρ x.dst v) (put A) →
          (∀ (ρ1 : List AV) (hρ : ∃ u, ρ1 = aput ρ y.dst u) (B : AHeap) (K' : List AV → AHeap → Prop), okp B → K' (aput ρ1 x.dst v) (put B) → awpG P p0 x ρ1 B K') →
          okp A → (∀ (p : Nat) (o : AO) (B : AHeap), (x.slot ≠ y.slot → p ≠ p0 + x.slot → True) → p = p0 + y.slot → y.op.cls = .make → okp B → okp (B.set p (some o)) ∧ put (B.set p (some o)) = (put B).set p (some o) ∧ ((put B)[p]? = some none → B[p]? = some none)) →
          awpG P p0 y ρ A fun ρ' A' => (isEff ios j = true → chks ios anc R j ρ' A') ∧ awpAny P p0 ios anc K (fuel + 1) R (j :: L) ρ' A' := by
        intro v put okp hk hx hok hset
        have h1 := awpG_put hA.l hA.d (hk.2 j y hj' hjy)
        rcases hcy with hp | hm
        · obtain ⟨u, hu, hku⟩ := yld_of_awpG (.inl hp) h1
          rw [yld_pure (A := A) hp] at hu
          refine awpG_yld hu ⟨fun e => absurd e (by rw [hyne]; decide), ih R (j :: L) _ A (hc.cons hj) hst' hri ?_⟩
          refine hx _ ⟨u, rfl⟩ A _ hok ?_
          exact awpAny_perm _ _ _ _ _ _ hperm hku.2
        · rcases make_of_awpG hm h1 with ⟨u, z, hz, hku, hall⟩ | ⟨u, hku, hall⟩
          · obtain ⟨q1, q2, q3⟩ := hset (p0 + y.slot) z A (fun _ _ => trivial) rfl hm hok
            refine hall A _ (q3 hz) ⟨fun e => absurd e (by rw [hyne]; decide), ih R (j :: L) _ _ (hc.cons hj) hst' hri ?_⟩
            refine hx _ ⟨u, rfl⟩ _ _ q1 ?_
            rw [q2]
            exact awpAny_perm _ _ _ _ _ _ hperm hku.2
          · refine hall A _ ⟨fun e => absurd e (by rw [hyne]; decide), ih R (j :: L) _ A (hc.cons hj) hst' hri ?_⟩
            refine hx _ ⟨u, rfl⟩ A _ hok ?_
            exact awpAny_perm _ _ _ _ _ _ hperm hku.2
      have cong : ∀ (v : AV) (z : Option AO) (ρ1 : List AV), (∃ u, ρ1 = aput ρ y.dst u) → True := fun _ _ _ _ => trivial
      -- i's own effect is the same behind j
      have back : ∀ (ρ1 : List AV), (∃ u, ρ1 = aput ρ y.dst u) → ∀ (B : AHeap) (K' : List AV → AHeap → Prop), awpG P p0 x ρ B (fun ρ' A' => ∀ u, ρ1 = aput ρ y.dst u → K' (aput ρ' y.dst u) A') → awpG P p0 x ρ1 B K' := by
        rintro ρ1 ⟨u, rfl⟩ B K' h
        have h2 : awpG P p0 x (aput ρ y.dst u) B fun ρ' A' => K' ρ' A' := by
          have hd : ∀ t, y.dst = some t → x.dst ≠ some t := fun t ht hx => hA.d t hx ht
          have hx := opds_aput (o := x) (ρ := ρ) (d := y.dst) (v := u) hA.r
          have key : ∀ {KK : List AV → AHeap → Prop}, awpOp P p0 x ρ B (fun ρ' A' => ∀ u', aput ρ y.dst u = aput ρ y.dst u' → KK (aput ρ' y.dst u') A') → awpOp P p0 x (aput ρ y.dst u) B KK := by
            intro KK h
            unfold awpOp at *
            split
            · rename_i f args he; rw [he] at hcl; simp [IOp.cls] at hcl
            · rename_i op hno
              split at h
              · exact absurd ‹_› (hno _ _)
              · rw [astep_congr hx]
                split at h
                · rw [aput_comm hd]; exact h u rfl
                · exact h.elim
          unfold awpG at *
          cases hg : x.guard with
          | none => rw [hg] at h; exact key h
          | some tw =>
            obtain ⟨t, want⟩ := tw
            rw [hg] at h
            simp only [] at h
            show (match (aput ρ y.dst u).getD t .any with | .bool b => (b = want → awpOp P p0 x (aput ρ y.dst u) B fun ρ' A' => K' ρ' A') ∧ (b = !want → K' (aput (aput ρ y.dst u) x.dst (.tup [])) B) | .tup _ => K' (aput (aput ρ y.dst u) x.dst (.tup [])) B | _ => False)
            rw [guard_aput hA.r hg]
            cases hb : ρ.getD t .any <;> rw [hb] at h <;> simp only [] at h ⊢
            case bool b => exact ⟨fun e => key (h.1 e), fun e => by rw [aput_comm hd]; exact h.2 e u rfl⟩
            case tup vs => rw [aput_comm hd]; exact h u rfl
        exact h2
      have hd : ∀ t, y.dst = some t → x.dst ≠ some t := fun t ht hx => hA.d t hx ht
      rcases make_of_awpG hcl H with ⟨v, z, hz, hk, hall⟩ | ⟨v, hk, hall⟩
      · refine main v (fun B => B.set (p0 + x.slot) (some z)) (fun B => B[p0 + x.slot]? = some none) hk ?_ hz ?_
        · intro ρ1 hρ B K' hB hk'
          refine back ρ1 hρ B K' (hall B _ hB fun u hu => ?_)
          subst hu
          rw [aput_comm hA.d]
          exact hk'
        · intro p o B _ hp hm hB
          subst hp
          have hne := hsl i j x y hi hjy (Ne.symm hji) hcl hm
          have hne' : p0 + y.slot ≠ p0 + x.slot := by omega
          refine ⟨by rw [List.getElem?_set_ne hne']; exact hB, List.set_comm _ _ hne', fun h => ?_⟩
          rwa [List.getElem?_set_ne (Ne.symm hne')] at h
      · refine main v id (fun _ => True) hk ?_ trivial ?_
        · intro ρ1 hρ B K' hB hk'
          refine back ρ1 hρ B K' (hall B _ fun u hu => ?_)
          subst hu
          rw [aput_comm hA.d]
          exact hk'
        · intro p o B _ hp hm hB
          exact ⟨trivial, rfl, id⟩

/-- What alone may come up now. -/
theorem awpAny_only {K : List AV → AHeap → Prop} {i : Nat} {x : IOper} (hi : ios[i]? = some x) {fuel : Nat} {R : Chk} {L : List Nat} {ρ : List AV} {A : AHeap} (hr : isReady ios L i = true) (hall : ∀ j, isReady ios L j = true → j = i)
    (h : awpG P p0 x ρ A fun ρ' A' => chks ios anc R i ρ' A' ∧ awpAny P p0 ios anc K fuel R (i :: L) ρ' A') : awpAny P p0 ios anc K (fuel + 1) R L ρ A := by
  refine ⟨fun h => (by rw [h i] at hr; cases hr), fun j y hj hjy => ?_⟩
  have := hall j hj
  subst this
  rw [hi] at hjy; cases hjy
  exact awpG_mono h fun ρ' A' ⟨h1, h2⟩ => ⟨fun _ => h1, h2⟩

/-- The order that is walked. -/
def awpOrd (P : Program) (p0 : Nat) (ios : List IOper) (anc : Nat → Nat → Bool) (K : List AV → AHeap → Prop) : List Nat → Chk → List AV → AHeap → Prop
  | [], R, ρ, A => K ρ A
  | i :: c, R, ρ, A => match ios[i]? with
    | none => False
    | some x => match x.op.cls with
      | .pure => (match yld x ρ A with | some v => awpOrd P p0 ios anc K c R (aput ρ x.dst v) A | none => False)
      | .read => (match yld x ρ A with | some v => awpOrd P p0 ios anc K c ((i, v) :: R) (aput ρ x.dst v) A | none => False)
      | .make => awpG P p0 x ρ A fun ρ' A' => awpOrd P p0 ios anc K c R ρ' A'
      | .eff => awpG P p0 x ρ A fun ρ' A' => chks ios anc R i ρ' A' ∧ awpOrd P p0 ios anc K c R ρ' A'

/-- The order is one that may be walked. -/
def okOrd (ios : List IOper) (anc : Nat → Nat → Bool) (n : Nat) : List Nat → List Nat → Bool
  | [], L => (List.range n).all fun i => L.contains i
  | i :: c, L => isReady ios L i && (match ios[i]? with
    | none => false
    | some x => match x.op.cls with
      | .pure | .read => true
      | .make => (List.range n).all fun j => L.contains j || j == i || anc i j || (match ios[j]? with | some y => y.op.cls == .pure || y.op.cls == .make | none => true)
      | .eff => (List.range n).all fun j => !isReady ios L j || j == i) && okOrd ios anc n c (i :: L)

theorem isReady_lt {L : List Nat} {i : Nat} (h : isReady ios L i = true) : i < ios.length := by
  obtain ⟨_, io, h2, _⟩ := isReady_iff.1 h
  exact (List.getElem?_eq_some_iff.1 h2).1

theorem awpAny_ord (ha : AncOK ios anc) (hap : ApartAll ios anc) (hrd : ReadsAll ios anc) (hsl : SlotsApart ios) {K : List AV → AHeap → Prop} : ∀ (c : List Nat) (R : Chk) (L : List Nat) (ρ : List AV) (A : AHeap), ClosedL ios L → ChkOK ios R L →
    okOrd ios anc ios.length c L = true → awpOrd P p0 ios anc K c R ρ A → awpAny P p0 ios anc K c.length R L ρ A
  | [], R, L, ρ, A, hc, hck, hok, h => by
    refine ⟨fun i => ?_, h⟩
    cases hr : isReady ios L i with
    | false => rfl
    | true =>
      have := List.all_eq_true.1 hok i (List.mem_range.2 (isReady_lt hr))
      exact absurd (by simpa using this) (isReady_iff.1 hr).1
  | i :: c, R, L, ρ, A, hc, hck, hok, h => by
    simp only [okOrd, Bool.and_eq_true] at hok
    obtain ⟨⟨hr, hk⟩, hok'⟩ := hok
    have hc' := hc.cons hr
    have hck' : ChkOK ios R (i :: L) := fun k v hm => ⟨List.mem_cons_of_mem _ (hck k v hm).1, (hck k v hm).2⟩
    simp only [awpOrd] at h
    cases hi : ios[i]? with
    | none => rw [hi] at h; exact h.elim
    | some x =>
      rw [hi] at h hk
      simp only [] at h hk
      cases hcl : x.op.cls <;> rw [hcl] at h hk <;> simp only [] at h hk
      case pure =>
        cases hy : yld x ρ A with
        | none => rw [hy] at h; exact h.elim
        | some v =>
          rw [hy] at h
          refine awpAny_first ha hap hrd hi (R' := []) (.inl ⟨hcl, rfl⟩) c.length R L ρ A hc hck hr hy ?_
          exact awpAny_ord ha hap hrd hsl c R (i :: L) _ A hc' hck' hok' h
      case read =>
        cases hy : yld x ρ A with
        | none => rw [hy] at h; exact h.elim
        | some v =>
          rw [hy] at h
          refine awpAny_first ha hap hrd hi (R' := [(i, v)]) (.inr ⟨hcl, rfl⟩) c.length R L ρ A hc hck hr hy ?_
          refine awpAny_ord ha hap hrd hsl c _ (i :: L) _ A hc' ?_ hok' h
          intro k w hm
          rcases List.mem_cons.1 hm with e | hm
          · cases e; exact ⟨by simp, x, hi, hcl⟩
          · exact hck' k w hm
      case make =>
        refine awpAny_make ha hap hsl hi hcl c.length R L ρ A hc ?_ hr (awpG_mono h fun ρ' A' h' => awpAny_ord ha hap hrd hsl c R (i :: L) _ A' hc' hck' hok' h')
        intro j y hj hn hji hf
        have := List.all_eq_true.1 hk j (List.mem_range.2 (List.getElem?_eq_some_iff.1 hj).1)
        simp only [hj, hf, Bool.or_eq_true, beq_iff_eq, Bool.false_eq_true, or_false] at this
        rcases this with (h | h) | h
        · exact absurd (by simpa using h) hn
        · exact absurd h hji
        · exact h
      case eff =>
        refine awpAny_only hi hr (fun j hj => ?_) (awpG_mono h fun ρ' A' h' => ⟨h'.1, awpAny_ord ha hap hrd hsl c R (i :: L) _ A' hc' hck' hok' h'.2⟩)
        have := List.all_eq_true.1 hk j (List.mem_range.2 (isReady_lt hj))
        simpa [hj] using this

/-! ### The loaded program's region -/

theorem ready_eq {kops : Array Oper} (hR : OpsRel P kops ios) {L : List Nat} {listed : Array Bool} (hs : listed.size = kops.size) (hL : ∀ i, listed.getD i false = true ↔ i < kops.size ∧ i ∈ L) (hlt0 : ∀ i ∈ L, i < kops.size) (i : Nat) :
    i ∈ Region.ready .any kops listed ↔ isReady ios L i = true := by
  have h1 : ∀ i, i < kops.size → (listed.getD i true = false ↔ i ∉ L) := by
    intro i hi
    have := hL i
    have hlt : i < listed.size := by omega
    simp only [Array.getD_eq_getD_getElem?, Array.getElem?_eq_getElem hlt, Option.getD_some] at this ⊢
    constructor
    · intro h hm; rw [this.2 ⟨hi, hm⟩] at h; cases h
    · intro h; cases hx : listed[i] with
      | false => rfl
      | true => exact absurd (this.1 hx).2 h
  rw [mem_ready, isReady_iff]
  constructor
  · rintro ⟨h0, o, ho, hall⟩
    have hlt : i < kops.size := (Array.getElem?_eq_some_iff.1 ho).1
    obtain ⟨io, hio, _, hpre⟩ := hR.2 i o ho
    refine ⟨(h1 i hlt).1 h0, io, hio, fun p hp => ?_⟩
    obtain ⟨e, he, hb, rfl⟩ := (hpre p).1 hp
    exact ((hL _).1 (hall e he hb)).2
  · rintro ⟨h0, io, hio, hall⟩
    have hlt : i < kops.size := by have := (List.getElem?_eq_some_iff.1 hio).1; have := hR.1; omega
    obtain ⟨io', hio', _, hpre⟩ := hR.2 i kops[i] (by simp [hlt])
    rw [hio] at hio'; cases hio'
    refine ⟨(h1 i hlt).2 h0, kops[i], by simp [hlt], fun e he hb => (hL _).2 ⟨hlt0 _ (hall _ ((hpre _).2 ⟨e, he, hb, rfl⟩)), hall _ ((hpre _).2 ⟨e, he, hb, rfl⟩)⟩⟩

theorem wpAny_ok {kops : Array Oper} (hR : OpsRel P kops ios) {c : Ctx} {Q : Exit → Act → World → Prop} {K : List AV → AHeap → Prop} (hx : c.A.length ≤ p0) (hK : ∀ ρ A a w, K ρ A → St c ρ A a w → Q .normal a w) :
    ∀ (fuel : Nat) (R : Chk) (L : List Nat) (listed : Array Bool) (ρ : List AV) (A : AHeap) (a : Act) (w : World), listed.size = kops.size → (∀ i, listed.getD i false = true ↔ i < kops.size ∧ i ∈ L) → (∀ i ∈ L, i < kops.size) →
      St c ρ A a w → awpAny P p0 ios anc K fuel R L ρ A → wpAny P .any kops Q fuel listed a w
  | 0, R, L, listed, ρ, A, a, w, hs, hL, hl, hst, h => by
    refine ⟨?_, hK _ _ _ _ h.2 hst⟩
    rw [List.eq_nil_iff_forall_not_mem]
    intro i hi
    rw [ready_eq hR hs hL hl, h.1 i] at hi
    cases hi
  | fuel + 1, R, L, listed, ρ, A, a, w, hs, hL, hl, hst, h => by
    refine ⟨fun hn => hK _ _ _ _ (h.1 fun i => ?_) hst, fun i hi => ?_⟩
    · cases hr : isReady ios L i with
      | false => rfl
      | true => rw [← ready_eq hR hs hL hl, hn] at hr; cases hr
    · have hr := (ready_eq hR hs hL hl i).1 hi
      obtain ⟨_, o, ho, _⟩ := mem_ready.1 hi
      have hlt : i < kops.size := (Array.getElem?_eq_some_iff.1 ho).1
      obtain ⟨io, hio, hrel, _⟩ := hR.2 i o ho
      refine awpG_ok ho hrel hst hx (h.2 i io hr hio) ?_
      intro ρ' A' a' w' ⟨_, hk⟩ hst'
      refine wpAny_ok hR hx hK fuel R (i :: L) _ ρ' A' a' w' (by simp [hs]) (fun j => ?_) (fun j hj => by rcases List.mem_cons.1 hj with rfl | hj; exact hlt; exact hl j hj) hst' hk
      by_cases hij : i = j
      · subst hij
        have : i < listed.size := by omega
        simp [this, hlt]
      · rw [getD_set_ne false hij, hL]
        simp [Ne.symm hij]

theorem aexec_regionD {n0 id m : Nat} {ρ : List AV} {A : AHeap} {kops : Array Oper} {ord : List Nat} (hm : P.follows .mixedOrders = true) (hR : OpsRel P kops ios) (ha : AncOK ios anc) (hap : ApartAll ios anc) (hrd : ReadsAll ios anc) (hsl : SlotsApart ios)
    (hok : okOrd ios anc ios.length ord [] = true) (hlen : ord.length = ios.length) {Q : IExit → List AV → AHeap → Prop} (h : awpOrd P A.length ios anc (Q .normal) ord [] ρ (A.more m)) :
    AExec P n0 (.region id kops true) ρ A Q := by
  intro c a w hx hs
  have hn : n0 ≤ A.length := by obtain ⟨M, F, S, hL, hd, E, hf⟩ := hs; have := E.len; omega
  refine wp_region_any hm ?_
  have h1 := awpAny_ord ha hap hrd hsl ord [] [] ρ (A.more m) (fun _ _ _ h => by cases h) (fun _ _ h => by cases h) hok h
  rw [hlen, ← hR.1] at h1
  have hs' : St c ρ (A.more m) a { w with drawn := w.drawn + 1 } := by
    obtain ⟨M, F, S, hL, hd, E, hf⟩ := hs.more m
    exact ⟨M, F, S, hL, hd, { E with }, hf⟩
  exact wpAny_ok (c := c) hR (by omega) (fun ρ A a w hk hs => ⟨.normal, ρ, A, hk, trivial, hs⟩) _ [] [] _ ρ (A.more m) a _ (by simp) (fun i => ⟨fun h => by
    exfalso
    rw [Array.getD_eq_getD_getElem?, Array.getElem?_replicate] at h
    split at h <;> simp at h, fun h => by simp at h⟩) (by simp) hs' h1
end
end Go.SB
end

/- Framework, part U: places are numbered anew, what is no longer needed is dropped. -/
section
set_option linter.unusedVariables false
set_option linter.unusedSimpArgs false
namespace Go.SB

mutual
/-- Places numbered anew; an address of a place that has no number any more is forgotten. -/
def AV.ren (g : Nat → Option Nat) : AV → AV
  | .ptr l off => match g l with | some l' => .ptr l' off | none => .any
  | .eptr l i off => match g l with | some l' => .eptr l' i off | none => .any
  | .sl l sz lo len t => match g l with | some l' => .sl l' sz lo len t | none => .any
  | .mp l => match g l with | some l' => .mp l' | none => .any
  | .fn f a b => .fn f (AV.renL g a) (AV.renL g b)
  | .ifc t x => .ifc t (AV.ren g x)
  | .agg cs => .agg (AV.renL g cs)
  | .tup vs => .tup (AV.renL g vs)
  | .pp cs => .pp (AV.renL g cs)
  | .ps sz xs => .ps sz (AV.renLL g xs)
  | v => v
def AV.renL (g : Nat → Option Nat) : List AV → List AV
  | [] => []
  | v :: vs => AV.ren g v :: AV.renL g vs
def AV.renLL (g : Nat → Option Nat) : List (List AV) → List (List AV)
  | [] => []
  | v :: vs => AV.renL g v :: AV.renLL g vs
end

theorem renL_eq (g : Nat → Option Nat) (vs : List AV) : AV.renL g vs = vs.map (AV.ren g) := by
  induction vs with
  | nil => rfl
  | cons v vs ih => simp [AV.renL, ih]
theorem renLL_eq (g : Nat → Option Nat) (vs : List (List AV)) : AV.renLL g vs = vs.map (fun e => e.map (AV.ren g)) := by
  induction vs with
  | nil => rfl
  | cons v vs ih => simp [AV.renLL, ih, renL_eq]

def AO.ren (g : Nat → Option Nat) : AO → AO
  | .cells vs => .cells (vs.map (AV.ren g))
  | .arr es => .arr (es.map fun e => e.map (AV.ren g))
  | .map es => .map (es.map fun (k, v) => (AV.ren g k, AV.ren g v))
  | .opq R => .opq R
  | .dead => .dead

/-- The same places under other numbers: what g says is said by M and M' alike. -/
structure Mod.Same (M M' : Mod) (g : Nat → Option Nat) : Prop where
  D : ∀ l l', g l = some l' → M.D l → M'.D l'
  blk : ∀ l l', g l = some l' → M.D l → M'.blk l' = M.blk l
  base : ∀ l l', g l = some l' → M.D l → M'.base l' = M.base l
  room : ∀ l l', g l = some l' → M.D l → M'.room l' = M.room l
  sz : ∀ l l', g l = some l' → M.D l → M'.sz l' = M.sz l
  I : ∀ b c, M.I b = some c → M'.I b = some c

mutual
theorem Conc.ren {M M' : Mod} {g : Nat → Option Nat} (hm : M.Same M' g) : ∀ {a : AV} {u : Value}, Conc M a u → Conc M' (AV.ren g a) u
  | _, _, .int k n => .int k n
  | _, _, .bool b => .bool b
  | _, _, .str s => .str s
  | _, _, .nilp => .nilp
  | _, _, .nils => .nils
  | _, _, .nilm => .nilm
  | _, _, .nilf => .nilf
  | _, _, .nili => .nili
  | .ptr l off, _, .ptr h => by
    simp only [AV.ren]
    cases hg : g l with
    | none => exact .any _
    | some l' => simp only []; rw [← hm.blk _ _ hg h, ← hm.base _ _ hg h]; exact .ptr (hm.D _ _ hg h)
  | .eptr l i off, _, .eptr h => by
    simp only [AV.ren]
    cases hg : g l with
    | none => exact .any _
    | some l' => simp only []; rw [← hm.blk _ _ hg h, ← hm.base _ _ hg h, ← hm.sz _ _ hg h]; exact .eptr (hm.D _ _ hg h)
  | .pp cs, _, .pp hI hr hL => by
    simp only [AV.ren]; exact .pp (hm.I _ _ hI) hr (ConcL.ren hm hL)
  | .sl l sz lo len t, _, .sl h hs hc ht hr => by
    simp only [AV.ren]
    cases hg : g l with
    | none => exact .any _
    | some l' =>
      simp only []
      rw [← hm.blk _ _ hg h, ← hm.base _ _ hg h]
      exact .sl (hm.D _ _ hg h) ((hm.sz _ _ hg h).trans hs) hc ht (by rw [hm.base _ _ hg h, hm.room _ _ hg h]; exact hr)
  | .sl l sz lo _ t, _, .sl0 h hs => by
    simp only [AV.ren]
    cases hg : g l with
    | none => exact .any _
    | some l' => exact .sl0 (hm.D _ _ hg h) ((hm.sz _ _ hg h).trans hs)
  | _, _, .es a => .es a
  | .ps sz _, _, .ps (elems := elems) hI hc hr hL => by
    simp only [AV.ren, renLL_eq]
    have hlen : (elems.map fun e => e.map (AV.ren g)).length = elems.length := by simp
    rw [← hlen]
    refine .ps (hm.I _ _ hI) (by rw [hlen]; exact hc) (fun i j u hi => hr i j u (by rw [hlen] at hi; exact hi)) (fun i e he => ?_)
    rw [List.getElem?_map] at he
    cases hx : elems[i]? with
    | none => rw [hx] at he; cases he
    | some e0 =>
      rw [hx] at he; cases he
      show ConcL M' (e0.map (AV.ren g)) _
      rw [← renL_eq]
      exact ConcL.ren hm (hL i e0 hx)
  | .ps sz _, _, .ps0 h => by simp only [AV.ren, AV.renLL]; exact .ps0 h
  | .mp l, _, .mp h => by
    simp only [AV.ren]
    cases hg : g l with
    | none => exact .any _
    | some l' => simp only []; rw [← hm.blk _ _ hg h]; exact .mp (hm.D _ _ hg h)
  | .fn f a b, _, .fn h₁ h₂ => by simp only [AV.ren]; exact .fn (ConcL.ren hm h₁) (ConcL.ren hm h₂)
  | .ifc t x, _, .ifc h => by simp only [AV.ren]; exact .ifc (Conc.ren hm h)
  | .agg cs, _, .agg h => by simp only [AV.ren]; exact .agg (ConcL.ren hm h)
  | .tup cs, _, .tup h => by simp only [AV.ren]; exact .tup (ConcL.ren hm h)
  | _, _, .raw v h => .raw v h
  | _, _, .any v => .any v
theorem ConcL.ren {M M' : Mod} {g : Nat → Option Nat} (hm : M.Same M' g) : ∀ {as : List AV} {us : List Value}, ConcL M as us → ConcL M' (AV.renL g as) us
  | _, _, .nil => .nil
  | _, _, .cons h t => by simp only [AV.renL]; exact .cons (Conc.ren hm h) (ConcL.ren hm t)
end

theorem ConcL.ren' {M M' : Mod} {g : Nat → Option Nat} (hm : M.Same M' g) {as : List AV} {us : List Value} (h : ConcL M as us) : ConcL M' (as.map (AV.ren g)) us := by
  rw [← renL_eq]; exact h.ren hm

theorem AO.ren_holds {h : Array Obj} {M M' : Mod} {g : Nat → Option Nat} {F : Nat → Prop} {l l' : Nat} {o : AO} (hm : M.Same M' g) (hI : ∀ b, M'.I b = M.I b) (hg : g l = some l') (hd : M.D l) (hh : o.holds h M F l) : (o.ren g).holds h M' F l' := by
  have e1 := hm.blk _ _ hg hd
  have e2 := hm.base _ _ hg hd
  have e3 := hm.room _ _ hg hd
  have e4 := hm.sz _ _ hg hd
  cases o with
  | cells vs =>
    obtain ⟨hF, c, e, fr, us, h1, h2, h3, h4, h5⟩ := hh
    exact ⟨by rw [e1]; exact hF, c, e, fr, us, by rw [e1]; exact h1, h2, by rw [e3]; exact h3, h4.ren' hm, by rw [e2]; exact h5⟩
  | arr elems =>
    rcases hh with ⟨q1, q2, q3, q4⟩ | ⟨hF, c, e, fr, uss, h1, h2, h3, h4, h5⟩
    · subst q1; exact .inl ⟨rfl, by rw [e3]; exact q2, by rw [e4]; exact q3, q4⟩
    refine .inr ⟨by rw [e1]; exact hF, c, e, fr, uss, by rw [e1]; exact h1, h2, by rw [e3]; exact h3, fun i ev he => ?_, fun i j u hi => by rw [e2, e4]; exact h5 i j u (by simpa using hi)⟩
    rw [List.getElem?_map] at he
    cases hx : elems[i]? with
    | none => rw [hx] at he; cases he
    | some e0 =>
      rw [hx] at he; cases he
      exact ⟨(h4 i e0 hx).1.ren' hm, by simp [e4, (h4 i e0 hx).2]⟩
  | map es =>
    obtain ⟨hF, ents, clock, h1, h2, h3, h4⟩ := hh
    refine ⟨by rw [e1]; exact hF, ents, clock, by rw [e1]; exact h1, by simp [h2], fun i k v he => ?_, h4⟩
    rw [List.getElem?_map] at he
    cases hx : es[i]? with
    | none => rw [hx] at he; cases he
    | some kv =>
      rw [hx] at he
      obtain ⟨k0, v0⟩ := kv
      simp only [Option.map_some, Option.some.injEq, Prod.mk.injEq] at he
      obtain ⟨rfl, rfl⟩ := he
      obtain ⟨en, a, b, c⟩ := h3 i k0 v0 hx
      exact ⟨en, a, b.ren hm, c.ren hm⟩
  | opq R =>
    show R.holds h M'.I (M'.blk l') (M'.base l') F ∧ (R.root = true → ∃ (c : Array Value) (e : TypeId) (fr : Nat × Nat), F (M'.blk l') ∧ h[M'.blk l']? = some (.cells c e fr) ∧ c.size = M'.room l')
    rw [e1, e2, e3, show M'.I = M.I from funext hI]
    exact hh
  | dead => exact hh

/-! ### The places from n0 on that are kept: ks -/

def fnew (n0 : Nat) (ks : List Nat) (l : Nat) : Option Nat := if l < n0 then some l else match ks.idxOf? l with | some i => some (n0 + i) | none => none
def foldA (n0 : Nat) (ks : List Nat) (A : AHeap) : AHeap := (A.take n0 ++ ks.map fun k => (A[k]?).join).map fun o => o.map (AO.ren (fnew n0 ks))
def foldR (n0 : Nat) (ks : List Nat) (ρ : List AV) : List AV := ρ.map (AV.ren (fnew n0 ks))
/-- Which place stands behind the new number. -/
def fold (n0 : Nat) (ks : List Nat) (j : Nat) : Nat := if j < n0 then j else ks.getD (j - n0) 0

def okKeep (n0 : Nat) : List Nat → Bool
  | [] => true
  | k :: ks => decide (n0 ≤ k) && !ks.contains k && okKeep n0 ks

theorem okKeep_spec {n0 : Nat} : ∀ {ks : List Nat}, okKeep n0 ks = true → ks.Nodup ∧ ∀ k ∈ ks, n0 ≤ k
  | [], _ => ⟨List.nodup_nil, by simp⟩
  | k :: ks, h => by
    simp only [okKeep, Bool.and_eq_true, decide_eq_true_eq, Bool.not_eq_true', List.contains_eq_mem, decide_eq_false_iff_not] at h
    obtain ⟨⟨h1, h2⟩, h3⟩ := h
    obtain ⟨h4, h5⟩ := okKeep_spec h3
    exact ⟨List.nodup_cons.2 ⟨h2, h4⟩, fun x hx => by rcases List.mem_cons.1 hx with rfl | hx; exact h1; exact h5 x hx⟩

theorem fnew_fold {n0 : Nat} {ks : List Nat} (hk : okKeep n0 ks = true) {l l' : Nat} (h : fnew n0 ks l = some l') : fold n0 ks l' = l ∧ l' < n0 + ks.length := by
  unfold fnew at h
  split at h
  · cases h
    rename_i hl
    exact ⟨by simp [fold, hl], by omega⟩
  · split at h
    · rename_i i hi
      cases h
      rw [List.idxOf?_eq_some_iff] at hi
      obtain ⟨h1, h2, _⟩ := hi
      exact ⟨by
        unfold fold
        rw [if_neg (by omega), show n0 + i - n0 = i by omega]
        simpa [List.getD, h1] using h2, by omega⟩
    · cases h

theorem fold_fnew {n0 : Nat} {ks : List Nat} (hk : okKeep n0 ks = true) {j : Nat} (hj : j < n0 + ks.length) : fnew n0 ks (fold n0 ks j) = some j := by
  obtain ⟨hnd, hge⟩ := okKeep_spec hk
  unfold fold
  split
  · rename_i h; simp [fnew, h]
  · rename_i h
    have hlt : j - n0 < ks.length := by omega
    have e : ks.getD (j - n0) 0 = ks[j - n0] := by simp [List.getD, hlt]
    rw [e]
    have := hge ks[j - n0] (List.getElem_mem hlt)
    unfold fnew
    rw [if_neg (by omega)]
    have hi : ks.idxOf? ks[j - n0] = some (j - n0) := by
      rw [List.idxOf?_eq_some_iff]
      refine ⟨hlt, by simp, fun k hk' => ?_⟩
      intro he
      have := (List.getElem_inj hnd).1 (by simpa using he)
      omega
    rw [hi]
    simp only [Option.some.injEq]; omega

theorem foldA_get {n0 : Nat} {ks : List Nat} {A : AHeap} (hn : n0 ≤ A.length) (j : Nat) (o : AO) : (foldA n0 ks A)[j]? = some (some o) ↔ j < n0 + ks.length ∧ ∃ o0, A[fold n0 ks j]? = some (some o0) ∧ o = o0.ren (fnew n0 ks) := by
  unfold foldA
  rw [List.getElem?_map]
  by_cases hj : j < n0
  · rw [List.getElem?_append_left (by simp; omega), List.getElem?_take_of_lt hj]
    simp only [fold, if_pos hj]
    cases h : A[j]? with
    | none => simp
    | some x =>
      cases x with
      | none => simp
      | some o0 => simp; constructor; (intro h; exact ⟨by omega, h.symm⟩); (rintro ⟨_, h⟩; exact h.symm)
  · rw [List.getElem?_append_right (by simp; omega)]
    have e : (List.take n0 A).length = n0 := by simp; omega
    rw [e, List.getElem?_map]
    simp only [fold, if_neg hj]
    by_cases hlt : j - n0 < ks.length
    · simp only [List.getElem?_eq_getElem hlt, Option.map_some, List.getD, Option.getD_some]
      cases h : A[ks[j - n0]]? with
      | none => simp
      | some x =>
        cases x with
        | none => simp
        | some o0 => simp; constructor; (intro h; exact ⟨by omega, h.symm⟩); (rintro ⟨_, h⟩; exact h.symm)
    · rw [List.getElem?_eq_none (by omega)]
      simp; intro h; omega

/-- **The state under new numbers.** -/
theorem St.fold {P : Program} {c : Ctx} {ρ : List AV} {A : AHeap} {a : Act} {w : World} (hs : St c ρ A a w) {ks : List Nat} (hk : okKeep c.A.length ks = true) : St c (foldR c.A.length ks ρ) (foldA c.A.length ks A) a w := by
  obtain ⟨M, F, S, hL, hd, E, hf⟩ := hs
  have hn := E.len
  generalize hn0 : c.A.length = n0 at *
  let f := Go.SB.fold n0 ks
  let g := fnew n0 ks
  let M' : Mod := { D := fun j => j < n0 + ks.length ∧ M.D (f j), blk := fun j => M.blk (f j), base := fun j => M.base (f j), room := fun j => M.room (f j), sz := fun j => M.sz (f j), I := M.I }
  have hsame : M.Same M' g := by
    constructor
    · intro l l' h hD
      obtain ⟨h1, h2⟩ := fnew_fold hk h
      exact ⟨h2, by show M.D (Go.SB.fold n0 ks l'); rw [h1]; exact hD⟩
    all_goals first
      | (intro l l' h hD
         obtain ⟨h1, h2⟩ := fnew_fold hk h
         simp only [M', f, h1])
      | (intro b c h; exact h)
  have hlive : ∀ (j : Nat) (o : AO), (foldA n0 ks A)[j]? = some (some o) → ∃ o0, A[f j]? = some (some o0) ∧ o = o0.ren g ∧ j < n0 + ks.length := fun j o h => by
    obtain ⟨h1, o0, h2, h3⟩ := (foldA_get hn j o).1 h
    exact ⟨o0, h2, h3, h1⟩
  have hinj : ∀ j j', j < n0 + ks.length → j' < n0 + ks.length → f j = f j' → j = j' := fun j j' h h' e => by
    have h1 := fold_fnew hk h
    have h2 := fold_fnew hk h'
    have e' : Go.SB.fold n0 ks j = Go.SB.fold n0 ks j' := e
    rw [e', h2] at h1
    exact (Option.some.inj h1).symm
  have hfix : ∀ l, l < n0 → f l = l := fun l h => by simp [f, Go.SB.fold, h]
  refine ⟨M', fun j => F (f j), ⟨?_, ?_, ?_, ?_, ?_, ?_⟩, hL.ren' hsame, hd, ⟨E.os, E.tape, E.output, E.size, ⟨?_, ?_, ?_, ?_, ?_, E.le.I⟩, ?_, E.keep, ?_, E.immFoot⟩, ?_⟩
  · intro l o ho
    obtain ⟨o0, h1, rfl, h2⟩ := hlive l o ho
    obtain ⟨h3, h4⟩ := S.holds (f l) o0 h1
    exact ⟨⟨h2, h3⟩, AO.ren_holds hsame (fun _ => rfl) (fold_fnew hk h2) h3 h4⟩
  · rintro l ⟨h1, h2⟩
    obtain ⟨o, ho⟩ := S.fresh (f l) h2
    exact ⟨_, (foldA_get hn l _).2 ⟨h1, o, ho, rfl⟩⟩
  · intro l o b ho hb
    obtain ⟨o0, h1, rfl, h2⟩ := hlive l o ho
    exact S.lt (f l) o0 b h1 hb
  · intro l l' o o' b h h' hb hb'
    obtain ⟨o0, h1, rfl, h2⟩ := hlive l o h
    obtain ⟨o1, h3, rfl, h4⟩ := hlive l' o' h'
    exact hinj l l' h2 h4 (S.disj _ _ _ _ b h1 h3 hb hb')
  · exact S.imm
  · intro b c' l o hI ho
    obtain ⟨o0, h1, rfl, h2⟩ := hlive l o ho
    exact S.immNot b c' (f l) o0 hI h1
  · intro l hl
    have h := c.lt l hl
    rw [hn0] at h
    exact ⟨by omega, by show M.D (f l); rw [hfix l h]; exact E.le.D l hl⟩
  · intro l hl
    have h := c.lt l hl
    rw [hn0] at h
    show M.blk (f l) = _
    rw [hfix l h]; exact E.le.blk l hl
  · intro l hl
    have h := c.lt l hl
    rw [hn0] at h
    show M.base (f l) = _
    rw [hfix l h]; exact E.le.base l hl
  · intro l hl
    have h := c.lt l hl
    rw [hn0] at h
    show M.room (f l) = _
    rw [hfix l h]; exact E.le.room l hl
  · intro l hl
    have h := c.lt l hl
    rw [hn0] at h
    show M.sz (f l) = _
    rw [hfix l h]; exact E.le.sz l hl
  · rw [hn0]; simp [foldA]; omega
  · intro l o b ho hb hlt
    obtain ⟨o0, h1, rfl, h2⟩ := hlive l o ho
    exact E.foot (f l) o0 b h1 hb hlt
  · intro l hl
    have hlt : l < n0 := by rw [← hn0]; exact (List.getElem?_eq_some_iff.1 hl).1
    have h1 := hf l hl
    unfold foldA
    rw [List.getElem?_map, List.getElem?_append_left (by simp; omega), List.getElem?_take_of_lt hlt, h1]
    rfl
end Go.SB
end

/- Framework, part Ua: one more place; a row without anything in a variable. -/
section
set_option linter.unusedVariables false
set_option linter.unusedSimpArgs false
namespace Go.SB
section
variable {h : Array Obj} {M : Mod} {F : Nat → Nat → Prop} {A : AHeap}
theorem ext_get {A : AHeap} {o : Option AO} {k : Nat} {x : AO} (hx : (A ++ [o])[k]? = some (some x)) : (k = A.length ∧ o = some x) ∨ (k < A.length ∧ A[k]? = some (some x)) := by
  rcases Nat.lt_trichotomy k A.length with hk | hk | hk
  · rw [List.getElem?_append_left hk] at hx; exact .inr ⟨hk, hx⟩
  · subst hk; rw [List.getElem?_append_right (Nat.le_refl _), Nat.sub_self] at hx; simp at hx; exact .inl ⟨rfl, hx⟩
  · rw [List.getElem?_append_right (by omega), List.getElem?_eq_none (by simp; omega)] at hx; cases hx

/-- One more place, for blocks that no place has. -/
theorem Sim.add (S : Sim h M F A) {b bs rm sz : Nat} {G : Nat → Prop} {o : AO} (ho : o.holds h (M.put A.length b bs rm sz) G A.length) (h1 : ∀ x, G x → x < h.size) (h2 : ∀ x l o, G x → A[l]? = some (some o) → ¬ F l x) (h3 : ∀ x c, G x → M.I x ≠ some c) :
    Sim h (M.put A.length b bs rm sz) (fun l x => if l = A.length then G x else F l x) (A ++ [some o]) ∧ M.Le (M.put A.length b bs rm sz) := by
  have hnD : ¬ M.D A.length := fun hD => by
    obtain ⟨o, ho⟩ := S.fresh _ hD
    rw [List.getElem?_eq_none (Nat.le_refl _)] at ho; cases ho
  have hle := Mod.le_put hnD b bs rm sz
  refine ⟨⟨fun l x hx => ?_, fun l hD => ?_, fun l x y hx hy => ?_, fun l l' x x' y hx hx' hy hy' => ?_, S.imm, fun y c l x hI hx hy => ?_⟩, hle⟩
  · rcases ext_get hx with ⟨rfl, e⟩ | ⟨hk, hx⟩
    · cases e; exact ⟨.inr rfl, by simpa using ho⟩
    · obtain ⟨hD, hh⟩ := S.holds l x hx
      refine ⟨.inl hD, ?_⟩
      rw [show (fun x => if l = A.length then G x else F l x) = F l from funext fun y => by rw [if_neg (by omega)]]
      exact AO.keep hh hD hle fun y _ => rfl
  · rcases hD with hD | rfl
    · obtain ⟨x, hx⟩ := S.fresh l hD
      exact ⟨x, by rw [List.getElem?_append_left (List.getElem?_eq_some_iff.1 hx).1]; exact hx⟩
    · exact ⟨o, by rw [List.getElem?_append_right (Nat.le_refl _), Nat.sub_self]; rfl⟩
  · rcases ext_get hx with ⟨rfl, e⟩ | ⟨hk, hx⟩
    · rw [if_pos rfl] at hy; exact h1 y hy
    · rw [if_neg (by omega)] at hy; exact S.lt l x y hx hy
  · rcases ext_get hx with ⟨rfl, e⟩ | ⟨hk, hx⟩ <;> rcases ext_get hx' with ⟨rfl, e'⟩ | ⟨hk', hx'⟩
    · rfl
    · rw [if_pos rfl] at hy; rw [if_neg (by omega)] at hy'; exact absurd hy' (h2 y l' x' hy hx')
    · rw [if_pos rfl] at hy'; rw [if_neg (by omega)] at hy; exact absurd hy (h2 y l x hy' hx)
    · rw [if_neg (by omega)] at hy hy'; exact S.disj l l' x x' y hx hx' hy hy'
  · rcases ext_get hx with ⟨rfl, e⟩ | ⟨hk, hx⟩
    · rw [if_pos rfl] at hy; exact h3 y c hy hI
    · rw [if_neg (by omega)] at hy; exact S.immNot y c l x hI hx hy

end
theorem ConcL.put {M : Mod} : ∀ {as : List AV} {us : List Value}, ConcL M as us → ∀ {r : Nat} {a v : AV}, as[r]? = some a → (∀ u, Conc M a u → Conc M v u) → ConcL M (as.set r v) us
  | _, _, .nil, r, a, v, h, _ => by cases h
  | _, _, .cons h t, 0, a, v, e, hv => by simp at e; subst e; exact .cons (hv _ h) t
  | _, _, .cons h t, r + 1, a, v, e, hv => by simp at e; exact .cons h (ConcL.put t e hv)
def isNils : AV → Bool
  | .nils => true
  | _ => false
/-- Variables that are nil slices, seen as rows without anything. -/
def nlR : List (Nat × Nat) → Nat → List AV → List AV
  | [], _, ρ => ρ
  | (r, z) :: t, p, ρ => nlR t (p + 1) (ρ.set r (.sl p z 0 0 false))
def nlA : List (Nat × Nat) → AHeap
  | [] => []
  | _ :: t => some (.arr []) :: nlA t
def nlOk : List (Nat × Nat) → List AV → Bool
  | [], _ => true
  | (r, z) :: t, ρ => decide (0 < z) && isNils (ρ.getD r .any) && nlOk t (ρ.set r .any)
theorem nlOk_set : ∀ {nl : List (Nat × Nat)} {ρ : List AV} {r : Nat} {v : AV}, nlOk nl (ρ.set r .any) = true → isNils v = false → nlOk nl (ρ.set r v) = true
  | [], _, _, _, _, _ => rfl
  | (q, z) :: t, ρ, r, v, h, hv => by
    simp only [nlOk, Bool.and_eq_true] at h ⊢
    obtain ⟨⟨h1, h2⟩, h3⟩ := h
    by_cases e : r = q
    · subst e
      by_cases hl : r < ρ.length
      · simp [List.getD, hl, isNils] at h2
      · simp [List.getD, List.getElem?_eq_none (show (ρ.set r .any).length ≤ r by simp; omega), isNils] at h2
    · refine ⟨⟨h1, ?_⟩, ?_⟩
      · rw [List.getD, List.getElem?_set_ne e] at h2 ⊢; exact h2
      · rw [List.set_comm _ _ e] at h3 ⊢
        exact nlOk_set h3 hv
theorem nlR_len : ∀ {nl : List (Nat × Nat)} {p : Nat} {ρ : List AV}, (nlR nl p ρ).length = ρ.length
  | [], _, _ => rfl
  | _ :: t, _, _ => by simp [nlR, nlR_len]
theorem St.nil1 {c : Ctx} {ρ : List AV} {A : AHeap} {a : Act} {w : World} (hs : St c ρ A a w) {r z : Nat} (hr : ρ[r]? = some .nils) (hz : 0 < z) : St c (ρ.set r (.sl A.length z 0 0 false)) (A ++ [some (.arr [])]) a w := by
  obtain ⟨M, F, S, hL, hd, E, hf⟩ := hs
  obtain ⟨S1, hle1⟩ := S.add (b := 0) (bs := 0) (rm := 0) (sz := z) (G := fun _ => False) (o := .arr []) (.inl ⟨rfl, by simp [Mod.put], by simpa [Mod.put] using hz, fun _ h => h⟩) (fun _ h => h.elim) (fun _ _ _ h => h.elim) (fun _ _ h => h.elim)
  refine ⟨_, _, S1, (hL.mono hle1).put hr fun u hu => ?_, hd, E.trans ⟨rfl, rfl, rfl, Nat.le_refl _, hle1, by simp, fun _ _ _ => rfl, fun l o b hl hb _ => ?_, fun b c hc _ => .inl hc⟩, fun l hl => ?_⟩
  · cases hu
    exact .sl0 (.inr rfl) (by simp [Mod.put])
  · rcases ext_get hl with ⟨rfl, e⟩ | ⟨hk, ho⟩
    · rw [if_pos rfl] at hb; exact hb.elim
    · rw [if_neg (by omega)] at hb; exact ⟨l, o, ho, hb⟩
  · have := hf l hl
    rw [List.getElem?_append_left (List.getElem?_eq_some_iff.1 this).1]; exact this
theorem St.nl {c : Ctx} {a : Act} {w : World} : ∀ {nl : List (Nat × Nat)} {ρ : List AV} {A : AHeap}, St c ρ A a w → nlOk nl ρ = true → St c (nlR nl A.length ρ) (A ++ nlA nl) a w
  | [], ρ, A, hs, _ => by simpa [nlR, nlA] using hs
  | (r, z) :: t, ρ, A, hs, h => by
    simp only [nlOk, Bool.and_eq_true, decide_eq_true_eq] at h
    obtain ⟨⟨h1, h2⟩, h3⟩ := h
    have hr : ρ[r]? = some .nils := by
      unfold List.getD at h2
      cases e : ρ[r]? with
      | none => rw [e] at h2; cases h2
      | some v =>
        rw [e] at h2
        cases v <;> simp only [Option.getD_some, isNils] at h2 <;> first | rfl | cases h2
    have h4 := (hs.nil1 hr h1).nl (nl := t) (nlOk_set h3 rfl)
    simp only [nlR, nlA]
    rw [List.length_append] at h4
    simpa using h4
end Go.SB
end
