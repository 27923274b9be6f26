/- Framework, part L: append, copy, make, slice literals. Conditions: none. -/
import Derived.Test.YtkkccabchhnebaaFwK
import Derived.Laws.AppendOwn
set_option linter.unusedVariables false
set_option linter.unusedSimpArgs false
namespace Go.SB
section
variable {P : Program} {M : Mod} {F : Nat → Nat → Prop} {A : AHeap} {ρ : List AV} {a : Act} {w : World}

/-- A flat list of values is these elements, one behind the other. -/
def Rows (M : Mod) (sz : Nat) (xs : List (List AV)) (us : List Value) : Prop :=
  us.length = xs.length * sz ∧ ∀ i e, xs[i]? = some e → e.length = sz ∧ ConcL M e ((us.drop (i * sz)).take sz)

theorem Rows.mono {M' : Mod} (hm : M.Le M') {sz : Nat} {xs : List (List AV)} {us : List Value} (h : Rows M sz xs us) : Rows M' sz xs us :=
  ⟨h.1, fun i e he => ⟨(h.2 i e he).1, (h.2 i e he).2.mono hm⟩⟩

theorem Rows.nil (M : Mod) (sz : Nat) : Rows M sz [] [] := ⟨by simp, by simp⟩

theorem lt_of_get {α : Type} {l : List α} {i : Nat} {x : α} (h : l[i]? = some x) : i < l.length := by
  rcases Nat.lt_or_ge i l.length with h' | h'
  · exact h'
  · rw [List.getElem?_eq_none h'] at h; cases h

theorem mul_lt {i n s : Nat} (h : i < n) : i * s + s ≤ n * s := by
  have : (i + 1) * s ≤ n * s := Nat.mul_le_mul_right _ h
  rw [Nat.add_mul, Nat.one_mul] at this; exact this

theorem Rows.append {sz : Nat} {xs ys : List (List AV)} {us vs : List Value} (h : Rows M sz xs us) (k : Rows M sz ys vs) : Rows M sz (xs ++ ys) (us ++ vs) := by
  refine ⟨by rw [List.length_append, List.length_append, h.1, k.1, Nat.add_mul], ?_⟩
  intro i e he
  rw [List.getElem?_append] at he
  split at he
  · rename_i hlt
    obtain ⟨a, b⟩ := h.2 i e he
    refine ⟨a, ?_⟩
    have := mul_lt (s := sz) hlt
    rw [List.drop_append_of_le_length (by rw [h.1]; omega), List.take_append_of_le_length (by rw [List.length_drop, h.1]; omega)]
    exact b
  · rename_i hge
    obtain ⟨a, b⟩ := k.2 _ e he
    refine ⟨a, ?_⟩
    have h1 : xs.length * sz ≤ i * sz := Nat.mul_le_mul_right _ (by omega)
    rw [List.drop_append, List.drop_eq_nil_of_le (by rw [h.1]; omega), List.nil_append, h.1, ← Nat.sub_mul]
    exact b

/-- The elements stand in a block. -/
theorem rows_of_arr {c : Array Value} {base sz lo len : Nat} {es : List (List AV)} {uss : Nat → List Value} (h4 : ∀ i ev, es[i]? = some ev → ConcL M ev (uss i) ∧ ev.length = sz)
    (h5 : ∀ (i j : Nat) (u : Value), i < es.length → (uss i)[j]? = some u → c[base + i * sz + j]? = some u) (hle : lo + len ≤ es.length) :
    ∃ us, Rows M sz ((es.drop lo).take len) us ∧ us.length = len * sz ∧ ∀ (j : Nat) (u : Value), us[j]? = some u → c[base + lo * sz + j]? = some u := by
  induction len with
  | zero => exact ⟨[], by simpa using Rows.nil M sz, by simp, by simp⟩
  | succ len ih =>
    obtain ⟨us, r, hl, hc⟩ := ih (by omega)
    have hi : lo + len < es.length := by omega
    obtain ⟨ev, hev⟩ : ∃ ev, es[lo + len]? = some ev := ⟨_, List.getElem?_eq_getElem hi⟩
    obtain ⟨q1, q2⟩ := h4 _ _ hev
    have hlu := q1.length
    have e1 : (es.drop lo).take (len + 1) = (es.drop lo).take len ++ [ev] := by
      rw [List.take_add_one, List.getElem?_drop, hev]; rfl
    have r1 : Rows M sz [ev] (uss (lo + len)) := by
      refine ⟨by simp [hlu, q2], ?_⟩
      intro i e he
      match i with
      | 0 =>
        simp at he; subst he
        refine ⟨q2, ?_⟩
        rw [Nat.zero_mul, List.drop_zero, List.take_of_length_le (by omega)]
        exact q1
      | i + 1 => simp at he
    refine ⟨us ++ uss (lo + len), by rw [e1]; exact r.append r1, by rw [List.length_append, hl, hlu, q2, Nat.add_mul]; omega, ?_⟩
    intro j u hu
    rw [List.getElem?_append] at hu
    split at hu
    · exact hc j u hu
    · rename_i hge
      rw [← h5 (lo + len) (j - us.length) u hi hu, hl, Nat.add_mul]
      congr 1
      rw [hl] at hge
      omega

/-- What a slice shows, in memory. -/
theorem elems_ok (S : Sim w.heap M F A) {sz : Nat} {x : AV} {ux : Value} (hx : Conc M x ux) {xs : List (List AV)} (h : elemsOf A sz x = some xs) (hr : rowsOk sz xs = true) :
    ∃ ad cap us, ux = .slice ad xs.length cap ∧ xs.length ≤ cap ∧ Rows M sz xs us ∧ ∀ w0 : World, w0.heap = w.heap → ∀ n, n ≤ xs.length → (Builtin.firstCells sz n ux).run P w0 = .ok (us.take (n * sz)).toArray w0 := by
  have hsz : ∀ (i : Nat) (e : List AV), xs[i]? = some e → e.length = sz := by
    intro i e he
    simp only [rowsOk, List.all_eq_true] at hr
    have := hr e (List.mem_of_getElem? he)
    simp at this; exact this.1
  have fc : ∀ (w0 : World), w0.heap = w.heap → ∀ (ad : Addr) (n cap : Nat) (us : List Value), n ≤ xs.length → us.length = xs.length * sz → (∀ (j : Nat) (u : Value), us[j]? = some u → w.cell? (ad.add j) = some u) →
      (Builtin.firstCells sz n (.slice (some ad) xs.length cap)).run P w0 = .ok (us.take (n * sz)).toArray w0 := by
    intro w0 hw0 ad n cap us hn hl hc
    have hm : n * sz ≤ xs.length * sz := Nat.mul_le_mul_right _ hn
    exact run_firstCells_some (P := P) w0 sz n ad xs.length cap (us.take (n * sz)) (by simp; omega) (fun j u hu => by
      rw [List.getElem?_take] at hu
      split at hu
      · rw [← hc j u hu]; simp [World.cell?, hw0]
      · cases hu)
  cases x <;> simp only [elemsOf] at h <;> first | (cases h; done) | skip
  case nils =>
    cases h; cases hx
    exact ⟨none, 0, [], rfl, Nat.le_refl _, Rows.nil _ _, fun w0 hw0 n hn => by
      have : n = 0 := by simpa using hn
      subst this
      simp [run_firstCells_none]⟩
  case es =>
    cases h
    cases hx with
    | es ad =>
      refine ⟨some ad, 0, [], rfl, Nat.le_refl _, Rows.nil _ _, fun w0 hw0 n hn => ?_⟩
      exact fc w0 hw0 ad n 0 [] hn (by simp) (by simp)
  case ps sz' es =>
    split at h
    rotate_left
    · cases h
    rename_i hsz'
    subst hsz'
    cases h
    cases hx with
    | @ps _ _ uss c b o cap hI hc hr' hL =>
      obtain ⟨e, fr, hb⟩ := S.imm _ _ hI
      obtain ⟨us, r, hlu, hcell⟩ := rows_of_arr (M := M) (c := c) (base := o) (sz := sz') (lo := 0) (len := xs.length) (es := xs) (uss := uss) (fun i ev he => ⟨hL i ev he, hsz i ev he⟩) hr' (by omega)
      rw [List.drop_zero, List.take_length] at r
      refine ⟨some ⟨b, o, none⟩, cap, us, rfl, hc, r, fun w0 hw0 n hn => ?_⟩
      refine fc w0 hw0 _ n cap us hn hlu (fun j u hu => ?_)
      rw [addr_add, cell_of_block hb]
      simpa using hcell j u hu
    | @ps0 _ ad cap =>
      refine ⟨ad, cap, [], rfl, Nat.zero_le _, Rows.nil _ _, fun w0 hw0 n hn => ?_⟩
      have : n = 0 := by simpa using hn
      subst this
      cases ad with
      | none => simp [run_firstCells_none]
      | some ad => exact fc w0 hw0 ad 0 cap [] hn (by simp) (by simp)
  case sl l sz' lo len tt =>
    split at h
    · rename_i es hA
      split at h
      · rename_i hszle
        obtain ⟨hsz', hle⟩ := hszle
        subst hsz'
        cases h
        obtain ⟨hD, hF, c, ty, fr, uss, g1, g2, g3, g4, g5⟩ := S.holds l _ hA
        have hl : ((es.drop lo).take len).length = len := by simp; omega
        rw [hl] at fc ⊢
        cases hx with
        | @sl _ _ _ _ cap _ hD' hs hc ht hrm =>
          by_cases h0 : len = 0
          · subst h0
            refine ⟨_, cap, [], rfl, hc, by simpa using Rows.nil M sz', fun w0 hw0 n hn => ?_⟩
            exact fc w0 hw0 _ n cap [] hn (by simp) (by simp)
          · rw [hs] at g4 g5
            obtain ⟨us, r, hlu, hcell⟩ := rows_of_arr g4 g5 hle
            refine ⟨_, cap, us, rfl, hc, r, fun w0 hw0 n hn => ?_⟩
            refine fc w0 hw0 _ n cap us hn hlu (fun j u hu => ?_)
            rw [addr_add, cell_of_block g1]
            exact hcell j u hu
        | @sl0 _ _ _ _ ad hD' hs =>
          refine ⟨some ad, 0, [], rfl, Nat.le_refl _, by simpa using Rows.nil M sz', fun w0 hw0 n hn => ?_⟩
          exact fc w0 hw0 ad n 0 [] hn (by simp) (by simp)
      · cases h
    · cases h

/-- A block, after a run of cells was written into it. -/
theorem setCells_block (b : Nat) (e : TypeId) (fr : Nat × Nat) : ∀ (vs : List Value) (o : Nat) (w : World) (c : Array Value), w.heap[b]? = some (.cells c e fr) →
    ∃ c' : Array Value, (w.setCells b o vs).heap[b]? = some (.cells c' e fr) ∧ c'.size = c.size ∧
      (∀ i, c'[i]? = if o ≤ i ∧ i < o + vs.length ∧ i < c.size then vs[i - o]? else c[i]?)
  | [], o, w, c, h => ⟨c, h, rfl, fun i => by rw [if_neg]; simp; omega⟩
  | v :: vs, o, w, c, h => by
    obtain ⟨c', h1, h2, h3⟩ := setCells_block b e fr vs (o + 1) (w.setCell ⟨b, o, none⟩ v) (c.setIfInBounds o v) (setCell_block v h)
    refine ⟨c', h1, by simpa using h2, ?_⟩
    intro i
    rw [h3 i]
    simp only [Array.size_setIfInBounds, List.length_cons]
    by_cases hi : i = o
    · subst hi
      rw [if_neg (by omega)]
      by_cases hs : i < c.size
      · rw [if_pos (by omega)]; simp [hs]
      · rw [if_neg (by omega)]
        rw [Array.getElem?_eq_none (by simp; omega), Array.getElem?_eq_none (by omega)]
    · rw [Array.getElem?_setIfInBounds_ne (fun e => hi e.symm)]
      by_cases hc : o + 1 ≤ i ∧ i < o + 1 + vs.length ∧ i < c.size
      · rw [if_pos hc, if_pos (by omega), show i - o = (i - (o + 1)) + 1 by omega, List.getElem?_cons_succ]
      · rw [if_neg hc, if_neg (by omega)]

theorem setCells_other (b : Nat) (k : Nat) (hk : k ≠ b) : ∀ (vs : List Value) (o : Nat) (w : World), (w.setCells b o vs).heap[k]? = w.heap[k]?
  | [], _, _ => rfl
  | v :: vs, o, w => by rw [World.setCells, setCells_other b k hk vs, setCell_heap w b o v k hk]

theorem setCells_world (b : Nat) : ∀ (vs : List Value) (o : Nat) (w : World), (w.setCells b o vs).os = w.os ∧ (w.setCells b o vs).tape = w.tape ∧ (w.setCells b o vs).output = w.output ∧ (w.setCells b o vs).heap.size = w.heap.size
  | [], _, _ => ⟨rfl, rfl, rfl, rfl⟩
  | v :: vs, o, w => by
    obtain ⟨h1, h2, h3, h4⟩ := setCells_world b vs (o + 1) (w.setCell ⟨b, o, none⟩ v)
    exact ⟨h1, h2, h3, by rw [World.setCells, h4]; simp⟩

/-- Elements written over a part of an array, or behind it, within the block. -/
theorem arr_write {c c' : Array Value} {base sz i0 : Nat} {es : List (List AV)} {uss : Nat → List Value} (h4 : ∀ i ev, es[i]? = some ev → ConcL M ev (uss i) ∧ ev.length = sz)
    (h5 : ∀ (i j : Nat) (u : Value), i < es.length → (uss i)[j]? = some u → c[base + i * sz + j]? = some u) (hi : i0 ≤ es.length) {xs : List (List AV)} {us : List Value} (hr : Rows M sz xs us)
    (hfit : base + (i0 + xs.length) * sz ≤ c.size) (hc : ∀ i, c'[i]? = if base + i0 * sz ≤ i ∧ i < base + i0 * sz + us.length ∧ i < c.size then us[i - (base + i0 * sz)]? else c[i]?) :
    ∃ uss' : Nat → List Value, (∀ i ev, (es.take i0 ++ xs ++ es.drop (i0 + xs.length))[i]? = some ev → ConcL M ev (uss' i) ∧ ev.length = sz) ∧
      ∀ (i j : Nat) (u : Value), i < (es.take i0 ++ xs ++ es.drop (i0 + xs.length)).length → (uss' i)[j]? = some u → c'[base + i * sz + j]? = some u := by
  have hlu := hr.1
  have hfit' : base + i0 * sz + us.length ≤ c.size := by rw [hlu]; rw [Nat.add_mul] at hfit; omega
  have lt : (es.take i0).length = i0 := by simp; omega
  refine ⟨fun i => if i0 ≤ i ∧ i < i0 + xs.length then (us.drop ((i - i0) * sz)).take sz else uss i, ?_, ?_⟩
  · intro i ev he
    by_cases h : i0 ≤ i ∧ i < i0 + xs.length
    · simp only [if_pos h]
      rw [List.append_assoc, List.getElem?_append_right (by omega), lt, List.getElem?_append_left (by omega)] at he
      exact ⟨(hr.2 _ _ he).2, (hr.2 _ _ he).1⟩
    · simp only [if_neg h]
      by_cases h1 : i < i0
      · rw [List.append_assoc, List.getElem?_append_left (by omega), List.getElem?_take, if_pos h1] at he
        exact h4 i ev he
      · rw [List.getElem?_append_right (by simp; omega), List.getElem?_drop] at he
        simp only [List.length_append, lt] at he
        rw [show i0 + xs.length + (i - (i0 + xs.length)) = i by omega] at he
        exact h4 i ev he
  · intro i j u hlt hu
    by_cases h : i0 ≤ i ∧ i < i0 + xs.length
    · simp only [if_pos h] at hu
      rw [List.getElem?_take] at hu
      split at hu
      · rename_i hj
        rw [List.getElem?_drop] at hu
        have h1 : (i - i0) * sz + sz ≤ xs.length * sz := mul_lt (by omega)
        have h2 : i * sz = i0 * sz + (i - i0) * sz := by rw [← Nat.add_mul]; congr 1; omega
        rw [hc, if_pos (by omega), ← hu]
        congr 1; omega
      · cases hu
    · simp only [if_neg h] at hu
      have hlen : i < es.length := by
        simp only [List.length_append, List.length_drop, lt] at hlt
        omega
      obtain ⟨ev, hev⟩ : ∃ ev, es[i]? = some ev := ⟨_, List.getElem?_eq_getElem hlen⟩
      have hj : j < sz := by
        have h1 := (h4 i ev hev).1.length
        have h2 := (h4 i ev hev).2
        have := lt_of_get hu
        omega
      rw [hc, if_neg ?_]
      · exact h5 i j u hlen hu
      · intro hcon
        by_cases h1 : i < i0
        · have := mul_lt (s := sz) h1; omega
        · have h2 : (i0 + xs.length) * sz ≤ i * sz := Nat.mul_le_mul_right _ (by omega)
          rw [Nat.add_mul] at h2; omega
end
end Go.SB
