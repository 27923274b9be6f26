/- Framework, part Lb: arguments that are slices of flat structs. Conditions: none. -/
import Derived.Test.YtkkccabchhnebaaFwLa
import Derived.ChangeArms
import Derived.WideShapes
set_option linter.unusedVariables false
set_option linter.unusedSimpArgs false
namespace Go.SB
open Go.WideShapes Go.RowKit Go.ChangeShapes
section
variable {P : Program} {W : World} {H : Type} {enc : TypeId × Value → H}

inductive CK where
  | int (k : IntKind)
  | str
  | bool
  deriving DecidableEq

/-- The cells of a type, if each is a number, a text or a truth. -/
def shapeFs (P : Program) (F : TypeId → Option (List CK)) : List Field → Nat → Option (List CK)
  | [], _ => some []
  | f :: fs, off => if f.offset = off then (match F f.type with
    | some ks => if ks.length = P.cellsOf f.type then (match shapeFs P F fs (off + ks.length) with | some r => some (ks ++ r) | none => none) else none
    | none => none) else none
def shapeOf (P : Program) : Nat → TypeId → Option (List CK)
  | 0, _ => none
  | n + 1, t => match P.underlying t with
    | some .bool => some [.bool]
    | some (.int k) => some [.int k]
    | some .string => some [.str]
    | some (.struct fs) => (match shapeFs P (shapeOf P n) fs.toList 0 with | some ks => if ks.length = P.cellsOf t then some ks else none | none => none)
    | _ => none

def fit : CK → Value → Prop
  | .int k, v => ∃ n, v = .int k n ∧ (Lit.int k n).wf = true
  | .str, v => ∃ s : ByteArray, v = .string s ∧ s.size ≤ maxLen
  | .bool, v => ∃ b, v = .bool b
def Fits : List CK → List Value → Prop
  | [], [] => True
  | k :: ks, v :: vs => fit k v ∧ Fits ks vs
  | _, _ => False
theorem Fits.append : ∀ {ks : List CK} {vs : List Value}, Fits ks vs → ∀ {ks' : List CK} {vs' : List Value}, Fits ks' vs' → Fits (ks ++ ks') (vs ++ vs')
  | [], [], _, _, _, h => h
  | [], _ :: _, h, _, _, _ => h.elim
  | _ :: _, [], h, _, _, _ => h.elim
  | k :: ks, v :: vs, h, _, _, h' => ⟨h.1, h.2.append h'⟩

theorem shapeFs_fits {F : TypeId → Option (List CK)} {cs : List Value} {Z : Field → Prop}
    (hF : ∀ f ks, Z f → F f.type = some ks → ks.length = P.cellsOf f.type → Fits ks ((cs.drop f.offset).take (P.cellsOf f.type))) :
    ∀ (fs : List Field) (off : Nat) (ks : List CK), (∀ f ∈ fs, Z f) → shapeFs P F fs off = some ks → Fits ks ((cs.drop off).take ks.length)
  | [], off, ks, _, h => by
    simp only [shapeFs, Option.some.injEq] at h
    subst h
    simp [Fits]
  | f :: fs, off, ks, hz, h => by
    unfold shapeFs at h
    split at h
    · rename_i ho
      cases h1 : F f.type with
      | none => rw [h1] at h; cases h
      | some k1 =>
        rw [h1] at h
        simp only [] at h
        split at h
        · rename_i hl
          cases h2 : shapeFs P F fs (off + k1.length) with
          | none => rw [h2] at h; cases h
          | some r =>
            rw [h2] at h
            cases h
            have a := hF f k1 (hz f (by simp)) h1 hl
            have b := shapeFs_fits hF fs (off + k1.length) r (fun g hg => hz g (by simp [hg])) h2
            rw [ho, ← hl] at a
            have := a.append b
            rw [List.length_append]
            have e : (cs.drop off).take (k1.length + r.length) = (cs.drop off).take k1.length ++ (cs.drop (off + k1.length)).take r.length := by
              rw [List.take_add, List.drop_drop]
            rw [e]; exact this
        · cases h
    · cases h

theorem shape_trod {base : Nat} {spare : Nat → Bool} {held : Bool} : ∀ (m : Nat) (t : TypeId) (ks : List CK) (fuel : Nat) (cs : List Value) (x : DataW H × List MemPlace), shapeOf P m t = some ks →
    DataW.trod enc P W base spare held fuel t cs = some x → Fits ks cs
  | 0, _, _, _, _, _, h, _ => by cases h
  | m + 1, t, ks, fuel, cs, x, h, ht => by
    unfold shapeOf at h
    cases hu : P.underlying t with
    | none => rw [hu] at h; cases h
    | some u =>
      rw [hu] at h
      cases u with
      | bool =>
        cases h
        obtain ⟨b, rfl, _⟩ := DataW.trod_bool hu ht
        exact ⟨⟨b, rfl⟩, trivial⟩
      | int k =>
        cases h
        obtain ⟨n, rfl, _, hw⟩ := DataW.trod_int hu ht
        exact ⟨⟨n, rfl, hw⟩, trivial⟩
      | string =>
        cases h
        obtain ⟨s, rfl, _, hs⟩ := DataW.trod_string hu ht
        exact ⟨⟨s, rfl, hs⟩, trivial⟩
      | struct fs =>
        obtain ⟨xs, n, rfl, _, hlen, hxl, hx⟩ := DataW.trod_struct hu ht
        cases hs : shapeFs P (shapeOf P m) fs.toList 0 with
        | none => simp only [hs] at h; cases h
        | some k2 =>
          simp only [hs] at h
          split at h
          · rename_i hl
            cases h
            have := shapeFs_fits (P := P) (F := shapeOf P m) (cs := cs) (Z := fun f => ∃ y, DataW.trod enc P W base spare held n f.type ((cs.drop f.offset).take (P.cellsOf f.type)) = some y)
              (fun f k1 ⟨y, hy⟩ h1 _ => shape_trod m f.type k1 n _ y h1 hy) fs.toList 0 ks (fun f hf => ?_) hs
            · rw [List.drop_zero, hl, ← hlen, List.take_length] at this
              exact this
            · obtain ⟨i, hi⟩ := List.getElem?_of_mem hf
              rw [Array.getElem?_toList] at hi
              have hil : i < fs.size := (Array.getElem?_eq_some_iff.1 hi).1
              exact ⟨xs[i]'(by omega), by rw [hx i f hi]; simp⟩
          · cases h
      | _ => cases h

theorem add_spot {a : Addr} (h : a.spot = none) (n : Nat) : a.add n = ⟨a.block, a.off + n, none⟩ := by
  unfold Addr.add
  split
  · rename_i e; subst e; cases a; simp at h; subst h; rfl
  · rfl
/-- A slice of flat structs, as an argument that is only read. -/
theorem conc_slice {α : Type} {f : α → List AV} {t e : TypeId} {ks : List CK} {m base : Nat} {sp : Nat → Bool} {held : Bool} {r : Reach} {b0 : Nat} {v : Value} {d : DataW H} {ps : List MemPlace} (ht : P.underlying t = some (.slice e))
    (hs : shapeOf P m e = some ks) (hk : 0 < ks.length) (hc : P.cellsOf e = ks.length) (hdec : ∀ vs, Fits ks vs → ∃ x : α, ∀ M, ConcL M (f x) vs)
    (hv : Value.okWide P W r b0 t v) (hd : DataW.Trod enc P W base sp held t v d ps) : ∃ l : List α, Conc (mod0 W) (.ps ks.length (l.map f)) v := by
  obtain ⟨oa, len, cap, rfl⟩ := okWide_slice ht hv
  obtain ⟨fuel, hd⟩ := hd
  have hcells : (Value.slice oa len cap).cells.toList = [.slice oa len cap] := rfl
  rw [hcells] at hd
  rcases DataW.trod_slice ht hd with ⟨h1, _⟩ | ⟨a, len', cap', elems, rest, n, _, h1, _, hb, hl, hm, hlen, hel, _, _⟩
  · simp only [List.cons.injEq, Value.slice.injEq, and_true] at h1
    obtain ⟨rfl, rfl, rfl⟩ := h1
    exact ⟨[], .ps0⟩
  · simp only [List.cons.injEq, Value.slice.injEq, and_true] at h1
    obtain ⟨rfl, rfl, rfl⟩ := h1
    have each : ∀ i, i < len → ∃ (x : α) (vs : List Value), (∀ M, ConcL M (f x) vs) ∧ vs.length = ks.length ∧ ∀ j, j < ks.length → W.cell? ((a.add (i * ks.length)).add j) = vs[j]? := by
      intro i hi
      have h2 := hel i hi
      rw [List.getElem?_eq_getElem (by omega)] at h2
      obtain ⟨vs, hvs, hy⟩ := Option.bind_eq_some_iff.1 h2
      obtain ⟨_, hvl, hvc⟩ := World.cells?_some hvs
      obtain ⟨x, hx⟩ := hdec vs (shape_trod m e ks n vs _ hs hy)
      rw [hc] at hvl hvc
      exact ⟨x, vs, hx, hvl, hvc⟩
    by_cases h0 : len = 0
    · subst h0
      exact ⟨[], .ps0⟩
    · obtain ⟨x0, vs0, _, hl0, hc0⟩ := each 0 (by omega)
      have hcell := hc0 0 hk
      rw [List.getElem?_eq_getElem (by omega), Nat.zero_mul] at hcell
      have haa : (a.add 0).add 0 = a := rfl
      rw [haa] at hcell
      unfold World.cell? at hcell
      cases hh : W.heap[a.block]? with
      | none => rw [hh] at hcell; cases hcell
      | some o =>
        cases o with
        | cells c ty fr =>
          rw [hh] at hcell
          have hspot : a.spot = none := by
            cases hsp : a.spot with
            | none => rfl
            | some q => rw [hsp] at hcell; simp at hcell
          have pick : ∀ k, k ≤ len → ∃ l : List α, l.length = k ∧ ∀ i x, l[i]? = some x → ∃ vs : List Value, (∀ M, ConcL M (f x) vs) ∧ vs.length = ks.length ∧ ∀ j, j < ks.length → W.cell? ((a.add (i * ks.length)).add j) = vs[j]? := by
            intro k
            induction k with
            | zero => intro _; exact ⟨[], rfl, fun i x h => by simp at h⟩
            | succ k ih =>
              intro hk'
              obtain ⟨l, hll, hlx⟩ := ih (by omega)
              obtain ⟨x, vs, hx⟩ := each k (by omega)
              refine ⟨l ++ [x], by simp [hll], fun i y hy => ?_⟩
              rcases Nat.lt_or_ge i l.length with hi | hi
              · rw [List.getElem?_append_left hi] at hy; exact hlx i y hy
              · rw [List.getElem?_append_right hi] at hy
                have : i - l.length = 0 := by
                  have := (List.getElem?_eq_some_iff.1 hy).1
                  simp at this; omega
                rw [this] at hy
                simp at hy
                subst hy
                have : i = k := by omega
                subst this
                exact ⟨vs, hx⟩
          obtain ⟨l, hll, hlx⟩ := pick len (Nat.le_refl _)
          have hch : ∀ i, ∃ vs : List Value, ∀ x, l[i]? = some x → (∀ M, ConcL M (f x) vs) ∧ vs.length = ks.length ∧ ∀ j, j < ks.length → W.cell? ((a.add (i * ks.length)).add j) = vs[j]? := by
            intro i
            cases hx : l[i]? with
            | none => exact ⟨[], fun x h => by cases h⟩
            | some x =>
              obtain ⟨vs, h⟩ := hlx i x hx
              exact ⟨vs, fun y hy => by cases hy; exact h⟩
          let uss : Nat → List Value := fun i => Classical.choose (hch i)
          have hus : ∀ i x, l[i]? = some x → (∀ M, ConcL M (f x) (uss i)) ∧ (uss i).length = ks.length ∧ ∀ j, j < ks.length → W.cell? ((a.add (i * ks.length)).add j) = (uss i)[j]? := fun i => Classical.choose_spec (hch i)
          refine ⟨l, ?_⟩
          have hae : a = ⟨a.block, a.off, none⟩ := by cases a; simp at hspot; subst hspot; rfl
          have hl2 : (l.map f).length = len := by simp [hll]
          rw [hae, ← hl2]
          refine .ps (c := c) (uss := uss) (by unfold mod0; simp only [hh]) (by rw [hl2]; exact hl) ?_ ?_
          · intro i j u hi hu
            rw [hl2, ← hll] at hi
            obtain ⟨_, h2, h3⟩ := hus i _ (List.getElem?_eq_getElem hi)
            have hj : j < ks.length := by rw [← h2]; exact (List.getElem?_eq_some_iff.1 hu).1
            have := h3 j hj
            rw [hu, add_spot hspot, add_spot rfl] at this
            unfold World.cell? at this
            simp only [hh] at this
            simpa using this
          · intro i ev hev
            rw [List.getElem?_map] at hev
            cases hx : l[i]? with
            | none => rw [hx] at hev; cases hev
            | some x => rw [hx] at hev; cases hev; exact (hus i x hx).1 _
        | _ => rw [hh] at hcell; cases hcell
end
end Go.SB
