/- HcB, put together. Conditions: none. -/
import Derived.Test.YtapoilcpollmpaaNHcA
/- Framework, part HcB: what is read out of a region does what the region does. -/
section
set_option linter.unusedVariables false
set_option linter.unusedSimpArgs false
namespace Go.SB

def gather (V : List Nat) (ρ : List AV) : List AV := V.map fun t => ρ.getD t .any

theorem gather_getD {V : List Nat} {ρ : List AV} {t j : Nat} (h : V.idxOf? t = some j) : (gather V ρ).getD j .any = ρ.getD t .any := by
  obtain ⟨h1, h2⟩ : ∃ h : j < V.length, V[j] = t := by
    rw [List.idxOf?, List.findIdx?_eq_some_iff_getElem] at h
    obtain ⟨h1, h2, _⟩ := h
    exact ⟨h1, by simpa using h2⟩
  simp [gather, List.getD, List.getElem?_eq_getElem h1, h2]

section
variable {P : Program} {V : List Nat} {N : Nat} {ρ' ρ : List AV} {A : AHeap} {σ : List Ent}

/-- The entries say what the temporaries are. -/
structure Good (V : List Nat) (ρ' : List AV) (A : AHeap) (σ : List Ent) (ρ : List AV) : Prop where
  vs : ∀ i j, V.idxOf? i = some j → entOf σ i = none → ρ'.getD j .any = ρ.getD i .any
  es : ∀ i n, entOf σ i = some n → hev ρ' A n.e = some (ρ.getD i .any)
  gs : ∀ i n t w, entOf σ i = some n → n.gd = some (t, w) → ρ.getD t .any = .bool w → hev ρ' A n.x = some (ρ.getD i .any)

theorem idx_map {i : Nat} {e : HE} (h : (V.idxOf? i).map HE.v = some e) : ∃ j, V.idxOf? i = some j ∧ e = .v j := by
  cases hj : V.idxOf? i with
  | none => rw [hj] at h; cases h
  | some j => rw [hj] at h; cases h; exact ⟨j, rfl, rfl⟩

theorem lookE_ok (G : Good V ρ' A σ ρ) {o : Opd} {e : HE} (h : lookE V σ o = some e) : hev ρ' A e = some (o.get ρ) := by
  cases o with
  | c a => cases h; simp [hev, Opd.get]
  | t i =>
    simp only [lookE] at h
    split at h
    · rename_i n hn; cases h; exact G.es _ _ hn
    · rename_i hn
      obtain ⟨j, hj, rfl⟩ := idx_map h
      show some (ρ'.getD j .any) = some (ρ.getD i .any)
      rw [G.vs _ _ hj hn]

def GdT (ρ : List AV) (gd : Option (Nat × Bool)) : Prop := ∀ t w, gd = some (t, w) → ρ.getD t .any = .bool w

theorem lookG_ok (G : Good V ρ' A σ ρ) {gd : Option (Nat × Bool)} (hg : GdT ρ gd) {o : Opd} {e : HE} (h : lookG V σ gd o = some e) : hev ρ' A e = some (o.get ρ) := by
  cases o with
  | c a => cases h; simp [hev, Opd.get]
  | t i =>
    simp only [lookG] at h
    split at h
    · rename_i n hn
      cases h
      cases hc : (gd.isSome && n.gd == gd) with
      | false => simp only [cond_false]; exact G.es _ _ hn
      | true =>
        simp only [cond_true]
        rw [Bool.and_eq_true, Option.isSome_iff_exists] at hc
        obtain ⟨⟨⟨t, w⟩, h1⟩, h2⟩ := hc
        have h2 : n.gd = gd := by simpa using h2
        exact G.gs _ _ t w hn (h2.trans h1) (hg t w h1)
    · rename_i hn
      obtain ⟨j, hj, rfl⟩ := idx_map h
      show some (ρ'.getD j .any) = some (ρ.getD i .any)
      rw [G.vs _ _ hj hn]

theorem lookP_ok (G : Good V ρ' A σ ρ) {gd : Option (Nat × Bool)} (hg : GdT ρ gd) {c : Nat} {w : Bool} (hc : ρ.getD c .any = .bool w) {o : Opd} {e : HE} (h : lookP V σ gd (c, w) o = some e) : hev ρ' A e = some (o.get ρ) := by
  cases o with
  | c a => cases h; simp [hev, Opd.get]
  | t i =>
    simp only [lookP] at h
    split at h
    · rename_i n hn
      split at h
      · rename_i he; cases h; exact G.gs _ _ c w hn he hc
      · exact lookG_ok G hg h
    · rename_i hn
      obtain ⟨j, hj, rfl⟩ := idx_map h
      show some (ρ'.getD j .any) = some (ρ.getD i .any)
      rw [G.vs _ _ hj hn]

theorem lookL_ok (G : Good V ρ' A σ ρ) {gd : Option (Nat × Bool)} (hg : GdT ρ gd) : ∀ {ts : List Nat} {xs : List HE}, lookL V σ gd ts = some xs → hevL ρ' A xs = some (ts.map fun t => ρ.getD t .any)
  | [], xs, h => by cases h; simp [hevL]
  | t :: ts, xs, h => by
    simp only [lookL] at h
    split at h
    · rename_i x ys hx hy
      cases h
      simp only [hevL, lookG_ok G hg hx, lookL_ok G hg hy]
      rfl
    · cases h

theorem mem_temps {op : IOp} {i : Nat} : i ∈ tempsOf op ↔ Opd.t i ∈ op.opds := by
  unfold tempsOf
  rw [List.mem_eraseDups, List.mem_filterMap]
  constructor
  · rintro ⟨x, hx, e⟩
    cases x with
    | t j => cases e; exact hx
    | c v => cases e
  · intro h; exact ⟨_, h, rfl⟩

theorem reIdx_ok {op : IOp} : ∀ x ∈ op.opds, x.get ρ = (reIdx (tempsOf op) x).get ((tempsOf op).map fun t => ρ.getD t .any) := by
  intro x hx
  cases x with
  | c a => rfl
  | t i =>
    have hm := mem_temps.2 hx
    have hlt := List.idxOf_lt_length_iff.2 hm
    simp only [reIdx, Opd.get, List.getD]
    rw [List.getElem?_map, List.getElem?_eq_getElem hlt]
    simp [List.getElem_idxOf hlt]

theorem genE_ok (G : Good V ρ' A σ ρ) {gd : Option (Nat × Bool)} (hg : GdT ρ gd) {op : IOp} {x : HE} (h : genE V σ gd op = some x) {v : AV} (hv : hev ρ' A x = some v) : vstep ρ A op = some v := by
  unfold genE at h
  cases hl : lookL V σ gd (tempsOf op) with
  | none => rw [hl] at h; cases h
  | some xs =>
    rw [hl] at h; cases h
    simp only [hev, lookL_ok G hg hl] at hv
    rw [vstep_mapO reIdx_ok]
    exact hv

theorem mkE_ok (G : Good V ρ' A σ ρ) {gd : Option (Nat × Bool)} (hg : GdT ρ gd) {op : IOp} {x : HE} (h : mkE V σ gd op = some x) {v : AV} (hv : hev ρ' A x = some v) : vstep ρ A op = some v := by
  unfold mkE at h
  split at h
  · rename_i y
    rw [lookG_ok G hg h] at hv
    cases hv
    rfl
  · rename_i c a b
    split at h
    · rename_i c' a' b' hc ha hb
      cases h
      have h1 := lookG_ok G hg hc
      simp only [hev, h1] at hv
      split at hv
      · rename_i he
        have he' : ρ.getD c .any = .bool true := by simpa [Opd.get] using he
        have := lookP_ok G hg he' ha
        rw [this] at hv
        cases hv
        have he2 : (Opd.t c).get ρ = .bool true := he'
        simp only [vstep, nstep, he2, cond_true]
      · rename_i he
        have he' : ρ.getD c .any = .bool false := by simpa [Opd.get] using he
        have := lookP_ok G hg he' hb
        rw [this] at hv
        cases hv
        have he2 : (Opd.t c).get ρ = .bool false := he'
        simp only [vstep, nstep, he2, cond_false]
      · cases hv
    · cases h
  · exact genE_ok G hg h hv

theorem entOf_cons {n : Ent} {i : Nat} : entOf (n :: σ) i = if n.t = i then some n else entOf σ i := by
  unfold entOf
  rw [List.find?_cons]
  by_cases h : n.t = i
  · simp [h]
  · have : (n.t == i) = false := by simpa using h
    rw [if_neg h, this]

theorem entOf_mem {i : Nat} {n : Ent} (h : entOf σ i = some n) : n ∈ σ ∧ n.t = i := by
  unfold entOf at h
  exact ⟨List.mem_of_find?_eq_some h, by simpa using List.find?_some h⟩

theorem newT_spec {d : Nat} {g : Option (Nat × Bool)} (h : newT σ d g = true) : (∀ i n, entOf σ i = some n → i ≠ d ∧ ∀ t w, n.gd = some (t, w) → t ≠ d) ∧ ∀ t w, g = some (t, w) → t ≠ d := by
  unfold newT at h
  rw [Bool.and_eq_true, List.all_eq_true] at h
  obtain ⟨h1, h2⟩ := h
  refine ⟨fun i n hn => ?_, fun t w hg => ?_⟩
  · obtain ⟨m1, m2⟩ := entOf_mem hn
    have := h1 n m1
    simp only [Bool.and_eq_true, bne_iff_ne, ne_eq] at this
    refine ⟨fun e => this.1 (m2.trans e), fun t w hg e => this.2 ?_⟩
    rw [hg, e]; rfl
  · intro e
    rw [hg, e] at h2
    simp at h2

theorem getD_set_ne {d i : Nat} {v : AV} (h : i ≠ d) : (ρ.set d v).getD i .any = ρ.getD i .any := by
  simp [List.getD, List.getElem?_set_ne (Ne.symm h)]
theorem getD_set_self {d : Nat} {v : AV} (h : d < ρ.length) : (ρ.set d v).getD d .any = v := by
  simp [List.getD, h]

theorem mkEnt_yld (G : Good V ρ' A σ ρ) {o : IOper} {n : Ent} (h : mkEnt V σ o = some n) {v : AV} (hv : hev ρ' A n.e = some v) :
    yld o ρ A = some v ∧ o.dst = some n.t ∧ n.gd = o.guard ∧ (∀ t w, o.guard = some (t, w) → ρ.getD t .any = .bool w → hev ρ' A n.x = some v) := by
  unfold mkEnt at h
  split at h
  · cases h
  rename_i d hd
  split at h
  · rename_i hg
    cases hx : mkE V σ none o.op with
    | none => rw [hx] at h; cases h
    | some x =>
      rw [hx] at h; cases h
      have h1 := mkE_ok G (fun t w h => by cases h) hx hv
      refine ⟨?_, hd, hg.symm, fun t w h => by rw [hg] at h; cases h⟩
      unfold yld; rw [hg]; exact h1
  · rename_i t w hg
    split at h
    · rename_i c x hc hx
      cases h
      have hcv := lookE_ok G hc
      have hv0 := hv
      simp only [hev, hcv] at hv
      have e0 : (Opd.t t).get ρ = ρ.getD t .any := rfl
      rw [e0] at hv
      refine ⟨?_, hd, hg.symm, ?_⟩
      · unfold yld; rw [hg]
        simp only []
        split at hv
        · rename_i b hb
          have hb' := Option.some.inj hb
          rw [hb']
          simp only []
          by_cases hbw : b = w
          · subst hbw
            rw [if_pos rfl] at hv ⊢
            exact mkE_ok G (fun t' w' h => by cases h; exact hb') hx hv
          · rw [if_neg hbw] at hv ⊢; exact hv
        · rename_i vs hb
          have hb' := Option.some.inj hb
          rw [hb']; exact hv
        · cases hv
      · intro t' w' h hw
        rw [hg] at h
        cases h
        rw [hw] at hv
        simpa using hv
    · cases h

/-- One more entry. -/
theorem mkEnt_ok (G : Good V ρ' A σ ρ) {o : IOper} {n : Ent} (h : mkEnt V σ o = some n) (hn : newT σ n.t o.guard = true) (hl : n.t < ρ.length) {v : AV} (hv : hev ρ' A n.e = some v) :
    yld o ρ A = some v ∧ o.dst = some n.t ∧ Good V ρ' A (n :: σ) (ρ.set n.t v) := by
  obtain ⟨h1, h2, hog, hgx⟩ := mkEnt_yld G h hv
  refine ⟨h1, h2, ?_⟩
  obtain ⟨q1, q2⟩ := newT_spec hn
  refine ⟨fun i j hj he => ?_, fun i m hm => ?_, fun i m t w hm hgd hw => ?_⟩
  · rw [entOf_cons] at he
    split at he
    · cases he
    · rename_i hne
      rw [getD_set_ne (fun e => hne e.symm)]
      exact G.vs i j hj he
  · rw [entOf_cons] at hm
    split at hm
    · rename_i hi; cases hm; subst hi; rw [getD_set_self hl]; exact hv
    · rename_i hne
      rw [getD_set_ne (fun e => hne e.symm)]
      exact G.es i m hm
  · rw [entOf_cons] at hm
    split at hm
    · rename_i hi; cases hm; subst hi
      rw [getD_set_self hl]
      rw [hog] at hgd
      rw [getD_set_ne (q2 t w hgd)] at hw
      exact hgx t w hgd hw
    · rename_i hne
      rw [getD_set_ne (fun e => hne e.symm)]
      rw [getD_set_ne ((q1 i m hm).2 t w hgd)] at hw
      exact G.gs i m t w hm hgd hw
end
end Go.SB
end
