/- HcD, put together. Conditions: none. -/
import Derived.Test.YtapoilcpollmpaaNHcC
/- Framework, part HcD: blocks, one behind the other. -/
section
set_option linter.unusedVariables false
set_option linter.unusedSimpArgs false
namespace Go.SB
section
variable {P : Program} {V : List Nat} {N : Nat} {ρ' ρ : List AV} {A : AHeap} {σ : List Ent} {p0 : Nat}

/-- A region's operations in the order in which they are taken; behind an effect, reads that are made again. -/
def seqL (P : Program) (p0 : Nat) : List (IOper × List IOper) → List AV → AHeap → (List AV → AHeap → Prop) → Prop
  | [], ρ, A, K => K ρ A
  | (o, cks) :: os, ρ, A, K => match pureOp o.op with
    | true => (match yld o ρ A with | some v => seqL P p0 os (aput ρ o.dst v) A K | none => False)
    | false => awpG P p0 o ρ A fun ρ' A' => (∀ c ∈ cks, ∃ d, c.dst = some d ∧ yld c ρ' A' = some (ρ'.getD d .any)) ∧ seqL P p0 os ρ' A' K

theorem hRq_suc {X : Prop} : ∀ {es : List HE}, hRq ρ' A es X → (∀ e ∈ es, Suc ρ' A e) ∧ X
  | [], h => ⟨by simp, h⟩
  | e :: es, h => by
    obtain ⟨v, hv, h⟩ := h
    obtain ⟨h1, h2⟩ := hRq_suc h
    refine ⟨fun x hx => ?_, h2⟩
    rcases List.mem_cons.1 hx with rfl | hx
    · exact ⟨v, hv⟩
    · exact h1 x hx

theorem hAs_suc {K : List AV → Prop} : ∀ {as : List (Nat × HE)} {ρ1 : List AV}, hAs ρ' A as ρ1 K → (∀ p ∈ as, Suc ρ' A p.2) ∧ ∃ ρ2, K ρ2 ∧ ρ2.length = ρ1.length ∧ (∀ k, (∀ p ∈ as, p.1 ≠ k) → ρ2.getD k .any = ρ1.getD k .any) ∧
    (∀ k v, k < ρ1.length → (∃ p ∈ as, p.1 = k) → (∀ p ∈ as, p.1 = k → hev ρ' A p.2 = some v) → ρ2.getD k .any = v)
  | [], ρ1, h => ⟨by simp, ρ1, h, rfl, fun _ _ => rfl, fun k v _ h => by simp at h⟩
  | (j, e) :: as, ρ1, h => by
    obtain ⟨v, hv, h⟩ := h
    obtain ⟨h1, ρ2, hk, hl, hn, hy⟩ := hAs_suc h
    refine ⟨fun x hx => ?_, ρ2, hk, by simpa using hl, fun k hk => ?_, fun k u hlt hex hall => ?_⟩
    · rcases List.mem_cons.1 hx with rfl | hx
      · exact ⟨v, hv⟩
      · exact h1 x hx
    · rw [hn k (fun p hp => hk p (List.mem_cons_of_mem _ hp))]
      exact getD_set_ne (fun e' => hk (j, e) (by simp) e'.symm)
    · by_cases hin : ∃ p ∈ as, p.1 = k
      · exact hy k u (by simpa using hlt) hin (fun p hp => hall p (List.mem_cons_of_mem _ hp))
      · rw [hn k (fun p hp e => hin ⟨p, hp, e⟩)]
        obtain ⟨p, hp, e⟩ := hex
        rcases List.mem_cons.1 hp with rfl | hp
        · subst e
          have := hall (j, _) (by simp) rfl
          rw [hv] at this; cases this
          exact getD_set_self hlt
        · exact absurd ⟨p, hp, e⟩ hin

theorem mem_asOf {p : Nat × HE} : p ∈ asOf V σ ↔ ∃ t n, V[p.1]? = some t ∧ entOf σ t = some n ∧ p.2 = n.e := by
  unfold asOf
  rw [List.mem_filterMap]
  constructor
  · rintro ⟨⟨t, j⟩, hm, he⟩
    rw [List.mem_zipIdx_iff_getElem?] at hm
    simp only [] at hm he
    cases hn : entOf σ t with
    | none => rw [hn] at he; cases he
    | some n => rw [hn] at he; cases he; exact ⟨t, n, hm, hn, rfl⟩
  · rintro ⟨t, n, h1, h2, h3⟩
    refine ⟨(t, p.1), List.mem_zipIdx_iff_getElem?.2 h1, ?_⟩
    simp only [h2, Option.map_some, ← h3]

theorem idxOf_getElem {t j : Nat} (h : V.idxOf? t = some j) : V[j]? = some t := by
  rw [List.idxOf?, List.findIdx?_eq_some_iff_getElem] at h
  obtain ⟨h1, h2, _⟩ := h
  rw [List.getElem?_eq_getElem h1]
  simpa using h2
theorem getElem_idxOf (hV : V.Nodup) {t j : Nat} (h : V[j]? = some t) : V.idxOf? t = some j := by
  obtain ⟨hlt, he⟩ := List.getElem?_eq_some_iff.1 h
  rw [List.idxOf?, List.findIdx?_eq_some_iff_getElem]
  refine ⟨hlt, by simpa using he, fun k hk => ?_⟩
  have hne : V[k] ≠ V[j] := List.pairwise_iff_getElem.1 hV k j (by omega) hlt hk
  rw [← he]; simpa using hne

theorem list_ext_getD {a b : List AV} (hl : a.length = b.length) (h : ∀ k, k < b.length → a.getD k .any = b.getD k .any) : a = b := by
  refine List.ext_getElem hl fun k h1 h2 => ?_
  have := h k h2
  simp only [List.getD, List.getElem?_eq_getElem h1, List.getElem?_eq_getElem h2, Option.getD_some] at this
  exact this

/-- What a block sets. -/
theorem hAs_gather (G : Good V ρ' A σ ρ) (hV : V.Nodup) (hl : ρ'.length = V.length) {K : List AV → Prop} (h : hAs ρ' A (asOf V σ) ρ' K) : K (gather V ρ) := by
  obtain ⟨h1, ρ2, hk, hl2, hn, hy⟩ := hAs_suc h
  have : ρ2 = gather V ρ := by
    refine list_ext_getD (by rw [hl2, hl]; simp [gather]) fun k hkl => ?_
    have hkV : k < V.length := by simpa [gather] using hkl
    obtain ⟨t, ht⟩ : ∃ t, V[k]? = some t := ⟨_, List.getElem?_eq_getElem hkV⟩
    have hidx := getElem_idxOf hV ht
    rw [gather_getD hidx]
    cases he : entOf σ t with
    | none =>
      rw [hn k ?_, G.vs t k hidx he]
      intro p hp e
      obtain ⟨t', n, q1, q2, q3⟩ := mem_asOf.1 hp
      rw [e, ht] at q1; cases q1
      rw [he] at q2; cases q2
    | some n =>
      refine hy k _ (by omega) ⟨(k, n.e), mem_asOf.2 ⟨t, n, ht, he, rfl⟩, rfl⟩ fun p hp e => ?_
      obtain ⟨t', n', q1, q2, q3⟩ := mem_asOf.1 hp
      rw [e, ht] at q1; cases q1
      rw [he] at q2; cases q2
      rw [q3]
      exact G.es t n he
  rw [← this]; exact hk

/-- All that is not told to be needed elsewhere has a value, so all has. -/
def Inv (ρ' : List AV) (A : AHeap) (σ : List Ent) (D : List Nat) : Prop := (∀ i n, entOf σ i = some n → i ∉ D → Suc ρ' A n.e) → ∀ i n, entOf σ i = some n → Suc ρ' A n.e

theorem str_cons (hS : Str V σ) {o : IOper} {n : Ent} (h : mkEnt V σ o = some n) (hn : newT σ n.t o.guard = true) : Str V (n :: σ) := by
  obtain ⟨q1, q2⟩ := newT_spec hn
  have hlk : ∀ t, t ≠ n.t → lookE V (n :: σ) (.t t) = lookE V σ (.t t) := fun t ht => by
    simp only [lookE, entOf_cons, if_neg (fun e : n.t = t => ht e.symm)]
  intro i m hm
  rw [entOf_cons] at hm
  split at hm
  · cases hm
    unfold mkEnt at h
    split at h
    · cases h
    split at h
    · cases hx : mkE V σ none o.op with
      | none => rw [hx] at h; cases h
      | some x => rw [hx] at h; cases h; exact ⟨fun _ => rfl, fun t w e => by cases e⟩
    · rename_i t w hg
      split at h
      · rename_i c x hc hx
        cases h
        refine ⟨fun e => (by cases e), fun t' w' e => ?_⟩
        cases e
        exact ⟨c, by rw [hlk t (q2 t w hg)]; exact hc, rfl⟩
      · cases h
  · obtain ⟨h1, h2⟩ := hS i m hm
    refine ⟨h1, fun t w e => ?_⟩
    obtain ⟨c, hc, he⟩ := h2 t w e
    exact ⟨c, by rw [hlk t ((q1 i m hm).2 t w e)]; exact hc, he⟩

theorem inv_cons (hS : Str V σ) {D : List Nat} (hI : Inv ρ' A σ D) {o : IOper} {n : Ent} (h : mkEnt V σ o = some n) (hn : newT σ n.t o.guard = true) (hD : n.t ∉ D) (hd : n.t ∉ dems σ o) :
    Inv ρ' A (n :: σ) ((bif inf n.e then [n.t] else []) ++ dems σ o ++ D) := by
  obtain ⟨q1, q2⟩ := newT_spec hn
  intro H
  have hself : Suc ρ' A n.e := by
    cases hi : inf n.e with
    | true =>
      cases hne : n.e with
      | v j => exact ⟨_, by simp [hev]; rfl⟩
      | c a => exact ⟨_, by simp [hev]; rfl⟩
      | _ => rw [hne] at hi; cases hi
    | false =>
      refine H n.t n (by rw [entOf_cons, if_pos rfl]) ?_
      rw [hi]; simp [hD, hd]
  have hold : ∀ i m, entOf σ i = some m → entOf (n :: σ) i = some m := fun i m hm => by
    rw [entOf_cons, if_neg (fun e => (q1 i m hm).1 e.symm)]; exact hm
  have hall := hI fun i m hm hi => by
    by_cases hdi : i ∈ dems σ o
    · exact mkEnt_suc hS h hself hdi hm
    · refine H i m (hold i m hm) ?_
      have := (q1 i m hm).1
      simp only [List.mem_append, not_or]
      refine ⟨⟨?_, hdi⟩, hi⟩
      cases inf n.e <;> simp [this]
  intro i m hm
  rw [entOf_cons] at hm
  split at hm
  · cases hm; exact hself
  · exact hall i m hm

theorem rq_one {D : List Nat} (h1 : ∀ e ∈ rqOf V σ D, Suc ρ' A e) (h2 : ∀ p ∈ asOf V σ, Suc ρ' A p.2) : ∀ i n, entOf σ i = some n → i ∉ D → Suc ρ' A n.e := by
  intro i n hn hi
  by_cases hv : i ∈ V
  · obtain ⟨j, hj⟩ := List.mem_iff_getElem?.1 hv
    exact h2 (j, n.e) (mem_asOf.2 ⟨i, n, hj, hn, rfl⟩)
  · obtain ⟨m1, m2⟩ := entOf_mem hn
    subst m2
    refine h1 n.e ?_
    unfold rqOf
    rw [List.mem_map]
    exact ⟨n, List.mem_filter.2 ⟨m1, by simp [hi, hv]⟩, rfl⟩

theorem mkF_suc (hS : Str V σ) {o : IOper} {cks : List IOper} {f : HF} (hp : pureOp o.op = false) (h : mkF V σ o cks = some f) {ρ1 : List AV} {K : List AV → AHeap → Prop} (hf : hEf P p0 f ρ' ρ1 A K) {i : Nat} (hi : i ∈ dems σ o) {m : Ent} (hm : entOf σ i = some m) : Suc ρ' A m.e := by
  have hdo : demOp σ o = demG σ o.guard (tempsOf o.op) := by
    unfold demOp
    split
    · rename_i x hop; rw [hop] at hp; cases hp
    · rename_i c a b hop; rw [hop] at hp; cases hp
    · rfl
  unfold dems at hi
  rw [hdo] at hi
  unfold mkF at h
  split at h
  · rename_i xs ck hxs hck
    split at h
    · rename_i hg
      cases h
      rw [hg] at hi hxs
      simp only [List.nil_append, demG_mem] at hi
      simp only [hEf] at hf
      obtain ⟨vs, hvs, _⟩ := hf
      obtain ⟨n, hn, hgd⟩ := hasGd_spec hi.2
      rw [hm] at hn; cases hn
      simpa [Ent.y] using lookL_suc hxs ⟨vs, hvs⟩ i hi.1 hi.2 m hm
    · rename_i t w hg
      split at h
      · rename_i c hc
        cases h
        rw [hg] at hi hxs
        simp only [List.mem_append] at hi
        simp only [hEf] at hf
        obtain ⟨g, hgv, hf⟩ := hf
        rcases hi with hi | hi
        · split at hi
          · rename_i n' hn'
            simp only [List.mem_cons, List.not_mem_nil, or_false] at hi
            subst hi
            rw [hm] at hn'; cases hn'
            simp only [lookE, hm, Option.some.injEq] at hc
            rw [hc]; exact ⟨_, hgv⟩
          · cases hi
        · rw [demG_mem] at hi
          obtain ⟨n, hn, hgd⟩ := hasGd_spec hi.2
          rw [hm] at hn; cases hn
          obtain ⟨_, h2⟩ := hS i m hm
          obtain ⟨c', hc', hme⟩ := h2 t w hgd
          rw [hc] at hc'; cases hc'
          rw [hme, suc_g]
          unfold awpGd at hf
          split at hf
          · rename_i b
            refine .inl ⟨b, hgv, fun e => ?_⟩
            obtain ⟨vs, hvs, _⟩ := hf.1 e
            simpa [Ent.y] using lookL_suc hxs ⟨vs, hvs⟩ i hi.1 hi.2 m hm
          · rename_i vs; exact .inr ⟨vs, hgv⟩
          · exact hf.elim
      · cases h
  · cases h

theorem dec_suc : ∀ (os : List (IOper × List IOper)) (σ : List Ent) (D : List Nat) (ss : List HS) (K : List AV → AHeap → Prop), decOps V N os σ D = some ss → Str V σ → Inv ρ' A σ D → hSs P p0 ss ρ' A K → ∀ i n, entOf σ i = some n → Suc ρ' A n.e
  | [], σ, D, ss, K, h, hS, hI, hs => by
    simp only [decOps] at h
    cases σ with
    | nil => intro i n hn; cases hn
    | cons n σ =>
      cases h
      obtain ⟨h1, h2⟩ := hRq_suc hs
      exact hI (rq_one h1 (hAs_suc h2).1)
  | (o, cks) :: os, σ, D, ss, K, h, hS, hI, hs => by
    simp only [decOps] at h
    split at h
    · split at h
      · rename_i n hn
        cases hc : (newT σ n.t o.guard && Nat.blt n.t N && !D.contains n.t && !(dems σ o).contains n.t) with
        | false => rw [hc] at h; cases h
        | true =>
          rw [hc] at h
          simp only [cond_true] at h
          simp only [Bool.and_eq_true, Bool.not_eq_true', List.contains_eq_mem, decide_eq_false_iff_not] at hc
          obtain ⟨⟨⟨c1, c2⟩, c3⟩, c4⟩ := hc
          have := dec_suc os (n :: σ) _ ss K h (str_cons hS hn c1) (inv_cons hS hI hn c1 c3 c4) hs
          intro i m hm
          refine this i m ?_
          rw [entOf_cons, if_neg (fun e => ((newT_spec c1).1 i m hm).1 e.symm)]; exact hm
      · cases h
    · rename_i hpo
      split at h
      · rename_i f hf
        cases hc : dstOk o N with
        | false => rw [hc] at h; cases h
        | true =>
          rw [hc] at h
          simp only [cond_true] at h
          split at h
          · rename_i ss' hss
            cases h
            obtain ⟨h1, h2⟩ := hRq_suc hs
            obtain ⟨h3, ρ2, h4, _⟩ := hAs_suc h2
            refine hI fun i n hn hi => ?_
            by_cases hd : i ∈ dems σ o
            · exact mkF_suc hS (by simpa using hpo) hf (show hEf P p0 f ρ' ρ2 A (fun ρ' A' => hSs P p0 ss' ρ' A' K) from h4) hd hn
            · exact rq_one h1 h3 i n hn (by simp [hd, hi])
          · cases h
      · cases h
end
end Go.SB
end
