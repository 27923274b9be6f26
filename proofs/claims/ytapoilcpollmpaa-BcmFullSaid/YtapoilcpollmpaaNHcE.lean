/- HcE, put together. Conditions: none. -/
import Derived.Test.YtapoilcpollmpaaNHcD
/- Framework, part HcE: from blocks to regions, and from these to whole functions. -/
section
set_option linter.unusedVariables false
set_option linter.unusedSimpArgs false
namespace Go.SB
section
variable {P : Program} {V : List Nat} {N : Nat} {ρ' ρ : List AV} {A : AHeap} {σ : List Ent} {p0 : Nat}

theorem acallV_mono {fv : AV} {args : List AV} {K K' : AV → AHeap → Prop} (h : ACallV P fv args A K) (hk : ∀ r A', K r A' → K' r A') : ACallV P fv args A K' := by
  unfold ACallV at h ⊢
  split at h
  · exact h.mono hk
  · exact h.elim
theorem hOp_mono {p : Nat} {op : IOp} {vs : List AV} {K K' : AV → AHeap → Prop} (h : hOp P p op vs A K) (hk : ∀ r A', K r A' → K' r A') : hOp P p op vs A K' := by
  unfold hOp at h ⊢
  split at h
  · exact acallV_mono h hk
  · split at h
    · exact hk _ _ h
    · exact h.elim
theorem aput_length {d : Option Nat} {v : AV} : (aput ρ d v).length = ρ.length := by
  cases d <;> simp [aput]
theorem awpG_mono3 {o : IOper} {K K' : List AV → AHeap → Prop} (h : awpG P p0 o ρ A K) (hk : ∀ r A2, K (aput ρ o.dst r) A2 → K' (aput ρ o.dst r) A2) : awpG P p0 o ρ A K' := by
  have hop : awpOp P p0 o ρ A K → awpOp P p0 o ρ A K' := by
    intro h
    unfold awpOp at h ⊢
    split at h
    · exact acallV_mono h fun r A' => hk _ _
    · split at h
      · exact hk _ _ h
      · exact h.elim
  unfold awpG at h ⊢
  split at h
  · exact hop h
  · split at h
    · exact ⟨fun e => hop (h.1 e), fun e => hk _ _ (h.2 e)⟩
    · exact hk _ _ h
    · exact h.elim
theorem awpG_mono2 {o : IOper} {K K' : List AV → AHeap → Prop} (h : awpG P p0 o ρ A K) (hk : ∀ ρ2 A2, ρ2.length = ρ.length → K ρ2 A2 → K' ρ2 A2) : awpG P p0 o ρ A K' :=
  awpG_mono3 h fun _ _ => hk _ _ aput_length
theorem good_nil (hV : V.Nodup) : Good V (gather V ρ) A [] ρ := ⟨fun i j hj _ => gather_getD hj, fun i n h => (by cases h), fun i n t w h => (by cases h)⟩
theorem str_nil : Str V [] := fun i n h => by cases h
theorem inv_nil : Inv ρ' A [] [] := fun _ i n h => by cases h

theorem gather_aput (hV : V.Nodup) {d : Option Nat} {v : AV} (hd : ∀ k, d = some k → k < ρ.length) : gather V (aput ρ d v) = aput (gather V ρ) (d.bind fun d => V.idxOf? d) v := by
  cases d with
  | none => rfl
  | some d =>
    have hdl := hd d rfl
    simp only [Option.bind_some, aput]
    refine list_ext_getD ?_ fun k hk => ?_
    · cases h : V.idxOf? d <;> simp [gather]
    · have hkV : k < V.length := by
        cases h : V.idxOf? d <;> (rw [h] at hk; simpa [gather] using hk)
      obtain ⟨t, ht⟩ : ∃ t, V[k]? = some t := ⟨_, List.getElem?_eq_getElem hkV⟩
      have hidx := getElem_idxOf hV ht
      rw [gather_getD hidx]
      by_cases e : t = d
      · subst e
        rw [hidx]
        simp only []
        rw [getD_set_self hdl, getD_set_self (by simpa [gather] using hkV)]
      · rw [getD_set_ne e]
        cases h : V.idxOf? d with
        | none => simp only []; rw [gather_getD hidx]
        | some j =>
          simp only []
          have hkj : k ≠ j := fun e2 => by
            have := idxOf_getElem h
            rw [← e2, ht] at this; cases this; exact e rfl
          rw [getD_set_ne hkj, gather_getD hidx]

theorem ck_ok (hV : V.Nodup) {K : Prop} : ∀ {cks : List IOper} {ck : List (HE × Nat)}, ckOf V cks = some ck → hCk (gather V ρ) A ck K → (∀ c ∈ cks, ∃ d, c.dst = some d ∧ yld c ρ A = some (ρ.getD d .any)) ∧ K
  | [], ck, h, hk => by cases h; exact ⟨by simp, hk⟩
  | c :: cks, ck, h, hk => by
    simp only [ckOf] at h
    split at h
    · rename_i n l hn hl
      split at h
      · rename_i j hj
        cases h
        obtain ⟨h1, h2⟩ := hk
        obtain ⟨q1, q2⟩ := ck_ok hV hl h2
        refine ⟨fun x hx => ?_, q2⟩
        rcases List.mem_cons.1 hx with rfl | hx
        · rw [gather_getD hj] at h1
          obtain ⟨y1, y2, _⟩ := mkEnt_yld (good_nil hV) hn h1
          exact ⟨n.t, y2, y1⟩
        · exact q1 x hx
      · cases h
    · cases h

theorem mkF_ok (G : Good V ρ' A σ ρ) (hV : V.Nodup) {o : IOper} {cks : List IOper} {f : HF} (h : mkF V σ o cks = some f) (hd : ∀ k, o.dst = some k → k < ρ.length) {K : List AV → AHeap → Prop}
    (hf : hEf P p0 f ρ' (gather V ρ) A K) : awpG P p0 o ρ A fun ρ2 A2 => (∀ c ∈ cks, ∃ d, c.dst = some d ∧ yld c ρ2 A2 = some (ρ2.getD d .any)) ∧ K (gather V ρ2) A2 := by
  unfold mkF at h
  split at h
  · rename_i xs ck hxs hck
    split at h
    · rename_i hg
      cases h
      simp only [hEf] at hf
      obtain ⟨vs, hvs, hf⟩ := hf
      rw [lookL_ok G (by rw [hg]; exact fun t w h => by cases h) hxs] at hvs
      cases hvs
      unfold awpG
      rw [hg]
      refine awpOp_hOp (hOp_mapO reIdx_ok ?_)
      refine hOp_mono hf fun r A' hk => ?_
      rw [← gather_aput hV hd] at hk
      exact ck_ok hV hck hk
    · rename_i t w hg
      split at h
      · rename_i c hc
        cases h
        simp only [hEf] at hf
        obtain ⟨g, hgv, hf⟩ := hf
        rw [lookE_ok G hc] at hgv
        have e0 : (Opd.t t).get ρ = ρ.getD t .any := rfl
        rw [e0] at hgv
        cases hgv
        unfold awpG
        rw [hg]
        unfold awpGd at hf
        have skip : hCk (aput (gather V ρ) (o.dst.bind fun d => V.idxOf? d) (.tup [])) A ck (K (aput (gather V ρ) (o.dst.bind fun d => V.idxOf? d) (.tup [])) A) →
            (∀ c ∈ cks, ∃ d, c.dst = some d ∧ yld c (aput ρ o.dst (.tup [])) A = some ((aput ρ o.dst (.tup [])).getD d .any)) ∧ K (gather V (aput ρ o.dst (.tup []))) A := by
          intro hk
          rw [← gather_aput hV hd] at hk
          exact ck_ok hV hck hk
        simp only []
        generalize hgv : ρ.getD t .any = gv at hf ⊢
        cases gv with
        | bool b =>
          refine ⟨fun hb => ?_, fun hb => skip (hf.2 hb)⟩
          obtain ⟨vs, hvs, hf⟩ := hf.1 hb
          rw [lookL_ok G (by rw [hg]; exact fun t' w' h => by cases h; rw [hgv, hb]) hxs] at hvs
          cases hvs
          refine awpOp_hOp (hOp_mapO reIdx_ok ?_)
          refine hOp_mono hf fun r A' hk => ?_
          rw [← gather_aput hV hd] at hk
          exact ck_ok hV hck hk
        | tup vs => exact skip hf
        | _ => exact hf.elim
      · cases h
  · cases h

/-- **The blocks do what the operations do.** -/
theorem dec_ok (hV : V.Nodup) : ∀ (os : List (IOper × List IOper)) (σ : List Ent) (D : List Nat) (ss : List HS) (ρ' ρ : List AV) (A : AHeap) (K K' : List AV → AHeap → Prop), decOps V N os σ D = some ss → Str V σ → Inv ρ' A σ D → Good V ρ' A σ ρ →
    ρ'.length = V.length → N ≤ ρ.length → hSs P p0 ss ρ' A K' → (∀ ρ A, N ≤ ρ.length → K' (gather V ρ) A → K ρ A) → seqL P p0 os ρ A K
  | [], σ, D, ss, ρ', ρ, A, K, K', h, hS, hI, G, hl, hN, hs, hk => by
    simp only [decOps] at h
    cases σ with
    | nil =>
      cases h
      refine hk ρ A hN ?_
      have : gather V ρ = ρ' := list_ext_getD (by simp [gather, hl]) fun k hkl => by
        have hkV : k < V.length := by omega
        obtain ⟨t, ht⟩ : ∃ t, V[k]? = some t := ⟨_, List.getElem?_eq_getElem hkV⟩
        have hidx := getElem_idxOf hV ht
        rw [gather_getD hidx, G.vs t k hidx rfl]
      rw [this]; exact hs
    | cons n σ =>
      cases h
      exact hk ρ A hN (hAs_gather G hV hl (K := fun ρ1 => K' ρ1 A) (hRq_suc hs).2)
  | (o, cks) :: os, σ, D, ss, ρ', ρ, A, K, K', h, hS, hI, G, hl, hN, hs, hk => by
    have h0 := h
    simp only [decOps] at h
    simp only [seqL]
    split at h
    · rename_i hpo
      split at h
      · rename_i n hn
        cases hc : (newT σ n.t o.guard && Nat.blt n.t N && !D.contains n.t && !(dems σ o).contains n.t) with
        | false => rw [hc] at h; cases h
        | true =>
          rw [hc] at h
          simp only [cond_true] at h
          simp only [Bool.and_eq_true, Bool.not_eq_true', List.contains_eq_mem, decide_eq_false_iff_not] at hc
          obtain ⟨⟨⟨c1, c2⟩, c3⟩, c4⟩ := hc
          have hlt : n.t < ρ.length := Nat.lt_of_lt_of_le (by simpa [Nat.blt_eq] using c2) hN
          have hS' := str_cons hS hn c1
          have hI' := inv_cons hS hI hn c1 c3 c4
          obtain ⟨v, hv⟩ := dec_suc os (n :: σ) _ ss K' h hS' hI' hs n.t n (by rw [entOf_cons, if_pos rfl])
          obtain ⟨hy, hd, G'⟩ := mkEnt_ok G hn c1 hlt hv
          rw [hpo]
          simp only [hy, hd, aput]
          exact dec_ok hV os (n :: σ) _ ss ρ' _ A K K' h hS' hI' G' hl (by simpa using hN) hs hk
      · cases h
    · rename_i hpo
      split at h
      · rename_i f hf
        cases hc : dstOk o N with
        | false => rw [hc] at h; cases h
        | true =>
          rw [hc] at h
          simp only [cond_true] at h
          split at h
          · rename_i ss' hss
            cases h
            have hpo' : pureOp o.op = false := by simpa using hpo
            rw [hpo']
            simp only []
            have hf' := hAs_gather G hV hl (K := fun ρ1 => hEf P p0 f ρ' ρ1 A fun ρ' A' => hSs P p0 ss' ρ' A' K') (hRq_suc hs).2
            have hd : ∀ k, o.dst = some k → k < ρ.length := fun k hk => by
              unfold dstOk at hc
              rw [hk] at hc
              exact Nat.lt_of_lt_of_le (by simpa [Nat.blt_eq] using hc) hN
            refine awpG_mono2 (mkF_ok G hV hf hd hf') fun ρ2 A2 hl2 ⟨h1, h2⟩ => ⟨h1, ?_⟩
            exact dec_ok hV os [] [] ss' _ ρ2 A2 K K' hss str_nil inv_nil (good_nil hV) (by simp [gather]) (by rw [hl2]; exact hN) h2 hk
          · cases h
      · cases h
end
end Go.SB
end
