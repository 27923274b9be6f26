/- The plain law of mailboxes: what box keeps and what the document keeps go together. Conditions: none. -/
import Derived.Test.YtkkccabchhnebaaB1J
namespace Go.Proofs.Ytkkccabchhnebaa
open Go.SB
set_option maxRecDepth 100000
set_option maxHeartbeats 4000000
set_option linter.unusedSimpArgs false
set_option linter.unusedVariables false

/-- Since when a mailbox has been ready. -/
def sinceOf (cs : List Cl) (k : Int) : Int := match cs[k.toNat]? with | some c => c.since | none => 0
def stOf (cs : List Cl) (k : Int) : Int := match cs[k.toNat]? with | some c => c.st | none => 0
/-- What both keep: mailboxes, those that are ready in order, those that have ended in order. -/
structure Inv (cs : List Cl) (os es : List Int) (puts : Int) : Prop where
  len : 1 ≤ cs.length ∧ cs.length ≤ 1000
  puts0 : 0 ≤ puts
  osIn : InB cs os
  esIn : InB cs es
  ready : ∀ k : Nat, ((k : Int) ∈ os ↔ ∃ c, cs[k]? = some c ∧ c.st = 1)
  sorted : os.Pairwise fun a b => sinceOf cs a < sinceOf cs b
  before : ∀ k ∈ os, sinceOf cs k < puts
  ended : ∀ k ∈ es, stOf cs k ≠ 0 ∧ stOf cs k ≠ 1
  once : es.Nodup

/-- The best of those looked at: none is ahead of it. -/
theorem bestAt_spec (cs : List Cl) : ∀ i, i ≤ cs.length → (bestAt cs i = -1 ∧ ∀ j : Nat, j < i → ∀ c, cs[j]? = some c → c.st ≠ 1) ∨
    (∃ b d, bestAt cs i = (b : Nat) ∧ b < i ∧ cs[b]? = some d ∧ d.st = 1 ∧ ∀ j : Nat, j < i → ∀ c, cs[j]? = some c → c.st = 1 → j ≠ b → aheadB c d = false)
  | 0, _ => .inl ⟨rfl, fun j h => by omega⟩
  | i + 1, h => by
    have hx : cs[i]? = some cs[i] := List.getElem?_eq_getElem (by omega)
    generalize cs[i] = c at hx
    rcases bestAt_spec cs i (by omega) with ⟨h1, h2⟩ | ⟨b, d, h1, h2, h3, h4, h5⟩
    · by_cases hst : c.st = 1
      · refine .inr ⟨i, c, by simp only [bestAt, hx, if_pos hst, h1]; rfl, by omega, hx, hst, fun j hj e he hs hn => absurd hs (h2 j (by omega) e he)⟩
      · refine .inl ⟨by simp only [bestAt, hx, if_neg hst, h1], fun j hj e he => ?_⟩
        rcases Nat.lt_or_eq_of_le (Nat.le_of_lt_succ hj) with hl | rfl
        · exact h2 j hl e he
        · rw [hx] at he; cases he; exact hst
    · by_cases hst : c.st = 1
      · have hnx : bestAt cs (i + 1) = if aheadB c d then (i : Int) else b := by
          simp only [bestAt, hx, if_pos hst, h1, if_neg (show ¬ ((b : Int) < 0) by omega), Int.toNat_natCast, h3]
        by_cases ha : aheadB c d = true
        · refine .inr ⟨i, c, by rw [hnx, if_pos ha], by omega, hx, hst, fun j hj e he hs hn => ?_⟩
          have hj' : j < i := by omega
          by_cases hjb : j = b
          · subst hjb; rw [h3] at he; cases he
            simp only [aheadB, Bool.or_eq_true, Bool.and_eq_true, decide_eq_true_eq] at ha
            simp only [aheadB, Bool.or_eq_false_iff, Bool.and_eq_false_iff, decide_eq_false_iff_not]
            omega
          · have h6 := h5 j hj' e he hs hjb
            simp only [aheadB, Bool.or_eq_true, Bool.and_eq_true, decide_eq_true_eq] at ha
            simp only [aheadB, Bool.or_eq_false_iff, Bool.and_eq_false_iff, decide_eq_false_iff_not] at h6 ⊢
            omega
        · refine .inr ⟨b, d, by rw [hnx, if_neg ha], by omega, h3, h4, fun j hj e he hs hn => ?_⟩
          rcases Nat.lt_or_eq_of_le (Nat.le_of_lt_succ hj) with hl | rfl
          · exact h5 j hl e he hs hn
          · rw [hx] at he; cases he; simpa using ha
      · refine .inr ⟨b, d, by simp only [bestAt, hx, if_neg hst, h1], by omega, h3, h4, fun j hj e he hs hn => ?_⟩
        rcases Nat.lt_or_eq_of_le (Nat.le_of_lt_succ hj) with hl | rfl
        · exact h5 j hl e he hs hn
        · rw [hx] at he; cases he; exact absurd hs hst
/-- The document's best: its key is the least, and of one key it was first. -/
theorem rbAt_spec {cs : List Cl} {os : List Int} (hin : InB cs os) (hs : os.Pairwise fun a b => sinceOf cs a < sinceOf cs b) : ∀ i, i ≤ os.length → (i = 0 ∧ rbAt cs os i = -1) ∨
    (∃ b d, rbAt cs os i = (b : Nat) ∧ (b : Int) ∈ os.take i ∧ cs[b]? = some d ∧ ∀ k : Nat, (k : Int) ∈ os.take i → ∀ c, cs[k]? = some c → k ≠ b → keyR d.pk.fr < keyR c.pk.fr ∨ (keyR d.pk.fr = keyR c.pk.fr ∧ d.since < c.since))
  | 0, _ => .inl ⟨rfl, rfl⟩
  | i + 1, h => by
    have hx : os[i]? = some os[i] := List.getElem?_eq_getElem (by omega)
    generalize hk : os[i] = kk at hx
    have hm : kk ∈ os := List.mem_of_getElem? hx
    obtain ⟨k0, k1⟩ := hin kk hm
    obtain ⟨n, rfl⟩ : ∃ n : Nat, kk = n := ⟨kk.toNat, by omega⟩
    have hc : cs[n]? = some cs[n] := List.getElem?_eq_getElem (by omega)
    generalize cs[n] = c at hc
    have htk : os.take (i + 1) = os.take i ++ [(n : Int)] := by rw [List.take_add_one, hx]; rfl
    have hlt : ∀ x ∈ os.take i, sinceOf cs x < c.since := by
      intro x hxm
      obtain ⟨j, hj, hje⟩ := List.getElem_of_mem hxm
      rw [List.getElem_take] at hje
      rw [List.length_take] at hj
      have := List.pairwise_iff_getElem.1 hs j i (by omega) (by omega) (by omega)
      rw [hje, hk] at this
      simpa [sinceOf, hc] using this
    rcases rbAt_spec hin hs i (by omega) with ⟨rfl, h1⟩ | ⟨b, d, h1, h2, h3, h4⟩
    · refine .inr ⟨n, c, by simp only [rbAt, hx]; rfl, by rw [htk]; simp, hc, fun k hkm e he hne => ?_⟩
      rw [htk] at hkm
      simp at hkm
      omega
    · have hb := hlt b h2
      have hnx : rbAt cs os (i + 1) = if keyR c.pk.fr < keyR d.pk.fr then (n : Int) else b := by
        simp only [rbAt, hx, h1, if_neg (show ¬ ((b : Int) < 0) by omega), Int.toNat_natCast, hc, h3]
      have hds : sinceOf cs b = d.since := by simp [sinceOf, h3]
      by_cases ha : keyR c.pk.fr < keyR d.pk.fr
      · refine .inr ⟨n, c, by rw [hnx, if_pos ha], by rw [htk]; simp, hc, fun k hkm e he hne => ?_⟩
        rw [htk, List.mem_append] at hkm
        rcases hkm with hkm | hkm
        · by_cases hkb : k = b
          · subst hkb; rw [h3] at he; cases he; exact .inl ha
          · have := h4 k hkm e he hkb; omega
        · simp at hkm; omega
      · refine .inr ⟨b, d, by rw [hnx, if_neg ha], by rw [htk]; simp [h2], h3, fun k hkm e he hne => ?_⟩
        rw [htk, List.mem_append] at hkm
        rcases hkm with hkm | hkm
        · exact h4 k hkm e he hne
        · simp at hkm
          obtain rfl : k = n := by omega
          rw [hc] at he; cases he
          omega
theorem best_eq {cs : List Cl} {os es : List Int} {puts : Int} (I : Inv cs os es puts) : bestAt cs cs.length = rbAt cs os os.length := by
  rcases bestAt_spec cs cs.length (Nat.le_refl _) with ⟨h1, h2⟩ | ⟨b, d, h1, h2, h3, h4, h5⟩
  · rcases rbAt_spec I.osIn I.sorted os.length (Nat.le_refl _) with ⟨_, g1⟩ | ⟨b, d, g1, g2, g3, g4⟩
    · rw [h1, g1]
    · exfalso
      rw [List.take_length] at g2
      obtain ⟨c, hc, hst⟩ := (I.ready b).1 g2
      exact h2 b (List.getElem?_eq_some_iff.1 hc).1 c hc hst
  · rcases rbAt_spec I.osIn I.sorted os.length (Nat.le_refl _) with ⟨g0, g1⟩ | ⟨b', d', g1, g2, g3, g4⟩
    · exfalso
      have : (b : Int) ∈ os := (I.ready b).2 ⟨d, h3, h4⟩
      rw [List.length_eq_zero_iff.1 g0] at this
      simp at this
    · rw [List.take_length] at g2 g4
      obtain ⟨c, hc, hst⟩ := (I.ready b').1 g2
      have hcd : c = d' := by rw [hc] at g3; exact Option.some.inj g3
      subst hcd
      by_cases e : b = b'
      · rw [h1, g1, e]
      · exfalso
        have a1 := h5 b' (List.getElem?_eq_some_iff.1 hc).1 c hc hst (Ne.symm e)
        have a2 := g4 b ((I.ready b).2 ⟨d, h3, h4⟩) d h3 e
        simp only [aheadB, Bool.or_eq_false_iff, Bool.and_eq_false_iff, decide_eq_false_iff_not] at a1
        omega

theorem sinceOf_set {cs : List Cl} {k : Nat} {x : Cl} {j : Int} (hj : 0 ≤ j) (hne : j ≠ k) : sinceOf (cs.set k x) j = sinceOf cs j := by
  unfold sinceOf
  rw [List.getElem?_set_ne (by omega)]
theorem stOf_set {cs : List Cl} {k : Nat} {x : Cl} {j : Int} (hj : 0 ≤ j) (hne : j ≠ k) : stOf (cs.set k x) j = stOf cs j := by
  unfold stOf
  rw [List.getElem?_set_ne (by omega)]
theorem inv_new (m : Int) : Inv (List.replicate (manyN m) cl0) [] [] 0 where
  len := by rw [List.length_replicate]; exact manyN_le m
  puts0 := by decide
  osIn := fun k h => by cases h
  esIn := fun k h => by cases h
  ready k := by
    refine ⟨fun h => by (cases h), fun ⟨c, hc, hs⟩ => ?_⟩
    rw [List.getElem?_replicate] at hc
    split at hc
    · cases hc; exact absurd hs (by decide)
    · cases hc
  sorted := List.Pairwise.nil
  before := fun k h => by cases h
  ended := fun k h => by cases h
  once := List.nodup_nil
theorem inv_put {cs : List Cl} {os es : List Int} {puts : Int} (I : Inv cs os es puts) (p : Pk) {k : Nat} (hf : freeAt cs 0 = some k) : Inv (cs.set k ⟨1, p, puts⟩) (os ++ [(k : Int)]) es (puts + 1) := by
  obtain ⟨_, c, hc, hst⟩ := freeAt_some hf
  rw [Nat.sub_zero] at hc
  have hk : k < cs.length := (List.getElem?_eq_some_iff.1 hc).1
  have hno : (k : Int) ∉ os := fun h => by
    obtain ⟨d, hd, hs⟩ := (I.ready k).1 h
    rw [hc] at hd; cases hd; omega
  have hne : (k : Int) ∉ es := fun h => by
    have := (I.ended k h).1
    simp [stOf, hc] at this; exact this hst
  have hos : ∀ j ∈ os, sinceOf (cs.set k ⟨1, p, puts⟩) j = sinceOf cs j := fun j hj => sinceOf_set (I.osIn j hj).1 (fun e => hno (e ▸ hj))
  have hkk : sinceOf (cs.set k ⟨1, p, puts⟩) k = puts := by simp [sinceOf, hk]
  refine ⟨by simpa using I.len, by have := I.puts0; omega, ?_, ?_, ?_, ?_, ?_, ?_, I.once⟩
  · intro j hj
    rw [List.length_set]
    rcases List.mem_append.1 hj with h | h
    · exact I.osIn j h
    · rw [List.mem_singleton.1 h]; omega
  · intro j hj; rw [List.length_set]; exact I.esIn j hj
  · intro j
    by_cases e : j = k
    · subst e; simp [hk]
    · rw [List.getElem?_set_ne (Ne.symm e), ← I.ready j]
      simp; omega
  · rw [List.pairwise_append]
    refine ⟨I.sorted.imp_of_mem ?_, by simp, ?_⟩
    · intro a b ha hb h; rw [hos a ha, hos b hb]; exact h
    · intro a ha b hb
      rw [List.mem_singleton.1 hb, hos a ha, hkk]; exact I.before a ha
  · intro j hj
    rcases List.mem_append.1 hj with h | h
    · rw [hos j h]; have := I.before j h; omega
    · rw [List.mem_singleton.1 h, hkk]; omega
  · intro j hj
    rw [stOf_set (I.esIn j hj).1 (fun e => hne (e ▸ hj))]
    exact I.ended j hj
theorem inv_end {cs : List Cl} {os es : List Int} {puts : Int} (I : Inv cs os es puts) {i st : Int} (hb : endOk cs i = true) (hs : st ≠ 0 ∧ st ≠ 1) : Inv (endC cs i st) (os.filter (fun x => !decide (x = i))) (es ++ [i]) puts := by
  obtain ⟨k, c, rfl, hc, hst⟩ := RPos hb
  have hk : k < cs.length := (List.getElem?_eq_some_iff.1 hc).1
  have hec : endC cs k st = cs.set k ⟨st, c.pk, c.since⟩ := by simp [endC, hc]
  rw [hec]
  have hne : (k : Int) ∉ es := fun h => by
    have := (I.ended k h).2
    simp [stOf, hc] at this; exact this hst
  have hsn : ∀ j, 0 ≤ j → sinceOf (cs.set k ⟨st, c.pk, c.since⟩) j = sinceOf cs j := by
    intro j hj
    by_cases e : j = k
    · subst e
      have hck : cs[k] = c := by rw [List.getElem?_eq_getElem hk] at hc; exact Option.some.inj hc
      simp [sinceOf, hk, hck]
    · exact sinceOf_set hj e
  refine ⟨by simpa using I.len, I.puts0, ?_, ?_, ?_, ?_, ?_, ?_, ?_⟩
  · intro j hj; rw [List.length_set]; exact I.osIn j (List.mem_filter.1 hj).1
  · intro j hj
    rw [List.length_set]
    rcases List.mem_append.1 hj with h | h
    · exact I.esIn j h
    · rw [List.mem_singleton.1 h]; omega
  · intro j
    rw [List.mem_filter]
    by_cases e : j = k
    · subst e; simp [hk, hs.2]
    · rw [List.getElem?_set_ne (Ne.symm e), I.ready j]
      have : ((j : Int) = k) = False := by simp; omega
      simp [this]
  · refine (I.sorted.filter _).imp_of_mem ?_
    intro a b ha hb h
    rw [hsn a (I.osIn a (List.mem_filter.1 ha).1).1, hsn b (I.osIn b (List.mem_filter.1 hb).1).1]; exact h
  · intro j hj
    rw [hsn j (I.osIn j (List.mem_filter.1 hj).1).1]; exact I.before j (List.mem_filter.1 hj).1
  · intro j hj
    rcases List.mem_append.1 hj with h | h
    · rw [stOf_set (I.esIn j h).1 (fun e => hne (e ▸ h))]; exact I.ended j h
    · rw [List.mem_singleton.1 h]; simpa [stOf, hk] using hs
  · rw [List.nodup_append]
    exact ⟨I.once, by simp, fun a ha b hb e => hne (by rw [← List.mem_singleton.1 hb, ← e]; exact ha)⟩
theorem inv_take {cs : List Cl} {os es : List Int} {puts x : Int} (I : Inv cs os (x :: es) puts) : Inv (takeC cs x) os es puts := by
  have hx := I.esIn x (by simp)
  obtain ⟨k, rfl⟩ : ∃ k : Nat, x = k := ⟨x.toNat, by omega⟩
  have hk : k < cs.length := by omega
  have hc : cs[k]? = some cs[k] := List.getElem?_eq_getElem hk
  generalize cs[k] = c at hc
  have he := I.ended k (by simp)
  have hst : c.st ≠ 0 ∧ c.st ≠ 1 := by simpa [stOf, hc] using he
  have hno : (k : Int) ∉ os := fun h => by
    obtain ⟨d, hd, hs⟩ := (I.ready k).1 h
    rw [hc] at hd; cases hd; exact hst.2 hs
  have hne : (k : Int) ∉ es := (List.nodup_cons.1 I.once).1
  unfold takeC
  rw [Int.toNat_natCast]
  refine ⟨by simpa using I.len, I.puts0, ?_, ?_, ?_, ?_, ?_, ?_, (List.nodup_cons.1 I.once).2⟩
  · intro j hj; rw [List.length_set]; exact I.osIn j hj
  · intro j hj; rw [List.length_set]; exact I.esIn j (by simp [hj])
  · intro j
    by_cases e : j = k
    · subst e; simp [hk, hno]
    · rw [List.getElem?_set_ne (Ne.symm e)]; exact I.ready j
  · refine I.sorted.imp_of_mem ?_
    intro a b ha hb h
    rw [sinceOf_set (I.osIn a ha).1 (fun e => hno (e ▸ ha)), sinceOf_set (I.osIn b hb).1 (fun e => hno (e ▸ hb))]; exact h
  · intro j hj; rw [sinceOf_set (I.osIn j hj).1 (fun e => hno (e ▸ hj))]; exact I.before j hj
  · intro j hj; rw [stOf_set (I.esIn j (by simp [hj])).1 (fun e => hne (e ▸ hj))]; exact I.ended j (by simp [hj])
end Go.Proofs.Ytkkccabchhnebaa
