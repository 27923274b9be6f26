/- The plain law of turns: the best of those that are ready come in the order of keys, of one key as they were put. Conditions: none. -/
import Derived.Test.YtkkccabchhnebaaB1K
namespace Go.Proofs.Ytkkccabchhnebaa
open Go.SB
set_option maxRecDepth 100000
set_option linter.unusedSimpArgs false
set_option linter.unusedVariables false

def rdy (c : Cl) : Bool := decide (c.st = 1)
def Apart (cs : List Cl) : Prop := ∀ (j k : Nat) (c d : Cl), cs[j]? = some c → cs[k]? = some d → c.st = 1 → d.st = 1 → j ≠ k → (c.since < d.since ∧ c.pk.tag < d.pk.tag) ∨ (d.since < c.since ∧ d.pk.tag < c.pk.tag)
/-- While packets are put: i were looked at, n were taken. -/
structure Putting (cs : List Cl) (n : Nat) (i : Nat) : Prop where
  len : cs.length = 100
  old : ∀ (k : Nat) (c : Cl), cs[k]? = some c → c.st = 1 → c.since < n ∧ c.pk.tag < i
  apart : Apart cs
  cnt : cs.countP rdy = n
  le : n ≤ i
/-- While packets are sent: so many are left; whichever is left stands behind the last. -/
structure Sending (cs : List Cl) (left : Nat) (last : Pk) (i : Nat) : Prop where
  len : cs.length = 100
  apart : Apart cs
  cnt : cs.countP rdy = left
  behind : i = 0 ∨ ∀ (k : Nat) (c : Cl), cs[k]? = some c → c.st = 1 → keyR last.fr < keyR c.pk.fr ∨ (keyR last.fr = keyR c.pk.fr ∧ last.tag < c.pk.tag)

theorem putting0 : Putting (List.replicate 100 cl0) 0 0 where
  len := by simp
  old k c h hs := by
    rw [List.getElem?_replicate] at h
    split at h
    · cases h; exact absurd hs (by decide)
    · cases h
  apart j k c d h _ hs _ _ := by
    rw [List.getElem?_replicate] at h
    split at h
    · cases h; exact absurd hs (by decide)
    · cases h
  cnt := by decide
  le := by omega
theorem putting_next {cs : List Cl} {n i : Nat} (T : Putting cs n i) : Putting cs n (i + 1) :=
  ⟨T.len, fun k c h hs => ⟨(T.old k c h hs).1, by have := (T.old k c h hs).2; omega⟩, T.apart, T.cnt, by have := T.le; omega⟩
theorem putting_put {cs : List Cl} {n i k : Nat} (T : Putting cs n i) (p : Pk) (hp : p.tag = i) (hf : freeAt cs 0 = some k) : Putting (cs.set k ⟨1, p, n⟩) (n + 1) (i + 1) := by
  obtain ⟨_, c, hc, hst⟩ := freeAt_some hf
  rw [Nat.sub_zero] at hc
  have hk : k < cs.length := (List.getElem?_eq_some_iff.1 hc).1
  have hck : cs[k] = c := by rw [List.getElem?_eq_getElem hk] at hc; exact Option.some.inj hc
  have get : ∀ (j : Nat) (d : Cl), (cs.set k ⟨1, p, n⟩)[j]? = some d → (j = k ∧ d = ⟨1, p, n⟩) ∨ (j ≠ k ∧ cs[j]? = some d) := by
    intro j d h
    by_cases e : j = k
    · subst e
      rw [List.getElem?_set_self hk] at h
      exact .inl ⟨rfl, (Option.some.inj h).symm⟩
    · rw [List.getElem?_set_ne (Ne.symm e)] at h; exact .inr ⟨e, h⟩
  refine ⟨by simpa using T.len, fun j d h hs => ?_, fun j1 j2 c1 c2 h1 h2 s1 s2 hne => ?_, ?_, by have := T.le; omega⟩
  · rcases get j d h with ⟨rfl, rfl⟩ | ⟨e, h⟩
    · exact ⟨by show (n : Int) < ((n + 1 : Nat) : Int); omega, by show p.tag < ((i + 1 : Nat) : Int); omega⟩
    · have := T.old j d h hs; omega
  · rcases get j1 c1 h1 with ⟨q1, rfl⟩ | ⟨e1, g1⟩ <;> rcases get j2 c2 h2 with ⟨q2, rfl⟩ | ⟨e2, g2⟩
    · exact absurd (q1.trans q2.symm) hne
    · have := T.old j2 c2 g2 s2; right; show c2.since < (n : Int) ∧ c2.pk.tag < p.tag; rw [hp]; exact this
    · have := T.old j1 c1 g1 s1; left; show c1.since < (n : Int) ∧ c1.pk.tag < p.tag; rw [hp]; exact this
    · exact T.apart j1 j2 c1 c2 g1 g2 s1 s2 hne
  · rw [List.countP_set hk, hck, T.cnt]
    simp [rdy, hst]
theorem sending0 {cs : List Cl} {n i : Nat} (T : Putting cs n i) (p : Pk) : Sending cs n p 0 := ⟨T.len, T.apart, T.cnt, .inl rfl⟩
theorem sending_best {cs : List Cl} {m i : Nat} {last : Pk} (T : Sending cs (m + 1) last i) : ∃ (b : Nat) (d : Cl), b < 100 ∧ cs[b]? = some d ∧ endOk cs b = true ∧ bestV cs = .tup [.int .i64 b, .agg d.pk.av, .bool true] ∧
    Sending (endC cs b 2) m d.pk (i + 1) ∧ (i = 0 ∨ (¬ keyR d.pk.fr < keyR last.fr ∧ (keyR d.pk.fr = keyR last.fr → ¬ d.pk.tag ≤ last.tag))) := by
  rcases bestAt_spec cs cs.length (Nat.le_refl _) with ⟨h1, h2⟩ | ⟨b, d, h1, h2, h3, h4, h5⟩
  · exfalso
    have : cs.countP rdy = 0 := by
      rw [List.countP_eq_zero]
      intro c hc hr
      obtain ⟨j, hj, rfl⟩ := List.getElem_of_mem hc
      exact h2 j hj _ (List.getElem?_eq_getElem hj) (of_decide_eq_true hr)
    have := T.cnt
    omega
  · have hck : cs[b] = d := by rw [List.getElem?_eq_getElem h2] at h3; exact Option.some.inj h3
    have get : ∀ (j : Nat) (c : Cl), (cs.set b ⟨2, d.pk, d.since⟩)[j]? = some c → c.st = 1 → j ≠ b ∧ cs[j]? = some c := by
      intro j c h hs
      by_cases e : j = b
      · subst e
        rw [List.getElem?_set_self h2] at h
        cases h; simp at hs
      · rw [List.getElem?_set_ne (Ne.symm e)] at h; exact ⟨e, h⟩
    have hec : endC cs b 2 = cs.set b ⟨2, d.pk, d.since⟩ := by simp [endC, h3]
    refine ⟨b, d, by have := T.len; omega, h3, by simp [endOk, h3, h4], by simp only [bestV, h1, Int.toNat_natCast, h3, if_neg (show ¬ ((b : Int) < 0) by omega)], ?_, ?_⟩
    · rw [hec]
      refine ⟨by simpa using T.len, fun j1 j2 c1 c2 g1 g2 s1 s2 hne => T.apart j1 j2 c1 c2 (get _ _ g1 s1).2 (get _ _ g2 s2).2 s1 s2 hne, ?_, .inr fun j c g s => ?_⟩
      · rw [List.countP_set h2, hck, T.cnt]
        simp [rdy, h4]
      · obtain ⟨e, g⟩ := get j c g s
        have a := h5 j (List.getElem?_eq_some_iff.1 g).1 c g s e
        have q := T.apart b j d c h3 g h4 s (Ne.symm e)
        simp only [aheadB, Bool.or_eq_false_iff, Bool.and_eq_false_iff, decide_eq_false_iff_not] at a
        omega
    · rcases T.behind with h | h
      · exact .inl h
      · have := h b d h3 h4
        right
        refine ⟨by omega, fun e => by omega⟩
theorem sending_done {cs : List Cl} {i : Nat} {last : Pk} (T : Sending cs 0 last i) : bestV cs = .tup [.int .i64 0, .agg pk0.av, .bool false] := by
  rcases bestAt_spec cs cs.length (Nat.le_refl _) with ⟨h1, h2⟩ | ⟨b, d, h1, h2, h3, h4, h5⟩
  · unfold bestV
    rw [h1]
    split <;> rfl
  · exfalso
    have : 0 < cs.countP rdy := List.countP_pos_iff.2 ⟨d, List.mem_of_getElem? h3, by simp [rdy, h4]⟩
    have := T.cnt
    omega
end Go.Proofs.Ytkkccabchhnebaa
