/- Framework, part S: a region that draws its order: one order serves all. Conditions: none. -/
import Derived.Test.YtkkccabchhnebaaFwR
set_option linter.unusedVariables false
set_option linter.unusedSimpArgs false
namespace Go.SB

/-- i has not come up yet and all that it waits for has. -/
def isReady (ios : List IOper) (L : List Nat) (i : Nat) : Bool :=
  !L.contains i && (match ios[i]? with | some io => io.pre.all fun p => L.contains p | none => false)

theorem isReady_iff {ios : List IOper} {L : List Nat} {i : Nat} : isReady ios L i = true ↔ i ∉ L ∧ ∃ io, ios[i]? = some io ∧ ∀ p ∈ io.pre, p ∈ L := by
  unfold isReady
  cases h : ios[i]? with
  | none => simp
  | some io => simp

/-- For each operation, as bits, all that it waits for. -/
def ancMasks : List IOper → List Nat → List Nat
  | [], acc => acc
  | io :: r, acc => ancMasks r (acc ++ [io.pre.foldl (fun m p => m ||| (1 <<< p) ||| acc.getD p 0) 0])

/-- j waits for i. -/
def waits (ms : List Nat) (i j : Nat) : Bool := (ms.getD j 0).testBit i

/-- What waits, waits for something that it says. -/
def AncOK (ios : List IOper) (anc : Nat → Nat → Bool) : Prop := ∀ (i j : Nat) (io : IOper), ios[j]? = some io → anc i j = true → ∃ p ∈ io.pre, p = i ∨ (p < j ∧ anc i p = true)

theorem foldl_bit {f : Nat → Nat} {i : Nat} : ∀ (ps : List Nat) (m : Nat), (ps.foldl (fun m p => m ||| (1 <<< p) ||| f p) m).testBit i = true → m.testBit i = true ∨ ∃ p ∈ ps, p = i ∨ (f p).testBit i = true
  | [], m, h => .inl h
  | p :: ps, m, h => by
    rcases foldl_bit ps _ h with h | ⟨q, hq, h⟩
    · simp only [Nat.testBit_or, Bool.or_eq_true] at h
      rcases h with (h | h) | h
      · exact .inl h
      · refine .inr ⟨p, by simp, .inl ?_⟩
        rw [Nat.shiftLeft_eq, Nat.one_mul, Nat.testBit_two_pow] at h
        simpa using h
      · exact .inr ⟨p, by simp, .inr h⟩
    · exact .inr ⟨q, by simp [hq], h⟩

theorem ancMasks_ok : ∀ (ios : List IOper) (acc : List Nat) (i j : Nat), (ancMasks ios acc).length = acc.length + ios.length ∧
    (j < acc.length → (ancMasks ios acc).getD j 0 = acc.getD j 0) ∧
    (∀ io, ios[j - acc.length]? = some io → acc.length ≤ j → ((ancMasks ios acc).getD j 0).testBit i = true → ∃ p ∈ io.pre, p = i ∨ (p < j ∧ ((ancMasks ios acc).getD p 0).testBit i = true))
  | [], acc, i, j => ⟨by simp [ancMasks], fun _ => rfl, fun io h => by simp at h⟩
  | io0 :: r, acc, i, j => by
    have ih := ancMasks_ok r (acc ++ [io0.pre.foldl (fun m p => m ||| (1 <<< p) ||| acc.getD p 0) 0])
    simp only [ancMasks]
    refine ⟨by rw [(ih i j).1]; simp; omega, fun hj => ?_, fun io hio hj hb => ?_⟩
    · rw [(ih i j).2.1 (by simp; omega)]
      simp [List.getD, List.getElem?_append_left hj]
    · by_cases e : j = acc.length
      · subst e
        have hio0 : io0 = io := by simpa using hio
        subst hio0
        rw [(ih i acc.length).2.1 (by simp)] at hb
        simp only [List.getD, List.getElem?_append_right (Nat.le_refl _), Nat.sub_self, List.getElem?_cons_zero, Option.getD_some] at hb
        rcases foldl_bit _ _ hb with h | ⟨p, hp, h⟩
        · simp at h
        · rcases h with h | h
          · exact ⟨p, hp, .inl h⟩
          · by_cases hlt : p < acc.length
            · refine ⟨p, hp, .inr ⟨hlt, ?_⟩⟩
              rw [(ih i p).2.1 (by simp; omega)]
              simpa [List.getD, List.getElem?_append_left hlt] using h
            · exfalso
              have hn : acc[p]? = none := List.getElem?_eq_none (by omega)
              simp [hn] at h
      · have := (ih i j).2.2 io (by
          rw [show j - acc.length = (j - (acc.length + 1)) + 1 by omega] at hio
          simpa using hio) (by simp; omega) hb
        exact this

theorem anc_ok (ios : List IOper) : AncOK ios (waits (ancMasks ios [])) := by
  intro i j io hj h
  exact (ancMasks_ok ios [] i j).2.2 io (by simpa using hj) (by simp) h

def ClosedL (ios : List IOper) (L : List Nat) : Prop := ∀ (j : Nat) (io : IOper), ios[j]? = some io → j ∈ L → ∀ p ∈ io.pre, p ∈ L

section
variable {P : Program} {p0 : Nat} {ios : List IOper} {anc : Nat → Nat → Bool}

theorem ClosedL.cons {L : List Nat} {i : Nat} (h : ClosedL ios L) (hi : isReady ios L i = true) : ClosedL ios (i :: L) := by
  obtain ⟨_, io, hio, hall⟩ := isReady_iff.1 hi
  intro j oj hj hm p hp
  rcases List.mem_cons.1 hm with rfl | hm
  · rw [hio] at hj; cases hj; exact List.mem_cons_of_mem _ (hall p hp)
  · exact List.mem_cons_of_mem _ (h j oj hj hm p hp)

/-- What has come up: all that it waits for has. -/
theorem anc_mem (ha : AncOK ios anc) {L : List Nat} (hc : ClosedL ios L) {i : Nat} : ∀ (n j : Nat), j ≤ n → ∀ io, ios[j]? = some io → anc i j = true → (∀ p ∈ io.pre, p ∈ L) → i ∈ L := by
  intro n
  induction n with
  | zero =>
    intro j hj io hio h hall
    obtain ⟨p, hp, h | ⟨hlt, h⟩⟩ := ha i j io hio h
    · subst h; exact hall _ hp
    · omega
  | succ n ih =>
    intro j hj io hio h hall
    obtain ⟨p, hp, h | ⟨hlt, h⟩⟩ := ha i j io hio h
    · subst h; exact hall _ hp
    · have hpL := hall p hp
      cases hpi : ios[p]? with
      | none => exact absurd (List.getElem?_eq_none_iff.1 hpi) (by have := (List.getElem?_eq_some_iff.1 hio).1; omega)
      | some iop => exact ih p (by omega) iop hpi h (hc p iop hpi hpL)

theorem ready_apart (ha : AncOK ios anc) {L : List Nat} (hc : ClosedL ios L) {i j : Nat} (hi : isReady ios L i = true) (hj : isReady ios L j = true) : anc i j = false := by
  obtain ⟨hn, _⟩ := isReady_iff.1 hi
  obtain ⟨_, io, hio, hall⟩ := isReady_iff.1 hj
  cases h : anc i j with
  | false => rfl
  | true => exact absurd (anc_mem ha hc j j (Nat.le_refl _) io hio h hall) hn

abbrev Chk := List (Nat × AV)

/-- Each of what was read earlier than it had to be would be read so still. -/
def chks (ios : List IOper) (anc : Nat → Nat → Bool) (R : Chk) (j : Nat) (ρ : List AV) (A : AHeap) : Prop :=
  match R with
  | [] => True
  | (i, v) :: R => (anc i j = true ∨ ∃ io, ios[i]? = some io ∧ yld io ρ A = some v) ∧ chks ios anc R j ρ A

theorem chks_iff {R : Chk} {j : Nat} {ρ : List AV} {A : AHeap} : chks ios anc R j ρ A ↔ ∀ i v, (i, v) ∈ R → anc i j = false → ∃ io, ios[i]? = some io ∧ yld io ρ A = some v := by
  induction R with
  | nil => simp [chks]
  | cons x R ih =>
    obtain ⟨i, v⟩ := x
    simp only [chks, ih]
    constructor
    · rintro ⟨h, h2⟩ k u hm hf
      rcases List.mem_cons.1 hm with e | hm
      · cases e; rcases h with h | h
        · rw [h] at hf; cases hf
        · exact h
      · exact h2 k u hm hf
    · intro h
      refine ⟨?_, fun k u hm hf => h k u (by simp [hm]) hf⟩
      cases hx : anc i j with
      | true => exact .inl rfl
      | false => exact .inr (h i v (by simp) hx)

def isEff (ios : List IOper) (i : Nat) : Bool := match ios[i]? with | some io => io.op.cls == .eff | none => false

/-- Whatever order is taken from here on; behind every effect the checks hold. -/
def awpAny (P : Program) (p0 : Nat) (ios : List IOper) (anc : Nat → Nat → Bool) (K : List AV → AHeap → Prop) : Nat → Chk → List Nat → List AV → AHeap → Prop
  | 0, R, L, ρ, A => (∀ i, isReady ios L i = false) ∧ K ρ A
  | fuel + 1, R, L, ρ, A => ((∀ i, isReady ios L i = false) → K ρ A) ∧
    ∀ i io, isReady ios L i = true → ios[i]? = some io → awpG P p0 io ρ A fun ρ' A' => (isEff ios i = true → chks ios anc R i ρ' A') ∧ awpAny P p0 ios anc K fuel R (i :: L) ρ' A'

theorem isReady_perm {L L' : List Nat} (h : ∀ x, x ∈ L ↔ x ∈ L') (i : Nat) : isReady ios L i = isReady ios L' i := by
  rw [Bool.eq_iff_iff, isReady_iff, isReady_iff, h]
  simp only [h]

theorem awpAny_perm {K : List AV → AHeap → Prop} : ∀ (fuel : Nat) (R : Chk) (L L' : List Nat) (ρ : List AV) (A : AHeap), (∀ x, x ∈ L ↔ x ∈ L') → awpAny P p0 ios anc K fuel R L ρ A → awpAny P p0 ios anc K fuel R L' ρ A
  | 0, R, L, L', ρ, A, h, H => ⟨fun i => by rw [← isReady_perm h]; exact H.1 i, H.2⟩
  | fuel + 1, R, L, L', ρ, A, h, H => by
    refine ⟨fun hn => H.1 fun i => by rw [isReady_perm h]; exact hn i, fun i io hi hio => ?_⟩
    rw [← isReady_perm h] at hi
    exact awpG_mono (H.2 i io hi hio) fun ρ' A' ⟨h1, h2⟩ => ⟨h1, awpAny_perm fuel R _ _ ρ' A' (fun x => by simp [h x]) h2⟩

theorem awpAny_weaken {K : List AV → AHeap → Prop} {x : Nat × AV} : ∀ (fuel : Nat) (R : Chk) (L : List Nat) (ρ : List AV) (A : AHeap), awpAny P p0 ios anc K fuel (x :: R) L ρ A → awpAny P p0 ios anc K fuel R L ρ A
  | 0, R, L, ρ, A, H => H
  | fuel + 1, R, L, ρ, A, H => ⟨H.1, fun i io hi hio => awpG_mono (H.2 i io hi hio) fun ρ' A' ⟨h1, h2⟩ => ⟨fun e => (h1 e).2, awpAny_weaken fuel R _ ρ' A' h2⟩⟩

/-- Two operations of which neither waits for the other look at nothing that the other sets. -/
structure Apart (x y : IOper) : Prop where
  l : ∀ t, x.dst = some t → t ∉ y.looks
  r : ∀ t, y.dst = some t → t ∉ x.looks
  d : ∀ t, x.dst = some t → y.dst ≠ some t

def ApartAll (ios : List IOper) (anc : Nat → Nat → Bool) : Prop := ∀ (i j : Nat) (x y : IOper), ios[i]? = some x → ios[j]? = some y → i ≠ j → anc i j = false → anc j i = false → Apart x y

/-- What a read looks at is set, in this region, only before it. -/
def ReadsAll (ios : List IOper) (anc : Nat → Nat → Bool) : Prop := ∀ (i j : Nat) (x y : IOper), ios[i]? = some x → ios[j]? = some y → x.op.cls = .read → anc j i = false → ∀ t, y.dst = some t → t ∉ x.looks

/-- The checks are of reads that have been made. -/
def ChkOK (ios : List IOper) (R : Chk) (L : List Nat) : Prop := ∀ i v, (i, v) ∈ R → i ∈ L ∧ ∃ io, ios[i]? = some io ∧ io.op.cls = .read

theorem anc_false (ha : AncOK ios anc) {L : List Nat} (hc : ClosedL ios L) {i k : Nat} (hk : k ∈ L) (hkl : k < ios.length) (hi : i ∉ L) : anc i k = false := by
  cases h : anc i k with
  | false => rfl
  | true =>
    exfalso
    have hio : ios[k]? = some ios[k] := by simp [hkl]
    exact hi (anc_mem ha hc k k (Nat.le_refl _) _ hio h (hc k _ hio hk))

/-- **A read, or an operation that looks into no memory, may be taken first.** -/
theorem awpAny_first (ha : AncOK ios anc) (hap : ApartAll ios anc) (hrd : ReadsAll ios anc) {K : List AV → AHeap → Prop} {i : Nat} {x : IOper} {v : AV} (hi : ios[i]? = some x) {R' : Chk}
    (hcl : x.op.cls = .pure ∧ R' = [] ∨ x.op.cls = .read ∧ R' = [(i, v)]) : ∀ (fuel : Nat) (R : Chk) (L : List Nat) (ρ : List AV) (A : AHeap), ClosedL ios L → ChkOK ios R L →
      isReady ios L i = true → yld x ρ A = some v → awpAny P p0 ios anc K fuel (R' ++ R) (i :: L) (aput ρ x.dst v) A → awpAny P p0 ios anc K (fuel + 1) R L ρ A := by
  have hne : x.op.cls ≠ .eff := by rcases hcl with ⟨h, _⟩ | ⟨h, _⟩ <;> rw [h] <;> decide
  have hneB : isEff ios i = false := by simp [isEff, hi, hne]
  have weak : ∀ (fuel : Nat) (R : Chk) (L : List Nat) (ρ : List AV) (A : AHeap), awpAny P p0 ios anc K fuel (R' ++ R) L ρ A → awpAny P p0 ios anc K fuel R L ρ A := by
    intro fuel R L ρ A h
    rcases hcl with ⟨_, rfl⟩ | ⟨_, rfl⟩
    · exact h
    · exact awpAny_weaken fuel R L ρ A h
  intro fuel
  induction fuel with
  | zero =>
    intro R L ρ A hc hck hr hy H
    refine ⟨fun h => (by rw [h i] at hr; cases hr), fun j y hj hjy => ?_⟩
    by_cases hji : j = i
    · subst hji; rw [hi] at hjy; cases hjy
      exact awpG_yld hy ⟨fun e => absurd e (by rw [hneB]; decide), weak 0 R _ _ _ H⟩
    · have : isReady ios (i :: L) j = true := by
        obtain ⟨h1, io, h2, h3⟩ := isReady_iff.1 hj
        exact isReady_iff.2 ⟨by simp [hji, h1], io, h2, fun p hp => by simp [h3 p hp]⟩
      rw [H.1 j] at this; cases this
  | succ fuel ih =>
    intro R L ρ A hc hck hr hy H
    refine ⟨fun h => (by rw [h i] at hr; cases hr), fun j y hj hjy => ?_⟩
    by_cases hji : j = i
    · subst hji; rw [hi] at hjy; cases hjy
      exact awpG_yld hy ⟨fun e => absurd e (by rw [hneB]; decide), weak _ R _ _ _ H⟩
    · have hj' : isReady ios (i :: L) j = true := by
        obtain ⟨h1, io, h2, h3⟩ := isReady_iff.1 hj
        exact isReady_iff.2 ⟨by simp [hji, h1], io, h2, fun p hp => by simp [h3 p hp]⟩
      have a1 := ready_apart ha hc hr hj
      have a2 := ready_apart ha hc hj hr
      have hA := hap i j x y hi hjy (Ne.symm hji) a1 a2
      have h1 := awpG_stepped (awpG_put hA.l hA.d (H.2 j y hj' hjy))
      refine awpG_mono h1 ?_
      rintro ρ' A' ⟨⟨hchk, hrest⟩, ⟨u, rfl⟩, hmk⟩
      -- what was read is read so still
      have hy' : yld x (aput ρ y.dst u) A' = some v := by
        rw [yld_congr hA.r]
        rcases hcl with ⟨hp, _⟩ | ⟨hp, rfl⟩
        · rw [yld_pure (A := A) hp]; exact hy
        · by_cases he : y.op.cls = .eff
          · have hB : isEff ios j = true := by simp [isEff, hjy, he]
            have hc1 := hchk hB
            obtain ⟨io, h2, h3⟩ := (chks_iff.1 hc1) i v (by simp) a1
            rw [hi] at h2; cases h2
            have h4 : ∀ t, x.dst = some t → t ∉ x.looks := fun t ht => hrd i i x x hi hi hp (by
              cases hq : anc i i with
              | false => rfl
              | true =>
                obtain ⟨hnL, io, hio, hall⟩ := isReady_iff.1 hr
                exact absurd (anc_mem ha hc i i (Nat.le_refl _) io hio hq hall) hnL) t ht
            rw [yld_congr h4, yld_congr hA.r] at h3
            exact h3
          · rcases hmk he with rfl | ⟨p, z, hp, rfl⟩
            · exact hy
            · exact yld_more hy hp
      have hi' : isReady ios (j :: L) i = true := by
        obtain ⟨h1, io, h2, h3⟩ := isReady_iff.1 hr
        exact isReady_iff.2 ⟨by simp [Ne.symm hji, h1], io, h2, fun p hp => by simp [h3 p hp]⟩
      refine ⟨fun e => ?_, ?_⟩
      · have hc1 := chks_iff.1 (hchk e)
        refine chks_iff.2 fun k w hm hf => ?_
        obtain ⟨io, h2, h3⟩ := hc1 k w (List.mem_append_right _ hm) hf
        refine ⟨io, h2, ?_⟩
        obtain ⟨hkL, io', h4, h5⟩ := hck k w hm
        rw [h2] at h4; cases h4
        rw [yld_congr (hrd k i io x h2 hi h5 (anc_false ha hc hkL (List.getElem?_eq_some_iff.1 h2).1 (isReady_iff.1 hr).1))] at h3
        exact h3
      · refine ih R (j :: L) (aput ρ y.dst u) A' (hc.cons hj) (fun k w hm => ⟨by simp [(hck k w hm).1], (hck k w hm).2⟩) hi' hy' ?_
        exact awpAny_perm _ _ _ _ _ _ (fun z => by simp only [List.mem_cons]; exact ⟨fun h => by rcases h with h | h | h <;> simp [h], fun h => by rcases h with h | h | h <;> simp [h]⟩) hrest
end
end Go.SB
