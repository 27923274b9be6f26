/- Framework, part T: regions that draw: one order, checked, serves all; and the loaded program's region follows it. Conditions: none. -/
import Derived.Test.YtkkccabchhnebaaFwS
set_option linter.unusedVariables false
set_option linter.unusedSimpArgs false
namespace Go.SB
section
variable {P : Program} {p0 : Nat} {ios : List IOper} {anc : Nat → Nat → Bool}

def SlotsApart (ios : List IOper) : Prop := ∀ (i j : Nat) (x y : IOper), ios[i]? = some x → ios[j]? = some y → i ≠ j → x.op.cls = .make → y.op.cls = .make → x.slot ≠ y.slot

theorem ready_cons {L : List Nat} {i j : Nat} (hj : isReady ios L j = true) (hji : j ≠ i) : isReady ios (i :: L) j = true := by
  obtain ⟨h1, io, h2, h3⟩ := isReady_iff.1 hj
  exact isReady_iff.2 ⟨by simp [hji, h1], io, h2, fun p hp => by simp [h3 p hp]⟩

theorem isEff_false {i : Nat} {x : IOper} (hi : ios[i]? = some x) (h : x.op.cls ≠ .eff) : isEff ios i = false := by simp [isEff, hi, h]

/-- **What makes memory may be taken first**, where all else that may come before it looks into no memory or makes memory too. -/
theorem awpAny_make (ha : AncOK ios anc) (hap : ApartAll ios anc) (hsl : SlotsApart ios) {K : List AV → AHeap → Prop} {i : Nat} {x : IOper} (hi : ios[i]? = some x) (hcl : x.op.cls = .make) :
    ∀ (fuel : Nat) (R : Chk) (L : List Nat) (ρ : List AV) (A : AHeap), ClosedL ios L →
      (∀ (j : Nat) (y : IOper), ios[j]? = some y → j ∉ L → j ≠ i → anc i j = false → y.op.cls = .pure ∨ y.op.cls = .make) →
      isReady ios L i = true → awpG P p0 x ρ A (fun ρ' A' => awpAny P p0 ios anc K fuel R (i :: L) ρ' A') → awpAny P p0 ios anc K (fuel + 1) R L ρ A := by
  have hneB : isEff ios i = false := isEff_false hi (by rw [hcl]; decide)
  intro fuel
  induction fuel with
  | zero =>
    intro R L ρ A hc hst hr H
    refine ⟨fun h => (by rw [h i] at hr; cases hr), fun j y hj hjy => ?_⟩
    by_cases hji : j = i
    · subst hji; rw [hi] at hjy; cases hjy
      exact awpG_mono H fun ρ' A' h => ⟨fun e => absurd e (by rw [hneB]; decide), h⟩
    · exfalso
      have h1 := ready_cons (i := i) hj hji
      rcases make_of_awpG hcl H with ⟨v, z, _, hk, _⟩ | ⟨v, hk, _⟩ <;> rw [hk.1 j] at h1 <;> cases h1
  | succ fuel ih =>
    intro R L ρ A hc hst hr H
    refine ⟨fun h => (by rw [h i] at hr; cases hr), fun j y hj hjy => ?_⟩
    by_cases hji : j = i
    · subst hji; rw [hi] at hjy; cases hjy
      exact awpG_mono H fun ρ' A' h => ⟨fun e => absurd e (by rw [hneB]; decide), h⟩
    · have hj' := ready_cons (i := i) hj hji
      have a1 := ready_apart ha hc hr hj
      have a2 := ready_apart ha hc hj hr
      have hA := hap i j x y hi hjy (Ne.symm hji) a1 a2
      have hcy := hst j y hjy (isReady_iff.1 hj).1 hji a1
      have hyne : isEff ios j = false := isEff_false hjy (by rcases hcy with h | h <;> rw [h] <;> decide)
      have hst' : ∀ (k : Nat) (y' : IOper), ios[k]? = some y' → k ∉ j :: L → k ≠ i → anc i k = false → y'.op.cls = .pure ∨ y'.op.cls = .make := fun k y' hk hn hki hf =>
        hst k y' hk (fun hm => hn (by simp [hm])) hki hf
      have hperm : ∀ z : Nat, z ∈ j :: i :: L ↔ z ∈ i :: j :: L := fun z => by
        simp only [List.mem_cons]; exact ⟨fun h => by rcases h with h | h | h <;> simp [h], fun h => by rcases h with h | h | h <;> simp [h]⟩
      have hri := ready_cons (i := j) hr (Ne.symm hji)
      -- what i does, in any heap
      have main : ∀ (v : AV) (put : AHeap → AHeap) (okp : AHeap → Prop),
          awpAny P p0 ios anc K (fuel + 1) R (i :: L) (aput ρ x.dst v) (put A) →
          (∀ (ρ1 : List AV) (hρ : ∃ u, ρ1 = aput ρ y.dst u) (B : AHeap) (K' : List AV → AHeap → Prop), okp B → K' (aput ρ1 x.dst v) (put B) → awpG P p0 x ρ1 B K') →
          okp A → (∀ (p : Nat) (o : AO) (B : AHeap), (x.slot ≠ y.slot → p ≠ p0 + x.slot → True) → p = p0 + y.slot → y.op.cls = .make → okp B → okp (B.set p (some o)) ∧ put (B.set p (some o)) = (put B).set p (some o) ∧ ((put B)[p]? = some none → B[p]? = some none)) →
          awpG P p0 y ρ A fun ρ' A' => (isEff ios j = true → chks ios anc R j ρ' A') ∧ awpAny P p0 ios anc K (fuel + 1) R (j :: L) ρ' A' := by
        intro v put okp hk hx hok hset
        have h1 := awpG_put hA.l hA.d (hk.2 j y hj' hjy)
        rcases hcy with hp | hm
        · obtain ⟨u, hu, hku⟩ := yld_of_awpG (.inl hp) h1
          rw [yld_pure (A := A) hp] at hu
          refine awpG_yld hu ⟨fun e => absurd e (by rw [hyne]; decide), ih R (j :: L) _ A (hc.cons hj) hst' hri ?_⟩
          refine hx _ ⟨u, rfl⟩ A _ hok ?_
          exact awpAny_perm _ _ _ _ _ _ hperm hku.2
        · rcases make_of_awpG hm h1 with ⟨u, z, hz, hku, hall⟩ | ⟨u, hku, hall⟩
          · obtain ⟨q1, q2, q3⟩ := hset (p0 + y.slot) z A (fun _ _ => trivial) rfl hm hok
            refine hall A _ (q3 hz) ⟨fun e => absurd e (by rw [hyne]; decide), ih R (j :: L) _ _ (hc.cons hj) hst' hri ?_⟩
            refine hx _ ⟨u, rfl⟩ _ _ q1 ?_
            rw [q2]
            exact awpAny_perm _ _ _ _ _ _ hperm hku.2
          · refine hall A _ ⟨fun e => absurd e (by rw [hyne]; decide), ih R (j :: L) _ A (hc.cons hj) hst' hri ?_⟩
            refine hx _ ⟨u, rfl⟩ A _ hok ?_
            exact awpAny_perm _ _ _ _ _ _ hperm hku.2
      have cong : ∀ (v : AV) (z : Option AO) (ρ1 : List AV), (∃ u, ρ1 = aput ρ y.dst u) → True := fun _ _ _ _ => trivial
      -- i's own effect is the same behind j
      have back : ∀ (ρ1 : List AV), (∃ u, ρ1 = aput ρ y.dst u) → ∀ (B : AHeap) (K' : List AV → AHeap → Prop), awpG P p0 x ρ B (fun ρ' A' => ∀ u, ρ1 = aput ρ y.dst u → K' (aput ρ' y.dst u) A') → awpG P p0 x ρ1 B K' := by
        rintro ρ1 ⟨u, rfl⟩ B K' h
        have h2 : awpG P p0 x (aput ρ y.dst u) B fun ρ' A' => K' ρ' A' := by
          have hd : ∀ t, y.dst = some t → x.dst ≠ some t := fun t ht hx => hA.d t hx ht
          have hx := opds_aput (o := x) (ρ := ρ) (d := y.dst) (v := u) hA.r
          have key : ∀ {KK : List AV → AHeap → Prop}, awpOp P p0 x ρ B (fun ρ' A' => ∀ u', aput ρ y.dst u = aput ρ y.dst u' → KK (aput ρ' y.dst u') A') → awpOp P p0 x (aput ρ y.dst u) B KK := by
            intro KK h
            unfold awpOp at *
            split
            · rename_i f args he; rw [he] at hcl; simp [IOp.cls] at hcl
            · rename_i op hno
              split at h
              · exact absurd ‹_› (hno _ _)
              · rw [astep_congr hx]
                split at h
                · rw [aput_comm hd]; exact h u rfl
                · exact h.elim
          unfold awpG at *
          cases hg : x.guard with
          | none => rw [hg] at h; exact key h
          | some tw =>
            obtain ⟨t, want⟩ := tw
            rw [hg] at h
            simp only [] at h
            show (match (aput ρ y.dst u).getD t .any with | .bool b => (b = want → awpOp P p0 x (aput ρ y.dst u) B fun ρ' A' => K' ρ' A') ∧ (b = !want → K' (aput (aput ρ y.dst u) x.dst (.tup [])) B) | .tup _ => K' (aput (aput ρ y.dst u) x.dst (.tup [])) B | _ => False)
            rw [guard_aput hA.r hg]
            cases hb : ρ.getD t .any <;> rw [hb] at h <;> simp only [] at h ⊢
            case bool b => exact ⟨fun e => key (h.1 e), fun e => by rw [aput_comm hd]; exact h.2 e u rfl⟩
            case tup vs => rw [aput_comm hd]; exact h u rfl
        exact h2
      have hd : ∀ t, y.dst = some t → x.dst ≠ some t := fun t ht hx => hA.d t hx ht
      rcases make_of_awpG hcl H with ⟨v, z, hz, hk, hall⟩ | ⟨v, hk, hall⟩
      · refine main v (fun B => B.set (p0 + x.slot) (some z)) (fun B => B[p0 + x.slot]? = some none) hk ?_ hz ?_
        · intro ρ1 hρ B K' hB hk'
          refine back ρ1 hρ B K' (hall B _ hB fun u hu => ?_)
          subst hu
          rw [aput_comm hA.d]
          exact hk'
        · intro p o B _ hp hm hB
          subst hp
          have hne := hsl i j x y hi hjy (Ne.symm hji) hcl hm
          have hne' : p0 + y.slot ≠ p0 + x.slot := by omega
          refine ⟨by rw [List.getElem?_set_ne hne']; exact hB, List.set_comm _ _ hne', fun h => ?_⟩
          rwa [List.getElem?_set_ne (Ne.symm hne')] at h
      · refine main v id (fun _ => True) hk ?_ trivial ?_
        · intro ρ1 hρ B K' hB hk'
          refine back ρ1 hρ B K' (hall B _ fun u hu => ?_)
          subst hu
          rw [aput_comm hA.d]
          exact hk'
        · intro p o B _ hp hm hB
          exact ⟨trivial, rfl, id⟩

/-- What alone may come up now. -/
theorem awpAny_only {K : List AV → AHeap → Prop} {i : Nat} {x : IOper} (hi : ios[i]? = some x) {fuel : Nat} {R : Chk} {L : List Nat} {ρ : List AV} {A : AHeap} (hr : isReady ios L i = true) (hall : ∀ j, isReady ios L j = true → j = i)
    (h : awpG P p0 x ρ A fun ρ' A' => chks ios anc R i ρ' A' ∧ awpAny P p0 ios anc K fuel R (i :: L) ρ' A') : awpAny P p0 ios anc K (fuel + 1) R L ρ A := by
  refine ⟨fun h => (by rw [h i] at hr; cases hr), fun j y hj hjy => ?_⟩
  have := hall j hj
  subst this
  rw [hi] at hjy; cases hjy
  exact awpG_mono h fun ρ' A' ⟨h1, h2⟩ => ⟨fun _ => h1, h2⟩

/-- The order that is walked. -/
def awpOrd (P : Program) (p0 : Nat) (ios : List IOper) (anc : Nat → Nat → Bool) (K : List AV → AHeap → Prop) : List Nat → Chk → List AV → AHeap → Prop
  | [], R, ρ, A => K ρ A
  | i :: c, R, ρ, A => match ios[i]? with
    | none => False
    | some x => match x.op.cls with
      | .pure => (match yld x ρ A with | some v => awpOrd P p0 ios anc K c R (aput ρ x.dst v) A | none => False)
      | .read => (match yld x ρ A with | some v => awpOrd P p0 ios anc K c ((i, v) :: R) (aput ρ x.dst v) A | none => False)
      | .make => awpG P p0 x ρ A fun ρ' A' => awpOrd P p0 ios anc K c R ρ' A'
      | .eff => awpG P p0 x ρ A fun ρ' A' => chks ios anc R i ρ' A' ∧ awpOrd P p0 ios anc K c R ρ' A'

/-- The order is one that may be walked. -/
def okOrd (ios : List IOper) (anc : Nat → Nat → Bool) (n : Nat) : List Nat → List Nat → Bool
  | [], L => (List.range n).all fun i => L.contains i
  | i :: c, L => isReady ios L i && (match ios[i]? with
    | none => false
    | some x => match x.op.cls with
      | .pure | .read => true
      | .make => (List.range n).all fun j => L.contains j || j == i || anc i j || (match ios[j]? with | some y => y.op.cls == .pure || y.op.cls == .make | none => true)
      | .eff => (List.range n).all fun j => !isReady ios L j || j == i) && okOrd ios anc n c (i :: L)

theorem isReady_lt {L : List Nat} {i : Nat} (h : isReady ios L i = true) : i < ios.length := by
  obtain ⟨_, io, h2, _⟩ := isReady_iff.1 h
  exact (List.getElem?_eq_some_iff.1 h2).1

theorem awpAny_ord (ha : AncOK ios anc) (hap : ApartAll ios anc) (hrd : ReadsAll ios anc) (hsl : SlotsApart ios) {K : List AV → AHeap → Prop} : ∀ (c : List Nat) (R : Chk) (L : List Nat) (ρ : List AV) (A : AHeap), ClosedL ios L → ChkOK ios R L →
    okOrd ios anc ios.length c L = true → awpOrd P p0 ios anc K c R ρ A → awpAny P p0 ios anc K c.length R L ρ A
  | [], R, L, ρ, A, hc, hck, hok, h => by
    refine ⟨fun i => ?_, h⟩
    cases hr : isReady ios L i with
    | false => rfl
    | true =>
      have := List.all_eq_true.1 hok i (List.mem_range.2 (isReady_lt hr))
      exact absurd (by simpa using this) (isReady_iff.1 hr).1
  | i :: c, R, L, ρ, A, hc, hck, hok, h => by
    simp only [okOrd, Bool.and_eq_true] at hok
    obtain ⟨⟨hr, hk⟩, hok'⟩ := hok
    have hc' := hc.cons hr
    have hck' : ChkOK ios R (i :: L) := fun k v hm => ⟨List.mem_cons_of_mem _ (hck k v hm).1, (hck k v hm).2⟩
    simp only [awpOrd] at h
    cases hi : ios[i]? with
    | none => rw [hi] at h; exact h.elim
    | some x =>
      rw [hi] at h hk
      simp only [] at h hk
      cases hcl : x.op.cls <;> rw [hcl] at h hk <;> simp only [] at h hk
      case pure =>
        cases hy : yld x ρ A with
        | none => rw [hy] at h; exact h.elim
        | some v =>
          rw [hy] at h
          refine awpAny_first ha hap hrd hi (R' := []) (.inl ⟨hcl, rfl⟩) c.length R L ρ A hc hck hr hy ?_
          exact awpAny_ord ha hap hrd hsl c R (i :: L) _ A hc' hck' hok' h
      case read =>
        cases hy : yld x ρ A with
        | none => rw [hy] at h; exact h.elim
        | some v =>
          rw [hy] at h
          refine awpAny_first ha hap hrd hi (R' := [(i, v)]) (.inr ⟨hcl, rfl⟩) c.length R L ρ A hc hck hr hy ?_
          refine awpAny_ord ha hap hrd hsl c _ (i :: L) _ A hc' ?_ hok' h
          intro k w hm
          rcases List.mem_cons.1 hm with e | hm
          · cases e; exact ⟨by simp, x, hi, hcl⟩
          · exact hck' k w hm
      case make =>
        refine awpAny_make ha hap hsl hi hcl c.length R L ρ A hc ?_ hr (awpG_mono h fun ρ' A' h' => awpAny_ord ha hap hrd hsl c R (i :: L) _ A' hc' hck' hok' h')
        intro j y hj hn hji hf
        have := List.all_eq_true.1 hk j (List.mem_range.2 (List.getElem?_eq_some_iff.1 hj).1)
        simp only [hj, hf, Bool.or_eq_true, beq_iff_eq, Bool.false_eq_true, or_false] at this
        rcases this with (h | h) | h
        · exact absurd (by simpa using h) hn
        · exact absurd h hji
        · exact h
      case eff =>
        refine awpAny_only hi hr (fun j hj => ?_) (awpG_mono h fun ρ' A' h' => ⟨h'.1, awpAny_ord ha hap hrd hsl c R (i :: L) _ A' hc' hck' hok' h'.2⟩)
        have := List.all_eq_true.1 hk j (List.mem_range.2 (isReady_lt hj))
        simpa [hj] using this

/-! ### The loaded program's region -/

theorem ready_eq {kops : Array Oper} (hR : OpsRel P kops ios) {L : List Nat} {listed : Array Bool} (hs : listed.size = kops.size) (hL : ∀ i, listed.getD i false = true ↔ i < kops.size ∧ i ∈ L) (hlt0 : ∀ i ∈ L, i < kops.size) (i : Nat) :
    i ∈ Region.ready .any kops listed ↔ isReady ios L i = true := by
  have h1 : ∀ i, i < kops.size → (listed.getD i true = false ↔ i ∉ L) := by
    intro i hi
    have := hL i
    have hlt : i < listed.size := by omega
    simp only [Array.getD_eq_getD_getElem?, Array.getElem?_eq_getElem hlt, Option.getD_some] at this ⊢
    constructor
    · intro h hm; rw [this.2 ⟨hi, hm⟩] at h; cases h
    · intro h; cases hx : listed[i] with
      | false => rfl
      | true => exact absurd (this.1 hx).2 h
  rw [mem_ready, isReady_iff]
  constructor
  · rintro ⟨h0, o, ho, hall⟩
    have hlt : i < kops.size := (Array.getElem?_eq_some_iff.1 ho).1
    obtain ⟨io, hio, _, hpre⟩ := hR.2 i o ho
    refine ⟨(h1 i hlt).1 h0, io, hio, fun p hp => ?_⟩
    obtain ⟨e, he, hb, rfl⟩ := (hpre p).1 hp
    exact ((hL _).1 (hall e he hb)).2
  · rintro ⟨h0, io, hio, hall⟩
    have hlt : i < kops.size := by have := (List.getElem?_eq_some_iff.1 hio).1; have := hR.1; omega
    obtain ⟨io', hio', _, hpre⟩ := hR.2 i kops[i] (by simp [hlt])
    rw [hio] at hio'; cases hio'
    refine ⟨(h1 i hlt).2 h0, kops[i], by simp [hlt], fun e he hb => (hL _).2 ⟨hlt0 _ (hall _ ((hpre _).2 ⟨e, he, hb, rfl⟩)), hall _ ((hpre _).2 ⟨e, he, hb, rfl⟩)⟩⟩

theorem wpAny_ok {kops : Array Oper} (hR : OpsRel P kops ios) {c : Ctx} {Q : Exit → Act → World → Prop} {K : List AV → AHeap → Prop} (hx : c.A.length ≤ p0) (hK : ∀ ρ A a w, K ρ A → St c ρ A a w → Q .normal a w) :
    ∀ (fuel : Nat) (R : Chk) (L : List Nat) (listed : Array Bool) (ρ : List AV) (A : AHeap) (a : Act) (w : World), listed.size = kops.size → (∀ i, listed.getD i false = true ↔ i < kops.size ∧ i ∈ L) → (∀ i ∈ L, i < kops.size) →
      St c ρ A a w → awpAny P p0 ios anc K fuel R L ρ A → wpAny P .any kops Q fuel listed a w
  | 0, R, L, listed, ρ, A, a, w, hs, hL, hl, hst, h => by
    refine ⟨?_, hK _ _ _ _ h.2 hst⟩
    rw [List.eq_nil_iff_forall_not_mem]
    intro i hi
    rw [ready_eq hR hs hL hl, h.1 i] at hi
    cases hi
  | fuel + 1, R, L, listed, ρ, A, a, w, hs, hL, hl, hst, h => by
    refine ⟨fun hn => hK _ _ _ _ (h.1 fun i => ?_) hst, fun i hi => ?_⟩
    · cases hr : isReady ios L i with
      | false => rfl
      | true => rw [← ready_eq hR hs hL hl, hn] at hr; cases hr
    · have hr := (ready_eq hR hs hL hl i).1 hi
      obtain ⟨_, o, ho, _⟩ := mem_ready.1 hi
      have hlt : i < kops.size := (Array.getElem?_eq_some_iff.1 ho).1
      obtain ⟨io, hio, hrel, _⟩ := hR.2 i o ho
      refine awpG_ok ho hrel hst hx (h.2 i io hr hio) ?_
      intro ρ' A' a' w' ⟨_, hk⟩ hst'
      refine wpAny_ok hR hx hK fuel R (i :: L) _ ρ' A' a' w' (by simp [hs]) (fun j => ?_) (fun j hj => by rcases List.mem_cons.1 hj with rfl | hj; exact hlt; exact hl j hj) hst' hk
      by_cases hij : i = j
      · subst hij
        have : i < listed.size := by omega
        simp [this, hlt]
      · rw [getD_set_ne false hij, hL]
        simp [Ne.symm hij]

theorem aexec_regionD {n0 id m : Nat} {ρ : List AV} {A : AHeap} {kops : Array Oper} {ord : List Nat} (hm : P.follows .mixedOrders = true) (hR : OpsRel P kops ios) (ha : AncOK ios anc) (hap : ApartAll ios anc) (hrd : ReadsAll ios anc) (hsl : SlotsApart ios)
    (hok : okOrd ios anc ios.length ord [] = true) (hlen : ord.length = ios.length) {Q : IExit → List AV → AHeap → Prop} (h : awpOrd P A.length ios anc (Q .normal) ord [] ρ (A.more m)) :
    AExec P n0 (.region id kops true) ρ A Q := by
  intro c a w hx hs
  have hn : n0 ≤ A.length := by obtain ⟨M, F, S, hL, hd, E, hf⟩ := hs; have := E.len; omega
  refine wp_region_any hm ?_
  have h1 := awpAny_ord ha hap hrd hsl ord [] [] ρ (A.more m) (fun _ _ _ h => by cases h) (fun _ _ h => by cases h) hok h
  rw [hlen, ← hR.1] at h1
  have hs' : St c ρ (A.more m) a { w with drawn := w.drawn + 1 } := by
    obtain ⟨M, F, S, hL, hd, E, hf⟩ := hs.more m
    exact ⟨M, F, S, hL, hd, { E with }, hf⟩
  exact wpAny_ok (c := c) hR (by omega) (fun ρ A a w hk hs => ⟨.normal, ρ, A, hk, trivial, hs⟩) _ [] [] _ ρ (A.more m) a _ (by simp) (fun i => ⟨fun h => by
    exfalso
    rw [Array.getD_eq_getD_getElem?, Array.getElem?_replicate] at h
    split at h <;> simp at h, fun h => by simp at h⟩) (by simp) hs' h1
end
end Go.SB
