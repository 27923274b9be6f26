/- Framework, part U: places are numbered anew, what is no longer needed is dropped. Conditions: none. -/
import Derived.Test.YtkkccabchhnebaaFwT
set_option linter.unusedVariables false
set_option linter.unusedSimpArgs false
namespace Go.SB

mutual
/-- Places numbered anew; an address of a place that has no number any more is forgotten. -/
def AV.ren (g : Nat → Option Nat) : AV → AV
  | .ptr l off => match g l with | some l' => .ptr l' off | none => .any
  | .eptr l i off => match g l with | some l' => .eptr l' i off | none => .any
  | .sl l sz lo len t => match g l with | some l' => .sl l' sz lo len t | none => .any
  | .mp l => match g l with | some l' => .mp l' | none => .any
  | .fn f a b => .fn f (AV.renL g a) (AV.renL g b)
  | .ifc t x => .ifc t (AV.ren g x)
  | .agg cs => .agg (AV.renL g cs)
  | .tup vs => .tup (AV.renL g vs)
  | .pp cs => .pp (AV.renL g cs)
  | .ps sz xs => .ps sz (AV.renLL g xs)
  | v => v
def AV.renL (g : Nat → Option Nat) : List AV → List AV
  | [] => []
  | v :: vs => AV.ren g v :: AV.renL g vs
def AV.renLL (g : Nat → Option Nat) : List (List AV) → List (List AV)
  | [] => []
  | v :: vs => AV.renL g v :: AV.renLL g vs
end

theorem renL_eq (g : Nat → Option Nat) (vs : List AV) : AV.renL g vs = vs.map (AV.ren g) := by
  induction vs with
  | nil => rfl
  | cons v vs ih => simp [AV.renL, ih]
theorem renLL_eq (g : Nat → Option Nat) (vs : List (List AV)) : AV.renLL g vs = vs.map (fun e => e.map (AV.ren g)) := by
  induction vs with
  | nil => rfl
  | cons v vs ih => simp [AV.renLL, ih, renL_eq]

def AO.ren (g : Nat → Option Nat) : AO → AO
  | .cells vs => .cells (vs.map (AV.ren g))
  | .arr es => .arr (es.map fun e => e.map (AV.ren g))
  | .map es => .map (es.map fun (k, v) => (AV.ren g k, AV.ren g v))
  | .opq R => .opq R
  | .dead => .dead

/-- The same places under other numbers: what g says is said by M and M' alike. -/
structure Mod.Same (M M' : Mod) (g : Nat → Option Nat) : Prop where
  D : ∀ l l', g l = some l' → M.D l → M'.D l'
  blk : ∀ l l', g l = some l' → M.D l → M'.blk l' = M.blk l
  base : ∀ l l', g l = some l' → M.D l → M'.base l' = M.base l
  room : ∀ l l', g l = some l' → M.D l → M'.room l' = M.room l
  sz : ∀ l l', g l = some l' → M.D l → M'.sz l' = M.sz l
  I : ∀ b c, M.I b = some c → M'.I b = some c

mutual
theorem Conc.ren {M M' : Mod} {g : Nat → Option Nat} (hm : M.Same M' g) : ∀ {a : AV} {u : Value}, Conc M a u → Conc M' (AV.ren g a) u
  | _, _, .int k n => .int k n
  | _, _, .bool b => .bool b
  | _, _, .str s => .str s
  | _, _, .nilp => .nilp
  | _, _, .nils => .nils
  | _, _, .nilm => .nilm
  | _, _, .nilf => .nilf
  | _, _, .nili => .nili
  | .ptr l off, _, .ptr h => by
    simp only [AV.ren]
    cases hg : g l with
    | none => exact .any _
    | some l' => simp only []; rw [← hm.blk _ _ hg h, ← hm.base _ _ hg h]; exact .ptr (hm.D _ _ hg h)
  | .eptr l i off, _, .eptr h => by
    simp only [AV.ren]
    cases hg : g l with
    | none => exact .any _
    | some l' => simp only []; rw [← hm.blk _ _ hg h, ← hm.base _ _ hg h, ← hm.sz _ _ hg h]; exact .eptr (hm.D _ _ hg h)
  | .pp cs, _, .pp hI hr hL => by
    simp only [AV.ren]; exact .pp (hm.I _ _ hI) hr (ConcL.ren hm hL)
  | .sl l sz lo len t, _, .sl h hs hc ht hr => by
    simp only [AV.ren]
    cases hg : g l with
    | none => exact .any _
    | some l' =>
      simp only []
      rw [← hm.blk _ _ hg h, ← hm.base _ _ hg h]
      exact .sl (hm.D _ _ hg h) ((hm.sz _ _ hg h).trans hs) hc ht (by rw [hm.base _ _ hg h, hm.room _ _ hg h]; exact hr)
  | .sl l sz lo _ t, _, .sl0 h hs => by
    simp only [AV.ren]
    cases hg : g l with
    | none => exact .any _
    | some l' => exact .sl0 (hm.D _ _ hg h) ((hm.sz _ _ hg h).trans hs)
  | _, _, .es a => .es a
  | .ps sz _, _, .ps (elems := elems) hI hc hr hL => by
    simp only [AV.ren, renLL_eq]
    have hlen : (elems.map fun e => e.map (AV.ren g)).length = elems.length := by simp
    rw [← hlen]
    refine .ps (hm.I _ _ hI) (by rw [hlen]; exact hc) (fun i j u hi => hr i j u (by rw [hlen] at hi; exact hi)) (fun i e he => ?_)
    rw [List.getElem?_map] at he
    cases hx : elems[i]? with
    | none => rw [hx] at he; cases he
    | some e0 =>
      rw [hx] at he; cases he
      show ConcL M' (e0.map (AV.ren g)) _
      rw [← renL_eq]
      exact ConcL.ren hm (hL i e0 hx)
  | .ps sz _, _, .ps0 => by simp only [AV.ren, AV.renLL]; exact .ps0
  | .mp l, _, .mp h => by
    simp only [AV.ren]
    cases hg : g l with
    | none => exact .any _
    | some l' => simp only []; rw [← hm.blk _ _ hg h]; exact .mp (hm.D _ _ hg h)
  | .fn f a b, _, .fn h₁ h₂ => by simp only [AV.ren]; exact .fn (ConcL.ren hm h₁) (ConcL.ren hm h₂)
  | .ifc t x, _, .ifc h => by simp only [AV.ren]; exact .ifc (Conc.ren hm h)
  | .agg cs, _, .agg h => by simp only [AV.ren]; exact .agg (ConcL.ren hm h)
  | .tup cs, _, .tup h => by simp only [AV.ren]; exact .tup (ConcL.ren hm h)
  | _, _, .raw v h => .raw v h
  | _, _, .any v => .any v
theorem ConcL.ren {M M' : Mod} {g : Nat → Option Nat} (hm : M.Same M' g) : ∀ {as : List AV} {us : List Value}, ConcL M as us → ConcL M' (AV.renL g as) us
  | _, _, .nil => .nil
  | _, _, .cons h t => by simp only [AV.renL]; exact .cons (Conc.ren hm h) (ConcL.ren hm t)
end

theorem ConcL.ren' {M M' : Mod} {g : Nat → Option Nat} (hm : M.Same M' g) {as : List AV} {us : List Value} (h : ConcL M as us) : ConcL M' (as.map (AV.ren g)) us := by
  rw [← renL_eq]; exact h.ren hm

theorem AO.ren_holds {h : Array Obj} {M M' : Mod} {g : Nat → Option Nat} {F : Nat → Prop} {l l' : Nat} {o : AO} (hm : M.Same M' g) (hI : ∀ b, M'.I b = M.I b) (hg : g l = some l') (hd : M.D l) (hh : o.holds h M F l) : (o.ren g).holds h M' F l' := by
  have e1 := hm.blk _ _ hg hd
  have e2 := hm.base _ _ hg hd
  have e3 := hm.room _ _ hg hd
  have e4 := hm.sz _ _ hg hd
  cases o with
  | cells vs =>
    obtain ⟨hF, c, e, fr, us, h1, h2, h3, h4, h5⟩ := hh
    exact ⟨by rw [e1]; exact hF, c, e, fr, us, by rw [e1]; exact h1, h2, by rw [e3]; exact h3, h4.ren' hm, by rw [e2]; exact h5⟩
  | arr elems =>
    obtain ⟨hF, c, e, fr, uss, h1, h2, h3, h4, h5⟩ := hh
    refine ⟨by rw [e1]; exact hF, c, e, fr, uss, by rw [e1]; exact h1, h2, by rw [e3]; exact h3, fun i ev he => ?_, fun i j u hi => by rw [e2, e4]; exact h5 i j u (by simpa using hi)⟩
    rw [List.getElem?_map] at he
    cases hx : elems[i]? with
    | none => rw [hx] at he; cases he
    | some e0 =>
      rw [hx] at he; cases he
      exact ⟨(h4 i e0 hx).1.ren' hm, by simp [e4, (h4 i e0 hx).2]⟩
  | map es =>
    obtain ⟨hF, ents, clock, h1, h2, h3, h4⟩ := hh
    refine ⟨by rw [e1]; exact hF, ents, clock, by rw [e1]; exact h1, by simp [h2], fun i k v he => ?_, h4⟩
    rw [List.getElem?_map] at he
    cases hx : es[i]? with
    | none => rw [hx] at he; cases he
    | some kv =>
      rw [hx] at he
      obtain ⟨k0, v0⟩ := kv
      simp only [Option.map_some, Option.some.injEq, Prod.mk.injEq] at he
      obtain ⟨rfl, rfl⟩ := he
      obtain ⟨en, a, b, c⟩ := h3 i k0 v0 hx
      exact ⟨en, a, b.ren hm, c.ren hm⟩
  | opq R =>
    show R.holds h M'.I (M'.blk l') (M'.base l') F
    rw [e1, e2, show M'.I = M.I from funext hI]
    exact hh
  | dead => exact hh

/-! ### The places from n0 on that are kept: ks -/

def fnew (n0 : Nat) (ks : List Nat) (l : Nat) : Option Nat := if l < n0 then some l else match ks.idxOf? l with | some i => some (n0 + i) | none => none
def foldA (n0 : Nat) (ks : List Nat) (A : AHeap) : AHeap := (A.take n0 ++ ks.map fun k => (A[k]?).join).map fun o => o.map (AO.ren (fnew n0 ks))
def foldR (n0 : Nat) (ks : List Nat) (ρ : List AV) : List AV := ρ.map (AV.ren (fnew n0 ks))
/-- Which place stands behind the new number. -/
def fold (n0 : Nat) (ks : List Nat) (j : Nat) : Nat := if j < n0 then j else ks.getD (j - n0) 0

def okKeep (n0 : Nat) : List Nat → Bool
  | [] => true
  | k :: ks => decide (n0 ≤ k) && !ks.contains k && okKeep n0 ks

theorem okKeep_spec {n0 : Nat} : ∀ {ks : List Nat}, okKeep n0 ks = true → ks.Nodup ∧ ∀ k ∈ ks, n0 ≤ k
  | [], _ => ⟨List.nodup_nil, by simp⟩
  | k :: ks, h => by
    simp only [okKeep, Bool.and_eq_true, decide_eq_true_eq, Bool.not_eq_true', List.contains_eq_mem, decide_eq_false_iff_not] at h
    obtain ⟨⟨h1, h2⟩, h3⟩ := h
    obtain ⟨h4, h5⟩ := okKeep_spec h3
    exact ⟨List.nodup_cons.2 ⟨h2, h4⟩, fun x hx => by rcases List.mem_cons.1 hx with rfl | hx; exact h1; exact h5 x hx⟩

theorem fnew_fold {n0 : Nat} {ks : List Nat} (hk : okKeep n0 ks = true) {l l' : Nat} (h : fnew n0 ks l = some l') : fold n0 ks l' = l ∧ l' < n0 + ks.length := by
  unfold fnew at h
  split at h
  · cases h
    rename_i hl
    exact ⟨by simp [fold, hl], by omega⟩
  · split at h
    · rename_i i hi
      cases h
      rw [List.idxOf?_eq_some_iff] at hi
      obtain ⟨h1, h2, _⟩ := hi
      exact ⟨by
        unfold fold
        rw [if_neg (by omega), show n0 + i - n0 = i by omega]
        simpa [List.getD, h1] using h2, by omega⟩
    · cases h

theorem fold_fnew {n0 : Nat} {ks : List Nat} (hk : okKeep n0 ks = true) {j : Nat} (hj : j < n0 + ks.length) : fnew n0 ks (fold n0 ks j) = some j := by
  obtain ⟨hnd, hge⟩ := okKeep_spec hk
  unfold fold
  split
  · rename_i h; simp [fnew, h]
  · rename_i h
    have hlt : j - n0 < ks.length := by omega
    have e : ks.getD (j - n0) 0 = ks[j - n0] := by simp [List.getD, hlt]
    rw [e]
    have := hge ks[j - n0] (List.getElem_mem hlt)
    unfold fnew
    rw [if_neg (by omega)]
    have hi : ks.idxOf? ks[j - n0] = some (j - n0) := by
      rw [List.idxOf?_eq_some_iff]
      refine ⟨hlt, by simp, fun k hk' => ?_⟩
      intro he
      have := (List.getElem_inj hnd).1 (by simpa using he)
      omega
    rw [hi]
    simp only [Option.some.injEq]; omega

theorem foldA_get {n0 : Nat} {ks : List Nat} {A : AHeap} (hn : n0 ≤ A.length) (j : Nat) (o : AO) : (foldA n0 ks A)[j]? = some (some o) ↔ j < n0 + ks.length ∧ ∃ o0, A[fold n0 ks j]? = some (some o0) ∧ o = o0.ren (fnew n0 ks) := by
  unfold foldA
  rw [List.getElem?_map]
  by_cases hj : j < n0
  · rw [List.getElem?_append_left (by simp; omega), List.getElem?_take_of_lt hj]
    simp only [fold, if_pos hj]
    cases h : A[j]? with
    | none => simp
    | some x =>
      cases x with
      | none => simp
      | some o0 => simp; constructor; (intro h; exact ⟨by omega, h.symm⟩); (rintro ⟨_, h⟩; exact h.symm)
  · rw [List.getElem?_append_right (by simp; omega)]
    have e : (List.take n0 A).length = n0 := by simp; omega
    rw [e, List.getElem?_map]
    simp only [fold, if_neg hj]
    by_cases hlt : j - n0 < ks.length
    · simp only [List.getElem?_eq_getElem hlt, Option.map_some, List.getD, Option.getD_some]
      cases h : A[ks[j - n0]]? with
      | none => simp
      | some x =>
        cases x with
        | none => simp
        | some o0 => simp; constructor; (intro h; exact ⟨by omega, h.symm⟩); (rintro ⟨_, h⟩; exact h.symm)
    · rw [List.getElem?_eq_none (by omega)]
      simp; intro h; omega

/-- **The state under new numbers.** -/
theorem St.fold {P : Program} {c : Ctx} {ρ : List AV} {A : AHeap} {a : Act} {w : World} (hs : St c ρ A a w) {ks : List Nat} (hk : okKeep c.A.length ks = true) : St c (foldR c.A.length ks ρ) (foldA c.A.length ks A) a w := by
  obtain ⟨M, F, S, hL, hd, E, hf⟩ := hs
  have hn := E.len
  generalize hn0 : c.A.length = n0 at *
  let f := Go.SB.fold n0 ks
  let g := fnew n0 ks
  let M' : Mod := { D := fun j => j < n0 + ks.length ∧ M.D (f j), blk := fun j => M.blk (f j), base := fun j => M.base (f j), room := fun j => M.room (f j), sz := fun j => M.sz (f j), I := M.I }
  have hsame : M.Same M' g := by
    constructor
    · intro l l' h hD
      obtain ⟨h1, h2⟩ := fnew_fold hk h
      exact ⟨h2, by show M.D (Go.SB.fold n0 ks l'); rw [h1]; exact hD⟩
    all_goals first
      | (intro l l' h hD
         obtain ⟨h1, h2⟩ := fnew_fold hk h
         simp only [M', f, h1])
      | (intro b c h; exact h)
  have hlive : ∀ (j : Nat) (o : AO), (foldA n0 ks A)[j]? = some (some o) → ∃ o0, A[f j]? = some (some o0) ∧ o = o0.ren g ∧ j < n0 + ks.length := fun j o h => by
    obtain ⟨h1, o0, h2, h3⟩ := (foldA_get hn j o).1 h
    exact ⟨o0, h2, h3, h1⟩
  have hinj : ∀ j j', j < n0 + ks.length → j' < n0 + ks.length → f j = f j' → j = j' := fun j j' h h' e => by
    have h1 := fold_fnew hk h
    have h2 := fold_fnew hk h'
    have e' : Go.SB.fold n0 ks j = Go.SB.fold n0 ks j' := e
    rw [e', h2] at h1
    exact (Option.some.inj h1).symm
  have hfix : ∀ l, l < n0 → f l = l := fun l h => by simp [f, Go.SB.fold, h]
  refine ⟨M', fun j => F (f j), ⟨?_, ?_, ?_, ?_, ?_, ?_⟩, hL.ren' hsame, hd, ⟨E.os, E.tape, E.output, E.size, ⟨?_, ?_, ?_, ?_, ?_, E.le.I⟩, ?_, E.keep, ?_, E.immFoot⟩, ?_⟩
  · intro l o ho
    obtain ⟨o0, h1, rfl, h2⟩ := hlive l o ho
    obtain ⟨h3, h4⟩ := S.holds (f l) o0 h1
    exact ⟨⟨h2, h3⟩, AO.ren_holds hsame (fun _ => rfl) (fold_fnew hk h2) h3 h4⟩
  · rintro l ⟨h1, h2⟩
    obtain ⟨o, ho⟩ := S.fresh (f l) h2
    exact ⟨_, (foldA_get hn l _).2 ⟨h1, o, ho, rfl⟩⟩
  · intro l o b ho hb
    obtain ⟨o0, h1, rfl, h2⟩ := hlive l o ho
    exact S.lt (f l) o0 b h1 hb
  · intro l l' o o' b h h' hb hb'
    obtain ⟨o0, h1, rfl, h2⟩ := hlive l o h
    obtain ⟨o1, h3, rfl, h4⟩ := hlive l' o' h'
    exact hinj l l' h2 h4 (S.disj _ _ _ _ b h1 h3 hb hb')
  · exact S.imm
  · intro b c' l o hI ho
    obtain ⟨o0, h1, rfl, h2⟩ := hlive l o ho
    exact S.immNot b c' (f l) o0 hI h1
  · intro l hl
    have h := c.lt l hl
    rw [hn0] at h
    exact ⟨by omega, by show M.D (f l); rw [hfix l h]; exact E.le.D l hl⟩
  · intro l hl
    have h := c.lt l hl
    rw [hn0] at h
    show M.blk (f l) = _
    rw [hfix l h]; exact E.le.blk l hl
  · intro l hl
    have h := c.lt l hl
    rw [hn0] at h
    show M.base (f l) = _
    rw [hfix l h]; exact E.le.base l hl
  · intro l hl
    have h := c.lt l hl
    rw [hn0] at h
    show M.room (f l) = _
    rw [hfix l h]; exact E.le.room l hl
  · intro l hl
    have h := c.lt l hl
    rw [hn0] at h
    show M.sz (f l) = _
    rw [hfix l h]; exact E.le.sz l hl
  · rw [hn0]; simp [foldA]; omega
  · intro l o b ho hb hlt
    obtain ⟨o0, h1, rfl, h2⟩ := hlive l o ho
    exact E.foot (f l) o0 b h1 hb hlt
  · intro l hl
    have hlt : l < n0 := by rw [← hn0]; exact (List.getElem?_eq_some_iff.1 hl).1
    have h1 := hf l hl
    unfold foldA
    rw [List.getElem?_map, List.getElem?_append_left (by simp; omega), List.getElem?_take_of_lt hlt, h1]
    rfl
end Go.SB
