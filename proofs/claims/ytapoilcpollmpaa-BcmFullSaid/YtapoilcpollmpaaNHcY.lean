/- HcY, put together. Conditions: none. -/
import Derived.Test.YtapoilcpollmpaaNHcX
/- Framework, part HcY: a place that has many objects, each under its true address. -/
section
set_option linter.unusedVariables false
set_option linter.unusedSimpArgs false
namespace Go.SB

/-- What stands at the places of A, by itself. -/
structure Part (h : Array Obj) (M : Mod) (F : Nat → Nat → Prop) (A : AHeap) : Prop where
  holds : ∀ l o, A[l]? = some (some o) → M.D l ∧ o.holds h M (F l) l
  fresh : ∀ l, M.D l → ∃ o, A[l]? = some (some o)
  disj : ∀ l l' o o' b, A[l]? = some (some o) → A[l']? = some (some o') → F l b → F l' b → l = l'

/-- A heap as one object, whose root is its first place. -/
def Assn.sub (A : AHeap) : Assn where
  root := false
  holds h I b o G := ∃ (M : Mod) (F : Nat → Nat → Prop), M.I = I ∧ Part h M F A ∧ M.D 0 ∧ M.blk 0 = b ∧ M.base 0 = o ∧ G b ∧ ∀ x, G x ↔ ∃ l o', A[l]? = some (some o') ∧ F l x
  keep := by
    rintro h h' I I' b o G ⟨M, F, rfl, P, h0, h1, h2, hg, h3⟩ hk hI
    let M2 : Mod := { M with I := I' }
    have hle : M.Le M2 := ⟨fun _ h => h, fun _ _ => rfl, fun _ _ => rfl, fun _ _ => rfl, fun _ _ => rfl, hI⟩
    refine ⟨M2, F, rfl, ⟨fun l o ho => ?_, P.fresh, P.disj⟩, h0, h1, h2, hg, h3⟩
    obtain ⟨d, hh⟩ := P.holds l o ho
    exact ⟨d, AO.keep hh d hle fun x hx => hk x ((h3 x).2 ⟨l, o, ho, hx⟩)⟩

abbrev Item := (Nat × Nat) × AHeap
/-- Many objects, each under its address. -/
def Assn.pool (xs : List Item) : Assn where
  root := false
  holds h I _ _ G := ∃ Gs : Nat → Nat → Prop, (∀ x, G x ↔ ∃ i, i < xs.length ∧ Gs i x) ∧ (∀ i it, xs[i]? = some it → (Assn.sub it.2).holds h I it.1.1 it.1.2 (Gs i)) ∧ ∀ i j x, i < xs.length → j < xs.length → Gs i x → Gs j x → i = j
  keep := by
    rintro h h' I I' b o G ⟨Gs, h1, h2, h3⟩ hk hI
    exact ⟨Gs, h1, fun i it hi => (Assn.sub it.2).keep (h2 i it hi) (fun x hx => hk x ((h1 x).2 ⟨i, (List.getElem?_eq_some_iff.1 hi).1, hx⟩)) hI, h3⟩
abbrev AO.pool (xs : List Item) : AO := .opq (Assn.pool xs)
/-- Does the root own its block? -/
def rootB : AHeap → Bool
  | some (.cells _) :: _ => true
  | some (.opq R) :: _ => R.root
  | _ => false
theorem rootB_own {h : Array Obj} {M : Mod} {F : Nat → Nat → Prop} {A : AHeap} (S : Sim h M F A) (hr : rootB A = true) : M.D 0 ∧ ∃ o, A[0]? = some (some o) ∧ F 0 (M.blk 0) := by
  rcases A with _ | ⟨x, A⟩
  · cases hr
  · cases x with
    | none => cases hr
    | some o =>
      obtain ⟨hD, hh⟩ := S.holds 0 o rfl
      refine ⟨hD, o, rfl, ?_⟩
      cases o with
      | cells vs => exact (hh.1 _).2 rfl
      | opq R =>
        obtain ⟨_, _, _, hF, _⟩ := hh.2 hr
        exact hF
      | arr es => cases hr
      | map es => cases hr
      | dead => cases hr
/-- A pointer to an object of a pool. -/
def rp (p : Nat × Nat) : AV := .raw (.pointer (some ⟨p.1, p.2, none⟩))
theorem rp_ren {g : Nat → Option Nat} {p : Nat × Nat} : AV.ren g (rp p) = rp p := rfl

theorem one_get {x y : Option AO} {l : Nat} (h : [x][l]? = some y) : l = 0 ∧ x = y := by
  cases l with
  | zero => exact ⟨rfl, by simpa using h⟩
  | succ l => simp at h

theorem pool_core {w w' : World} {M : Mod} {F : Nat → Nat → Prop} {xs ys : List Item} (S : Sim w.heap M F [some (.pool xs)]) {Gs : Nat → Nat → Prop}
    (g1 : ∀ x, F 0 x ↔ ∃ i, i < xs.length ∧ Gs i x) (g2 : ∀ i it, xs[i]? = some it → (Assn.sub it.2).holds w.heap M.I it.1.1 it.1.2 (Gs i)) (g3 : ∀ i j x, i < xs.length → j < xs.length → Gs i x → Gs j x → i = j)
    {k : Nat} {M0 M1 : Mod} {F0 F1 : Nat → Nat → Prop} {A0 A1 : AHeap} (hI : M0.I = M.I) (h0 : ∀ l o x, A0[l]? = some (some o) → F0 l x → k < xs.length ∧ Gs k x)
    (S1 : Sim w'.heap M1 F1 A1) (E : Ext w M0 F0 A0 w' M1 F1 A1) (hroot : rootB A1 = true) (hy : ∀ j, j ≠ k → ys[j]? = xs[j]?) (hk : ys[k]? = some ((M1.blk 0, M1.base 0), A1)) :
    ∃ M' F', Sim w'.heap M' F' [some (.pool ys)] ∧ Ext w M F [some (.pool xs)] w' M' F' [some (.pool ys)] ∧ M'.I = M1.I := by
  obtain ⟨hD, o0, ho0, hF00⟩ := rootB_own S1 hroot
  let Gs' : Nat → Nat → Prop := fun j x => if j = k then (∃ l o, A1[l]? = some (some o) ∧ F1 l x) else Gs j x
  let M' : Mod := { M with I := M1.I }
  have hle : M.Le M' := ⟨fun _ h => h, fun _ _ => rfl, fun _ _ => rfl, fun _ _ => rfl, fun _ _ => rfl, fun b c h => E.le.I b c (by rw [hI]; exact h)⟩
  let F' : Nat → Nat → Prop := fun _ x => ∃ i, i < ys.length ∧ Gs' i x
  have hjl : ∀ {j}, j ≠ k → j < ys.length → j < xs.length := fun {j} hj hl => by
    have h1 : ys[j]? = some ys[j] := List.getElem?_eq_getElem hl
    rw [hy j hj] at h1
    exact (List.getElem?_eq_some_iff.1 h1).1
  have hlj : ∀ {j}, j ≠ k → j < xs.length → j < ys.length := fun {j} hj hl => by
    have h1 : xs[j]? = some xs[j] := List.getElem?_eq_getElem hl
    rw [← hy j hj] at h1
    exact (List.getElem?_eq_some_iff.1 h1).1
  have hkl : k < ys.length := (List.getElem?_eq_some_iff.1 hk).1
  have hF0 : ∀ {j x}, j < xs.length → Gs j x → F 0 x := fun {j x} hj hx => (g1 x).2 ⟨j, hj, hx⟩
  have hlt : ∀ {j x}, j < xs.length → Gs j x → x < w.heap.size := fun {j x} hj hx => S.lt 0 _ x rfl (hF0 hj hx)
  -- what is new is apart from what was there
  have hap : ∀ {j x}, j ≠ k → j < xs.length → Gs j x → ∀ l o, A1[l]? = some (some o) → ¬ F1 l x := fun {j x} hj hl hx l o ho hf => by
    obtain ⟨l0, o0, q1, q2⟩ := E.foot l o x ho hf (hlt hl hx)
    obtain ⟨q3, q4⟩ := h0 l0 o0 x q1 q2
    exact hj (g3 j k x hl q3 hx q4)
  have hold : ∀ {j x}, j ≠ k → j < xs.length → Gs j x → w'.heap[x]? = w.heap[x]? := fun {j x} hj hl hx => E.keep x (hlt hl hx) fun l o ho hf => by
    obtain ⟨q3, q4⟩ := h0 l o x ho hf
    exact hj (g3 j k x hl q3 hx q4)
  have e1 : ∀ {x}, Gs' k x → ∃ l o, A1[l]? = some (some o) ∧ F1 l x := fun {x} hx => by simpa [Gs'] using hx
  have e2 : ∀ {j x}, j ≠ k → Gs' j x → Gs j x := fun {j x} hj hx => by simpa [Gs', hj] using hx
  have e3 : ∀ {j}, j ≠ k → Gs' j = Gs j := fun {j} hj => funext fun x => by simp [Gs', hj]
  have S' : Sim w'.heap M' F' [some (.pool ys)] := by
    refine ⟨fun l o ho => ?_, fun l hD => ?_, fun l o x ho hx => ?_, fun l l' o o' x ho ho' _ _ => ?_, S1.imm, fun x c l o hc ho hx => ?_⟩
    · obtain ⟨rfl, e⟩ := one_get ho
      cases e
      refine ⟨(S.holds 0 _ rfl).1, ⟨Gs', fun x => Iff.rfl, fun j it hj => ?_, fun i j x hi hj hx hx' => ?_⟩, fun h => by cases h⟩
      · by_cases e : j = k
        · subst e
          rw [hk] at hj; cases hj
          refine ⟨M1, F1, rfl, ⟨S1.holds, S1.fresh, S1.disj⟩, hD, rfl, rfl, by show (if _ = _ then _ else _); rw [if_pos rfl]; exact ⟨0, o0, ho0, hF00⟩, fun x => ?_⟩
          exact ⟨e1, fun h => by simpa [Gs'] using h⟩
        · rw [hy j e] at hj
          have hl := (List.getElem?_eq_some_iff.1 hj).1
          rw [e3 e]
          exact (Assn.sub it.2).keep (g2 j it hj) (fun x hx => hold e hl hx) fun b c h => hle.I b c h
      · by_cases ei : i = k
        · by_cases ej : j = k
          · rw [ei, ej]
          · subst ei
            obtain ⟨l, o, q1, q2⟩ := e1 hx
            exact absurd q2 (hap ej (hjl ej hj) (e2 ej hx') l o q1)
        · by_cases ej : j = k
          · subst ej
            obtain ⟨l, o, q1, q2⟩ := e1 hx'
            exact absurd q2 (hap ei (hjl ei hi) (e2 ei hx) l o q1)
          · exact g3 i j x (hjl ei hi) (hjl ej hj) (e2 ei hx) (e2 ej hx')
    · obtain ⟨o, ho⟩ := S.fresh l hD
      obtain ⟨rfl, _⟩ := one_get ho
      exact ⟨_, rfl⟩
    · obtain ⟨i, hi, hx⟩ := hx
      by_cases e : i = k
      · subst e
        obtain ⟨l1, o1, q1, q2⟩ := e1 hx
        exact S1.lt l1 o1 x q1 q2
      · exact Nat.lt_of_lt_of_le (hlt (hjl e hi) (e2 e hx)) E.size
    · rw [(one_get ho).1, (one_get ho').1]
    · obtain ⟨i, hi, hx⟩ := hx
      by_cases e : i = k
      · subst e
        obtain ⟨l1, o1, q1, q2⟩ := e1 hx
        exact S1.immNot x c l1 o1 hc q1 q2
      · have hx' := e2 e hx
        have hl := hjl e hi
        rcases E.immFoot x c hc (hlt hl hx') with q | ⟨l0, o0, q1, q2⟩
        · rw [hI] at q
          exact S.immNot x c 0 _ q rfl (hF0 hl hx')
        · obtain ⟨q3, q4⟩ := h0 l0 o0 x q1 q2
          exact e (g3 i k x hl q3 hx' q4)
  refine ⟨M', F', S', ⟨E.os, E.tape, E.output, E.size, hle, Nat.le_refl _, fun b hb hn => ?_, fun l o b ho hx hb => ?_, fun b c hc hb => ?_⟩, rfl⟩
  · refine E.keep b hb fun l o ho hf => ?_
    obtain ⟨q3, q4⟩ := h0 l o b ho hf
    exact hn 0 _ rfl (hF0 q3 q4)
  · obtain ⟨i, hi, hx⟩ := hx
    by_cases e : i = k
    · subst e
      obtain ⟨l1, o1, q1, q2⟩ := e1 hx
      obtain ⟨l0, o0, z1, z2⟩ := E.foot l1 o1 b q1 q2 hb
      obtain ⟨q3, q4⟩ := h0 l0 o0 b z1 z2
      exact ⟨0, _, rfl, hF0 q3 q4⟩
    · exact ⟨0, _, rfl, hF0 (hjl e hi) (e2 e hx)⟩
  · rcases E.immFoot b c hc hb with q | ⟨l0, o0, q1, q2⟩
    · exact .inl (by rw [← hI]; exact q)
    · obtain ⟨q3, q4⟩ := h0 l0 o0 b q1 q2
      exact .inr ⟨0, _, rfl, hF0 q3 q4⟩

theorem ConcL.flatM {M M' : Mod} {as : List AV} {us : List Value} (h : ConcL M as us) (hf : AV.flatL as = true) (hI : ∀ b c, M.I b = some c → M'.I b = some c) : ConcL M' as us :=
  (h.flatI hf).mono ((modI_mono hI).trans modI_le)
theorem Conc.flatM {M M' : Mod} {a : AV} {u : Value} (h : Conc M a u) (hf : AV.flat a = true) (hI : ∀ b c, M.I b = some c → M'.I b = some c) : Conc M' a u :=
  (h.flatI hf).mono ((modI_mono hI).trans modI_le)

/-- A call on an object of a pool. -/
theorem ACall.pool {P : Program} {f : FuncId} {args : List AV} {K : AV → AHeap → Prop} {i : Nat} {p : Nat × Nat} {A : AHeap} {xs : List Item} (hx : xs[i]? = some (p, A)) (ha : AV.flatL args = true)
    (h : ACall P f (.ptr 0 0 :: args) A K) (hK : ∀ r A', K r A' → AV.flat r = true ∧ rootB A' = true) :
    ACall P f (rp p :: args) [some (.pool xs)] fun r B => ∃ A', K r A' ∧ B = [some (.pool (xs.set i (p, A')))] := by
  refine ⟨h.1, fun w M F us S hL => ?_⟩
  obtain ⟨_, ⟨Gs, g1, g2, g3⟩, _⟩ := S.holds 0 _ rfl
  have hl := (List.getElem?_eq_some_iff.1 hx).1
  obtain ⟨M0, F0, hI, P0, hD0, hb, ho, _, hG⟩ := g2 i _ hx
  have hGF : ∀ x, Gs i x → F 0 x := fun x q => (g1 x).2 ⟨i, hl, q⟩
  have S0 : Sim w.heap M0 F0 A := ⟨P0.holds, P0.fresh, fun l o x q1 q2 => S.lt 0 _ x rfl (hGF x ((hG x).2 ⟨l, o, q1, q2⟩)), P0.disj, by rw [hI]; exact S.imm, fun x c l o hc q1 q2 => S.immNot x c 0 _ (by rw [← hI]; exact hc) rfl (hGF x ((hG x).2 ⟨l, o, q1, q2⟩))⟩
  have hL0 : ConcL M0 (.ptr 0 0 :: args) us := by
    cases hL with
    | cons hu hL =>
      cases hu
      have hp : Conc M0 (.ptr 0 0) (.pointer (some ⟨M0.blk 0, M0.base 0 + 0, none⟩)) := .ptr hD0
      rw [hb, ho] at hp
      exact .cons hp (hL.flatM ha fun b c hc => by rw [hI]; exact hc)
  refine (h.2 w M0 F0 us S0 hL0).mono ?_
  rintro e w' ⟨r, A', M1, F1, u, hK', rfl, hc, S1, E1, hf⟩
  obtain ⟨M', F', S', E', hI'⟩ := pool_core (ys := xs.set i (p, A')) (k := i) S g1 g2 g3 hI (fun l o x q1 q2 => ⟨hl, (hG x).2 ⟨l, o, q1, q2⟩⟩) S1 E1 (hK r A' hK').2 (fun j hj => List.getElem?_set_ne (fun e => hj e.symm))
    (by rw [List.getElem?_set_self hl, E1.le.blk 0 hD0, E1.le.base 0 hD0, hb, ho])
  exact ⟨r, _, M', F', u, ⟨A', hK', rfl⟩, rfl, hc.flatM (hK r A' hK').1 fun b c hc => by rw [hI']; exact hc, S', E', fun l hl => by have := (one_get hl).2; cases this⟩

theorem born_core {w w' : World} {M : Mod} {F : Nat → Nat → Prop} {xs : List Item} (S : Sim w.heap M F [some (.pool xs)]) {M1 : Mod} {F0 F1 : Nat → Nat → Prop} {A1 : AHeap} (S1 : Sim w'.heap M1 F1 A1) (E : Ext w (modI M.I) F0 [] w' M1 F1 A1) (hroot : rootB A1 = true) :
    ∃ M' F', Sim w'.heap M' F' [some (.pool (xs ++ [((M1.blk 0, M1.base 0), A1)]))] ∧ Ext w M F [some (.pool xs)] w' M' F' [some (.pool (xs ++ [((M1.blk 0, M1.base 0), A1)]))] ∧ M'.I = M1.I := by
  obtain ⟨_, ⟨Gs, g1, g2, g3⟩, _⟩ := S.holds 0 _ rfl
  refine pool_core (k := xs.length) (M0 := modI M.I) (A0 := []) (F0 := F0) S g1 g2 g3 rfl (fun l o x q1 q2 => by simp at q1) S1 E hroot (fun j hj => ?_) (by rw [List.getElem?_append_right (Nat.le_refl _), Nat.sub_self]; rfl)
  rcases Nat.lt_or_ge j xs.length with h | h
  · rw [List.getElem?_append_left h]
  · rw [List.getElem?_eq_none (show xs.length ≤ j from h), List.getElem?_eq_none (by simp; omega)]

theorem sim_none {w : World} {M : Mod} {F : Nat → Nat → Prop} {A : AHeap} (S : Sim w.heap M F A) : Sim w.heap (modI M.I) (fun _ _ => False) [] :=
  ⟨fun l o h => by simp at h, fun l h => h.elim, fun l o b h => by simp at h, fun l l' o o' b h => by simp at h, S.imm, fun b c l o _ h => by simp at h⟩

/-- What a call makes is laid into the pool. -/
theorem ACall.born {P : Program} {f : FuncId} {args : List AV} {K : AV → AHeap → Prop} (xs : List Item) (ha : AV.flatL args = true) (h : ACall P f args [] K) (hK : ∀ r A', K r A' → r = .ptr 0 0 ∧ rootB A' = true) :
    ACall P f args [some (.pool xs)] fun r B => ∃ p A', K (.ptr 0 0) A' ∧ r = rp p ∧ B = [some (.pool (xs ++ [(p, A')]))] := by
  refine ⟨h.1, fun w M F us S hL => ?_⟩
  refine (h.2 w (modI M.I) _ us (sim_none S) (hL.flatM ha fun b c hc => hc)).mono ?_
  rintro e w' ⟨r, A', M1, F1, u, hK', rfl, hc, S1, E1, hf⟩
  obtain ⟨rfl, hroot⟩ := hK r A' hK'
  cases hc with
  | ptr _ =>
    obtain ⟨M', F', S', E', hI'⟩ := born_core S S1 E1 hroot
    exact ⟨_, _, M', F', _, ⟨_, A', hK', rfl, rfl⟩, rfl, .raw _ rfl, S', E', fun l hl => by have := (one_get hl).2; cases this⟩
theorem ACall.bornT {P : Program} {f : FuncId} {args : List AV} {K : AV → AHeap → Prop} (xs : List Item) (ha : AV.flatL args = true) (h : ACall P f args [] K) (hK : ∀ r A', K r A' → (∃ es, r = .tup (.ptr 0 0 :: es) ∧ AV.flatL es = true) ∧ rootB A' = true) :
    ACall P f args [some (.pool xs)] fun r B => ∃ p A' es, K (.tup (.ptr 0 0 :: es)) A' ∧ r = .tup (rp p :: es) ∧ B = [some (.pool (xs ++ [(p, A')]))] := by
  refine ⟨h.1, fun w M F us S hL => ?_⟩
  refine (h.2 w (modI M.I) _ us (sim_none S) (hL.flatM ha fun b c hc => hc)).mono ?_
  rintro e w' ⟨r, A', M1, F1, u, hK', rfl, hc, S1, E1, hf⟩
  obtain ⟨⟨es, rfl, hes⟩, hroot⟩ := hK r A' hK'
  cases hc with
  | @tup _ us' hc =>
    cases hus : us'.toList with
    | nil => rw [hus] at hc; cases hc
    | cons v vs =>
      rw [hus] at hc
      cases hc with
      | cons hv hvs =>
        cases hv with
        | ptr _ =>
          obtain ⟨M', F', S', E', hI'⟩ := born_core S S1 E1 hroot
          refine ⟨_, _, M', F', _, ⟨_, A', es, hK', rfl, rfl⟩, rfl, .tup ?_, S', E', fun l hl => by have := (one_get hl).2; cases this⟩
          rw [hus]
          exact .cons (.raw _ rfl) (hvs.flatM hes fun b c hc => by rw [hI']; exact hc)
/-- The addresses of a pool are different. -/
theorem pool_nodup {h : Array Obj} {M : Mod} {F : Nat → Nat → Prop} {A : AHeap} {l : Nat} {xs : List Item} (S : Sim h M F A) (hl : A[l]? = some (some (.pool xs))) : (xs.map fun it => it.1.1).Nodup := by
  obtain ⟨_, ⟨Gs, g1, g2, g3⟩, _⟩ := S.holds l _ hl
  rw [List.nodup_iff_pairwise_ne, List.pairwise_iff_getElem]
  intro i j hi hj hij e
  rw [List.length_map] at hi hj
  have h1 : xs[i]? = some xs[i] := List.getElem?_eq_getElem hi
  have h2 : xs[j]? = some xs[j] := List.getElem?_eq_getElem hj
  obtain ⟨_, _, _, _, _, _, _, q1, _⟩ := g2 i _ h1
  obtain ⟨_, _, _, _, _, _, _, q2, _⟩ := g2 j _ h2
  rw [List.getElem_map, List.getElem_map] at e
  rw [e] at q1
  have := g3 i j _ hi hj q1 q2
  omega
theorem callOk_of {P : Program} {f : FuncId} {fn : Func} (hf : P.funcs[f]? = some fn) (h1 : (fn.name == "runtime.NumGoroutine") = false) (h2 : fn.body.isSome = true) : CallOk P f := ⟨fn, hf, by simpa using h1, h2⟩
theorem ACall.dist {P : Program} {f : FuncId} {args : List AV} {K : AV → AHeap → Prop} {A : AHeap} {l : Nat} {xs : List Item} (hok : CallOk P f) (hl : A[l]? = some (some (.pool xs))) (h : (xs.map fun it => it.1.1).Nodup → ACall P f args A K) : ACall P f args A K :=
  ⟨hok, fun w M F us S hL => (h (pool_nodup S hl)).2 w M F us S hL⟩
/-- Another object under an address. -/
def upd (xs : List Item) (p : Nat × Nat) (A : AHeap) : List Item := xs.map fun it => if it.1 = p then (p, A) else it
theorem upd_set {xs : List Item} {p : Nat × Nat} {A A0 : AHeap} {i : Nat} (hx : xs[i]? = some (p, A0)) (hn : (xs.map fun it => it.1.1).Nodup) : xs.set i (p, A) = upd xs p A := by
  have hi := (List.getElem?_eq_some_iff.1 hx).1
  refine List.ext_getElem? fun j => ?_
  unfold upd
  rw [List.getElem?_map]
  by_cases e : i = j
  · subst e
    rw [List.getElem?_set_self hi, hx]; simp
  · rw [List.getElem?_set_ne e]
    cases hj : xs[j]? with
    | none => rfl
    | some it =>
      have hjl := (List.getElem?_eq_some_iff.1 hj).1
      have hne : it.1 ≠ p := fun e2 => by
        rw [List.nodup_iff_pairwise_ne, List.pairwise_iff_getElem] at hn
        have e3 : (xs.map fun it => it.1.1)[i]'(by simpa using hi) = p.1 := by
          rw [List.getElem_map]; have := (List.getElem?_eq_some_iff.1 hx).2; rw [this]
        have e4 : (xs.map fun it => it.1.1)[j]'(by simpa using hjl) = p.1 := by
          rw [List.getElem_map]; have := (List.getElem?_eq_some_iff.1 hj).2; rw [this, e2]
        rcases Nat.lt_or_gt_of_ne e with h | h
        · exact hn i j (by simpa using hi) (by simpa using hjl) h (e3.trans e4.symm)
        · exact hn j i (by simpa using hjl) (by simpa using hi) h (e4.trans e3.symm)
      simp [hne]
theorem mem_upd {xs : List Item} {p : Nat × Nat} {A A0 : AHeap} (h : (p, A0) ∈ xs) : (p, A) ∈ upd xs p A := by
  unfold upd
  exact List.mem_map.2 ⟨_, h, by simp⟩
theorem mem_upd_ne {xs : List Item} {p q : Nat × Nat} {A B : AHeap} (h : (q, B) ∈ xs) (hne : q ≠ p) : (q, B) ∈ upd xs p A := by
  unfold upd
  exact List.mem_map.2 ⟨_, h, by simp [hne]⟩
theorem pool_one {xs : List Item} (hn : (xs.map fun it => it.1.1).Nodup) {p : Nat × Nat} {A B : AHeap} (ha : (p, A) ∈ xs) (hb : (p, B) ∈ xs) : A = B := by
  obtain ⟨i, hi, e1⟩ := List.getElem_of_mem ha
  obtain ⟨j, hj, e2⟩ := List.getElem_of_mem hb
  rw [List.nodup_iff_pairwise_ne, List.pairwise_iff_getElem] at hn
  rcases Nat.lt_trichotomy i j with h | h | h
  · exact absurd (by rw [List.getElem_map, List.getElem_map, e1, e2]) (hn i j (by simpa using hi) (by simpa using hj) h)
  · subst h; rw [e1] at e2; exact (Prod.mk.inj e2).2
  · exact absurd (by rw [List.getElem_map, List.getElem_map, e1, e2]) (hn j i (by simpa using hj) (by simpa using hi) h)
/-- A call on an object of a pool, with just one outcome. -/
theorem ACall.poolE {P : Program} {f : FuncId} {args : List AV} {p : Nat × Nat} {A A0 : AHeap} {v : AV} {xs : List Item} (hx : (p, A) ∈ xs) (hn : (xs.map fun it => it.1.1).Nodup) (ha : AV.flatL args = true) (hv : AV.flat v = true) (hr : rootB A0 = true)
    (h : ACall P f (.ptr 0 0 :: args) A fun r A' => r = v ∧ A' = A0) : ACall P f (rp p :: args) [some (.pool xs)] fun r B => r = v ∧ B = [some (.pool (upd xs p A0))] := by
  obtain ⟨i, hi, e⟩ := List.getElem_of_mem hx
  have hx2 : xs[i]? = some (p, A) := by rw [List.getElem?_eq_getElem hi, e]
  refine (ACall.pool hx2 ha h (fun r A' hh => by rw [hh.1, hh.2]; exact ⟨hv, hr⟩)).mono ?_
  rintro r B ⟨A', ⟨h1, h2⟩, h3⟩
  exact ⟨h1, by rw [h3, h2, upd_set hx2 hn]⟩
end Go.SB
end
