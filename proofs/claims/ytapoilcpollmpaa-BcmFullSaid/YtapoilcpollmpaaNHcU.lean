/- HcU, put together. Conditions: none. -/
import Derived.Test.YtapoilcpollmpaaNHcE
/- Framework, part HcU: a heap seen as another one; a function whose heap is seen so at its beginning and its end. -/
section
set_option linter.unusedVariables false
set_option linter.unusedSimpArgs false
namespace Go.SB

/-- A may be seen as A'. -/
def Vw (A A' : AHeap) : Prop := A.length ≤ A'.length ∧ (∀ (l : Nat), A[l]? = some none → A'[l]? = some none) ∧
  ∀ (h : Array Obj) (M : Mod) (F : Nat → Nat → Prop), Sim h M F A → ∃ M' F', Sim h M' F' A' ∧ M.Le M' ∧ M'.I = M.I ∧ ∀ l o b, A'[l]? = some (some o) → F' l b → ∃ l0 o0, A[l0]? = some (some o0) ∧ F l0 b

theorem Vw.refl (A : AHeap) : Vw A A := ⟨Nat.le_refl _, fun _ h => h, fun h M F S => ⟨M, F, S, .refl M, rfl, fun l o b hl hb => ⟨l, o, hl, hb⟩⟩⟩
theorem Vw.trans {A B C : AHeap} (h : Vw A B) (k : Vw B C) : Vw A C := ⟨Nat.le_trans h.1 k.1, fun l hl => k.2.1 l (h.2.1 l hl), fun hp M F S => by
  obtain ⟨M1, F1, S1, l1, i1, f1⟩ := h.2.2 hp M F S
  obtain ⟨M2, F2, S2, l2, i2, f2⟩ := k.2.2 hp M1 F1 S1
  refine ⟨M2, F2, S2, l1.trans l2, i2.trans i1, fun l o b hl hb => ?_⟩
  obtain ⟨l0, o0, h1, h2⟩ := f2 l o b hl hb
  exact f1 l0 o0 b h1 h2⟩

theorem St.view {c : Ctx} {ρ : List AV} {A A' : AHeap} {a : Act} {w : World} (hs : St c ρ A a w) (hv : Vw A A') : St c ρ A' a w := by
  obtain ⟨M, F, S, hL, hd, E, hf⟩ := hs
  obtain ⟨M', F', S', hle, hI, hfoot⟩ := hv.2.2 _ M F S
  refine ⟨M', F', S', hL.mono hle, hd, E.trans ⟨rfl, rfl, rfl, Nat.le_refl _, hle, hv.1, fun _ _ _ => rfl, fun l o b hl hb _ => hfoot l o b hl hb, fun b c hc _ => .inl (by rw [← hI]; exact hc)⟩, fun l hl => hv.2.1 l (hf l hl)⟩

/-- What the caller gets, the heap being seen as another one. -/
def retV (n0 : Nat) (rs : List RV) (K : AV → AHeap → Prop) (e : IExit) (ρ : List AV) (A : AHeap) : Prop :=
  match e with
  | .normal | .ret => match rvs ρ A rs with
    | some vs => ∃ A2, Vw A A2 ∧ ∃ ks, okKeepO n0 ks = true ∧ K (foldVo n0 ks (rtup vs)) (foldAo n0 ks A2)
    | none => False
  | _ => False

section
variable {P : Program} {M : Mod} {F : Nat → Nat → Prop} {A A1 : AHeap} {ρ : List AV} {w : World}
theorem acall_of_bodyV (hm : P.follows .mixedOrders = true) {f : FuncId} {fn : Func} {c : Code} {hs : List (List Nat)} {ic : IC} {rs : List RV} {args : List AV} {K : AV → AHeap → Prop}
    (hf : P.funcs[f]? = some fn) (hb : fn.body = some c) (hname : (fn.name == "runtime.NumGoroutine") = false) (hc : comp P c hs = some (ic, [])) (hr : compRs P fn.results.toList = some rs) {n : Nat} (hn : fn.ntmps = n)
    (hv : Vw A A1) (h : awp P A.length ic (args ++ List.replicate (n - args.length) .any) A1 (retV A.length rs K)) : ACall P f args A K := by
  refine ⟨⟨fn, hf, by simpa using hname, by rw [hb]; rfl⟩, fun w M F us S hL => ?_⟩
  let x : Ctx := ⟨w, M, F, A, fun l hl => by obtain ⟨o, ho⟩ := S.fresh l hl; exact (List.getElem?_eq_some_iff.1 ho).1⟩
  have he := comp_ok hm c hs [] ic _ A1 (retV A.length rs K) hc h
  refine calls_of_wp hf hb ?_
  have hst0 : St x (args ++ List.replicate (n - args.length) .any) A { tmps := us.toArray ++ Array.replicate (fn.ntmps - us.toArray.size) undef, defers := [] } w := by
    refine ⟨M, F, S, ?_, rfl, .refl _ _ _ _, .refl _⟩
    simp only [Array.toList_append, Array.toList_replicate, List.size_toArray]
    refine hL.append ?_
    rw [hn, hL.length]
    exact ConcL.replicate (.any _) _
  refine wp_mono (he x _ w rfl (hst0.view hv)) ?_
  rintro e a' w' ⟨ie, ρ', A', hq, hi, hs'⟩
  have main : (∃ vs, rvs ρ' A' rs = some vs ∧ ∃ A2, Vw A' A2 ∧ ∃ ks, okKeepO A.length ks = true ∧ K (foldVo A.length ks (rtup vs)) (foldAo A.length ks A2)) →
      a'.defers = [] ∧ ∃ v, (results fn a'.tmps).run P w' = .ok v w' ∧ (fun e w' => ∃ r A' M' F' u, K r A' ∧ e = Ending.returned u ∧ Conc M' r u ∧ Sim w'.heap M' F' A' ∧ Ext w M F A w' M' F' A' ∧ Free A A') (.returned v) w' := by
    rintro ⟨vs, hv, A2, hv2, ks, hk, hK⟩
    obtain ⟨M1, F1, S1, hL1, hd1, E1, hf1⟩ := hs'
    obtain ⟨u, hu1, hu2⟩ := results_ok (P := P) S1 hL1 hr hv
    refine ⟨hd1, u, hu2, ?_⟩
    have hs3 : St x [rtup vs] A' { tmps := #[u], defers := [] } w' := ⟨M1, F1, S1, .cons hu1 .nil, rfl, E1, hf1⟩
    obtain ⟨M2, F2, S2, hL2, _, E2, hf2⟩ := (hs3.view hv2).foldo (ks := ks) hk
    have e : foldRo x.A.length ks [rtup vs] = [foldVo A.length ks (rtup vs)] := by cases ks <;> rfl
    rw [e] at hL2
    cases hL2 with
    | cons hc2 _ => exact ⟨_, _, M2, F2, u, hK, rfl, hc2, S2, E2, hf2⟩
  cases ie <;> cases e <;> simp only [IExit.is] at hi <;> simp only [retV] at hq <;> simp only [bodyPost]
  · refine main ?_
    split at hq
    · exact ⟨_, ‹_›, hq⟩
    · exact hq.elim
  · refine main ?_
    split at hq
    · exact ⟨_, ‹_›, hq⟩
    · exact hq.elim
theorem retV_of {n0 : Nat} {rs : List RV} {K : AV → AHeap → Prop} (e : IExit) (ρ : List AV) (A : AHeap) (h : retQ n0 rs K e ρ A) : retV n0 rs K e ρ A := by
  cases e <;> simp only [retQ, retV] at h ⊢
  all_goals first | exact h.elim | skip
  all_goals (split at h)
  all_goals first | exact h.elim | (rename_i vs hv; rw [hv]; exact ⟨A, .refl A, h⟩)
end
end Go.SB
end
