/- Framework, part W: a whole function, from its code's weakest precondition to a call. Conditions: none. -/
import Derived.Test.YtkkccabchhnebaaFwV
set_option linter.unusedVariables false
set_option linter.unusedSimpArgs false
namespace Go.SB
section
variable {P : Program} {M : Mod} {F : Nat → Nat → Prop} {A : AHeap} {ρ : List AV} {w : World}

theorem aload_addr {n : Option Nat} {x v : AV} (h : aload A n x = some v) {u : Value} (hx : Conc M x u) : ∃ ad, u = .pointer (some ad) := by
  have key : ∀ k r, rdN A x k = some r → ∃ ad, u = .pointer (some ad) := by
    intro k r h
    cases hx <;> simp only [rdN] at h <;> first | exact ⟨_, rfl⟩ | (cases h; done)
  unfold aload at h
  cases n with
  | none =>
    simp only [] at h
    split at h
    · exact key _ _ ‹_›
    · cases h
  | some n =>
    simp only [] at h
    split at h
    · exact key _ _ ‹_›
    · cases h

def resOne (tmps : Array Value) : ResultVar → Sem Value
  | .tmp t => pure (tmps.getD t undef)
  | .cell a t => do loadVar t (← asAddr (tmps.getD a undef))

theorem getD_conc {tmps : Array Value} (hL : ConcL M ρ tmps.toList) (t : Nat) : Conc M (ρ.getD t .any) (tmps.getD t undef) := by
  cases ht : ρ[t]? with
  | none => simp only [List.getD, ht, Option.getD_none]; exact .any _
  | some v =>
    obtain ⟨u, hu, hc⟩ := hL.get ht
    simp only [List.getD, ht, Option.getD_some]
    have : tmps.getD t undef = u := by
      rw [Array.getD_eq_getD_getElem?]
      rw [Array.getElem?_toList] at hu
      simp [hu]
    rw [this]; exact hc

theorem rvs_ok (S : Sim w.heap M F A) {tmps : Array Value} (hL : ConcL M ρ tmps.toList) : ∀ (xs : List ResultVar) (rs : List RV) (vs : List AV), compRs P xs = some rs → rvs ρ A rs = some vs →
    ∃ us, ConcL M vs us ∧ (xs.mapM (resOne tmps)).run P w = .ok us w
  | [], rs, vs, h, hv => by
    cases h; cases hv
    exact ⟨[], .nil, by simp [go_sem]⟩
  | .tmp t :: xs, rs, vs, h, hv => by
    simp only [compRs] at h
    split at h
    · rename_i r hr
      cases h
      simp only [rvs] at hv
      split at hv
      · rename_i vs' hvs
        cases hv
        obtain ⟨us, h1, h2⟩ := rvs_ok S hL xs r vs' hr hvs
        refine ⟨_ :: us, .cons (getD_conc hL t) h1, ?_⟩
        simp [List.mapM_cons, resOne, go_sem, h2]
      · cases hv
    · cases h
  | .cell a t :: xs, rs, vs, h, hv => by
    simp only [compRs] at h
    split at h
    · rename_i n hn
      split at h
      · rename_i r hr
        cases h
        simp only [rvs] at hv
        split at hv
        · rename_i v hld
          split at hv
          · rename_i vs' hvs
            cases hv
            obtain ⟨us, h1, h2⟩ := rvs_ok S hL xs r vs' hr hvs
            have hc := getD_conc hL a
            obtain ⟨ad, had⟩ := aload_addr hld hc
            rw [had] at hc
            obtain ⟨u, h3, h4⟩ := loadVar_ok (P := P) S hn hc hld
            refine ⟨u :: us, .cons h4 h1, ?_⟩
            have e1 : (resOne tmps (.cell a t)).run P w = .ok u w := by
              show (do loadVar t (← asAddr (tmps.getD a undef))).run P w = _
              rw [had]
              simp [asAddr, h3]
            simp [List.mapM_cons, go_sem, h2, e1]
          · cases hv
        · cases hv
      · cases h
    · cases h

theorem results_ok (S : Sim w.heap M F A) {fn : Func} {tmps : Array Value} (hL : ConcL M ρ tmps.toList) {rs : List RV} {vs : List AV} (h : compRs P fn.results.toList = some rs) (hv : rvs ρ A rs = some vs) :
    ∃ u, Conc M (rtup vs) u ∧ (results fn tmps).run P w = .ok u w := by
  obtain ⟨us, h1, h2⟩ := rvs_ok (P := P) S hL _ _ _ h hv
  have hr : results fn tmps = (do let vs ← List.toArray <$> fn.results.toList.mapM (resOne tmps); pure (if h : vs.size = 1 then vs[0] else .tuple vs)) := by
    unfold results
    rw [Array.mapM_eq_mapM_toList]
    rfl
  cases h1 with
  | nil => exact ⟨.tuple #[], .tup .nil, by rw [hr]; simp [go_sem, h2]⟩
  | @cons a as u us' hc ht =>
    cases ht with
    | nil => exact ⟨_, hc, by rw [hr]; simp [go_sem, h2]⟩
    | @cons b bs v us2 hc2 ht2 =>
      exact ⟨.tuple (u :: v :: us2).toArray, .tup (.cons hc (.cons hc2 ht2)), by rw [hr]; simp [go_sem, h2]⟩

/-- **A function's call, from its code.** -/
theorem acall_of_body (hm : P.follows .mixedOrders = true) {f : FuncId} {fn : Func} {c : Code} {hs : List (List Nat)} {ic : IC} {rs : List RV} {args : List AV} {K : AV → AHeap → Prop}
    (hf : P.funcs[f]? = some fn) (hb : fn.body = some c) (hname : (fn.name == "runtime.NumGoroutine") = false) (hc : comp P c hs = some (ic, [])) (hr : compRs P fn.results.toList = some rs) {n : Nat} (hn : fn.ntmps = n)
    (h : awp P A.length ic (args ++ List.replicate (n - args.length) .any) A (retQ A.length rs K)) : ACall P f args A K := by
  refine ⟨⟨fn, hf, by simpa using hname, by rw [hb]; rfl⟩, fun w M F us S hL => ?_⟩
  let x : Ctx := ⟨w, M, F, A, fun l hl => by obtain ⟨o, ho⟩ := S.fresh l hl; exact (List.getElem?_eq_some_iff.1 ho).1⟩
  have he := comp_ok hm c hs [] ic _ A (retQ A.length rs K) hc h
  refine calls_of_wp hf hb ?_
  have hst : St x (args ++ List.replicate (n - args.length) .any) A { tmps := us.toArray ++ Array.replicate (fn.ntmps - us.toArray.size) undef, defers := [] } w := by
    refine ⟨M, F, S, ?_, rfl, .refl _ _ _ _, .refl _⟩
    simp only [Array.toList_append, Array.toList_replicate, List.size_toArray]
    refine hL.append ?_
    rw [hn, hL.length]
    exact ConcL.replicate (.any _) _
  refine wp_mono (he x _ w rfl hst) ?_
  rintro e a' w' ⟨ie, ρ', A', hq, hi, hs'⟩
  have main : (∃ vs, rvs ρ' A' rs = some vs ∧ ∃ ks, okKeepO A.length ks = true ∧ K (foldVo A.length ks (rtup vs)) (foldAo A.length ks A')) →
      a'.defers = [] ∧ ∃ v, (results fn a'.tmps).run P w' = .ok v w' ∧ (fun e w' => ∃ r A' M' F' u, K r A' ∧ e = Ending.returned u ∧ Conc M' r u ∧ Sim w'.heap M' F' A' ∧ Ext w M F A w' M' F' A' ∧ Free A A') (.returned v) w' := by
    rintro ⟨vs, hv, ks, hk, hK⟩
    have hs2 := hs'
    obtain ⟨M1, F1, S1, hL1, hd1, E1, hf1⟩ := hs'
    obtain ⟨u, hu1, hu2⟩ := results_ok (P := P) S1 hL1 hr hv
    refine ⟨hd1, u, hu2, ?_⟩
    have hs3 : St x [rtup vs] A' { tmps := #[u], defers := [] } w' := ⟨M1, F1, S1, .cons hu1 .nil, rfl, E1, hf1⟩
    obtain ⟨M2, F2, S2, hL2, _, E2, hf2⟩ := hs3.foldo (ks := ks) hk
    have e : foldRo x.A.length ks [rtup vs] = [foldVo A.length ks (rtup vs)] := by cases ks <;> rfl
    rw [e] at hL2
    cases hL2 with
    | cons hc2 _ => exact ⟨_, _, M2, F2, u, hK, rfl, hc2, S2, E2, hf2⟩
  cases ie <;> cases e <;> simp only [IExit.is] at hi <;> simp only [retQ] at hq <;> simp only [bodyPost]
  · refine main ?_
    split at hq
    · exact ⟨_, ‹_›, hq⟩
    · exact hq.elim
  · refine main ?_
    split at hq
    · exact ⟨_, ‹_›, hq⟩
    · exact hq.elim
end
end Go.SB
