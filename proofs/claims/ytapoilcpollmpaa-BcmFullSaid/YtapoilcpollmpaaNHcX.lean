/- HcX, put together. Conditions: none. -/
import Derived.Test.YtapoilcpollmpaaNHcW
/- Framework, part HcX: a nil slice in a cell, seen as a row without anything. -/
section
set_option linter.unusedVariables false
set_option linter.unusedSimpArgs false
namespace Go.SB
theorem vw_nil {A : AHeap} {l k z : Nat} {vs : List AV} (hA : A[l]? = some (some (.cells vs))) (hk : vs[k]? = some .nils) (hz : 0 < z) :
    Vw A (A.set l (some (.cells (vs.set k (.sl A.length z 0 0 false)))) ++ [some (.arr [])]) := by
  have hl := (List.getElem?_eq_some_iff.1 hA).1
  refine ⟨by simp, fun j hj => ?_, fun h M F S => ?_⟩
  · have hne : l ≠ j := fun e => by subst e; rw [hA] at hj; cases hj
    rw [List.getElem?_append_left (by simpa using (List.getElem?_eq_some_iff.1 hj).1), List.getElem?_set_ne hne]; exact hj
  · obtain ⟨S1, hle1⟩ := S.add (b := 0) (bs := 0) (rm := 0) (sz := z) (G := fun _ => False) (o := .arr []) (.inl ⟨rfl, by simp [Mod.put], by simpa [Mod.put] using hz, fun _ h => h⟩) (fun _ h => h.elim) (fun _ _ _ h => h.elim) (fun _ _ h => h.elim)
    have hA1 : (A ++ [some (.arr [])])[l]? = some (some (.cells vs)) := by rw [List.getElem?_append_left hl]; exact hA
    obtain ⟨hD, hF, c, e, fr, us, h1, h2, h3, h4, h5⟩ := S1.holds l _ hA1
    have S2 := S1.refill hA1 (o1 := .cells (vs.set k (.sl A.length z 0 0 false))) (G := fun x => if l = A.length then False else F l x)
      ⟨hF, c, e, fr, us, h1, h2, h3, h4.put hk (fun u hu => by cases hu; exact .sl0 (.inr rfl) (by simp [Mod.put])), h5⟩
      (fun x hx => S1.lt l _ x hA1 hx) (fun x j o hj hx ho hf => hj (S1.disj j l _ _ x ho hA1 hf hx)) (fun x c hx hc => S1.immNot x c l _ hc hA1 hx)
    rw [List.set_append_left _ _ hl] at S2
    refine ⟨_, _, S2, hle1, rfl, fun j o b hj hb => ?_⟩
    have hne : l ≠ A.length := by omega
    by_cases e : j = l
    · subst e
      rw [if_pos rfl, if_neg hne] at hb
      exact ⟨j, _, hA, hb⟩
    · rw [if_neg e] at hb
      by_cases e2 : j = A.length
      · rw [if_pos e2] at hb; exact hb.elim
      · rw [if_neg e2] at hb
        rcases ext_get hj with ⟨e3, _⟩ | ⟨_, hj⟩
        · simp at e3; exact absurd e3 e2
        · rw [List.getElem?_set_ne (fun h => e h.symm)] at hj
          exact ⟨j, o, hj, hb⟩
theorem Vw.ext {h : Array Obj} {M M' : Mod} {F F' : Nat → Nat → Prop} {A A' : AHeap} {w : World} (hw : w.heap = h) (hv : Vw A A') (hle : M.Le M') (hI : M'.I = M.I) (hf : ∀ l o b, A'[l]? = some (some o) → F' l b → ∃ l0 o0, A[l0]? = some (some o0) ∧ F l0 b) : Ext w M F A w M' F' A' :=
  ⟨rfl, rfl, rfl, Nat.le_refl _, hle, hv.1, fun _ _ _ => rfl, fun l o b hl hb _ => hf l o b hl hb, fun b c hc _ => .inl (by rw [← hI]; exact hc)⟩
/-- A call, its heap seen as another one at its end. -/
theorem ACall.post {P : Program} {f : FuncId} {args : List AV} {A : AHeap} {K K' : AV → AHeap → Prop} (h : ACall P f args A K)
    (hk : ∀ r B, K r B → ∃ B2, Vw B B2 ∧ ∃ ks, okKeepO A.length ks = true ∧ K' (foldVo A.length ks r) (foldAo A.length ks B2)) : ACall P f args A K' := by
  refine ⟨h.1, fun w M F us S hL => (h.2 w M F us S hL).mono ?_⟩
  rintro e w' ⟨r, A', M', F', u, hK, rfl, hc, S', E', hf⟩
  obtain ⟨B2, hv, ks, hok, hK'⟩ := hk r A' hK
  let x : Ctx := ⟨w, M, F, A, fun l hl => by obtain ⟨o, ho⟩ := S.fresh l hl; exact (List.getElem?_eq_some_iff.1 ho).1⟩
  have hs3 : St x [r] A' { tmps := #[u], defers := [] } w' := ⟨M', F', S', .cons hc .nil, rfl, E', hf⟩
  obtain ⟨M2, F2, S2, hL2, _, E2, hf2⟩ := (hs3.view hv).foldo (ks := ks) hok
  have e : foldRo x.A.length ks [r] = [foldVo A.length ks r] := by cases ks <;> rfl
  rw [e] at hL2
  cases hL2 with
  | cons hc2 _ => exact ⟨_, _, M2, F2, u, hK', rfl, hc2, S2, E2, hf2⟩
/-- A call, its heap seen as another one at its beginning. -/
theorem ACall.pre {P : Program} {f : FuncId} {args : List AV} {A A1 : AHeap} {K : AV → AHeap → Prop} (hv : Vw A A1) (hl : A1.length = A.length) (h : ACall P f args A1 K) : ACall P f args A K := by
  refine ⟨h.1, fun w M F us S hL => ?_⟩
  obtain ⟨M1, F1, S1, hle, hI, hfoot⟩ := hv.2.2 _ M F S
  refine (h.2 w M1 F1 us S1 (hL.mono hle)).mono ?_
  rintro e w' ⟨r, A', M', F', u, hK, rfl, hc, S', E', hf⟩
  exact ⟨r, A', M', F', u, hK, rfl, hc, S', (Vw.ext rfl hv hle hI hfoot).trans E', fun l hl => hf l (hv.2.1 l hl)⟩
end Go.SB
end
