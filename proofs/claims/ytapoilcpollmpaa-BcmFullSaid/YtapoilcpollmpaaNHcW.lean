/- HcW, put together. Conditions: none. -/
import Derived.Test.YtapoilcpollmpaaNHcV
/- Framework, part HcW: a slice that has nothing: nil or not. -/
section
set_option linter.unusedVariables false
set_option linter.unusedSimpArgs false
namespace Go.SB
section
variable {P : Program}
theorem concL_split {M : Mod} {a : AV} {post : List AV} : ∀ {pre : List AV} {us : List Value}, ConcL M (pre ++ a :: post) us → ∃ us1 u us2, us = us1 ++ u :: us2 ∧ Conc M a u ∧ ∀ b, Conc M b u → ConcL M (pre ++ b :: post) us
  | [], _, .cons h t => ⟨[], _, _, rfl, h, fun b hb => .cons hb t⟩
  | p :: pre, _, .cons h t => by
    obtain ⟨us1, u, us2, rfl, h1, h2⟩ := concL_split (pre := pre) t
    exact ⟨_ :: us1, u, us2, rfl, h1, fun b hb => .cons h (h2 b hb)⟩
/-- An argument without anything: nil or not. -/
theorem acall_ps0 {f : FuncId} {pre post : List AV} {z : Nat} {A : AHeap} {K : AV → AHeap → Prop} (h0 : ACall P f (pre ++ .nils :: post) A K) (h1 : ∀ a c, ACall P f (pre ++ .raw (.slice (some a) 0 c) :: post) A K) :
    ACall P f (pre ++ .ps z [] :: post) A K := by
  refine ⟨h0.1, fun w M F us S hL => ?_⟩
  obtain ⟨us1, u, us2, e, hc, hk⟩ := concL_split hL
  cases hc with
  | ps => exact (h1 _ _).2 w M F us S (hk _ (.raw _ rfl))
  | @ps0 _ a cap h =>
    cases a with
    | none =>
      obtain rfl := h rfl
      exact h0.2 w M F us S (hk _ .nils)
    | some a => exact (h1 a cap).2 w M F us S (hk _ (.raw _ rfl))
theorem acall_sl0 {f : FuncId} {pre post : List AV} {l z o : Nat} {t : Bool} {A : AHeap} {K : AV → AHeap → Prop} (h0 : ACall P f (pre ++ .nils :: post) A K) (h1 : ∀ a c, ACall P f (pre ++ .raw (.slice (some a) 0 c) :: post) A K) :
    ACall P f (pre ++ .sl l z o 0 t :: post) A K := by
  refine ⟨h0.1, fun w M F us S hL => ?_⟩
  obtain ⟨us1, u, us2, e, hc, hk⟩ := concL_split hL
  cases hc with
  | sl => exact (h1 _ _).2 w M F us S (hk _ (.raw _ rfl))
  | @sl0 _ _ _ _ a _ _ =>
    cases a with
    | none => exact h0.2 w M F us S (hk _ .nils)
    | some a => exact (h1 a 0).2 w M F us S (hk _ (.raw _ rfl))
/-- What is returned is a row without anything. -/
theorem acall_emp {f : FuncId} {args : List AV} {A : AHeap} {z : Nat} (hz : 0 < z) (h : ACall P f args A fun r A' => (r = .nils ∨ r = .es) ∧ A' = A) : ACall P f args A fun r A' => r = .sl A.length z 0 0 false ∧ A' = A ++ [some (.arr [])] := by
  refine ⟨h.1, fun w M F us S hL => (h.2 w M F us S hL).mono ?_⟩
  rintro e w' ⟨r, A', M', F', u, ⟨hr, rfl⟩, rfl, hc, S', E', hf⟩
  obtain ⟨S1, hle1⟩ := S'.add (b := 0) (bs := 0) (rm := 0) (sz := z) (G := fun _ => False) (o := .arr []) (.inl ⟨rfl, by simp [Mod.put], by simpa [Mod.put] using hz, fun _ h => h⟩) (fun _ h => h.elim) (fun _ _ _ h => h.elim) (fun _ _ h => h.elim)
  refine ⟨_, _, _, _, u, ⟨rfl, rfl⟩, rfl, ?_, S1, E'.trans ⟨rfl, rfl, rfl, Nat.le_refl _, hle1, by simp, fun _ _ _ => rfl, fun l o b hl hb _ => ?_, fun b c hc _ => .inl hc⟩, fun l hl => ?_⟩
  · have hs : ∃ a, u = .slice a 0 0 := by
      rcases hr with rfl | rfl
      · cases hc; exact ⟨_, rfl⟩
      · cases hc; exact ⟨_, rfl⟩
    obtain ⟨a, rfl⟩ := hs
    exact .sl0 (.inr rfl) (by simp [Mod.put])
  · rcases ext_get hl with ⟨rfl, e⟩ | ⟨hk, ho⟩
    · rw [if_pos rfl] at hb; exact hb.elim
    · rw [if_neg (by omega)] at hb; exact ⟨l, o, ho, hb⟩
  · rw [List.getElem?_append_left (List.getElem?_eq_some_iff.1 hl).1]; exact hl
end
end Go.SB
end
