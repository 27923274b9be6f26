/- BoxTurns: if whichever is the best is sent, mailboxes are sent by their frames' keys, of one key as they were put. Conditions: none. -/
import Derived.Test.YtkkccabchhnebaaB1Q
import Derived.Test.YtkkccabchhnebaaFwLb
import Derived.Test.YtkkccabchhnebaaRows
namespace Go.Proofs.Ytkkccabchhnebaa
open Go.SB Go.RowKit Go.ChangeShapes
set_option maxRecDepth 100000
theorem btOwn : ownKnob Try.prog.godebug = none := by kernel_rfl
theorem btLaidOut : laidOutB Try.prog = true := by kernel_rfl
theorem pkShape : shapeOf Try.prog 5 26 = some [.int .i64, .int .i64, .int .i64, .str, .int .i64, .int .i64, .bool] := by kernel_rfl
theorem pkDec (vs : List Value) (h : Fits [.int .i64, .int .i64, .int .i64, .str, .int .i64, .int .i64, .bool] vs) : ∃ o : Pk, ∀ M, ConcL M (pkv o) vs := by
  rcases vs with _ | ⟨a, vs⟩
  · exact h.elim
  obtain ⟨⟨n0, rfl, _⟩, h⟩ := h
  rcases vs with _ | ⟨a, vs⟩
  · exact h.elim
  obtain ⟨⟨n1, rfl, _⟩, h⟩ := h
  rcases vs with _ | ⟨a, vs⟩
  · exact h.elim
  obtain ⟨⟨n2, rfl, _⟩, h⟩ := h
  rcases vs with _ | ⟨a, vs⟩
  · exact h.elim
  obtain ⟨⟨s, rfl, _⟩, h⟩ := h
  rcases vs with _ | ⟨a, vs⟩
  · exact h.elim
  obtain ⟨⟨n4, rfl, _⟩, h⟩ := h
  rcases vs with _ | ⟨a, vs⟩
  · exact h.elim
  obtain ⟨⟨n5, rfl, _⟩, h⟩ := h
  rcases vs with _ | ⟨a, vs⟩
  · exact h.elim
  obtain ⟨⟨t, rfl⟩, h⟩ := h
  rcases vs with _ | ⟨a, vs⟩
  · exact ⟨⟨⟨n0, n1, n2, s.data.toList⟩, n4, n5, t⟩, fun M => .cons (.int _ _) (.cons (.int _ _) (.cons (.int _ _) (.cons (.str _) (.cons (.int _ _) (.cons (.int _ _) (.cons (.bool _) .nil))))))⟩
  · exact h.elim
theorem boxTurns_lifted (os : Os) (started : os.Started) (H : Type) (enc : TypeId × Value → H) :
    ReturnsInHanded {} Try.checked os 3 .any (Rows.boxTurnsSpec.pre6 enc Try.prog Try.f3 Rows.boxTurnsRow.domain false) (Rows.boxTurnsSpec.post enc Try.prog Try.f3 false true false false) := by
  refine returnsInHanded_of_change (C := Try.checked) btOwn started (by kernel_rfl) Try.func3
    (ChangeSpec.witness6 (enc := enc) (C := Try.checked) false ⟨#[], #[.slice none 0 0], []⟩ 8 (by kernel_rfl) (by kernel_rfl) (by kernel_rfl) (by kernel_rfl)) ?_
  intro W base args ds gs before hval0 hW hcnd _
  have hval : ∀ (j : Nat) t v, Try.f3.params[j]? = some t → args[j]? = some v → Value.okWide Try.prog W .any base t v := hval0
  have hW' := hW
  obtain ⟨p, q, hA0, hV, rfl, hfz, hnd⟩ := hW
  have hA : DataW.TrodAll enc Try.prog W 0 (fun _ => true) true Try.f3.params.toList args.toList ds p := hA0
  rw [Try.params3] at hA hval
  obtain ⟨v0, d0, rfl, rfl, h0⟩ := trodAll_one hA
  obtain ⟨l, hl⟩ := conc_slice (f := pkv) Try.underlying22 pkShape (by decide) (by kernel_rfl) pkDec (hval 0 22 v0 rfl rfl) h0
  refine (law_calls (Turns_call l) (.cons hl .nil)).mono fun e W' ⟨he, hB⟩ => ?_
  exact ⟨_, he, law_post (fun ds h => match ds, h with | [a], _ => rfl) rfl hW' rfl Try.underlying4 btLaidOut (by decide +kernel) hB⟩
theorem boxTurns_holds : Rows.BoxTurnsSaid :=
  OpenClaim.holds_of_wide 3 Try.f3 rfl rfl rfl rfl rfl rfl rfl ⟨rfl, rfl, rfl, rfl, rfl⟩ rfl rfl rfl rfl rfl (by kernel_rfl) Try.func3 (by kernel_rfl)
    (of_decide_eq_true (by kernel_rfl)) (by unfold Func.isWrapper; first | (rw [if_pos (by decide +kernel)]; kernel_rfl) | (rw [if_neg (by decide +kernel)]; exact ⟨rfl, rfl⟩))
    (fun os started H enc _ => boxTurns_lifted os started H enc)
end Go.Proofs.Ytkkccabchhnebaa
