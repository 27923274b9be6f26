/- BoxPlays: whatever is put into mailboxes, sent, aborted and taken, each answer is as the document says. Conditions: none. -/
import Derived.Test.YtkkccabchhnebaaB1O
import Derived.Test.YtkkccabchhnebaaFwLb
import Derived.Test.YtkkccabchhnebaaRows
namespace Go.Proofs.Ytkkccabchhnebaa
open Go.SB Go.RowKit Go.ChangeShapes
set_option maxRecDepth 100000
theorem bpOwn : ownKnob Try.prog.godebug = none := by kernel_rfl
theorem bpLaidOut : laidOutB Try.prog = true := by kernel_rfl
theorem opShape : shapeOf Try.prog 5 43 = some [.int .i64, .int .i64, .int .i64, .int .i64, .int .i64, .str, .int .i64, .int .i64, .bool] := by kernel_rfl
theorem opDec (vs : List Value) (h : Fits [.int .i64, .int .i64, .int .i64, .int .i64, .int .i64, .str, .int .i64, .int .i64, .bool] vs) : ∃ o : OpD, ∀ M, ConcL M (oav o) vs := by
  rcases vs with _ | ⟨a, vs⟩
  · exact h.elim
  obtain ⟨⟨n0, rfl, _⟩, h⟩ := h
  rcases vs with _ | ⟨a, vs⟩
  · exact h.elim
  obtain ⟨⟨n1, rfl, _⟩, h⟩ := h
  rcases vs with _ | ⟨a, vs⟩
  · exact h.elim
  obtain ⟨⟨n2, rfl, _⟩, h⟩ := h
  rcases vs with _ | ⟨a, vs⟩
  · exact h.elim
  obtain ⟨⟨n3, rfl, _⟩, h⟩ := h
  rcases vs with _ | ⟨a, vs⟩
  · exact h.elim
  obtain ⟨⟨n4, rfl, _⟩, h⟩ := h
  rcases vs with _ | ⟨a, vs⟩
  · exact h.elim
  obtain ⟨⟨s, rfl, _⟩, h⟩ := h
  rcases vs with _ | ⟨a, vs⟩
  · exact h.elim
  obtain ⟨⟨n6, rfl, _⟩, h⟩ := h
  rcases vs with _ | ⟨a, vs⟩
  · exact h.elim
  obtain ⟨⟨n7, rfl, _⟩, h⟩ := h
  rcases vs with _ | ⟨a, vs⟩
  · exact h.elim
  obtain ⟨⟨t, rfl⟩, h⟩ := h
  rcases vs with _ | ⟨a, vs⟩
  · exact ⟨⟨n0, n1, ⟨⟨n2, n3, n4, s.data.toList⟩, n6, n7, t⟩⟩, fun M => .cons (.int _ _) (.cons (.int _ _) (.cons (.int _ _) (.cons (.int _ _) (.cons (.int _ _) (.cons (.str _) (.cons (.int _ _) (.cons (.int _ _) (.cons (.bool _) .nil))))))))⟩
  · exact h.elim
theorem boxPlays_lifted (os : Os) (started : os.Started) (H : Type) (enc : TypeId × Value → H) :
    ReturnsInHanded {} Try.checked os 4 .any (Rows.boxPlaysSpec.pre6 enc Try.prog Try.f4 Rows.boxPlaysRow.domain false) (Rows.boxPlaysSpec.post enc Try.prog Try.f4 false true false false) := by
  refine returnsInHanded_of_change (C := Try.checked) bpOwn started (by kernel_rfl) Try.func4
    (ChangeSpec.witness6 (enc := enc) (C := Try.checked) false ⟨#[], #[.int .i64 0, .slice none 0 0], []⟩ 8 (by kernel_rfl) (by kernel_rfl) (by kernel_rfl) (by kernel_rfl)) ?_
  intro W base args ds gs before hval0 hW hcnd _
  have hval : ∀ (j : Nat) t v, Try.f4.params[j]? = some t → args[j]? = some v → Value.okWide Try.prog W .any base t v := hval0
  have hW' := hW
  obtain ⟨p, q, hA0, hV, rfl, hfz, hnd⟩ := hW
  have hA : DataW.TrodAll enc Try.prog W 0 (fun _ => true) true Try.f4.params.toList args.toList ds p := hA0
  rw [Try.params4] at hA hval
  obtain ⟨v0, v1, d0, d1, p0, p1, rfl, rfl, rfl, h0, h1⟩ := trodAll_two hA
  obtain ⟨n, rfl, rfl, rfl, wn⟩ := open_int Try.underlying3 (hval 0 3 v0 rfl rfl) h0
  obtain ⟨l, hl⟩ := conc_slice (f := oav) Try.underlying38 opShape (by decide) (by kernel_rfl) opDec (hval 1 38 v1 rfl rfl) h1
  refine (law_calls (Plays_call n l) (.cons (.int _ _) (.cons hl .nil))).mono fun e W' ⟨he, hB⟩ => ?_
  exact ⟨_, he, law_post (fun ds h => match ds, h with | [a, b], _ => rfl) rfl hW' rfl Try.underlying4 bpLaidOut (by decide +kernel) hB⟩
theorem boxPlays_holds : Rows.BoxPlaysSaid :=
  OpenClaim.holds_of_wide 4 Try.f4 rfl rfl rfl rfl rfl rfl rfl ⟨rfl, rfl, rfl, rfl, rfl⟩ rfl rfl rfl rfl rfl (by kernel_rfl) Try.func4 (by kernel_rfl)
    (of_decide_eq_true (by kernel_rfl)) (by unfold Func.isWrapper; first | (rw [if_pos (by decide +kernel)]; kernel_rfl) | (rw [if_neg (by decide +kernel)]; exact ⟨rfl, rfl⟩))
    (fun os started H enc _ => boxPlays_lifted os started H enc)
end Go.Proofs.Ytkkccabchhnebaa
