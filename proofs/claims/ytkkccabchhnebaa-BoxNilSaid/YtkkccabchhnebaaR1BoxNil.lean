/- BoxNil: mailboxes that are none take nothing, and have nothing. Conditions: none. -/
import Derived.Test.YtkkccabchhnebaaR1Ic
import Derived.Test.YtkkccabchhnebaaFwLa
import Derived.Test.YtkkccabchhnebaaRows
namespace Go.Proofs.Ytkkccabchhnebaa
open Go.SB Go.RowKit Go.ChangeShapes
set_option maxRecDepth 100000
theorem bnFollows : Try.prog.follows .mixedOrders = true := by kernel_rfl
theorem bnOwn : ownKnob Try.prog.godebug = none := by kernel_rfl
theorem bnLaidOut : laidOutB Try.prog = true := by kernel_rfl
theorem boxNil_ev (n : Int) : evF (TabL.get tabL) 2000 20 5 [.agg (List.replicate 7 .any), .int .i64 n] [] = some (.bool true, []) := by kernel_rfl
theorem boxNil_call (n : Int) : ACall Try.prog 5 [.agg (List.replicate 7 .any), .int .i64 n] [] fun r _ => r = .bool true :=
  (evF_ok bnFollows (TabL.get_ok tabOk) 20 5 _ _ _ _ (boxNil_ev n)).mono fun _ _ h => h.1
theorem boxNil_lifted (os : Os) (started : os.Started) (H : Type) (enc : TypeId × Value → H) :
    ReturnsInHanded {} Try.checked os 5 .any (Rows.boxNilSpec.pre6 enc Try.prog Try.f5 Rows.boxNilRow.domain false) (Rows.boxNilSpec.post enc Try.prog Try.f5 false true false false) := by
  refine returnsInHanded_of_change (C := Try.checked) bnOwn started (by kernel_rfl) Try.func5
    (ChangeSpec.witness6 (enc := enc) (C := Try.checked) false ⟨#[], #[.agg #[.int .i64 0, .int .i64 0, .int .i64 0, .string ⟨#[]⟩, .int .i64 0, .int .i64 0, .bool false], .int .i64 0], []⟩ 8 (by kernel_rfl) (by kernel_rfl) (by kernel_rfl) (by kernel_rfl)) ?_
  intro W base args ds gs before hval0 hW hcnd _
  have hval : ∀ (j : Nat) t v, Try.f5.params[j]? = some t → args[j]? = some v → Value.okWide Try.prog W .any base t v := hval0
  have hW' := hW
  obtain ⟨p, q, hA0, hV, rfl, hfz, hnd⟩ := hW
  have hA : DataW.TrodAll enc Try.prog W 0 (fun _ => true) true Try.f5.params.toList args.toList ds p := hA0
  rw [Try.params5] at hA hval
  obtain ⟨v0, v1, d0, d1, p0, p1, rfl, rfl, rfl, h0, h1⟩ := trodAll_two hA
  obtain ⟨n, rfl, rfl, rfl, wn⟩ := open_int Try.underlying3 (hval 1 3 v1 rfl rfl) h1
  have c0 := okWide_agg (n := 7) Try.underlying26 (by kernel_rfl) (hval 0 26 v0 rfl rfl) (mod0 W)
  refine (law_calls (boxNil_call n) (.cons c0 (.cons (.int _ _) .nil))).mono fun e W' ⟨he, hB⟩ => ?_
  exact ⟨_, he, law_post (fun ds h => match ds, h with | [a, b], _ => rfl) rfl hW' rfl Try.underlying4 bnLaidOut (by decide +kernel) hB⟩
theorem boxNil_holds : Rows.BoxNilSaid :=
  OpenClaim.holds_of_wide 5 Try.f5 rfl rfl rfl rfl rfl rfl rfl ⟨rfl, rfl, rfl, rfl, rfl⟩ rfl rfl rfl rfl rfl (by kernel_rfl) Try.func5 (by kernel_rfl)
    (of_decide_eq_true (by kernel_rfl)) (by unfold Func.isWrapper; first | (rw [if_pos (by decide +kernel)]; kernel_rfl) | (rw [if_neg (by decide +kernel)]; exact ⟨rfl, rfl⟩))
    (fun os started H enc _ => boxNil_lifted os started H enc)
end Go.Proofs.Ytkkccabchhnebaa
