/- CycNil: a job that is none does nothing. Conditions: none. -/
import Derived.Test.YtkkccabchhnebaaR1IcCyc
import Derived.Test.YtkkccabchhnebaaFwLa
import Derived.Test.YtkkccabchhnebaaRows
namespace Go.Proofs.Ytkkccabchhnebaa
open Go.SB Go.RowKit Go.ChangeShapes
set_option maxRecDepth 100000
theorem cnFollows : Try.prog.follows .mixedOrders = true := by kernel_rfl
theorem cnOwn : ownKnob Try.prog.godebug = none := by kernel_rfl
theorem cnLaidOut : laidOutB Try.prog = true := by kernel_rfl
theorem cycNil_ev (n : Int) : evF (TabL.get tabL) 2000 20 7 [.int .i64 n] [] = some (.bool true, []) := by kernel_rfl
theorem cycNil_call (n : Int) : ACall Try.prog 7 [.int .i64 n] [] fun r _ => r = .bool true :=
  (evF_ok cnFollows (TabL.get_ok tabOk) 20 7 _ _ _ _ (cycNil_ev n)).mono fun _ _ h => h.1
theorem cycNil_lifted (os : Os) (started : os.Started) (H : Type) (enc : TypeId × Value → H) :
    ReturnsInHanded {} Try.checked os 7 .any (Rows.cycNilSpec.pre6 enc Try.prog Try.f7 Rows.cycNilRow.domain false) (Rows.cycNilSpec.post enc Try.prog Try.f7 false true false false) := by
  refine returnsInHanded_of_change (C := Try.checked) cnOwn started (by kernel_rfl) Try.func7
    (ChangeSpec.witness6 (enc := enc) (C := Try.checked) false ⟨#[], #[.int .i64 0], []⟩ 8 (by kernel_rfl) (by kernel_rfl) (by kernel_rfl) (by kernel_rfl)) ?_
  intro W base args ds gs before hval0 hW hcnd _
  have hval : ∀ (j : Nat) t v, Try.f7.params[j]? = some t → args[j]? = some v → Value.okWide Try.prog W .any base t v := hval0
  have hW' := hW
  obtain ⟨p, q, hA0, hV, rfl, hfz, hnd⟩ := hW
  have hA : DataW.TrodAll enc Try.prog W 0 (fun _ => true) true Try.f7.params.toList args.toList ds p := hA0
  rw [Try.params7] at hA hval
  obtain ⟨v0, d0, rfl, rfl, h0⟩ := trodAll_one hA
  obtain ⟨n, rfl, rfl, rfl, wn⟩ := open_int Try.underlying3 (hval 0 3 v0 rfl rfl) h0
  refine (law_calls (cycNil_call n) (.cons (.int _ _) .nil)).mono fun e W' ⟨he, hB⟩ => ?_
  exact ⟨_, he, law_post (fun ds h => match ds, h with | [a], _ => rfl) rfl hW' rfl Try.underlying4 cnLaidOut (by decide +kernel) hB⟩
theorem cycNil_holds : Rows.CycNilSaid :=
  OpenClaim.holds_of_wide 7 Try.f7 rfl rfl rfl rfl rfl rfl rfl ⟨rfl, rfl, rfl, rfl, rfl⟩ rfl rfl rfl rfl rfl (by kernel_rfl) Try.func7 (by kernel_rfl)
    (of_decide_eq_true (by kernel_rfl)) (by unfold Func.isWrapper; first | (rw [if_pos (by decide +kernel)]; kernel_rfl) | (rw [if_neg (by decide +kernel)]; exact ⟨rfl, rfl⟩))
    (fun os started H enc _ => cycNil_lifted os started H enc)
end Go.Proofs.Ytkkccabchhnebaa
