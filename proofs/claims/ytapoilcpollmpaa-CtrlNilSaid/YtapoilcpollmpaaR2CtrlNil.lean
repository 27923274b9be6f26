/- CtrlNil: a controller that is none does nothing, and has nothing. Conditions: none. -/
import Derived.Test.YtapoilcpollmpaaR2IcCtrlNil
import Derived.Test.YtapoilcpollmpaaFwLa
import Derived.Test.YtapoilcpollmpaaRows
namespace Go.Proofs.Ytapoilcpollmpaa
open Go.SB Go.RowKit Go.ChangeShapes
set_option maxRecDepth 100000
theorem knFollows : Try.prog.follows .mixedOrders = true := by kernel_rfl
theorem knOwn : ownKnob Try.prog.godebug = none := by kernel_rfl
theorem knLaidOut : laidOutB Try.prog = true := by kernel_rfl
theorem ctrlNil_ev : evF (TabL.get tabL) 2000 20 8 [.agg (List.replicate 7 .any)] [] = some (.bool true, []) := by kernel_rfl
theorem ctrlNil_call : ACall Try.prog 8 [.agg (List.replicate 7 .any)] [] fun r _ => r = .bool true :=
  (evF_ok knFollows (TabL.get_ok tabOk) 20 8 _ _ _ _ ctrlNil_ev).mono fun _ _ h => h.1
theorem ctrlNil_lifted (os : Os) (started : os.Started) (H : Type) (enc : TypeId × Value → H) :
    ReturnsInHanded {} Try.checked os 8 .any (Rows.ctrlNilSpec.pre6 enc Try.prog Try.f8 Rows.ctrlNilRow.domain false) (Rows.ctrlNilSpec.post enc Try.prog Try.f8 false true false false) := by
  refine returnsInHanded_of_change (C := Try.checked) knOwn started (by kernel_rfl) Try.func8
    (ChangeSpec.witness6 (enc := enc) (C := Try.checked) false ⟨#[], #[.agg #[.int .i64 0, .int .i64 0, .int .i64 0, .string ⟨#[]⟩, .int .i64 0, .int .i64 0, .bool false]], []⟩ 8 (by kernel_rfl) (by kernel_rfl) (by kernel_rfl) (by kernel_rfl)) ?_
  intro W base args ds gs before hval0 hW hcnd _
  have hval : ∀ (j : Nat) t v, Try.f8.params[j]? = some t → args[j]? = some v → Value.okWide Try.prog W .any base t v := hval0
  have hW' := hW
  obtain ⟨p, q, hA0, hV, rfl, hfz, hnd⟩ := hW
  have hA : DataW.TrodAll enc Try.prog W 0 (fun _ => true) true Try.f8.params.toList args.toList ds p := hA0
  rw [Try.params8] at hA hval
  obtain ⟨v0, d0, rfl, rfl, h0⟩ := trodAll_one hA
  have c0 := okWide_agg (n := 7) Try.underlying70 (by kernel_rfl) (hval 0 70 v0 rfl rfl) (mod0 W)
  refine (law_calls ctrlNil_call (.cons c0 .nil)).mono fun e W' ⟨he, hB⟩ => ?_
  exact ⟨_, he, law_post (fun ds h => match ds, h with | [a], _ => rfl) rfl hW' rfl Try.underlying4 knLaidOut (by decide +kernel) hB⟩
theorem ctrlNil_holds : Rows.CtrlNilSaid :=
  OpenClaim.holds_of_wide 8 Try.f8 rfl rfl rfl rfl rfl rfl rfl ⟨rfl, rfl, rfl, rfl, rfl⟩ rfl rfl rfl rfl rfl (by kernel_rfl) Try.func8 (by kernel_rfl)
    (of_decide_eq_true (by kernel_rfl)) (by unfold Func.isWrapper; first | (rw [if_pos (by decide +kernel)]; kernel_rfl) | (rw [if_neg (by decide +kernel)]; exact ⟨rfl, rfl⟩))
    (fun os started H enc _ => ctrlNil_lifted os started H enc)
end Go.Proofs.Ytapoilcpollmpaa
