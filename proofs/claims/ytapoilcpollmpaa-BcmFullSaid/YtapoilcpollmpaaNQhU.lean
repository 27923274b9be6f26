/- QhU, put together. Conditions: none. -/
import Derived.Test.YtapoilcpollmpaaNQhT
import Derived.Test.YtapoilcpollmpaaMC
import Derived.Test.YtapoilcpollmpaaRows
/- BcmFull: a socket has as many jobs of sending, and as many of watching, as may be, and no more; one that is set up again takes its own place. -/
section
namespace Go.Proofs.Ytapoilcpollmpaa
open Go.SB Go.RowKit Go.ChangeShapes
set_option maxRecDepth 100000
theorem crOwn : ownKnob Try.prog.godebug = none := by kernel_rfl
theorem crLaidOut : laidOutB Try.prog = true := by kernel_rfl
theorem bcmFull_lifted (os : Os) (started : os.Started) (H : Type) (enc : TypeId × Value → H) :
    ReturnsInHanded {} Try.checked os 5 .any (Rows.bcmFullSpec.pre6 enc Try.prog Try.f5 Rows.bcmFullRow.domain false) (Rows.bcmFullSpec.post enc Try.prog Try.f5 false true false false) := by
  refine returnsInHanded_of_change (C := Try.checked) crOwn started (by kernel_rfl) Try.func5
    (ChangeSpec.witness6 (enc := enc) (C := Try.checked) false ⟨#[], #[.int .i64 0, .int .i64 0], []⟩ 8 (by kernel_rfl) (by kernel_rfl) (by kernel_rfl) (by kernel_rfl)) ?_
  intro W base args ds gs before hval0 hW hcnd _
  have hval : ∀ (j : Nat) t v, Try.f5.params[j]? = some t → args[j]? = some v → Value.okWide Try.prog W .any base t v := hval0
  have hW' := hW
  obtain ⟨p, q, hA0, hV, rfl, hfz, hnd⟩ := hW
  have hA : DataW.TrodAll enc Try.prog W 0 (fun _ => true) true Try.f5.params.toList args.toList ds p := hA0
  rw [Try.params5] at hA hval
  obtain ⟨v0, v1, d0, d1, p0, p1, rfl, rfl, rfl, h0, h1⟩ := trodAll_two hA
  obtain ⟨n0, rfl, rfl, rfl, wn0⟩ := open_int Try.underlying3 (hval 0 3 v0 rfl rfl) h0
  obtain ⟨n1, rfl, rfl, rfl, wn1⟩ := open_int Try.underlying3 (hval 1 3 v1 rfl rfl) h1
  refine (law_calls (BcmFull_call n0 n1) (.cons (.int _ _) (.cons (.int _ _) .nil))).mono fun e W' ⟨he, hB⟩ => ?_
  exact ⟨_, he, law_post (fun ds h => match ds, h with | [a, b], _ => rfl) rfl hW' rfl Try.underlying4 crLaidOut (by decide +kernel) hB⟩
theorem bcmFull_holds : Rows.BcmFullSaid :=
  OpenClaim.holds_of_wide 5 Try.f5 rfl rfl rfl rfl rfl rfl rfl ⟨rfl, rfl, rfl, rfl, rfl⟩ rfl rfl rfl rfl rfl (by kernel_rfl) Try.func5 (by kernel_rfl)
    (of_decide_eq_true (by kernel_rfl)) (by unfold Func.isWrapper; first | (rw [if_pos (by decide +kernel)]; kernel_rfl) | (rw [if_neg (by decide +kernel)]; exact ⟨rfl, rfl⟩))
    (fun os started H enc _ => bcmFull_lifted os started H enc)
end Go.Proofs.Ytapoilcpollmpaa
end
