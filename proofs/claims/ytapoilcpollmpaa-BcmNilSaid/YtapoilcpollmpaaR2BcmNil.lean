/- BcmNil: jobs that are none do nothing, and tell nothing. Conditions: none. -/
import Derived.Test.YtapoilcpollmpaaR2IcBcmNil
import Derived.Test.YtapoilcpollmpaaFwLa
import Derived.Test.YtapoilcpollmpaaRows
namespace Go.Proofs.Ytapoilcpollmpaa
open Go.SB Go.RowKit Go.ChangeShapes
set_option maxRecDepth 100000
theorem jnFollows : Try.prog.follows .mixedOrders = true := by kernel_rfl
theorem jnOwn : ownKnob Try.prog.godebug = none := by kernel_rfl
theorem jnLaidOut : laidOutB Try.prog = true := by kernel_rfl
theorem bcmNil_ev (n : Int) : evF (TabL.get tabL) 2000 20 9 [.int .i64 n, .agg (List.replicate 4 .any)] [] = some (.bool true, []) := by kernel_rfl
theorem bcmNil_call (n : Int) : ACall Try.prog 9 [.int .i64 n, .agg (List.replicate 4 .any)] [] fun r _ => r = .bool true :=
  (evF_ok jnFollows (TabL.get_ok tabOk) 20 9 _ _ _ _ (bcmNil_ev n)).mono fun _ _ h => h.1
theorem bcmNil_lifted (os : Os) (started : os.Started) (H : Type) (enc : TypeId × Value → H) :
    ReturnsInHanded {} Try.checked os 9 .any (Rows.bcmNilSpec.pre6 enc Try.prog Try.f9 Rows.bcmNilRow.domain false) (Rows.bcmNilSpec.post enc Try.prog Try.f9 false true false false) := by
  refine returnsInHanded_of_change (C := Try.checked) jnOwn started (by kernel_rfl) Try.func9
    (ChangeSpec.witness6 (enc := enc) (C := Try.checked) false ⟨#[], #[.int .i64 0, .agg #[.int .i64 0, .int .i64 0, .int .i64 0, .string ⟨#[]⟩]], []⟩ 8 (by kernel_rfl) (by kernel_rfl) (by kernel_rfl) (by kernel_rfl)) ?_
  intro W base args ds gs before hval0 hW hcnd _
  have hval : ∀ (j : Nat) t v, Try.f9.params[j]? = some t → args[j]? = some v → Value.okWide Try.prog W .any base t v := hval0
  have hW' := hW
  obtain ⟨p, q, hA0, hV, rfl, hfz, hnd⟩ := hW
  have hA : DataW.TrodAll enc Try.prog W 0 (fun _ => true) true Try.f9.params.toList args.toList ds p := hA0
  rw [Try.params9] at hA hval
  obtain ⟨v0, v1, d0, d1, p0, p1, rfl, rfl, rfl, h0, h1⟩ := trodAll_two hA
  obtain ⟨n, rfl, rfl, rfl, wn⟩ := open_int Try.underlying3 (hval 0 3 v0 rfl rfl) h0
  have c1 := okWide_agg (n := 4) Try.underlying27 (by kernel_rfl) (hval 1 27 v1 rfl rfl) (mod0 W)
  refine (law_calls (bcmNil_call n) (.cons (.int _ _) (.cons c1 .nil))).mono fun e W' ⟨he, hB⟩ => ?_
  exact ⟨_, he, law_post (fun ds h => match ds, h with | [a, b], _ => rfl) rfl hW' rfl Try.underlying4 jnLaidOut (by decide +kernel) hB⟩
theorem bcmNil_holds : Rows.BcmNilSaid :=
  OpenClaim.holds_of_wide 9 Try.f9 rfl rfl rfl rfl rfl rfl rfl ⟨rfl, rfl, rfl, rfl, rfl⟩ rfl rfl rfl rfl rfl (by kernel_rfl) Try.func9 (by kernel_rfl)
    (of_decide_eq_true (by kernel_rfl)) (by unfold Func.isWrapper; first | (rw [if_pos (by decide +kernel)]; kernel_rfl) | (rw [if_neg (by decide +kernel)]; exact ⟨rfl, rfl⟩))
    (fun os started H enc _ => bcmNil_lifted os started H enc)
end Go.Proofs.Ytapoilcpollmpaa
