/- QcF, put together. Conditions: none. -/
import Derived.Test.YtkkccabchhnebaaNQcE
import Derived.Test.YtkkccabchhnebaaMC
import Derived.Test.YtkkccabchhnebaaRows
/- CycRight: which jobs may be, and be begun, and at which times they are to send. -/
section
namespace Go.Proofs.Ytkkccabchhnebaa
open Go.SB Go.RowKit Go.ChangeShapes
set_option maxRecDepth 100000
theorem crOwn : ownKnob Try.prog.godebug = none := by kernel_rfl
theorem crLaidOut : laidOutB Try.prog = true := by kernel_rfl
def frD : List CD := [.int .i64, .int .i64, .int .i64, .str]
def jobD : List CD := [.int .i64, .int .i64, .int .i64, .int .i64, .sl frD, .bool, .bool]
theorem jobDeep : deep Try.prog 5 59 = some jobD := by kernel_rfl
theorem frDec (r : List AV) (h : TypL frD r) : ∃ f : Fr, r = frv f := by
  cases h with | cons h0 h =>
  cases h with | cons h1 h =>
  cases h with | cons h2 h =>
  cases h with | cons h3 h =>
  cases h
  cases h0; rename_i a _
  cases h1; rename_i b _
  cases h2; rename_i c _
  cases h3; rename_i s
  exact ⟨⟨a, b, c, s⟩, rfl⟩
theorem jobDec (r : List AV) (h : TypL jobD r) : ∃ j : Jb, r = j.av := by
  cases h with | cons h0 h =>
  cases h with | cons h1 h =>
  cases h with | cons h2 h =>
  cases h with | cons h3 h =>
  cases h with | cons h4 h =>
  cases h with | cons h5 h =>
  cases h with | cons h6 h =>
  cases h
  cases h0; rename_i a _
  cases h1; rename_i b _
  cases h2; rename_i c _
  cases h3; rename_i d _
  cases h5; rename_i n
  cases h6; rename_i t
  cases h4; rename_i hr
  obtain ⟨fs, rfl⟩ := typ_rows frDec hr
  exact ⟨⟨a, b, c, d, fs, n, t⟩, rfl⟩
theorem cycRight_lifted (os : Os) (started : os.Started) (H : Type) (enc : TypeId × Value → H) :
    ReturnsInHanded {} Try.checked os 6 .any (Rows.cycRightSpec.pre6 enc Try.prog Try.f6 Rows.cycRightRow.domain false) (Rows.cycRightSpec.post enc Try.prog Try.f6 false true false false) := by
  refine returnsInHanded_of_change (C := Try.checked) crOwn started (by kernel_rfl) Try.func6
    (ChangeSpec.witness6 (enc := enc) (C := Try.checked) false ⟨#[], #[.agg #[.int .i64 0, .int .i64 0, .int .i64 0, .int .i64 0, .slice none 0 0, .bool false, .bool false], .int .i64 0, .int .i64 0], []⟩ 8 (by kernel_rfl) (by kernel_rfl) (by kernel_rfl) (by kernel_rfl)) ?_
  intro W base args ds gs before hval0 hW hcnd _
  have hval : ∀ (j : Nat) t v, Try.f6.params[j]? = some t → args[j]? = some v → Value.okWide Try.prog W .any base t v := hval0
  have hW' := hW
  obtain ⟨p, q, hA0, hV, rfl, hfz, hnd⟩ := hW
  have hA : DataW.TrodAll enc Try.prog W 0 (fun _ => true) true Try.f6.params.toList args.toList ds p := hA0
  rw [Try.params6] at hA hval
  obtain ⟨v0, v1, v2, d0, d1, d2, p0, p1, p2, rfl, rfl, rfl, h0, h1, h2⟩ := trodAll_three hA
  obtain ⟨n1, rfl, rfl, rfl, wn1⟩ := open_int Try.underlying3 (hval 1 3 v1 rfl rfl) h1
  obtain ⟨n2, rfl, rfl, rfl, wn2⟩ := open_int Try.underlying3 (hval 2 3 v2 rfl rfl) h2
  obtain ⟨q, hj, hc⟩ := arg_struct Try.underlying59 jobDeep (hval 0 59 v0 rfl rfl) h0
  obtain ⟨j, rfl⟩ := jobDec q hj
  refine (law_calls (CycRight_call j n1 n2) (.cons hc (.cons (.int _ _) (.cons (.int _ _) .nil)))).mono fun e W' ⟨he, hB⟩ => ?_
  exact ⟨_, he, law_post (fun ds h => match ds, h with | [a, b, c], _ => rfl) rfl hW' rfl Try.underlying4 crLaidOut (by decide +kernel) hB⟩
theorem cycRight_holds : Rows.CycRightSaid :=
  OpenClaim.holds_of_wide 6 Try.f6 rfl rfl rfl rfl rfl rfl rfl ⟨rfl, rfl, rfl, rfl, rfl⟩ rfl rfl rfl rfl rfl (by kernel_rfl) Try.func6 (by kernel_rfl)
    (of_decide_eq_true (by kernel_rfl)) (by unfold Func.isWrapper; first | (rw [if_pos (by decide +kernel)]; kernel_rfl) | (rw [if_neg (by decide +kernel)]; exact ⟨rfl, rfl⟩))
    (fun os started H enc _ => cycRight_lifted os started H enc)
end Go.Proofs.Ytkkccabchhnebaa
end
