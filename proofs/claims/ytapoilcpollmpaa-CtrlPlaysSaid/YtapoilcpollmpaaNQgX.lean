/- QgX, put together. Conditions: none. -/
import Derived.Test.YtapoilcpollmpaaNQgW
import Derived.Test.YtapoilcpollmpaaMC
import Derived.Test.YtapoilcpollmpaaRows
/- CtrlPlays: whatever a controller is loaded with, sends, hears and is asked, each answer, and its register, is as the document says. -/
section
namespace Go.Proofs.Ytapoilcpollmpaa
open Go.SB Go.RowKit Go.ChangeShapes
set_option maxRecDepth 100000
theorem chOwn : ownKnob Try.prog.godebug = none := by kernel_rfl
theorem chLaidOut : laidOutB Try.prog = true := by kernel_rfl
def opD : List CD := [.int .i64, .int .i64, .int .i64, .int .i64, .int .i64, .str, .int .i64, .int .i64, .bool]
def fiD : List CD := [.int .u32, .int .u32, .bool]
def cfD : List CD := [.int .i64, .int .i64, .int .i64, .int .i64, .int .i64, .int .i64, .int .i64, .sl fiD]
theorem cfDeep : deep Try.prog 5 24 = some cfD := by kernel_rfl
theorem opDeep : deep Try.prog 6 65 = some [.sl opD] := by kernel_rfl
theorem opDec (r : List AV) (h : TypL opD r) : ∃ o : OpD, r = oav o := by
  cases h with | cons h0 h =>
  cases h with | cons h1 h =>
  cases h with | cons h2 h =>
  cases h with | cons h3 h =>
  cases h with | cons h4 h =>
  cases h with | cons h5 h =>
  cases h with | cons h6 h =>
  cases h with | cons h7 h =>
  cases h with | cons h8 h =>
  cases h
  cases h0; rename_i a0 _
  cases h1; rename_i a1 _
  cases h2; rename_i a2 _
  cases h3; rename_i a3 _
  cases h4; rename_i a4 _
  cases h5; rename_i a5
  cases h6; rename_i a6 _
  cases h7; rename_i a7 _
  cases h8; rename_i a8
  exact ⟨⟨a0, a1, ⟨⟨a2, a3, a4, a5⟩, a6, a7, a8⟩⟩, rfl⟩
theorem u32_wf {n : Int} (h : (Lit.int .u32 n).wf = true) : 0 ≤ n ∧ n < 4294967296 := by
  have h : (decide ((0 : Int) ≤ n) && decide (n ≤ 4294967295)) = true := h
  rw [Bool.and_eq_true, decide_eq_true_eq, decide_eq_true_eq] at h
  omega
theorem fiDec (r : List AV) (h : TypL fiD r) : ∃ x : { x : Fi // FiOk x }, r = fiv x.1 := by
  cases h with | cons h0 h =>
  cases h with | cons h1 h =>
  cases h with | cons h2 h =>
  cases h
  cases h0; rename_i a ha
  cases h1; rename_i b hb
  cases h2; rename_i c
  exact ⟨⟨⟨a, b, c⟩, ⟨u32_wf ha, u32_wf hb⟩⟩, rfl⟩
theorem cfDec (r : List AV) (h : TypL cfD r) : ∃ c : Cf, r = c.av ∧ ∀ x, x ∈ c.acc → FiOk x := by
  cases h with | cons h0 h =>
  cases h with | cons h1 h =>
  cases h with | cons h2 h =>
  cases h with | cons h3 h =>
  cases h with | cons h4 h =>
  cases h with | cons h5 h =>
  cases h with | cons h6 h =>
  cases h with | cons h7 h =>
  cases h
  cases h0; rename_i a0 _
  cases h1; rename_i a1 _
  cases h2; rename_i a2 _
  cases h3; rename_i a3 _
  cases h4; rename_i a4 _
  cases h5; rename_i a5 _
  cases h6; rename_i a6 _
  cases h7; rename_i hr
  obtain ⟨l, rfl⟩ := typ_rows fiDec hr
  refine ⟨⟨a0, a1, a2, a3, a4, a5, a6, l.map Subtype.val⟩, ?_, ?_⟩
  · simp [rows, fiD]
  · intro x hx
    obtain ⟨y, _, rfl⟩ := List.mem_map.1 hx
    exact y.2
theorem ctrlPlays_lifted (os : Os) (started : os.Started) (H : Type) (enc : TypeId × Value → H) :
    ReturnsInHanded {} Try.checked os 6 .any (Rows.ctrlPlaysSpec.pre6 enc Try.prog Try.f6 Rows.ctrlPlaysRow.domain false) (Rows.ctrlPlaysSpec.post enc Try.prog Try.f6 false true false false) := by
  refine returnsInHanded_of_change (C := Try.checked) chOwn started (by kernel_rfl) Try.func6
    (ChangeSpec.witness6 (enc := enc) (C := Try.checked) false ⟨#[], #[.agg #[.int .i64 0, .int .i64 0, .int .i64 0, .int .i64 0, .int .i64 0, .int .i64 0, .int .i64 0, .slice none 0 0], .slice none 0 0], []⟩ 8 (by kernel_rfl) (by kernel_rfl) (by kernel_rfl) (by kernel_rfl)) ?_
  intro W base args ds gs before hval0 hW hcnd _
  have hval : ∀ (j : Nat) t v, Try.f6.params[j]? = some t → args[j]? = some v → Value.okWide Try.prog W .any base t v := hval0
  have hW' := hW
  obtain ⟨p, q, hA0, hV, rfl, hfz, hnd⟩ := hW
  have hA : DataW.TrodAll enc Try.prog W 0 (fun _ => true) true Try.f6.params.toList args.toList ds p := hA0
  rw [Try.params6] at hA hval
  obtain ⟨v0, v1, d0, d1, p0, p1, rfl, rfl, rfl, h0, h1⟩ := trodAll_two hA
  obtain ⟨q0, hj, hc⟩ := arg_struct Try.underlying24 cfDeep (hval 0 24 v0 rfl rfl) h0
  obtain ⟨cf, rfl, hfi⟩ := cfDec q0 hj
  obtain ⟨rs, hrs, hc1⟩ := arg_slice Try.underlying65 opDeep (hval 1 65 v1 rfl rfl) h1
  obtain ⟨l, rfl⟩ := typ_rows opDec hrs
  refine (law_calls (CtrlPlays_call cf hfi l) (.cons hc (.cons hc1 .nil))).mono fun e W' ⟨he, hB⟩ => ?_
  exact ⟨_, he, law_post (fun ds h => match ds, h with | [a, b], _ => rfl) rfl hW' rfl Try.underlying4 chLaidOut (by decide +kernel) hB⟩
theorem ctrlPlays_holds : Rows.CtrlPlaysSaid :=
  OpenClaim.holds_of_wide 6 Try.f6 rfl rfl rfl rfl rfl rfl rfl ⟨rfl, rfl, rfl, rfl, rfl⟩ rfl rfl rfl rfl rfl (by kernel_rfl) Try.func6 (by kernel_rfl)
    (of_decide_eq_true (by kernel_rfl)) (by unfold Func.isWrapper; first | (rw [if_pos (by decide +kernel)]; kernel_rfl) | (rw [if_neg (by decide +kernel)]; exact ⟨rfl, rfl⟩))
    (fun os started H enc _ => ctrlPlays_lifted os started H enc)
end Go.Proofs.Ytapoilcpollmpaa
end
