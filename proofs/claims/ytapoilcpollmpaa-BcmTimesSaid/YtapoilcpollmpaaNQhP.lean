/- QhP, put together. Conditions: none. -/
import Derived.Test.YtapoilcpollmpaaNQhO
import Derived.Test.YtapoilcpollmpaaMC
import Derived.Test.YtapoilcpollmpaaRows
/- BcmTimes: asked at each tick, a socket that has one job alone sends at just the times that the document tells of it. -/
section
namespace Go.Proofs.Ytapoilcpollmpaa
open Go.SB Go.RowKit Go.ChangeShapes
set_option maxRecDepth 100000
theorem crOwn : ownKnob Try.prog.godebug = none := by kernel_rfl
theorem crLaidOut : laidOutB Try.prog = true := by kernel_rfl
def frD : List CD := [.int .i64, .int .i64, .int .i64, .str]
def jobD : List CD := [.int .i64, .int .i64, .int .i64, .int .i64, .sl frD, .bool, .bool]
theorem jobDeep : deep Try.prog 6 41 = some jobD := by kernel_rfl
theorem frDec (r : List AV) (h : TypL frD r) : ∃ f : Fr, r = frv f := by
  cases h with | cons h0 h =>
  cases h with | cons h1 h =>
  cases h with | cons h2 h =>
  cases h with | cons h3 h =>
  cases h
  cases h0; rename_i a _
  cases h1; rename_i b _
  cases h2; rename_i c _
  cases h3; rename_i s
  exact ⟨⟨a, b, c, s⟩, rfl⟩
theorem jobDec (r : List AV) (h : TypL jobD r) : ∃ j : Jb, r = j.av := by
  cases h with | cons h0 h =>
  cases h with | cons h1 h =>
  cases h with | cons h2 h =>
  cases h with | cons h3 h =>
  cases h with | cons h4 h =>
  cases h with | cons h5 h =>
  cases h with | cons h6 h =>
  cases h
  cases h0; rename_i a _
  cases h1; rename_i b _
  cases h2; rename_i c _
  cases h3; rename_i d _
  cases h5; rename_i n
  cases h6; rename_i t
  cases h4; rename_i hr
  obtain ⟨fs, rfl⟩ := typ_rows frDec hr
  exact ⟨⟨a, b, c, d, fs, n, t⟩, rfl⟩
theorem trodAll_four {H : Type} {enc : TypeId × Value → H} {P : Program} {w : World} {base : Nat} {spare : Nat → Bool} {held : Bool} {t0 t1 t2 t3 : TypeId} {args : Array Value} {ds : List (DataW H)} {ps : List MemPlace}
    (h : DataW.TrodAll enc P w base spare held [t0, t1, t2, t3] args.toList ds ps) :
    ∃ v0 v1 v2 v3 d0 d1 d2 d3 p0 p1 p2 p3, args = #[v0, v1, v2, v3] ∧ ds = [d0, d1, d2, d3] ∧ ps = p0 ++ p1 ++ p2 ++ p3 ∧ DataW.Trod enc P w base spare held t0 v0 d0 p0 ∧ DataW.Trod enc P w base spare held t1 v1 d1 p1 ∧
      DataW.Trod enc P w base spare held t2 v2 d2 p2 ∧ DataW.Trod enc P w base spare held t3 v3 d3 p3 := by
  obtain ⟨v0, vs0, d0, ds0, p0, q0, hargs, rfl, rfl, hd0, hr0⟩ := trodAll_cons h
  obtain ⟨v1, vs1, d1, ds1, p1, q1, rfl, rfl, rfl, hd1, hr1⟩ := trodAll_cons hr0
  obtain ⟨v2, vs2, d2, ds2, p2, q2, rfl, rfl, rfl, hd2, hr2⟩ := trodAll_cons hr1
  obtain ⟨v3, vs3, d3, ds3, p3, q3, rfl, rfl, rfl, hd3, hr3⟩ := trodAll_cons hr2
  obtain ⟨rfl, rfl, rfl⟩ := trodAll_nil hr3
  exact ⟨v0, v1, v2, v3, d0, d1, d2, d3, p0, p1, p2, p3, by cases args; simp_all, rfl, by simp, hd0, hd1, hd2, hd3⟩
theorem bcmTimes_lifted (os : Os) (started : os.Started) (H : Type) (enc : TypeId × Value → H) :
    ReturnsInHanded {} Try.checked os 4 .any (Rows.bcmTimesSpec.pre6 enc Try.prog Try.f4 Rows.bcmTimesRow.domain false) (Rows.bcmTimesSpec.post enc Try.prog Try.f4 false true false false) := by
  refine returnsInHanded_of_change (C := Try.checked) crOwn started (by kernel_rfl) Try.func4
    (ChangeSpec.witness6 (enc := enc) (C := Try.checked) false ⟨#[], #[.agg #[.int .i64 0, .int .i64 0, .int .i64 0, .int .i64 0, .slice none 0 0, .bool false, .bool false], .agg #[.int .i64 0, .int .i64 0, .int .i64 0, .int .i64 0, .slice none 0 0, .bool false, .bool false], .int .i64 0, .int .i64 0], []⟩ 8 (by kernel_rfl) (by kernel_rfl) (by kernel_rfl) (by kernel_rfl)) ?_
  intro W base args ds gs before hval0 hW hcnd _
  have hval : ∀ (j : Nat) t v, Try.f4.params[j]? = some t → args[j]? = some v → Value.okWide Try.prog W .any base t v := hval0
  have hW' := hW
  obtain ⟨p, q, hA0, hV, rfl, hfz, hnd⟩ := hW
  have hA : DataW.TrodAll enc Try.prog W 0 (fun _ => true) true Try.f4.params.toList args.toList ds p := hA0
  rw [Try.params4] at hA hval
  obtain ⟨v0, v1, v2, v3, d0, d1, d2, d3, p0, p1, p2, p3, rfl, rfl, rfl, h0, h1, h2, h3⟩ := trodAll_four hA
  obtain ⟨n2, rfl, rfl, rfl, wn2⟩ := open_int Try.underlying3 (hval 2 3 v2 rfl rfl) h2
  obtain ⟨n3, rfl, rfl, rfl, wn3⟩ := open_int Try.underlying3 (hval 3 3 v3 rfl rfl) h3
  obtain ⟨q0, hj, hc⟩ := arg_struct Try.underlying41 jobDeep (hval 0 41 v0 rfl rfl) h0
  obtain ⟨j, rfl⟩ := jobDec q0 hj
  obtain ⟨q1, hk, hc1⟩ := arg_struct Try.underlying41 jobDeep (hval 1 41 v1 rfl rfl) h1
  obtain ⟨k, rfl⟩ := jobDec q1 hk
  refine (law_calls (BcmTimes_call j k n2 n3) (.cons hc (.cons hc1 (.cons (.int _ _) (.cons (.int _ _) .nil))))).mono fun e W' ⟨he, hB⟩ => ?_
  exact ⟨_, he, law_post (fun ds h => match ds, h with | [a, b, c, d], _ => rfl) rfl hW' rfl Try.underlying4 crLaidOut (by decide +kernel) hB⟩
theorem bcmTimes_holds : Rows.BcmTimesSaid :=
  OpenClaim.holds_of_wide 4 Try.f4 rfl rfl rfl rfl rfl rfl rfl ⟨rfl, rfl, rfl, rfl, rfl⟩ rfl rfl rfl rfl rfl (by kernel_rfl) Try.func4 (by kernel_rfl)
    (of_decide_eq_true (by kernel_rfl)) (by unfold Func.isWrapper; first | (rw [if_pos (by decide +kernel)]; kernel_rfl) | (rw [if_neg (by decide +kernel)]; exact ⟨rfl, rfl⟩))
    (fun os started H enc _ => bcmTimes_lifted os started H enc)
end Go.Proofs.Ytapoilcpollmpaa
end
