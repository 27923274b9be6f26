/- QfI, put together. Conditions: none. -/
import Derived.Test.YtapoilcpollmpaaNQfH
/- CtrlHears: the law's call. -/
section
namespace Go.Proofs.Ytapoilcpollmpaa
open Go.SB
attribute [local irreducible] HW HSS HAS HRQ HEO HOP HCK
set_option maxRecDepth 100000
set_option maxHeartbeats 400000
set_option linter.unusedSimpArgs false
set_option pp.deepTerms true
attribute [local go_sem high] own_ren

def sumD (fs : List Fr) : Nat → Int
  | 0 => 0
  | i + 1 => sumD fs i + min ((fs[i]?.map fun f => (f.data.length : Int)).getD 0) 5000
theorem sumD_le (fs : List Fr) : ∀ i, 0 ≤ sumD fs i ∧ sumD fs i ≤ 5000 * i
  | 0 => by simp [sumD]
  | i + 1 => by
    have := sumD_le fs i
    unfold sumD
    cases fs[i]? <;> simp <;> omega
/-- What is kept at the end is fetched. -/
theorem L4 (cf : Cf) (c : Ct) (m : Nat) (hm : m ≤ 200) (hcm : c.rg.many = m) (inn out : List Fr) (th : Int) (hI : CInv cf 200 c inn out th) (v2 v3 v20 v21 v22 : AV) (Q : IExit → List AV → AHeap → Prop)
    (hq : ∀ c out, CInv cf 200 c inn out th → c.rg.many = 0 → ∀ ρ, ρ = rg 63 [(7, .ptr 1 0), (8, .sl 5 4 0 inn.length false), (9, .sl 6 4 0 out.length false), (49, .int .i64 m), (50, .int .i64 m)] → Q (.exit 6) ρ (HH cf c inn out)) :
    HW Try.prog 0 hc_law14_CtrlHears_l4 (rg 63 [(2, v2), (3, v3), (20, v20), (21, v21), (22, v22), (7, .ptr 1 0), (8, .sl 5 4 0 inn.length false), (9, .sl 6 4 0 out.length false), (49, .int .i64 m), (50, .int .i64 0)]) (HH cf c inn out) Q := by
  unfold hc_law14_CtrlHears_l4
  refine hw_loop m (fun k ρ A => ∃ c out, CInv cf 200 c inn out th ∧ c.rg.many = (m : Int) - k ∧ ρ = rg 63 [(7, .ptr 1 0), (8, .sl 5 4 0 inn.length false), (9, .sl 6 4 0 out.length false), (49, .int .i64 m), (50, .int .i64 k)] ∧ A = HH cf c inn out) ⟨none, rfl, c, out, hI, by omega, by simp only [go_sem], rfl⟩ ?_
  rintro k ρ A hk ⟨c, out, hI, hcm, rfl, rfl⟩
  by_cases hlt : k < m
  · have hF := cFetch_ok c hI.ok
    have hN := hI.fetch
    obtain ⟨_, holen⟩ := hI.olen
    have h0 : ¬ c.rg.many = 0 := by omega
    have hM : (fetched c).rg.many = (m : Int) - (k + 1 : Nat) := by
      simp only [fetched, take_many, if_neg h0]; omega
    rw [if_neg h0] at hF
    rw [outF, if_neg h0] at hN
    generalize c.rg.first = g at hF hN
    have hr := trivial
    try simp -dsimp -implicitDefEqProofs (maxSteps := 1000000) (disch := first | exact dis | fail) only [hc_law14_CtrlHears_b4, HH, Ct.A, Fr.av, frv_snoc, appF_full (show (rows frv out).length = out.length from rows_length), go_sem]
    repeat' ((first | ((with_reducible refine ACall.atE (hF) [1, 2, 3, 4] ?_ ?_ ?_ ?_ ?_); (focus decide); (focus rfl); (focus (simp -dsimp -implicitDefEqProofs (maxSteps := 1000000) (disch := first | exact dis | fail) only [standsL, HH, Ct.A, Fr.av, frv_snoc, appF_full (show (rows frv out).length = out.length from rows_length), go_sem]; done)); (focus (first | rfl | (simp -dsimp -implicitDefEqProofs (maxSteps := 1000000) (disch := first | exact dis | fail) only [HH, Ct.A, Fr.av, frv_snoc, appF_full (show (rows frv out).length = out.length from rows_length), go_sem]; done)))) | (with_reducible first | refine w_if ?_ ?_ | refine w_gt ?_ ?_ | refine w_gf ?_ ?_ | refine w_io ?_ ?_ | refine w_gdt ?_ ?_ | refine w_gdf ?_ ?_ | refine w_ite ?_ ?_) <;> intro h <;> (try rw [h]) <;> replace hr := And.intro h hr <;> replace h := nrm h <;> try (first | (exfalso; omega) | exact (bx h (by assumption)).elim | exact (bx (by assumption) h).elim) | ((with_reducible refine And.intro ?_ ?_); (focus omega))) <;> try simp -dsimp -implicitDefEqProofs (maxSteps := 1000000) (disch := first | exact dis | fail) only [HH, Ct.A, Fr.av, frv_snoc, appF_full (show (rows frv out).length = out.length from rows_length), go_sem])
    refine ⟨some [0, 1, 2, 3, 4, 5, 9], rfl, fetched c, out ++ [g], hN, hM, ?_, ?_⟩
    · simp only [foldR_eq, go_sem, List.length_append, List.length_singleton]; rfl
    · simp only [foldA_eq, go_sem, HH, fetched]
  · obtain rfl : k = m := by omega
    have hr := trivial
    try simp -dsimp -implicitDefEqProofs (maxSteps := 1000000) (disch := first | exact dis | fail) only [hc_law14_CtrlHears_b4, HH, Ct.A, go_sem]
    repeat' ((first | (with_reducible first | refine w_if ?_ ?_ | refine w_gt ?_ ?_ | refine w_gf ?_ ?_ | refine w_io ?_ ?_ | refine w_gdt ?_ ?_ | refine w_gdf ?_ ?_ | refine w_ite ?_ ?_) <;> intro h <;> (try rw [h]) <;> replace hr := And.intro h hr <;> replace h := nrm h <;> try (first | (exfalso; omega) | exact (bx h (by assumption)).elim | exact (bx (by assumption) h).elim) | ((with_reducible refine And.intro ?_ ?_); (focus omega))) <;> try simp -dsimp -implicitDefEqProofs (maxSteps := 1000000) (disch := first | exact dis | fail) only [HH, Ct.A, go_sem])
    exact hq c out hI (by omega) _ (by simp only [go_sem])
theorem CInv.mono {cf : Cf} {i k : Nat} {c : Ct} {inn out : List Fr} {th : Int} (h : CInv cf i c inn out th) (hk : i ≤ k) : CInv cf k c inn out th :=
  ⟨h.acc, h.ok, h.all, h.th, by have := h.lost; omega, by have := h.len; omega⟩
theorem CInv.nil (cf : Cf) : CInv cf 0 (Ct.new cf) [] [] 0 := ⟨rfl, new_ok' _, rfl, rfl, Int.le_refl _, Nat.le_refl _⟩
theorem CtrlHears_call (cf : Cf) (hfi : ∀ x, x ∈ cf.acc → FiOk x) (fs : List Fr) (n : Int) : ACall Try.prog f_law14_CtrlHears [.agg cf.av, .ps 4 (rows frv fs), .int .i64 n] [] fun r _ => r = .bool true := by
  refine acallH ok_law14_CtrlHears ?_
  have hr := trivial
  try simp -dsimp -implicitDefEqProofs (maxSteps := 1000000) (disch := first | exact dis | fail) only [hc_law14_CtrlHears, Cf.av, go_sem]
  repeat' ((first | (with_reducible first | refine w_if ?_ ?_ | refine w_gt ?_ ?_ | refine w_gf ?_ ?_ | refine w_io ?_ ?_ | refine w_gdt ?_ ?_ | refine w_gdf ?_ ?_ | refine w_ite ?_ ?_) <;> intro h <;> (try rw [h]) <;> replace hr := And.intro h hr <;> replace h := nrm h <;> try (first | (exfalso; omega) | exact (bx h (by assumption)).elim | exact (bx (by assumption) h).elim) | ((with_reducible refine And.intro ?_ ?_); (focus omega))) <;> try simp -dsimp -implicitDefEqProofs (maxSteps := 1000000) (disch := first | exact dis | fail) only [Cf.av, go_sem])
  unfold hc_law14_CtrlHears_l1
  refine hw_loop (min fs.length 201) (fun i ρ A => ρ = rg 63 [(1, .ps 4 (rows frv fs)), (2, .int .i64 n), (3, .ptr 0 0), (5, .int .i64 (sumD fs i)), (6, .int .i64 i)] ∧ A = [some (.cells cf.av)]) ⟨none, rfl, by simp only [go_sem, sumD, foldRn], rfl⟩ ?_
  rintro i ρ A hi ⟨rfl, rfl⟩
  have h5 := sumD_le fs i
  by_cases hlt : i < min fs.length 201
  · have hx : fs[i]? = some fs[i] := List.getElem?_eq_getElem (by omega)
    generalize fs[i] = f at hx
    have hd : (rows frv fs).getD i [] = f.av := by simp [List.getD, rows_get, hx, frv]
    have hs : sumD fs (i + 1) = sumD fs i + min (f.data.length : Int) 5000 := by simp [sumD, hx]
    have hr := trivial
    try simp -dsimp -implicitDefEqProofs (maxSteps := 1000000) (disch := first | exact dis | fail) only [hc_law14_CtrlHears_b1, Cf.av, Int.toNat_natCast, hd, Fr.av, go_sem]
    repeat' ((first | (with_reducible first | refine w_if ?_ ?_ | refine w_gt ?_ ?_ | refine w_gf ?_ ?_ | refine w_io ?_ ?_ | refine w_gdt ?_ ?_ | refine w_gdf ?_ ?_ | refine w_ite ?_ ?_) <;> intro h <;> (try rw [h]) <;> replace hr := And.intro h hr <;> replace h := nrm h <;> try (first | (exfalso; omega) | exact (bx h (by assumption)).elim | exact (bx (by assumption) h).elim) | ((with_reducible refine And.intro ?_ ?_); (focus omega))) <;> try simp -dsimp -implicitDefEqProofs (maxSteps := 1000000) (disch := first | exact dis | fail) only [Cf.av, Int.toNat_natCast, hd, Fr.av, go_sem])
    exact ⟨none, rfl, by simp only [hs, foldRn, go_sem]; rfl, rfl⟩
  · obtain rfl : i = min fs.length 201 := by omega
    have alive := alive_ok
    have hr := trivial
    try simp -dsimp -implicitDefEqProofs (maxSteps := 1000000) (disch := first | exact dis | fail) only [hc_law14_CtrlHears_b1, Cf.av, go_sem]
    repeat' ((first | (with_reducible first | refine w_if ?_ ?_ | refine w_gt ?_ ?_ | refine w_gf ?_ ?_ | refine w_io ?_ ?_ | refine w_gdt ?_ ?_ | refine w_gdf ?_ ?_ | refine w_ite ?_ ?_) <;> intro h <;> (try rw [h]) <;> replace hr := And.intro h hr <;> replace h := nrm h <;> try (first | (exfalso; omega) | exact (bx h (by assumption)).elim | exact (bx (by assumption) h).elim) | ((with_reducible refine And.intro ?_ ?_); (focus omega))) <;> try simp -dsimp -implicitDefEqProofs (maxSteps := 1000000) (disch := first | exact dis | fail) only [Cf.av, go_sem])
    · have hr := trivial
      try simp -dsimp -implicitDefEqProofs (maxSteps := 1000000) (disch := first | exact dis | fail) only [Cf.av, go_sem]
      repeat' ((first | (with_reducible refine PCall.aci alive ?_) | (with_reducible first | refine w_if ?_ ?_ | refine w_gt ?_ ?_ | refine w_gf ?_ ?_ | refine w_io ?_ ?_ | refine w_gdt ?_ ?_ | refine w_gdf ?_ ?_ | refine w_ite ?_ ?_) <;> intro h <;> (try rw [h]) <;> replace hr := And.intro h hr <;> replace h := nrm h <;> try (first | (exfalso; omega) | exact (bx h (by assumption)).elim | exact (bx (by assumption) h).elim) | ((with_reducible refine And.intro ?_ ?_); (focus omega))) <;> try simp -dsimp -implicitDefEqProofs (maxSteps := 1000000) (disch := first | exact dis | fail) only [Cf.av, go_sem])
      exact ⟨none, rfl, rfl⟩
    · obtain ⟨m, rfl⟩ : ∃ m : Nat, n = m := ⟨n.toNat, by omega⟩
      have hNew := cNew_ok cf (by omega)
      have hI0 := CInv.nil cf
      have hfs : fs.length ≤ 200 := by omega
      have hacc : cf.acc.length ≤ 50 := by omega
      have hm : m ≤ 3 := by omega
      clear hlt h5 hi
      generalize Ct.new cf = c0 at hNew hI0
      have key := fun v6 Q hq => L3 cf hacc hfi fs hfs m hm c0 hI0 v6 Q hq
      simp only [HH, List.take_succ_cons, List.take_zero, Cf.av, go_sem] at key
      have hr := trivial
      try simp -dsimp -implicitDefEqProofs (maxSteps := 1000000) (disch := first | exact dis | fail) only [Cf.av, Ct.A, go_sem]
      repeat' ((first | ((with_reducible refine ACall.atE (hNew) [] ?_ ?_ ?_ ?_ ?_); (focus decide); (focus rfl); (focus (simp -dsimp -implicitDefEqProofs (maxSteps := 1000000) (disch := first | exact dis | fail) only [standsL, Cf.av, Ct.A, go_sem]; done)); (focus (first | rfl | (simp -dsimp -implicitDefEqProofs (maxSteps := 1000000) (disch := first | exact dis | fail) only [Cf.av, Ct.A, go_sem]; done)))) | (with_reducible first | refine w_if ?_ ?_ | refine w_gt ?_ ?_ | refine w_gf ?_ ?_ | refine w_io ?_ ?_ | refine w_gdt ?_ ?_ | refine w_gdf ?_ ?_ | refine w_ite ?_ ?_) <;> intro h <;> (try rw [h]) <;> replace hr := And.intro h hr <;> replace h := nrm h <;> try (first | (exfalso; omega) | exact (bx h (by assumption)).elim | exact (bx (by assumption) h).elim) | ((with_reducible refine And.intro ?_ ?_); (focus omega))) <;> try simp -dsimp -implicitDefEqProofs (maxSteps := 1000000) (disch := first | exact dis | fail) only [Cf.av, Ct.A, go_sem])
      refine key _ _ ?_
      clear key hNew hI0
      rintro c inn out th hI ρ rfl
      have hK := cKept_ok c
      have hL := cLost_ok c
      obtain ⟨hol, holen⟩ := hI.olen
      have hth := hI.th
      have hil := hI.len
      have hlo := hI.lost
      have hlp := hI.ok.l
      have hmp := hI.ok.m
      obtain ⟨q, hq⟩ : ∃ q : Nat, c.rg.many = q := ⟨c.rg.many.toNat, by omega⟩
      have key := fun v2 v3 v20 v21 v22 Q hq' => L4 cf c q (by omega) hq inn out th (hI.mono hfs) v2 v3 v20 v21 v22 Q hq'
      simp only [HH, Cf.av, go_sem] at key
      have hr := trivial
      try simp -dsimp -implicitDefEqProofs (maxSteps := 1000000) (disch := first | exact dis | fail) only [Cf.av, Ct.A, hq, hth, go_sem]
      repeat' ((first | ((with_reducible refine ACall.atE (hK) [1, 2, 3, 4] ?_ ?_ ?_ ?_ ?_); (focus decide); (focus rfl); (focus (simp -dsimp -implicitDefEqProofs (maxSteps := 1000000) (disch := first | exact dis | fail) only [standsL, Cf.av, Ct.A, hq, hth, go_sem]; done)); (focus (first | rfl | (simp -dsimp -implicitDefEqProofs (maxSteps := 1000000) (disch := first | exact dis | fail) only [Cf.av, Ct.A, hq, hth, go_sem]; done)))) | ((with_reducible refine ACall.atE (hL) [1, 2, 3, 4] ?_ ?_ ?_ ?_ ?_); (focus decide); (focus rfl); (focus (simp -dsimp -implicitDefEqProofs (maxSteps := 1000000) (disch := first | exact dis | fail) only [standsL, Cf.av, Ct.A, hq, hth, go_sem]; done)); (focus (first | rfl | (simp -dsimp -implicitDefEqProofs (maxSteps := 1000000) (disch := first | exact dis | fail) only [Cf.av, Ct.A, hq, hth, go_sem]; done)))) | (with_reducible first | refine w_if ?_ ?_ | refine w_gt ?_ ?_ | refine w_gf ?_ ?_ | refine w_io ?_ ?_ | refine w_gdt ?_ ?_ | refine w_gdf ?_ ?_ | refine w_ite ?_ ?_) <;> intro h <;> (try rw [h]) <;> replace hr := And.intro h hr <;> replace h := nrm h <;> try (first | (exfalso; omega) | exact (bx h (by assumption)).elim | exact (bx (by assumption) h).elim) | ((with_reducible refine And.intro ?_ ?_); (focus omega))) <;> try simp -dsimp -implicitDefEqProofs (maxSteps := 1000000) (disch := first | exact dis | fail) only [Cf.av, Ct.A, hq, hth, go_sem])
      refine key _ _ _ _ _ _ ?_
      clear key hK hL hI hol holen hth hil hlo hlp hmp hq
      rintro c out hI h0 ρ rfl
      have hK := cKept_ok c
      have hall : inn = out := by
        have := hI.all
        have hz : c.rg.all = [] := List.eq_nil_of_length_eq_zero (by rw [Rg.all_len, h0]; rfl)
        rw [hz, List.append_nil] at this
        exact this
      subst hall
      have hS := Same_ok inn (by have := hI.len; omega)
      rw [h0] at hK
      have hr := trivial
      try simp -dsimp -implicitDefEqProofs (maxSteps := 1000000) (disch := first | exact dis | fail) only [Cf.av, Ct.A, go_sem]
      repeat' ((first | ((with_reducible refine ACall.atE (hS) [5, 6] ?_ ?_ ?_ ?_ ?_); (focus decide); (focus rfl); (focus (simp -dsimp -implicitDefEqProofs (maxSteps := 1000000) (disch := first | exact dis | fail) only [standsL, Cf.av, Ct.A, go_sem]; done)); (focus (first | rfl | (simp -dsimp -implicitDefEqProofs (maxSteps := 1000000) (disch := first | exact dis | fail) only [Cf.av, Ct.A, go_sem]; done)))) | ((with_reducible refine ACall.atE (hK) [1, 2, 3, 4] ?_ ?_ ?_ ?_ ?_); (focus decide); (focus rfl); (focus (simp -dsimp -implicitDefEqProofs (maxSteps := 1000000) (disch := first | exact dis | fail) only [standsL, Cf.av, Ct.A, go_sem]; done)); (focus (first | rfl | (simp -dsimp -implicitDefEqProofs (maxSteps := 1000000) (disch := first | exact dis | fail) only [Cf.av, Ct.A, go_sem]; done)))) | (with_reducible refine PCall.aci alive ?_) | (with_reducible first | refine w_if ?_ ?_ | refine w_gt ?_ ?_ | refine w_gf ?_ ?_ | refine w_io ?_ ?_ | refine w_gdt ?_ ?_ | refine w_gdf ?_ ?_ | refine w_ite ?_ ?_) <;> intro h <;> (try rw [h]) <;> replace hr := And.intro h hr <;> replace h := nrm h <;> try (first | (exfalso; omega) | exact (bx h (by assumption)).elim | exact (bx (by assumption) h).elim) | ((with_reducible refine And.intro ?_ ?_); (focus omega))) <;> try simp -dsimp -implicitDefEqProofs (maxSteps := 1000000) (disch := first | exact dis | fail) only [Cf.av, Ct.A, go_sem])
      exact ⟨none, rfl, rfl⟩
end Go.Proofs.Ytapoilcpollmpaa
end
