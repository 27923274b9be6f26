/- QhT, put together. Conditions: none. -/
import Derived.Test.YtapoilcpollmpaaNQhRS
/- BcmFull: the law's call. -/
section
namespace Go.Proofs.Ytapoilcpollmpaa
open Go.SB
attribute [local irreducible] HW HSS HAS HRQ HEO HOP HCK
set_option maxRecDepth 100000
set_option maxHeartbeats 1000000
set_option linter.unusedSimpArgs false
set_option pp.deepTerms.threshold 6
attribute [local go_sem high] own_ren rp_ren rp_cells rp_one

theorem alive_ok : PCall Try.prog f_law24_alive [] (.bool true) := pcall_ev tabOk_QIf (by kernel_rfl)
/-- A place for objects. -/
theorem vw_pool (A : AHeap) : Vw A (A ++ [some (.pool [])]) := by
  refine ⟨by simp, fun j hj => ?_, fun h M F S => ?_⟩
  · rw [List.getElem?_append_left (List.getElem?_eq_some_iff.1 hj).1]; exact hj
  · obtain ⟨S1, hle1⟩ := S.add (b := 0) (bs := 0) (rm := 0) (sz := 1) (G := fun _ => False) (o := .pool []) ⟨⟨fun _ _ => False, fun x => by simp, fun i it hi => by simp at hi, fun i j x hi => by simp at hi⟩, fun h => by cases h⟩ (fun _ h => h.elim) (fun _ _ _ h => h.elim) (fun _ _ h => h.elim)
    refine ⟨_, _, S1, hle1, rfl, fun l o b hl hb => ?_⟩
    rcases ext_get hl with ⟨rfl, e⟩ | ⟨hk, ho⟩
    · rw [if_pos rfl] at hb; exact hb.elim
    · rw [if_neg (by omega)] at hb; exact ⟨l, o, ho, hb⟩
theorem jNewP (room : Int) : ACall Try.prog f_bcm_New [.int .i64 room] [] fun v A => v = .ptr 0 0 ∧ A = JH (Jo.new room) [] := by
  refine (jNew_ok room).post ?_
  rintro r B ⟨rfl, rfl⟩
  exact ⟨_, vw_pool _, none, rfl, rfl, rfl⟩
theorem FI.start (sock : Int) : FI sock 0 0 (Jo.new 1) [] := ⟨⟨fun _ => (0, 0), rfl⟩, ⟨fun _ => (0, 0), rfl⟩, rfl, fun it h => by cases h⟩
def fB : AO := .arr [[.int .i64 1, .int .i64 0, .int .i64 0, .str []]]
theorem fB_eq (i : Int) : AO.arr (rows frv (jB i).frs) = fB := rfl
theorem fB_ren {g : Nat → Option Nat} : AO.ren g fB = fB := rfl
def cB (x : Int) : AO := .cells [.int .i64 x, .int .i64 0, .int .i64 0, .int .i64 0, .sl 2 4 0 1 true, .bool false, .bool false]
theorem wrapN : ∀ n : Nat, n < 100 → IntKind.wrap .u32 (n : Int) = n := by decide +kernel
theorem F1 (sock id : Int) (hs : 0 ≤ sock ∧ sock < 100) (J : Jo) (xs : List Go.SB.Item) (hF : FI sock 0 0 J xs) (v2 : AV) (Q : IExit → List AV → AHeap → Prop)
    (hq : ∀ J xs, FI sock 100 100 J xs → ∀ ρ, ρ = rg 34 [(0, .int .i64 sock), (1, .int .i64 id), (3, .ptr 0 0), (4, .ptr 3 0), (16, .int .i64 100)] → Q (.exit 0) ρ (JH J xs ++ [some fB, some (cB 99)])) :
    HW Try.prog 0 hc_law24_BcmFull_l1 (rg 34 [(0, .int .i64 sock), (1, .int .i64 id), (2, v2), (3, .ptr 0 0), (4, .ptr 3 0), (16, .int .i64 0)]) (JH J xs ++ [some fB, some (cB 0)]) Q := by
  unfold hc_law24_BcmFull_l1
  refine hw_loop 100 (fun i ρ A => ∃ J xs x, FI sock i i J xs ∧ (i = 0 ∨ x = (i : Int) - 1) ∧ ρ = rg 34 [(0, .int .i64 sock), (1, .int .i64 id), (3, .ptr 0 0), (4, .ptr 3 0), (16, .int .i64 i)] ∧ A = JH J xs ++ [some fB, some (cB x)]) ⟨none, rfl, J, xs, 0, hF, .inl rfl, by simp only [foldRn, go_sem], rfl⟩ ?_
  rintro i ρ A hi ⟨J, xs, x, hF, hx, rfl, rfl⟩
  by_cases hlt : i < 100
  · have hT := TxF hs hlt (.inl rfl) hF
    simp only [fB_eq] at hT
    have hwr := wrapN i hlt
    have hr := trivial
    try simp -dsimp -implicitDefEqProofs (maxSteps := 1000000) (disch := first | exact dis | fail) only [hc_law24_BcmFull_b1, JH, fB_ren, cB, go_sem]
    repeat' ((first | (with_reducible first | refine w_if ?_ ?_ | refine w_gt ?_ ?_ | refine w_gf ?_ ?_ | refine w_io ?_ ?_ | refine w_gdt ?_ ?_ | refine w_gdf ?_ ?_ | refine w_ite ?_ ?_) <;> intro h <;> (try rw [h]) <;> replace hr := And.intro h hr <;> replace h := nrm h <;> try (first | (exfalso; omega) | exact (bx h (by assumption)).elim | exact (bx (by assumption) h).elim) | ((with_reducible refine And.intro ?_ ?_); (focus omega))) <;> try simp -dsimp -implicitDefEqProofs (maxSteps := 1000000) (disch := first | exact dis | fail) only [JH, fB_ren, cB, go_sem])
    refine hT.at' [0, 1, 2] (by decide) rfl (by simp only [standsL, JH, fB_ren, go_sem, List.cons_append, List.nil_append]) (by simp only [jS, jB, go_sem]) ?_
    rintro v A ⟨J1, xs1, ⟨rfl, hF1⟩, rfl⟩
    have hR := RxF hs hlt (.inl rfl) hF1
    have hr := trivial
    try simp -dsimp -implicitDefEqProofs (maxSteps := 1000000) (disch := first | exact dis | fail) only [JH, fB_ren, hwr, go_sem]
    repeat' ((first | (with_reducible first | refine w_if ?_ ?_ | refine w_gt ?_ ?_ | refine w_gf ?_ ?_ | refine w_io ?_ ?_ | refine w_gdt ?_ ?_ | refine w_gdf ?_ ?_ | refine w_ite ?_ ?_) <;> intro h <;> (try rw [h]) <;> replace hr := And.intro h hr <;> replace h := nrm h <;> try (first | (exfalso; omega) | exact (bx h (by assumption)).elim | exact (bx (by assumption) h).elim) | ((with_reducible refine And.intro ?_ ?_); (focus omega))) <;> try simp -dsimp -implicitDefEqProofs (maxSteps := 1000000) (disch := first | exact dis | fail) only [JH, fB_ren, hwr, go_sem])
    refine hR.at' [0, 1] (by decide) rfl (by simp only [standsL, JH, go_sem]) rfl ?_
    rintro v A ⟨J2, xs2, ⟨rfl, hF2⟩, rfl⟩
    have hr := trivial
    try simp -dsimp -implicitDefEqProofs (maxSteps := 1000000) (disch := first | exact dis | fail) only [JH, fB_ren, go_sem]
    repeat' ((first | (with_reducible first | refine w_if ?_ ?_ | refine w_gt ?_ ?_ | refine w_gf ?_ ?_ | refine w_io ?_ ?_ | refine w_gdt ?_ ?_ | refine w_gdf ?_ ?_ | refine w_ite ?_ ?_) <;> intro h <;> (try rw [h]) <;> replace hr := And.intro h hr <;> replace h := nrm h <;> try (first | (exfalso; omega) | exact (bx h (by assumption)).elim | exact (bx (by assumption) h).elim) | ((with_reducible refine And.intro ?_ ?_); (focus omega))) <;> try simp -dsimp -implicitDefEqProofs (maxSteps := 1000000) (disch := first | exact dis | fail) only [JH, fB_ren, go_sem])
    refine ⟨some [0, 1, 2, 3], rfl, J2, xs2, i, hF2, by omega, ?_, ?_⟩
    · simp only [foldR_eq, go_sem]; rfl
    · simp only [foldA_eq, go_sem, JH, fB_ren, cB, List.cons_append, List.nil_append]
  · obtain rfl : i = 100 := by omega
    obtain rfl : x = 99 := by omega
    have hr := trivial
    try simp -dsimp -implicitDefEqProofs (maxSteps := 1000000) (disch := first | exact dis | fail) only [hc_law24_BcmFull_b1, JH, fB_ren, cB, go_sem]
    repeat' ((first | (with_reducible first | refine w_if ?_ ?_ | refine w_gt ?_ ?_ | refine w_gf ?_ ?_ | refine w_io ?_ ?_ | refine w_gdt ?_ ?_ | refine w_gdf ?_ ?_ | refine w_ite ?_ ?_) <;> intro h <;> (try rw [h]) <;> replace hr := And.intro h hr <;> replace h := nrm h <;> try (first | (exfalso; omega) | exact (bx h (by assumption)).elim | exact (bx (by assumption) h).elim) | ((with_reducible refine And.intro ?_ ?_); (focus omega))) <;> try simp -dsimp -implicitDefEqProofs (maxSteps := 1000000) (disch := first | exact dis | fail) only [JH, fB_ren, cB, go_sem])
    simp only [JH, cB, go_sem, List.cons_append, List.nil_append] at hq
    exact hq J xs hF _ (by simp only [go_sem])
theorem BcmFull_call (sock id : Int) : ACall Try.prog f_law24_BcmFull [.int .i64 sock, .int .i64 id] [] fun r _ => r = .bool true := by
  refine acallH ok_law24_BcmFull ?_
  have alive := alive_ok
  by_cases hbad : sock < 0 ∨ 99 < sock ∨ 0 ≤ id ∧ id < 100
  · have hr := trivial
    try simp -dsimp -implicitDefEqProofs (maxSteps := 1000000) (disch := first | exact dis | fail) only [hc_law24_BcmFull, go_sem]
    repeat' ((first | (with_reducible refine PCall.aci alive ?_) | (with_reducible first | refine w_if ?_ ?_ | refine w_gt ?_ ?_ | refine w_gf ?_ ?_ | refine w_io ?_ ?_ | refine w_gdt ?_ ?_ | refine w_gdf ?_ ?_ | refine w_ite ?_ ?_) <;> intro h <;> (try rw [h]) <;> replace hr := And.intro h hr <;> replace h := nrm h <;> try (first | (exfalso; omega) | exact (bx h (by assumption)).elim | exact (bx (by assumption) h).elim) | ((with_reducible refine And.intro ?_ ?_); (focus omega))) <;> try simp -dsimp -implicitDefEqProofs (maxSteps := 1000000) (disch := first | exact dis | fail) only [go_sem])
    exact ⟨none, rfl, rfl⟩
  · have hs : 0 ≤ sock ∧ sock < 100 := by omega
    have hid : ∀ k : Nat, k < 100 → (k : Int) ≠ id := fun k hk e => by omega
    have hN := jNewP 1
    have hF0 := FI.start sock
    have key := fun v2 Q hq => F1 sock id hs (Jo.new 1) [] hF0 v2 Q hq
    generalize Jo.new 1 = J0 at hN key
    simp only [JH, cB, go_sem, List.cons_append, List.nil_append] at key
    have hr := trivial
    try simp -dsimp -implicitDefEqProofs (maxSteps := 1000000) (disch := first | exact dis | fail) only [hc_law24_BcmFull, JH, fB_ren, go_sem]
    repeat' ((first | ((with_reducible refine ACall.atE (hN) [] ?_ ?_ ?_ ?_ ?_); (focus decide); (focus rfl); (focus (simp -dsimp -implicitDefEqProofs (maxSteps := 1000000) (disch := first | exact dis | fail) only [standsL, JH, fB_ren, go_sem]; done)); (focus (first | rfl | (simp -dsimp -implicitDefEqProofs (maxSteps := 1000000) (disch := first | exact dis | fail) only [JH, fB_ren, go_sem]; done)))) | (with_reducible first | refine w_if ?_ ?_ | refine w_gt ?_ ?_ | refine w_gf ?_ ?_ | refine w_io ?_ ?_ | refine w_gdt ?_ ?_ | refine w_gdf ?_ ?_ | refine w_ite ?_ ?_) <;> intro h <;> (try rw [h]) <;> replace hr := And.intro h hr <;> replace h := nrm h <;> try (first | (exfalso; omega) | exact (bx h (by assumption)).elim | exact (bx (by assumption) h).elim) | ((with_reducible refine And.intro ?_ ?_); (focus omega))) <;> try simp -dsimp -implicitDefEqProofs (maxSteps := 1000000) (disch := first | exact dis | fail) only [JH, fB_ren, go_sem])
    refine key _ _ ?_
    clear key
    rintro J xs hF ρ rfl
    have e99 : ((99 : Nat) : Int) = 99 := rfl
    have hT1 := TxF (i := 99) hs (by decide) (.inr rfl) hF
    simp only [fB_eq, e99] at hT1
    have hr := trivial
    try simp -dsimp -implicitDefEqProofs (maxSteps := 1000000) (disch := first | exact dis | fail) only [JH, fB_ren, cB, go_sem]
    repeat' ((first | (with_reducible first | refine w_if ?_ ?_ | refine w_gt ?_ ?_ | refine w_gf ?_ ?_ | refine w_io ?_ ?_ | refine w_gdt ?_ ?_ | refine w_gdf ?_ ?_ | refine w_ite ?_ ?_) <;> intro h <;> (try rw [h]) <;> replace hr := And.intro h hr <;> replace h := nrm h <;> try (first | (exfalso; omega) | exact (bx h (by assumption)).elim | exact (bx (by assumption) h).elim) | ((with_reducible refine And.intro ?_ ?_); (focus omega))) <;> try simp -dsimp -implicitDefEqProofs (maxSteps := 1000000) (disch := first | exact dis | fail) only [JH, fB_ren, cB, go_sem])
    refine hT1.at' [0, 1, 2] (by decide) rfl (by simp only [standsL, JH, fB_ren, go_sem, List.cons_append, List.nil_append]) (by simp only [jS, jB, go_sem]) ?_
    rintro v A ⟨J1, xs1, ⟨rfl, hF1⟩, rfl⟩
    have hT2 := TxFm hs hid hF1
    simp only [fB_eq] at hT2
    have hr := trivial
    try simp -dsimp -implicitDefEqProofs (maxSteps := 1000000) (disch := first | exact dis | fail) only [JH, fB_ren, go_sem]
    repeat' ((first | (with_reducible first | refine w_if ?_ ?_ | refine w_gt ?_ ?_ | refine w_gf ?_ ?_ | refine w_io ?_ ?_ | refine w_gdt ?_ ?_ | refine w_gdf ?_ ?_ | refine w_ite ?_ ?_) <;> intro h <;> (try rw [h]) <;> replace hr := And.intro h hr <;> replace h := nrm h <;> try (first | (exfalso; omega) | exact (bx h (by assumption)).elim | exact (bx (by assumption) h).elim) | ((with_reducible refine And.intro ?_ ?_); (focus omega))) <;> try simp -dsimp -implicitDefEqProofs (maxSteps := 1000000) (disch := first | exact dis | fail) only [JH, fB_ren, go_sem])
    refine hT2.at' [0, 1, 2] (by decide) rfl (by simp only [standsL, JH, fB_ren, go_sem, List.cons_append, List.nil_append]) (by simp only [jS, jB, go_sem]) ?_
    rintro v A ⟨J2, xs2, ⟨rfl, hF2⟩, rfl⟩
    have hR1 := RxFm hs hF2
    have hr := trivial
    try simp -dsimp -implicitDefEqProofs (maxSteps := 1000000) (disch := first | exact dis | fail) only [JH, fB_ren, go_sem]
    repeat' ((first | (with_reducible first | refine w_if ?_ ?_ | refine w_gt ?_ ?_ | refine w_gf ?_ ?_ | refine w_io ?_ ?_ | refine w_gdt ?_ ?_ | refine w_gdf ?_ ?_ | refine w_ite ?_ ?_) <;> intro h <;> (try rw [h]) <;> replace hr := And.intro h hr <;> replace h := nrm h <;> try (first | (exfalso; omega) | exact (bx h (by assumption)).elim | exact (bx (by assumption) h).elim) | ((with_reducible refine And.intro ?_ ?_); (focus omega))) <;> try simp -dsimp -implicitDefEqProofs (maxSteps := 1000000) (disch := first | exact dis | fail) only [JH, fB_ren, go_sem])
    refine hR1.at' [0, 1] (by decide) rfl (by simp only [standsL, JH, go_sem]) rfl ?_
    rintro v A ⟨J3, xs3, ⟨rfl, hF3⟩, rfl⟩
    have hR2 := RxF (i := 99) hs (by decide) (.inr rfl) hF3
    have hr := trivial
    try simp -dsimp -implicitDefEqProofs (maxSteps := 1000000) (disch := first | exact dis | fail) only [JH, fB_ren, go_sem]
    repeat' ((first | (with_reducible first | refine w_if ?_ ?_ | refine w_gt ?_ ?_ | refine w_gf ?_ ?_ | refine w_io ?_ ?_ | refine w_gdt ?_ ?_ | refine w_gdf ?_ ?_ | refine w_ite ?_ ?_) <;> intro h <;> (try rw [h]) <;> replace hr := And.intro h hr <;> replace h := nrm h <;> try (first | (exfalso; omega) | exact (bx h (by assumption)).elim | exact (bx (by assumption) h).elim) | ((with_reducible refine And.intro ?_ ?_); (focus omega))) <;> try simp -dsimp -implicitDefEqProofs (maxSteps := 1000000) (disch := first | exact dis | fail) only [JH, fB_ren, go_sem])
    refine hR2.at' [0, 1] (by decide) rfl (by simp only [standsL, JH, go_sem]) rfl ?_
    rintro v A ⟨J4, xs4, ⟨rfl, hF4⟩, rfl⟩
    obtain ⟨l1, l2, l3⟩ := hF4.lens
    have hL := Len_ok J4 xs4 sock (by omega) (by omega)
    have hD := Drop_ok J4 xs4 sock (by omega) (by omega) hF4.notes
    have hF5 := hF4.drop
    generalize ({ J4 with snd := J4.snd.filter fun c => !ofS sock c, wat := J4.wat.filter fun c => !ofW sock c } : Jo) = J5 at hD hF5
    obtain ⟨m1, m2, m3⟩ := hF5.lens
    have hL5 := Len_ok J5 xs4 sock (by omega) (by omega)
    rw [l3, show ((99 + 1 : Nat) : Int) + ((99 + 1 : Nat) : Int) = 200 from rfl] at hL hD
    rw [m3, show ((0 : Nat) : Int) + ((0 : Nat) : Int) = 0 from rfl] at hL5
    have hr := trivial
    try simp -dsimp -implicitDefEqProofs (maxSteps := 1000000) (disch := first | exact dis | fail) only [JH, fB_ren, go_sem]
    repeat' ((first | ((with_reducible refine ACall.atE (hL) [0, 1] ?_ ?_ ?_ ?_ ?_); (focus decide); (focus rfl); (focus (simp -dsimp -implicitDefEqProofs (maxSteps := 1000000) (disch := first | exact dis | fail) only [standsL, JH, fB_ren, go_sem]; done)); (focus (first | rfl | (simp -dsimp -implicitDefEqProofs (maxSteps := 1000000) (disch := first | exact dis | fail) only [JH, fB_ren, go_sem]; done)))) | ((with_reducible refine ACall.atE (hD) [0, 1] ?_ ?_ ?_ ?_ ?_); (focus decide); (focus rfl); (focus (simp -dsimp -implicitDefEqProofs (maxSteps := 1000000) (disch := first | exact dis | fail) only [standsL, JH, fB_ren, go_sem]; done)); (focus (first | rfl | (simp -dsimp -implicitDefEqProofs (maxSteps := 1000000) (disch := first | exact dis | fail) only [JH, fB_ren, go_sem]; done)))) | ((with_reducible refine ACall.atE (hL5) [0, 1] ?_ ?_ ?_ ?_ ?_); (focus decide); (focus rfl); (focus (simp -dsimp -implicitDefEqProofs (maxSteps := 1000000) (disch := first | exact dis | fail) only [standsL, JH, fB_ren, go_sem]; done)); (focus (first | rfl | (simp -dsimp -implicitDefEqProofs (maxSteps := 1000000) (disch := first | exact dis | fail) only [JH, fB_ren, go_sem]; done)))) | (with_reducible refine PCall.aci alive ?_) | (with_reducible first | refine w_if ?_ ?_ | refine w_gt ?_ ?_ | refine w_gf ?_ ?_ | refine w_io ?_ ?_ | refine w_gdt ?_ ?_ | refine w_gdf ?_ ?_ | refine w_ite ?_ ?_) <;> intro h <;> (try rw [h]) <;> replace hr := And.intro h hr <;> replace h := nrm h <;> try (first | (exfalso; omega) | exact (bx h (by assumption)).elim | exact (bx (by assumption) h).elim) | ((with_reducible refine And.intro ?_ ?_); (focus omega))) <;> try simp -dsimp -implicitDefEqProofs (maxSteps := 1000000) (disch := first | exact dis | fail) only [JH, fB_ren, go_sem])
    exact ⟨none, rfl, rfl⟩
end Go.Proofs.Ytapoilcpollmpaa
end
