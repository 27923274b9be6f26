/- QgN, QgO, QgP, QgQ, put together. Conditions: none. -/
import Derived.Test.YtapoilcpollmpaaNQgKM
import Derived.Test.YtapoilcpollmpaaNHcX
import Derived.Test.YtapoilcpollmpaaNQfG
/- ref14: the controller as the document tells it: the register. -/
section
namespace Go.Proofs.Ytapoilcpollmpaa
open Go.SB
attribute [local irreducible] HW HSS HAS HRQ HEO HOP HCK
set_option maxRecDepth 100000
set_option maxHeartbeats 400000
set_option linter.unusedSimpArgs false
set_option pp.deepTerms.threshold 6
attribute [local go_sem high] own_ren

theorem or_bitN : ∀ n : Nat, n < 16 → ∀ k : Nat, k < 4 → ibits .or .i64 (n : Int) ((2 ^ k : Nat) : Int) = (if ((n : Int).tdiv ((2 ^ k : Nat) : Int)).tmod 2 = 0 then (n : Int) + ((2 ^ k : Nat) : Int) else n) ∧ 0 ≤ ibits .or .i64 (n : Int) ((2 ^ k : Nat) : Int) ∧ ibits .or .i64 (n : Int) ((2 ^ k : Nat) : Int) ≤ 15 ∧ IntKind.wrap .i64 ((n : Int).tdiv ((2 ^ k : Nat) : Int)) = (n : Int).tdiv ((2 ^ k : Nat) : Int) := by decide +kernel
theorem or_bit {a b : Int} (ha : 0 ≤ a ∧ a ≤ 15) (hb : b = 1 ∨ b = 2 ∨ b = 4 ∨ b = 8) : ibits .or .i64 a b = (if (a.tdiv b).tmod 2 = 0 then a + b else a) ∧ 0 ≤ ibits .or .i64 a b ∧ ibits .or .i64 a b ≤ 15 ∧ IntKind.wrap .i64 (a.tdiv b) = a.tdiv b := by
  obtain ⟨n, rfl⟩ : ∃ n : Nat, a = n := ⟨a.toNat, by omega⟩
  rcases hb with rfl | rfl | rfl | rfl
  · exact or_bitN n (by omega) 0 (by decide)
  · exact or_bitN n (by omega) 1 (by decide)
  · exact or_bitN n (by omega) 2 (by decide)
  · exact or_bitN n (by omega) 3 (by decide)
structure Rc where
  bx : Rx
  pre : List Fr
  fifo : List Fr
  room : Int
  acc : List Fi
  lost : Int
  asks : Int
def Rc.cs (r : Rc) : List AV := [.ptr 1 0, .sl 2 4 r.pre.length r.fifo.length false, .int .i64 r.room, .ps 3 (rows fiv r.acc), .int .i64 r.lost, .int .i64 r.asks]
def Rc.A (r : Rc) : AHeap := [some (.cells r.cs), some (.own r.bx.ov), some (.arr (rows frv (r.pre ++ r.fifo)))]
def Rc.new (c : Cf) : Rc := ⟨Rx.new c.boxes, [], [], roomI c.fifo, c.acc, 0, 0⟩
theorem Room_ok (n : Int) : PCall Try.prog f_ref14_Room [.int .i64 n] (.int .i64 (roomI n)) := by
  refine pcallI ok_ref14_Room ?_
  by_cases h1 : n < 1
  · have hm : roomI n = 1 := by unfold roomI; omega
    have hr := trivial
    try simp -dsimp -implicitDefEqProofs (maxSteps := 1000000) (disch := first | exact dis | fail) only [hc_ref14_Room, hm, go_sem]
    repeat' ((first | (with_reducible first | refine w_if ?_ ?_ | refine w_gt ?_ ?_ | refine w_gf ?_ ?_ | refine w_io ?_ ?_ | refine w_gdt ?_ ?_ | refine w_gdf ?_ ?_ | refine w_ite ?_ ?_) <;> intro h <;> (try rw [h]) <;> replace hr := And.intro h hr <;> replace h := nrm h <;> try (first | (exfalso; omega) | exact (bx h (by assumption)).elim | exact (bx (by assumption) h).elim) | ((with_reducible refine And.intro ?_ ?_); (focus omega))) <;> try simp -dsimp -implicitDefEqProofs (maxSteps := 1000000) (disch := first | exact dis | fail) only [hm, go_sem])
  · by_cases h2 : 1000 < n
    · have hm : roomI n = 1000 := by unfold roomI; omega
      have hr := trivial
      try simp -dsimp -implicitDefEqProofs (maxSteps := 1000000) (disch := first | exact dis | fail) only [hc_ref14_Room, hm, go_sem]
      repeat' ((first | (with_reducible first | refine w_if ?_ ?_ | refine w_gt ?_ ?_ | refine w_gf ?_ ?_ | refine w_io ?_ ?_ | refine w_gdt ?_ ?_ | refine w_gdf ?_ ?_ | refine w_ite ?_ ?_) <;> intro h <;> (try rw [h]) <;> replace hr := And.intro h hr <;> replace h := nrm h <;> try (first | (exfalso; omega) | exact (bx h (by assumption)).elim | exact (bx (by assumption) h).elim) | ((with_reducible refine And.intro ?_ ?_); (focus omega))) <;> try simp -dsimp -implicitDefEqProofs (maxSteps := 1000000) (disch := first | exact dis | fail) only [hm, go_sem])
    · have hm : roomI n = n := by unfold roomI; omega
      have hr := trivial
      try simp -dsimp -implicitDefEqProofs (maxSteps := 1000000) (disch := first | exact dis | fail) only [hc_ref14_Room, hm, go_sem]
      repeat' ((first | (with_reducible first | refine w_if ?_ ?_ | refine w_gt ?_ ?_ | refine w_gf ?_ ?_ | refine w_io ?_ ?_ | refine w_gdt ?_ ?_ | refine w_gdf ?_ ?_ | refine w_ite ?_ ?_) <;> intro h <;> (try rw [h]) <;> replace hr := And.intro h hr <;> replace h := nrm h <;> try (first | (exfalso; omega) | exact (bx h (by assumption)).elim | exact (bx (by assumption) h).elim) | ((with_reducible refine And.intro ?_ ?_); (focus omega))) <;> try simp -dsimp -implicitDefEqProofs (maxSteps := 1000000) (disch := first | exact dis | fail) only [hm, go_sem])
theorem rcNew_ok (c : Cf) : ACall Try.prog f_ref14_New [.agg c.av] [] fun v A => v = .ptr 0 0 ∧ A = (Rc.new c).A := by
  refine acallV ok_ref14_New (Vw.refl _) ?_
  have hX := rxNew_ok c.boxes
  have hR := Room_ok c.fifo
  have hr := trivial
  try simp -dsimp -implicitDefEqProofs (maxSteps := 1000000) (disch := first | exact dis | fail) only [hc_ref14_New, Cf.av, Rx.A, go_sem]
  repeat' ((first | (with_reducible refine PCall.aci hR ?_) | ((with_reducible refine ACall.atE (hX) [] ?_ ?_ ?_ ?_ ?_); (focus decide); (focus rfl); (focus (simp -dsimp -implicitDefEqProofs (maxSteps := 1000000) (disch := first | exact dis | fail) only [standsL, Cf.av, Rx.A, go_sem]; done)); (focus (first | rfl | (simp -dsimp -implicitDefEqProofs (maxSteps := 1000000) (disch := first | exact dis | fail) only [Cf.av, Rx.A, go_sem]; done)))) | (with_reducible first | refine w_if ?_ ?_ | refine w_gt ?_ ?_ | refine w_gf ?_ ?_ | refine w_io ?_ ?_ | refine w_gdt ?_ ?_ | refine w_gdf ?_ ?_ | refine w_ite ?_ ?_) <;> intro h <;> (try rw [h]) <;> replace hr := And.intro h hr <;> replace h := nrm h <;> try (first | (exfalso; omega) | exact (bx h (by assumption)).elim | exact (bx (by assumption) h).elim) | ((with_reducible refine And.intro ?_ ?_); (focus omega))) <;> try simp -dsimp -implicitDefEqProofs (maxSteps := 1000000) (disch := first | exact dis | fail) only [Cf.av, Rx.A, go_sem])
  refine ⟨_, vw_nil (l := 1) (k := 1) (z := 4) (vs := [.ptr 2 0, .nils, .int .i64 (roomI c.fifo), .ps 3 (rows fiv c.acc), .int .i64 0, .int .i64 0]) rfl rfl (by decide), some [1, 2, 3], rfl, rfl, ?_⟩
  simp only [foldA_eq, go_sem, Rc.new, Rc.A, Rc.cs]
  rfl
theorem rcSet_ok (a : Int) (v0 v1 v2 v3 v4 : AV) (T : AHeap) (ha : 0 ≤ a ∧ a ≤ 15) (b : Int) (hb : b = 1 ∨ b = 2 ∨ b = 4 ∨ b = 8) :
    ACall Try.prog f_ref14_Ctrl_Set [.ptr 0 0, .int .i64 b] (some (.cells [v0, v1, v2, v3, v4, .int .i64 a]) :: T) fun v A => v = .tup [] ∧ A = some (.cells [v0, v1, v2, v3, v4, .int .i64 (ibits .or .i64 a b)]) :: T := by
  refine acallH ok_ref14_Ctrl_Set ?_
  obtain ⟨h1, h2, h3, h4⟩ := or_bit ha hb
  rw [h1]
  have hr := trivial
  try simp -dsimp -implicitDefEqProofs (maxSteps := 1000000) (disch := first | exact dis | fail) only [hc_ref14_Ctrl_Set, h4, go_sem]
  repeat' ((first | (with_reducible first | refine w_if ?_ ?_ | refine w_gt ?_ ?_ | refine w_gf ?_ ?_ | refine w_io ?_ ?_ | refine w_gdt ?_ ?_ | refine w_gdf ?_ ?_ | refine w_ite ?_ ?_) <;> intro h <;> (try rw [h]) <;> replace hr := And.intro h hr <;> replace h := nrm h <;> try (first | (exfalso; omega) | exact (bx h (by assumption)).elim | exact (bx (by assumption) h).elim) | ((with_reducible refine And.intro ?_ ?_); (focus omega))) <;> try simp -dsimp -implicitDefEqProofs (maxSteps := 1000000) (disch := first | exact dis | fail) only [h4, go_sem])
  · exact ⟨none, rfl, rfl, by rw [if_pos h]; rfl⟩
  · exact ⟨none, rfl, rfl, by rw [if_neg h]; rfl⟩
/-- A bit is taken away. -/
def pw : Nat → Int
  | 0 => 1
  | i + 1 => 2 * pw i
def clearN (a n : Int) : Nat → Int
  | 0 => a
  | i + 1 => if ibits .and .i64 n (pw i) ≠ 0 ∧ ((clearN a n i).tdiv (pw i)).tmod 2 = 1 then clearN a n i - pw i else clearN a n i
theorem ofInt_nat64 (n : Int) : (BitVec.ofInt 64 n).toNat = (n % 18446744073709551616).toNat := by
  rw [BitVec.toNat_ofInt]; rfl
theorem and16 {a n : Nat} (h : a < 16) : a &&& n = a &&& n % 16 := by
  have h1 : a &&& 15 = a := by
    have := Nat.and_two_pow_sub_one_eq_mod a 4
    rw [show 2 ^ 4 - 1 = 15 from rfl] at this
    rw [this]; omega
  have h2 : n &&& 15 = n % 16 := by
    have := Nat.and_two_pow_sub_one_eq_mod n 4
    rw [show 2 ^ 4 - 1 = 15 from rfl] at this
    rw [this]
  rw [← h2, Nat.and_comm n 15, ← Nat.and_assoc, h1]
theorem and_low (b n : Int) (hb : 0 ≤ b ∧ b ≤ 15) : ibits .and .i64 n b = ibits .and .i64 (n % 16) b := by
  show IntKind.wrap .i64 ((BitVec.ofInt 64 n &&& BitVec.ofInt 64 b).toNat : Int) = IntKind.wrap .i64 ((BitVec.ofInt 64 (n % 16) &&& BitVec.ofInt 64 b).toNat : Int)
  have e : (BitVec.ofInt 64 n).toNat % 16 = (BitVec.ofInt 64 (n % 16)).toNat % 16 := by rw [ofInt_nat64, ofInt_nat64]; omega
  rw [BitVec.toNat_and, BitVec.toNat_and, Nat.and_comm, Nat.and_comm (BitVec.ofInt 64 (n % 16)).toNat, and16 (by rw [ofInt_nat64]; omega), and16 (n := (BitVec.ofInt 64 (n % 16)).toNat) (by rw [ofInt_nat64]; omega), e]
theorem andNot_low (a n : Int) (ha : 0 ≤ a ∧ a ≤ 15) : ibits .andNot .i64 a n = ibits .andNot .i64 a (n % 16) := by
  show IntKind.wrap .i64 ((BitVec.ofInt 64 a &&& ~~~ BitVec.ofInt 64 n).toNat : Int) = IntKind.wrap .i64 ((BitVec.ofInt 64 a &&& ~~~ BitVec.ofInt 64 (n % 16)).toNat : Int)
  have e : (~~~ BitVec.ofInt 64 n).toNat % 16 = (~~~ BitVec.ofInt 64 (n % 16)).toNat % 16 := by rw [BitVec.toNat_not, BitVec.toNat_not, ofInt_nat64, ofInt_nat64]; omega
  rw [BitVec.toNat_and, BitVec.toNat_and, and16 (by rw [ofInt_nat64]; omega), and16 (n := (~~~ BitVec.ofInt 64 (n % 16)).toNat) (by rw [ofInt_nat64]; omega), e]
def clearM (a n : Int) : Nat → Int
  | 0 => a
  | i + 1 => if ibits .and .i64 (n % 16) (pw i) ≠ 0 ∧ ((clearM a n i).tdiv (pw i)).tmod 2 = 1 then clearM a n i - pw i else clearM a n i
theorem pw_b : ∀ i, i < 4 → 1 ≤ pw i ∧ pw i ≤ 8 := by decide
theorem clear_low (a n : Int) : ∀ i, i ≤ 4 → clearN a n i = clearM a n i
  | 0, _ => rfl
  | i + 1, h => by
    have := pw_b i (by omega)
    unfold clearN clearM
    rw [clear_low a n i (by omega), and_low (pw i) n (by omega)]
theorem clearT : ∀ a : Nat, a < 16 → ∀ m : Nat, m < 16 → (∀ i : Nat, i < 5 → 0 ≤ clearN a m i ∧ clearN a m i ≤ 15 ∧ IntKind.wrap .i64 ((clearN a m i).tdiv (pw i)) = (clearN a m i).tdiv (pw i)) ∧ clearN a m 4 = ibits .andNot .i64 a m ∧ ibits .and .i64 (ibits .andNot .i64 a m) m = 0 ∧ ibits .andNot .i64 (ibits .andNot .i64 a m) (ibits .andNot .i64 a m) = 0 := by decide +kernel
theorem clear_all (a n : Int) (ha : 0 ≤ a ∧ a ≤ 15) : (∀ i : Nat, i < 5 → 0 ≤ clearN a n i ∧ clearN a n i ≤ 15 ∧ (IntKind.wrap .i64 ((clearN a n i).tdiv (pw i)) = (clearN a n i).tdiv (pw i))) ∧ clearN a n 4 = ibits .andNot .i64 a n ∧ ibits .and .i64 (ibits .andNot .i64 a n) n = 0 ∧ ibits .andNot .i64 (ibits .andNot .i64 a n) (ibits .andNot .i64 a n) = 0 := by
  obtain ⟨k, rfl⟩ : ∃ k : Nat, a = k := ⟨a.toNat, by omega⟩
  obtain ⟨m, hm⟩ : ∃ m : Nat, n % 16 = m := ⟨(n % 16).toNat, by omega⟩
  have h := clearT k (by omega) m (by omega)
  have hmm : (m : Int) % 16 = m := by omega
  have hc : ∀ i, i ≤ 4 → clearN k n i = clearN k m i := fun i hi => by
    rw [clear_low _ _ i hi, clear_low _ _ i hi]
    have : ∀ i, clearM k n i = clearM k m i := fun i => by
      induction i with
      | zero => rfl
      | succ i ih => unfold clearM; rw [ih, hm, hmm]
    exact this i
  have e1 : ibits .andNot .i64 (k : Int) n = ibits .andNot .i64 (k : Int) m := by rw [andNot_low _ _ ha, hm]
  refine ⟨fun i hi => by rw [hc i (by omega)]; exact h.1 i hi, by rw [hc 4 (by omega), e1]; exact h.2.1, ?_, by rw [e1]; exact h.2.2.2⟩
  rw [e1]
  have h4 := h.1 4 (by decide)
  rw [h.2.1] at h4
  have e2 : ∀ x : Int, 0 ≤ x ∧ x ≤ 15 → ibits .and .i64 x n = ibits .and .i64 x m := fun x hx => by
    show IntKind.wrap .i64 ((BitVec.ofInt 64 x &&& BitVec.ofInt 64 n).toNat : Int) = IntKind.wrap .i64 ((BitVec.ofInt 64 x &&& BitVec.ofInt 64 m).toNat : Int)
    have e : (BitVec.ofInt 64 n).toNat % 16 = (BitVec.ofInt 64 (m : Int)).toNat % 16 := by rw [ofInt_nat64, ofInt_nat64]; omega
    rw [BitVec.toNat_and, BitVec.toNat_and, and16 (by rw [ofInt_nat64]; omega), and16 (n := (BitVec.ofInt 64 (m : Int)).toNat) (by rw [ofInt_nat64]; omega), e]
  rw [e2 _ ⟨h4.1, h4.2.1⟩]
  exact h.2.2.1
theorem rcClear_ok (r : Rc) (ha : 0 ≤ r.asks ∧ r.asks ≤ 15) (n : Int) : ACall Try.prog f_ref14_Ctrl_Clear [.ptr 0 0, .int .i64 n] r.A fun v A => v = .tup [] ∧ A = ({ r with asks := ibits .andNot .i64 r.asks n } : Rc).A := by
  refine acallH ok_ref14_Ctrl_Clear ?_
  obtain ⟨h1, h2, _, _⟩ := clear_all r.asks n ha
  rw [show r.A.length = 3 from rfl]
  have hr := trivial
  try simp -dsimp -implicitDefEqProofs (maxSteps := 1000000) (disch := first | exact dis | fail) only [hc_ref14_Ctrl_Clear, Rc.A, Rc.cs, go_sem]
  repeat' ((first | (with_reducible first | refine w_if ?_ ?_ | refine w_gt ?_ ?_ | refine w_gf ?_ ?_ | refine w_io ?_ ?_ | refine w_gdt ?_ ?_ | refine w_gdf ?_ ?_ | refine w_ite ?_ ?_) <;> intro h <;> (try rw [h]) <;> replace hr := And.intro h hr <;> replace h := nrm h <;> try (first | (exfalso; omega) | exact (bx h (by assumption)).elim | exact (bx (by assumption) h).elim) | ((with_reducible refine And.intro ?_ ?_); (focus omega))) <;> try simp -dsimp -implicitDefEqProofs (maxSteps := 1000000) (disch := first | exact dis | fail) only [Rc.A, Rc.cs, go_sem])
  unfold hc_ref14_Ctrl_Clear_l1
  refine hw_loop 4 (fun i ρ A => ρ = rg 5 [(0, .ptr 0 0), (1, .int .i64 n), (2, .int .i64 (pw i))] ∧ A = ({ r with asks := clearN r.asks n i } : Rc).A) ⟨none, rfl, by simp only [foldRn, go_sem]; rfl, rfl⟩ ?_
  rintro i ρ A hi ⟨rfl, rfl⟩
  obtain ⟨g1, g2, g3⟩ := h1 i (by omega)
  by_cases hlt : i < 4
  · obtain ⟨p1, p2⟩ := pw_b i hlt
    have hs : clearN r.asks n (i + 1) = if ibits .and .i64 n (pw i) ≠ 0 ∧ ((clearN r.asks n i).tdiv (pw i)).tmod 2 = 1 then clearN r.asks n i - pw i else clearN r.asks n i := rfl
    have hp : pw (i + 1) = 2 * pw i := rfl
    obtain ⟨g4, g5, _⟩ := h1 (i + 1) (by omega)
    rw [hs] at g4 g5
    generalize clearN r.asks n i = x at hs g1 g2 g3 g4 g5 ⊢
    generalize pw i = p at hs hp p1 p2 g3 g4 g5 ⊢
    by_cases t1 : ibits .and .i64 n p = 0
    · rw [if_neg (fun h => h.1 t1)] at hs g4 g5
      have hr := trivial
      try simp -dsimp -implicitDefEqProofs (maxSteps := 1000000) (disch := first | exact dis | fail) only [hc_ref14_Ctrl_Clear_b1, Rc.A, Rc.cs, g3, t1, go_sem]
      repeat' ((first | (with_reducible first | refine w_if ?_ ?_ | refine w_gt ?_ ?_ | refine w_gf ?_ ?_ | refine w_io ?_ ?_ | refine w_gdt ?_ ?_ | refine w_gdf ?_ ?_ | refine w_ite ?_ ?_) <;> intro h <;> (try rw [h]) <;> replace hr := And.intro h hr <;> replace h := nrm h <;> try (first | (exfalso; omega) | exact (bx h (by assumption)).elim | exact (bx (by assumption) h).elim) | ((with_reducible refine And.intro ?_ ?_); (focus omega))) <;> try simp -dsimp -implicitDefEqProofs (maxSteps := 1000000) (disch := first | exact dis | fail) only [Rc.A, Rc.cs, g3, t1, go_sem])
      exact ⟨none, rfl, by simp only [foldRn, go_sem, hp], by simp only [foldAn, hs]⟩
    · by_cases t2 : (x.tdiv p).tmod 2 = 1
      · rw [if_pos ⟨t1, t2⟩] at hs g4 g5
        have hr := trivial
        try simp -dsimp -implicitDefEqProofs (maxSteps := 1000000) (disch := first | exact dis | fail) only [hc_ref14_Ctrl_Clear_b1, Rc.A, Rc.cs, g3, t1, t2, go_sem]
        repeat' ((first | (with_reducible first | refine w_if ?_ ?_ | refine w_gt ?_ ?_ | refine w_gf ?_ ?_ | refine w_io ?_ ?_ | refine w_gdt ?_ ?_ | refine w_gdf ?_ ?_ | refine w_ite ?_ ?_) <;> intro h <;> (try rw [h]) <;> replace hr := And.intro h hr <;> replace h := nrm h <;> try (first | (exfalso; omega) | exact (bx h (by assumption)).elim | exact (bx (by assumption) h).elim) | ((with_reducible refine And.intro ?_ ?_); (focus omega))) <;> try simp -dsimp -implicitDefEqProofs (maxSteps := 1000000) (disch := first | exact dis | fail) only [Rc.A, Rc.cs, g3, t1, t2, go_sem])
        exact ⟨none, rfl, by simp only [foldRn, go_sem, hp], by simp only [foldAn, hs]⟩
      · rw [if_neg (fun h => t2 h.2)] at hs g4 g5
        have hr := trivial
        try simp -dsimp -implicitDefEqProofs (maxSteps := 1000000) (disch := first | exact dis | fail) only [hc_ref14_Ctrl_Clear_b1, Rc.A, Rc.cs, g3, t1, t2, go_sem]
        repeat' ((first | (with_reducible first | refine w_if ?_ ?_ | refine w_gt ?_ ?_ | refine w_gf ?_ ?_ | refine w_io ?_ ?_ | refine w_gdt ?_ ?_ | refine w_gdf ?_ ?_ | refine w_ite ?_ ?_) <;> intro h <;> (try rw [h]) <;> replace hr := And.intro h hr <;> replace h := nrm h <;> try (first | (exfalso; omega) | exact (bx h (by assumption)).elim | exact (bx (by assumption) h).elim) | ((with_reducible refine And.intro ?_ ?_); (focus omega))) <;> try simp -dsimp -implicitDefEqProofs (maxSteps := 1000000) (disch := first | exact dis | fail) only [Rc.A, Rc.cs, g3, t1, t2, go_sem])
        exact ⟨none, rfl, by simp only [foldRn, go_sem, hp], by simp only [foldAn, hs]⟩
  · obtain rfl : i = 4 := by omega
    have hp : pw 4 = 16 := rfl
    have hr := trivial
    try simp -dsimp -implicitDefEqProofs (maxSteps := 1000000) (disch := first | exact dis | fail) only [hc_ref14_Ctrl_Clear_b1, Rc.A, Rc.cs, hp, h2, go_sem]
    repeat' ((first | (with_reducible first | refine w_if ?_ ?_ | refine w_gt ?_ ?_ | refine w_gf ?_ ?_ | refine w_io ?_ ?_ | refine w_gdt ?_ ?_ | refine w_gdf ?_ ?_ | refine w_ite ?_ ?_) <;> intro h <;> (try rw [h]) <;> replace hr := And.intro h hr <;> replace h := nrm h <;> try (first | (exfalso; omega) | exact (bx h (by assumption)).elim | exact (bx (by assumption) h).elim) | ((with_reducible refine And.intro ?_ ?_); (focus omega))) <;> try simp -dsimp -implicitDefEqProofs (maxSteps := 1000000) (disch := first | exact dis | fail) only [Rc.A, Rc.cs, hp, h2, go_sem])
    exact ⟨none, rfl, rfl, rfl⟩
end Go.Proofs.Ytapoilcpollmpaa
end

/- ref14: offering, winning, fetching. -/
section
namespace Go.Proofs.Ytapoilcpollmpaa
open Go.SB
attribute [local irreducible] HW HSS HAS HRQ HEO HOP HCK
set_option maxRecDepth 100000
set_option maxHeartbeats 400000
set_option linter.unusedSimpArgs false
set_option pp.deepTerms.threshold 6
attribute [local go_sem high] own_ren

def InO (b : Rx) : Prop := ∀ k, k ∈ b.ord → 0 ≤ k ∧ k < b.pk.length
def Rx.best (b : Rx) : Int := b.bestN b.ord.length
theorem rbest_b {b : Rx} (h : InO b) : -1 ≤ b.best ∧ b.best < b.pk.length := rbestN_b b h _ (Nat.le_refl _)
theorem rxBestO_ok (b : Rx) (h : RxOk b) (hb : InO b) : ACall Try.prog f_ref13_Boxes_Best [.ptr 0 0] b.A fun v A => v = .int .i64 b.best ∧ A = b.O := by
  refine (rxBest_ok b h hb).post ?_
  rintro r B ⟨rfl, rfl⟩
  exact ⟨b.O, b.opn, none, rfl, rfl, rfl⟩
def Rx.bestF (b : Rx) : Fr := if b.best < 0 then Fr.zero else (b.pk.getD b.best.toNat Pk.zero).fr
/-- The controller closed. -/
theorem rc_fin {A : AHeap} {st ord ended : List Int} {pk : List Pk} {p1 p2 p3 p4 n1 n2 n3 n4 : Nat} {cs : List AV} {f : List Fr} {v r : AV} {B : Rc} (hB : B.bx = ⟨st, pk, ord, ended⟩) (hcs : B.cs = cs) (hf : B.pre ++ B.fifo = f)
    (h0 : A[0]? = some (some (.cells cs))) (h1 : A[1]? = some (some (.cells [.sl p1 1 0 n1 false, .sl p2 7 0 n2 false, .sl p3 1 0 n3 false, .sl p4 1 0 n4 false]))) (h2 : A[2]? = some (some (.arr (rows frv f))))
    (g1 : A[p1]? = some (some (.arr (rows i1 st)))) (g2 : A[p2]? = some (some (.arr (rows pkv pk)))) (g3 : A[p3]? = some (some (.arr (rows i1 ord)))) (g4 : A[p4]? = some (some (.arr (rows i1 ended))))
    (hk : ([p2, p3, p4].contains p1 = false ∧ [p3, p4].contains p2 = false) ∧ [p4].contains p3 = false) (hp : (2 < p1 ∧ 2 < p2) ∧ 2 < p3 ∧ 2 < p4) (e1 : n1 = st.length) (e2 : n2 = pk.length) (e3 : n3 = ord.length) (e4 : n4 = ended.length) (hv : AV.flat v = true) (hr : v = r) :
    ∃ A2, Vw A A2 ∧ ∃ ks, okKeepO 3 ks = true ∧ foldVo 3 ks v = r ∧ foldAo 3 ks A2 = B.A := by
  subst hcs hf
  refine ⟨_, vw_close (l := 1) h1 (.sl (p := p1) g1 (by rw [rows_length]; omega) (by decide) (rows_allN e1) flatLL_rows hk.1.1 (.sl (p := p2) g2 (by rw [rows_length]; omega) (by decide) (rows_allN e2) flatLL_rows hk.1.2
    (.sl (p := p3) g3 (by rw [rows_length]; omega) (by decide) (rows_allN e3) flatLL_rows hk.2 (.sl (p := p4) g4 (by rw [rows_length]; omega) (by decide) (rows_allN e4) flatLL_rows rfl .nil)))), some [], rfl, ?_, ?_⟩
  · rw [← hr]; exact AV.ren_flat _ hv
  · obtain ⟨x0, x1, x2, T, rfl⟩ : ∃ x0 x1 x2 T, A = x0 :: x1 :: x2 :: T := by
      rcases A with _ | ⟨x0, _ | ⟨x1, _ | ⟨x2, T⟩⟩⟩
      · cases h0
      · cases h1
      · cases h2
      · exact ⟨_, _, _, _, rfl⟩
    simp only [List.getElem?_cons_zero, List.getElem?_cons_succ, Option.some.injEq] at h0 h1 h2
    subst h0 h1 h2
    obtain ⟨p1, rfl⟩ : ∃ k, p1 = k + 3 := ⟨p1 - 3, by omega⟩
    obtain ⟨p2, rfl⟩ : ∃ k, p2 = k + 3 := ⟨p2 - 3, by omega⟩
    obtain ⟨p3, rfl⟩ : ∃ k, p3 = k + 3 := ⟨p3 - 3, by omega⟩
    obtain ⟨p4, rfl⟩ : ∃ k, p4 = k + 3 := ⟨p4 - 3, by omega⟩
    simp only [clo, kills, List.set_cons_succ, List.set_cons_zero, foldA_eq, go_sem, Rc.A, Rc.cs, hB, Rx.ov]
theorem rcOffer_ok (r : Rc) (h : RxOk r.bx) (hb : InO r.bx) : ACall Try.prog f_ref14_Ctrl_Offer [.ptr 0 0] r.A fun v A => v = .tup [.agg r.bx.bestF.av, .bool (decide (0 ≤ r.bx.best))] ∧ A = r.A := by
  refine acallV ok_ref14_Ctrl_Offer (Vw.refl _) ?_
  rw [show r.A.length = 3 from rfl]
  have hB := rxBestO_ok r.bx h hb
  obtain ⟨b0, b1⟩ := rbest_b hb
  have hp := h.p
  have hs := h.s
  by_cases h0 : r.bx.best < 0
  · have hr := trivial
    try simp -dsimp -implicitDefEqProofs (maxSteps := 1000000) (disch := first | exact dis | fail) only [hc_ref14_Ctrl_Offer, Rc.A, Rc.cs, Rx.A, Rx.O, Fr.av, h0, go_sem]
    repeat' ((first | ((with_reducible refine ACall.atE (hB) [1] ?_ ?_ ?_ ?_ ?_); (focus decide); (focus rfl); (focus (simp -dsimp -implicitDefEqProofs (maxSteps := 1000000) (disch := first | exact dis | fail) only [standsL, Rc.A, Rc.cs, Rx.A, Rx.O, Fr.av, h0, go_sem]; done)); (focus (first | rfl | (simp -dsimp -implicitDefEqProofs (maxSteps := 1000000) (disch := first | exact dis | fail) only [Rc.A, Rc.cs, Rx.A, Rx.O, Fr.av, h0, go_sem]; done)))) | (with_reducible first | refine w_if ?_ ?_ | refine w_gt ?_ ?_ | refine w_gf ?_ ?_ | refine w_io ?_ ?_ | refine w_gdt ?_ ?_ | refine w_gdf ?_ ?_ | refine w_ite ?_ ?_) <;> intro h <;> (try rw [h]) <;> replace hr := And.intro h hr <;> replace h := nrm h <;> try (first | (exfalso; omega) | exact (bx h (by assumption)).elim | exact (bx (by assumption) h).elim) | ((with_reducible refine And.intro ?_ ?_); (focus omega))) <;> try simp -dsimp -implicitDefEqProofs (maxSteps := 1000000) (disch := first | exact dis | fail) only [Rc.A, Rc.cs, Rx.A, Rx.O, Fr.av, h0, go_sem])
    exact rc_fin rfl rfl rfl rfl rfl rfl rfl rfl rfl rfl (by decide) (by decide) rfl rfl rfl rfl rfl (by rw [Rx.bestF, if_pos h0, decide_eq_false (by omega)]; rfl)
  · obtain ⟨k, hk⟩ : ∃ k : Nat, r.bx.best = k := ⟨r.bx.best.toNat, by omega⟩
    have hx : r.bx.pk[k]? = some (r.bx.pk.getD k Pk.zero) := by rw [List.getD, List.getElem?_eq_getElem (by omega)]; rfl
    have hF : r.bx.bestF = (r.bx.pk.getD k Pk.zero).fr := by rw [Rx.bestF, if_neg h0, hk, Int.toNat_natCast]
    rw [hF, hk]
    rw [hk] at hB b0 b1 h0
    generalize r.bx.pk.getD k Pk.zero = p at hx
    have hr := trivial
    try simp -dsimp -implicitDefEqProofs (maxSteps := 1000000) (disch := first | exact dis | fail) only [hc_ref14_Ctrl_Offer, Rc.A, Rc.cs, Rx.A, Rx.O, Fr.av, h0, Int.toNat_natCast, rows_get, hx, pkv_eq, Pk.av, go_sem]
    repeat' ((first | ((with_reducible refine ACall.atE (hB) [1] ?_ ?_ ?_ ?_ ?_); (focus decide); (focus rfl); (focus (simp -dsimp -implicitDefEqProofs (maxSteps := 1000000) (disch := first | exact dis | fail) only [standsL, Rc.A, Rc.cs, Rx.A, Rx.O, Fr.av, h0, Int.toNat_natCast, rows_get, hx, pkv_eq, Pk.av, go_sem]; done)); (focus (first | rfl | (simp -dsimp -implicitDefEqProofs (maxSteps := 1000000) (disch := first | exact dis | fail) only [Rc.A, Rc.cs, Rx.A, Rx.O, Fr.av, h0, Int.toNat_natCast, rows_get, hx, pkv_eq, Pk.av, go_sem]; done)))) | (with_reducible first | refine w_if ?_ ?_ | refine w_gt ?_ ?_ | refine w_gf ?_ ?_ | refine w_io ?_ ?_ | refine w_gdt ?_ ?_ | refine w_gdf ?_ ?_ | refine w_ite ?_ ?_) <;> intro h <;> (try rw [h]) <;> replace hr := And.intro h hr <;> replace h := nrm h <;> try (first | (exfalso; omega) | exact (bx h (by assumption)).elim | exact (bx (by assumption) h).elim) | ((with_reducible refine And.intro ?_ ?_); (focus omega))) <;> try simp -dsimp -implicitDefEqProofs (maxSteps := 1000000) (disch := first | exact dis | fail) only [Rc.A, Rc.cs, Rx.A, Rx.O, Fr.av, h0, Int.toNat_natCast, rows_get, hx, pkv_eq, Pk.av, go_sem])
    exact rc_fin rfl rfl rfl rfl rfl rfl rfl rfl rfl rfl (by decide) (by decide) rfl rfl rfl rfl rfl (by rw [decide_eq_true (by omega)])
def Rc.won (r : Rc) : Rc := if r.bx.best < 0 then r else { r with bx := r.bx.endB r.bx.best 2, asks := ibits .or .i64 r.asks 1 }
theorem rcWon_ok (r : Rc) (h : RxOk r.bx) (hb : InO r.bx) (ha : 0 ≤ r.asks ∧ r.asks ≤ 15) : ACall Try.prog f_ref14_Ctrl_Won [.ptr 0 0] r.A fun v A => v = .bool (decide (0 ≤ r.bx.best)) ∧ A = r.won.A := by
  refine acallH ok_ref14_Ctrl_Won ?_
  rw [show r.A.length = 3 from rfl]
  have hB := rxBest_ok r.bx h hb
  rw [show r.bx.bestN r.bx.ord.length = r.bx.best from rfl] at hB
  by_cases h0 : r.bx.best < 0
  · have hr := trivial
    try simp -dsimp -implicitDefEqProofs (maxSteps := 1000000) (disch := first | exact dis | fail) only [hc_ref14_Ctrl_Won, Rc.A, Rc.cs, Rx.A, h0, go_sem]
    repeat' ((first | ((with_reducible refine ACall.atE (hB) [1] ?_ ?_ ?_ ?_ ?_); (focus decide); (focus rfl); (focus (simp -dsimp -implicitDefEqProofs (maxSteps := 1000000) (disch := first | exact dis | fail) only [standsL, Rc.A, Rc.cs, Rx.A, h0, go_sem]; done)); (focus (first | rfl | (simp -dsimp -implicitDefEqProofs (maxSteps := 1000000) (disch := first | exact dis | fail) only [Rc.A, Rc.cs, Rx.A, h0, go_sem]; done)))) | (with_reducible first | refine w_if ?_ ?_ | refine w_gt ?_ ?_ | refine w_gf ?_ ?_ | refine w_io ?_ ?_ | refine w_gdt ?_ ?_ | refine w_gdf ?_ ?_ | refine w_ite ?_ ?_) <;> intro h <;> (try rw [h]) <;> replace hr := And.intro h hr <;> replace h := nrm h <;> try (first | (exfalso; omega) | exact (bx h (by assumption)).elim | exact (bx (by assumption) h).elim) | ((with_reducible refine And.intro ?_ ?_); (focus omega))) <;> try simp -dsimp -implicitDefEqProofs (maxSteps := 1000000) (disch := first | exact dis | fail) only [Rc.A, Rc.cs, Rx.A, h0, go_sem])
    exact ⟨none, rfl, by rw [decide_eq_false (by omega)]; rfl, by rw [Rc.won, if_pos h0]; rfl⟩
  · have hE := rxEnd_ok r.bx h r.bx.best 2
    have hS := rcSet_ok r.asks (.ptr 1 0) (.sl 2 4 r.pre.length r.fifo.length false) (.int .i64 r.room) (.ps 3 (rows fiv r.acc)) (.int .i64 r.lost) [some (.own (r.bx.endB r.bx.best 2).ov), some (.arr (rows frv (r.pre ++ r.fifo)))] ha 1 (.inl rfl)
    have hr := trivial
    try simp -dsimp -implicitDefEqProofs (maxSteps := 1000000) (disch := first | exact dis | fail) only [hc_ref14_Ctrl_Won, Rc.A, Rc.cs, Rx.A, h0, go_sem]
    repeat' ((first | ((with_reducible refine ACall.atE (hB) [1] ?_ ?_ ?_ ?_ ?_); (focus decide); (focus rfl); (focus (simp -dsimp -implicitDefEqProofs (maxSteps := 1000000) (disch := first | exact dis | fail) only [standsL, Rc.A, Rc.cs, Rx.A, h0, go_sem]; done)); (focus (first | rfl | (simp -dsimp -implicitDefEqProofs (maxSteps := 1000000) (disch := first | exact dis | fail) only [Rc.A, Rc.cs, Rx.A, h0, go_sem]; done)))) | ((with_reducible refine ACall.atE (hE) [1] ?_ ?_ ?_ ?_ ?_); (focus decide); (focus rfl); (focus (simp -dsimp -implicitDefEqProofs (maxSteps := 1000000) (disch := first | exact dis | fail) only [standsL, Rc.A, Rc.cs, Rx.A, h0, go_sem]; done)); (focus (first | rfl | (simp -dsimp -implicitDefEqProofs (maxSteps := 1000000) (disch := first | exact dis | fail) only [Rc.A, Rc.cs, Rx.A, h0, go_sem]; done)))) | ((with_reducible refine ACall.atE (hS) [0, 1, 2] ?_ ?_ ?_ ?_ ?_); (focus decide); (focus rfl); (focus (simp -dsimp -implicitDefEqProofs (maxSteps := 1000000) (disch := first | exact dis | fail) only [standsL, Rc.A, Rc.cs, Rx.A, h0, go_sem]; done)); (focus (first | rfl | (simp -dsimp -implicitDefEqProofs (maxSteps := 1000000) (disch := first | exact dis | fail) only [Rc.A, Rc.cs, Rx.A, h0, go_sem]; done)))) | (with_reducible first | refine w_if ?_ ?_ | refine w_gt ?_ ?_ | refine w_gf ?_ ?_ | refine w_io ?_ ?_ | refine w_gdt ?_ ?_ | refine w_gdf ?_ ?_ | refine w_ite ?_ ?_) <;> intro h <;> (try rw [h]) <;> replace hr := And.intro h hr <;> replace h := nrm h <;> try (first | (exfalso; omega) | exact (bx h (by assumption)).elim | exact (bx (by assumption) h).elim) | ((with_reducible refine And.intro ?_ ?_); (focus omega))) <;> try simp -dsimp -implicitDefEqProofs (maxSteps := 1000000) (disch := first | exact dis | fail) only [Rc.A, Rc.cs, Rx.A, h0, go_sem])
    exact ⟨none, rfl, by rw [decide_eq_true (by omega)]; rfl, by rw [Rc.won, if_neg h0]; rfl⟩
def Rc.fetch (r : Rc) : Rc := match r.fifo with
  | [] => r
  | f :: fs => { r with pre := r.pre ++ [f], fifo := fs }
def Rc.fetchV (r : Rc) : AV := match r.fifo with
  | [] => .tup [.agg Fr.zero.av, .bool false]
  | f :: _ => .tup [.agg f.av, .bool true]
theorem rcFetch_ok (r : Rc) : ACall Try.prog f_ref14_Ctrl_Fetch [.ptr 0 0] r.A fun v A => v = r.fetchV ∧ A = r.fetch.A := by
  refine acallH ok_ref14_Ctrl_Fetch ?_
  rw [show r.A.length = 3 from rfl]
  cases hF : r.fifo with
  | nil =>
    have hr := trivial
    try simp -dsimp -implicitDefEqProofs (maxSteps := 1000000) (disch := first | exact dis | fail) only [hc_ref14_Ctrl_Fetch, Rc.A, Rc.cs, hF, List.length_nil, Fr.av, go_sem]
    repeat' ((first | (with_reducible first | refine w_if ?_ ?_ | refine w_gt ?_ ?_ | refine w_gf ?_ ?_ | refine w_io ?_ ?_ | refine w_gdt ?_ ?_ | refine w_gdf ?_ ?_ | refine w_ite ?_ ?_) <;> intro h <;> (try rw [h]) <;> replace hr := And.intro h hr <;> replace h := nrm h <;> try (first | (exfalso; omega) | exact (bx h (by assumption)).elim | exact (bx (by assumption) h).elim) | ((with_reducible refine And.intro ?_ ?_); (focus omega))) <;> try simp -dsimp -implicitDefEqProofs (maxSteps := 1000000) (disch := first | exact dis | fail) only [Rc.A, Rc.cs, hF, List.length_nil, Fr.av, go_sem])
    exact ⟨some [], rfl, by simp only [Rc.fetchV, hF]; rfl, by simp only [Rc.fetch, hF]; simp only [foldA_eq, go_sem, hF, Rc.A, Rc.cs, List.length_nil]⟩
  | cons f fs =>
    have hx : (r.pre ++ f :: fs)[r.pre.length + Int.toNat 0]? = some f := by simp
    have hs : AV.slc 4 (.sl 2 4 r.pre.length (fs.length + 1) false) (some (.int .i64 1)) none none = some (.sl 2 4 (r.pre.length + 1) fs.length false) := by
      have e : (1 : Int) ≤ (fs.length : Int) + 1 := by omega
      simp [AV.slc, bnds, hiOr, bnd, e]
    have hr := trivial
    try simp -dsimp -implicitDefEqProofs (maxSteps := 1000000) (disch := first | exact dis | fail) only [hc_ref14_Ctrl_Fetch, Rc.A, Rc.cs, hF, List.length_cons, Fr.av, rows_get, hx, frv_eq, hs, go_sem]
    repeat' ((first | (with_reducible first | refine w_if ?_ ?_ | refine w_gt ?_ ?_ | refine w_gf ?_ ?_ | refine w_io ?_ ?_ | refine w_gdt ?_ ?_ | refine w_gdf ?_ ?_ | refine w_ite ?_ ?_) <;> intro h <;> (try rw [h]) <;> replace hr := And.intro h hr <;> replace h := nrm h <;> try (first | (exfalso; omega) | exact (bx h (by assumption)).elim | exact (bx (by assumption) h).elim) | ((with_reducible refine And.intro ?_ ?_); (focus omega))) <;> try simp -dsimp -implicitDefEqProofs (maxSteps := 1000000) (disch := first | exact dis | fail) only [Rc.A, Rc.cs, hF, List.length_cons, Fr.av, rows_get, hx, frv_eq, hs, go_sem])
    exact ⟨some [], rfl, by simp only [Rc.fetchV, hF]; rfl, by simp only [Rc.fetch, hF]; simp only [foldA_eq, go_sem, hF, Rc.A, Rc.cs, List.length_append, List.length_singleton, List.append_assoc, List.singleton_append]⟩
end Go.Proofs.Ytapoilcpollmpaa
end

/- ref14: hearing. -/
section
namespace Go.Proofs.Ytapoilcpollmpaa
open Go.SB
attribute [local irreducible] HW HSS HAS HRQ HEO HOP HCK
set_option maxRecDepth 100000
set_option maxHeartbeats 400000
set_option linter.unusedSimpArgs false
set_option pp.deepTerms.threshold 6
attribute [local go_sem high] own_ren

/-- The controller behind a frame that was heard: the frames in a new place. -/
def Rc.A8 (r : Rc) (g : List Fr) : AHeap := [some (.cells [.ptr 1 0, .sl 3 4 r.pre.length r.fifo.length false, .int .i64 r.room, .ps 3 (rows fiv r.acc), .int .i64 r.lost, .int .i64 r.asks]), some (.own r.bx.ov), some (.arr (rows frv g)), some (.arr (rows frv (r.pre ++ r.fifo)))]
def Rc.lose (r : Rc) : Rc := { r with lost := r.lost + 1, asks := ibits .or .i64 r.asks 4 }
def Rc.heard (r : Rc) (f : Fr) : Rc := { r with pre := [], fifo := r.fifo ++ [f], asks := ibits .or .i64 r.asks 2 }
theorem aapp_e (x0 x1 x2 x3 : Option AO) (xs : List (List AV)) (h : xs.length ≤ 1000) : ∃ y, aapp [x0, x1, x2, x3, some (.arr []), none] 5 4 40 (.sl 4 4 0 0 true) xs = some (.sl 5 4 0 xs.length false, [x0, x1, x2, x3, y, some (.arr xs)]) := by
  cases xs with
  | nil => exact ⟨some .dead, rfl⟩
  | cons a l =>
    have e : (l.length + 1) * 40 ≤ 140737488355328 := by simp at h; omega
    refine ⟨some (.arr []), ?_⟩
    simp [aapp, e]
theorem rcHear_yes (r : Rc) (f : Fr) (hfi : ∀ x, x ∈ r.acc → FiOk x) (hn : r.acc.length ≤ 1000) (ha : 0 ≤ r.asks ∧ r.asks ≤ 15) (hl : r.fifo.length ≤ 1000) (hL : letsB r.acc f = true) (hf : (r.fifo.length : Int) ≠ r.room) :
    ACall Try.prog f_ref14_Ctrl_Hear [.ptr 0 0, .agg f.av] r.A fun v A => v = .bool true ∧ A = (r.heard f).A8 (r.pre ++ r.fifo) := by
  refine acallH ok_ref14_Ctrl_Hear ?_
  rw [show r.A.length = 3 from rfl]
  have hK := RKey_ok f
  have hA := Any_ok r.acc hfi (by omega) f
  have h0 : 0 ≤ keyR f := by
    by_cases h : 0 ≤ keyR f
    · exact h
    · rw [letsB, decide_eq_false h] at hL; cases hL
  have hd : ((rows frv (r.pre ++ r.fifo)).drop r.pre.length).take r.fifo.length = rows frv r.fifo := by
    rw [rows_drop, rows_take, List.drop_left, List.take_length]
  have hS := rcSet_ok r.asks (.ptr 1 0) (.sl 2 4 0 (r.fifo.length + 1) false) (.int .i64 r.room) (.ps 3 (rows fiv r.acc)) (.int .i64 r.lost) [some (.own r.bx.ov), some (.arr (rows frv (r.fifo ++ [f])))] ha 2 (.inr (.inl rfl))
  have hlf : (rows frv r.fifo).length = r.fifo.length := rows_length
  obtain ⟨y, hy⟩ := aapp_e (some (.cells [.ptr 1 0, .sl 2 4 r.pre.length r.fifo.length false, .int .i64 r.room, .ps 3 (rows fiv r.acc), .int .i64 r.lost, .int .i64 r.asks])) (some (.own r.bx.ov)) (some (.arr (rows frv (r.pre ++ r.fifo)))) (some (.cells f.av)) (rows frv r.fifo) (by rw [hlf]; exact hl)
  rw [hlf] at hy
  simp only [Fr.av] at hy
  by_cases hl0 : r.acc.length = 0
  · have hr := trivial
    try simp -dsimp -implicitDefEqProofs (maxSteps := 1000000) (disch := first | exact dis | fail) only [hc_ref14_Ctrl_Hear, Rc.A, Rc.cs, Fr.av, hl0, hd, hy, hlf, frv_snoc, appF_full hlf, go_sem]
    repeat' ((first | (with_reducible refine PCall.aci hK ?_) | (with_reducible refine PCall.aci hA ?_) | ((with_reducible refine ACall.atE (hS) [0, 1, 7] ?_ ?_ ?_ ?_ ?_); (focus decide); (focus rfl); (focus (simp -dsimp -implicitDefEqProofs (maxSteps := 1000000) (disch := first | exact dis | fail) only [standsL, Rc.A, Rc.cs, Fr.av, hl0, hd, hy, hlf, frv_snoc, appF_full hlf, go_sem]; done)); (focus (first | rfl | (simp -dsimp -implicitDefEqProofs (maxSteps := 1000000) (disch := first | exact dis | fail) only [Rc.A, Rc.cs, Fr.av, hl0, hd, hy, hlf, frv_snoc, appF_full hlf, go_sem]; done)))) | (with_reducible first | refine w_if ?_ ?_ | refine w_gt ?_ ?_ | refine w_gf ?_ ?_ | refine w_io ?_ ?_ | refine w_gdt ?_ ?_ | refine w_gdf ?_ ?_ | refine w_ite ?_ ?_) <;> intro h <;> (try rw [h]) <;> replace hr := And.intro h hr <;> replace h := nrm h <;> try (first | (exfalso; omega) | exact (bx h (by assumption)).elim | exact (bx (by assumption) h).elim) | ((with_reducible refine And.intro ?_ ?_); (focus omega))) <;> try simp -dsimp -implicitDefEqProofs (maxSteps := 1000000) (disch := first | exact dis | fail) only [Rc.A, Rc.cs, Fr.av, hl0, hd, hy, hlf, frv_snoc, appF_full hlf, go_sem])
    exact ⟨some [7], rfl, rfl, by simp only [foldA_eq, go_sem, Rc.A8, Rc.heard, List.nil_append, List.length_nil, List.length_append, List.length_singleton]⟩
  · have hb : anyB r.acc f = true := by
      rw [letsB, decide_eq_true h0, decide_eq_false hl0] at hL; simpa using hL
    rw [hb] at hA
    have hr := trivial
    try simp -dsimp -implicitDefEqProofs (maxSteps := 1000000) (disch := first | exact dis | fail) only [hc_ref14_Ctrl_Hear, Rc.A, Rc.cs, Fr.av, hl0, hd, hy, hlf, frv_snoc, appF_full hlf, go_sem]
    repeat' ((first | (with_reducible refine PCall.aci hK ?_) | (with_reducible refine PCall.aci hA ?_) | ((with_reducible refine ACall.atE (hS) [0, 1, 7] ?_ ?_ ?_ ?_ ?_); (focus decide); (focus rfl); (focus (simp -dsimp -implicitDefEqProofs (maxSteps := 1000000) (disch := first | exact dis | fail) only [standsL, Rc.A, Rc.cs, Fr.av, hl0, hd, hy, hlf, frv_snoc, appF_full hlf, go_sem]; done)); (focus (first | rfl | (simp -dsimp -implicitDefEqProofs (maxSteps := 1000000) (disch := first | exact dis | fail) only [Rc.A, Rc.cs, Fr.av, hl0, hd, hy, hlf, frv_snoc, appF_full hlf, go_sem]; done)))) | (with_reducible first | refine w_if ?_ ?_ | refine w_gt ?_ ?_ | refine w_gf ?_ ?_ | refine w_io ?_ ?_ | refine w_gdt ?_ ?_ | refine w_gdf ?_ ?_ | refine w_ite ?_ ?_) <;> intro h <;> (try rw [h]) <;> replace hr := And.intro h hr <;> replace h := nrm h <;> try (first | (exfalso; omega) | exact (bx h (by assumption)).elim | exact (bx (by assumption) h).elim) | ((with_reducible refine And.intro ?_ ?_); (focus omega))) <;> try simp -dsimp -implicitDefEqProofs (maxSteps := 1000000) (disch := first | exact dis | fail) only [Rc.A, Rc.cs, Fr.av, hl0, hd, hy, hlf, frv_snoc, appF_full hlf, go_sem])
    exact ⟨some [7], rfl, rfl, by simp only [foldA_eq, go_sem, Rc.A8, Rc.heard, List.nil_append, List.length_nil, List.length_append, List.length_singleton]⟩
theorem rcHear_full (r : Rc) (f : Fr) (hfi : ∀ x, x ∈ r.acc → FiOk x) (hn : r.acc.length ≤ 1000) (ha : 0 ≤ r.asks ∧ r.asks ≤ 15) (hlo : 0 ≤ r.lost ∧ r.lost ≤ 1000000) (hL : letsB r.acc f = true) (hf : (r.fifo.length : Int) = r.room) :
    ACall Try.prog f_ref14_Ctrl_Hear [.ptr 0 0, .agg f.av] r.A fun v A => v = .bool false ∧ A = r.lose.A := by
  refine acallH ok_ref14_Ctrl_Hear ?_
  rw [show r.A.length = 3 from rfl]
  have hK := RKey_ok f
  have hA := Any_ok r.acc hfi (by omega) f
  have h0 : 0 ≤ keyR f := by
    by_cases h : 0 ≤ keyR f
    · exact h
    · rw [letsB, decide_eq_false h] at hL; cases hL
  have hS := rcSet_ok r.asks (.ptr 1 0) (.sl 2 4 r.pre.length r.fifo.length false) (.int .i64 r.room) (.ps 3 (rows fiv r.acc)) (.int .i64 (r.lost + 1)) [some (.own r.bx.ov), some (.arr (rows frv (r.pre ++ r.fifo)))] ha 4 (.inr (.inr (.inl rfl)))
  by_cases hl0 : r.acc.length = 0
  · have hr := trivial
    try simp -dsimp -implicitDefEqProofs (maxSteps := 1000000) (disch := first | exact dis | fail) only [hc_ref14_Ctrl_Hear, Rc.A, Rc.cs, Fr.av, hl0, go_sem]
    repeat' ((first | (with_reducible refine PCall.aci hK ?_) | (with_reducible refine PCall.aci hA ?_) | ((with_reducible refine ACall.atE (hS) [0, 1, 2] ?_ ?_ ?_ ?_ ?_); (focus decide); (focus rfl); (focus (simp -dsimp -implicitDefEqProofs (maxSteps := 1000000) (disch := first | exact dis | fail) only [standsL, Rc.A, Rc.cs, Fr.av, hl0, go_sem]; done)); (focus (first | rfl | (simp -dsimp -implicitDefEqProofs (maxSteps := 1000000) (disch := first | exact dis | fail) only [Rc.A, Rc.cs, Fr.av, hl0, go_sem]; done)))) | (with_reducible first | refine w_if ?_ ?_ | refine w_gt ?_ ?_ | refine w_gf ?_ ?_ | refine w_io ?_ ?_ | refine w_gdt ?_ ?_ | refine w_gdf ?_ ?_ | refine w_ite ?_ ?_) <;> intro h <;> (try rw [h]) <;> replace hr := And.intro h hr <;> replace h := nrm h <;> try (first | (exfalso; omega) | exact (bx h (by assumption)).elim | exact (bx (by assumption) h).elim) | ((with_reducible refine And.intro ?_ ?_); (focus omega))) <;> try simp -dsimp -implicitDefEqProofs (maxSteps := 1000000) (disch := first | exact dis | fail) only [Rc.A, Rc.cs, Fr.av, hl0, go_sem])
    exact ⟨some [], rfl, rfl, by simp only [foldA_eq, go_sem, Rc.A, Rc.cs, Rc.lose]⟩
  · have hb : anyB r.acc f = true := by
      rw [letsB, decide_eq_true h0, decide_eq_false hl0] at hL; simpa using hL
    rw [hb] at hA
    have hr := trivial
    try simp -dsimp -implicitDefEqProofs (maxSteps := 1000000) (disch := first | exact dis | fail) only [hc_ref14_Ctrl_Hear, Rc.A, Rc.cs, Fr.av, hl0, go_sem]
    repeat' ((first | (with_reducible refine PCall.aci hK ?_) | (with_reducible refine PCall.aci hA ?_) | ((with_reducible refine ACall.atE (hS) [0, 1, 2] ?_ ?_ ?_ ?_ ?_); (focus decide); (focus rfl); (focus (simp -dsimp -implicitDefEqProofs (maxSteps := 1000000) (disch := first | exact dis | fail) only [standsL, Rc.A, Rc.cs, Fr.av, hl0, go_sem]; done)); (focus (first | rfl | (simp -dsimp -implicitDefEqProofs (maxSteps := 1000000) (disch := first | exact dis | fail) only [Rc.A, Rc.cs, Fr.av, hl0, go_sem]; done)))) | (with_reducible first | refine w_if ?_ ?_ | refine w_gt ?_ ?_ | refine w_gf ?_ ?_ | refine w_io ?_ ?_ | refine w_gdt ?_ ?_ | refine w_gdf ?_ ?_ | refine w_ite ?_ ?_) <;> intro h <;> (try rw [h]) <;> replace hr := And.intro h hr <;> replace h := nrm h <;> try (first | (exfalso; omega) | exact (bx h (by assumption)).elim | exact (bx (by assumption) h).elim) | ((with_reducible refine And.intro ?_ ?_); (focus omega))) <;> try simp -dsimp -implicitDefEqProofs (maxSteps := 1000000) (disch := first | exact dis | fail) only [Rc.A, Rc.cs, Fr.av, hl0, go_sem])
    exact ⟨some [], rfl, rfl, by simp only [foldA_eq, go_sem, Rc.A, Rc.cs, Rc.lose]⟩
theorem rcHear_no (r : Rc) (f : Fr) (hfi : ∀ x, x ∈ r.acc → FiOk x) (hn : r.acc.length ≤ 1000) (hL : letsB r.acc f = false) :
    ACall Try.prog f_ref14_Ctrl_Hear [.ptr 0 0, .agg f.av] r.A fun v A => v = .bool false ∧ A = r.A := by
  refine acallH ok_ref14_Ctrl_Hear ?_
  rw [show r.A.length = 3 from rfl]
  have hK := RKey_ok f
  have hA := Any_ok r.acc hfi (by omega) f
  by_cases h0 : 0 ≤ keyR f
  · rw [letsB, decide_eq_true h0, Bool.true_and, Bool.or_eq_false_iff, decide_eq_false_iff_not] at hL
    obtain ⟨hl0, hb⟩ := hL
    rw [hb] at hA
    have hr := trivial
    try simp -dsimp -implicitDefEqProofs (maxSteps := 1000000) (disch := first | exact dis | fail) only [hc_ref14_Ctrl_Hear, Rc.A, Rc.cs, Fr.av, hl0, go_sem]
    repeat' ((first | (with_reducible refine PCall.aci hK ?_) | (with_reducible refine PCall.aci hA ?_) | (with_reducible first | refine w_if ?_ ?_ | refine w_gt ?_ ?_ | refine w_gf ?_ ?_ | refine w_io ?_ ?_ | refine w_gdt ?_ ?_ | refine w_gdf ?_ ?_ | refine w_ite ?_ ?_) <;> intro h <;> (try rw [h]) <;> replace hr := And.intro h hr <;> replace h := nrm h <;> try (first | (exfalso; omega) | exact (bx h (by assumption)).elim | exact (bx (by assumption) h).elim) | ((with_reducible refine And.intro ?_ ?_); (focus omega))) <;> try simp -dsimp -implicitDefEqProofs (maxSteps := 1000000) (disch := first | exact dis | fail) only [Rc.A, Rc.cs, Fr.av, hl0, go_sem])
    exact ⟨some [], rfl, rfl, by simp only [foldA_eq, go_sem, Rc.A, Rc.cs]⟩
  · have hr := trivial
    try simp -dsimp -implicitDefEqProofs (maxSteps := 1000000) (disch := first | exact dis | fail) only [hc_ref14_Ctrl_Hear, Rc.A, Rc.cs, Fr.av, go_sem]
    repeat' ((first | (with_reducible refine PCall.aci hK ?_) | (with_reducible refine PCall.aci hA ?_) | (with_reducible first | refine w_if ?_ ?_ | refine w_gt ?_ ?_ | refine w_gf ?_ ?_ | refine w_io ?_ ?_ | refine w_gdt ?_ ?_ | refine w_gdf ?_ ?_ | refine w_ite ?_ ?_) <;> intro h <;> (try rw [h]) <;> replace hr := And.intro h hr <;> replace h := nrm h <;> try (first | (exfalso; omega) | exact (bx h (by assumption)).elim | exact (bx (by assumption) h).elim) | ((with_reducible refine And.intro ?_ ?_); (focus omega))) <;> try simp -dsimp -implicitDefEqProofs (maxSteps := 1000000) (disch := first | exact dis | fail) only [Rc.A, Rc.cs, Fr.av, go_sem])
    exact ⟨some [], rfl, rfl, by simp only [foldA_eq, go_sem, Rc.A, Rc.cs]⟩
end Go.Proofs.Ytapoilcpollmpaa
end

/- ref14: aborting. -/
section
namespace Go.Proofs.Ytapoilcpollmpaa
open Go.SB
attribute [local irreducible] HW HSS HAS HRQ HEO HOP HCK
set_option maxRecDepth 100000
set_option maxHeartbeats 400000
set_option linter.unusedSimpArgs false
set_option pp.deepTerms.threshold 6
attribute [local go_sem high] own_ren

def Rx.oc (b : Rx) (k : Nat) : AO := .cells [.sl k 1 0 b.st.length false, .sl (k + 1) 7 0 b.pk.length false, .sl (k + 2) 1 0 b.ord.length false, .sl (k + 3) 1 0 b.ended.length false]
def Rx.oa (b : Rx) : AHeap := [some (.arr (rows i1 b.st)), some (.arr (rows pkv b.pk)), some (.arr (rows i1 b.ord)), some (.arr (rows i1 b.ended))]
def dead4 : AHeap := [some .dead, some .dead, some .dead, some .dead]
theorem Rx.shut (b : Rx) : Vw b.O (some (.own b.ov) :: dead4) := by
  have h := vw_close (l := 0) (A := b.O) rfl (.sl (p := 1) rfl (by rw [rows_length]; omega) (by decide) rows_all flatLL_rows rfl (.sl (p := 2) rfl (by rw [rows_length]; omega) (by decide) rows_all flatLL_rows rfl
    (.sl (p := 3) rfl (by rw [rows_length]; omega) (by decide) rows_all flatLL_rows rfl (.sl (p := 4) rfl (by rw [rows_length]; omega) (by decide) rows_all flatLL_rows rfl .nil))))
  exact h
theorem rxEndO_ok (b : Rx) (h : RxOk b) (i s : Int) : ACall Try.prog f_ref13_Boxes_End [.ptr 0 0, .int .i64 i, .int .i64 s] b.O fun v A => v = .int .i64 (b.endE i) ∧ A = some ((b.endB i s).oc 5) :: dead4 ++ (b.endB i s).oa := by
  refine ACall.pre (Rx.shut b) rfl ?_
  refine ACall.post ((rxEnd_ok b h i s).frame (B := some (.own b.ov) :: dead4) (js := [0]) ⟨rfl, by decide, by simp, ?_⟩) ?_
  · intro i j o h1 h2
    rcases i with _ | i
    · cases h1; cases h2; rfl
    · cases h1
  · rintro r B ⟨r1, A1, ⟨rfl, rfl⟩, rfl, rfl⟩
    generalize b.endB i s = c
    refine ⟨_, vw_open (l := 0) (ovs := c.ov) rfl, none, rfl, rfl, ?_⟩
    simp [opn, Rx.ov, opC, opA, Rx.oc, Rx.oa, rows_length, dead4, putAll, Rx.A, own_ren, foldAo]
def Rc.OA (r : Rc) : AHeap := some (.cells r.cs) :: some (r.bx.oc 3) :: some (.arr (rows frv (r.pre ++ r.fifo))) :: r.bx.oa
theorem Rc.opn (r : Rc) : Vw r.A r.OA := by
  have h := vw_open (l := 1) (ovs := r.bx.ov) (A := r.A) rfl
  simpa [SB.opn, Rc.A, Rx.ov, opC, opA, Rx.oc, Rx.oa, rows_length, Rc.OA] using h
def Rc.abort (r : Rc) (b : Bx) : Rc := { r with bx := r.bx.abN b.cells.length, asks := if 0 < b.abC b.cells.length then ibits .or .i64 r.asks 1 else r.asks }
theorem rcAbort_ok (r : Rc) (b : Bx) (h : BR b r.bx) (ha : 0 ≤ r.asks ∧ r.asks ≤ 15) : ACall Try.prog f_ref14_Ctrl_Abort [.ptr 0 0] r.A fun v A => v = .int .i64 (b.abC b.cells.length) ∧ A = (r.abort b).A := by
  refine acallV ok_ref14_Ctrl_Abort r.opn ?_
  rw [show r.A.length = 3 from rfl]
  have hc := h.I.len
  have hr := trivial
  try simp -dsimp -implicitDefEqProofs (maxSteps := 1000000) (disch := first | exact dis | fail) only [hc_ref14_Ctrl_Abort, Rc.OA, Rc.cs, Rx.oc, Rx.oa, go_sem]
  repeat' ((first | (with_reducible first | refine w_if ?_ ?_ | refine w_gt ?_ ?_ | refine w_gf ?_ ?_ | refine w_io ?_ ?_ | refine w_gdt ?_ ?_ | refine w_gdf ?_ ?_ | refine w_ite ?_ ?_) <;> intro h <;> (try rw [h]) <;> replace hr := And.intro h hr <;> replace h := nrm h <;> try (first | (exfalso; omega) | exact (bx h (by assumption)).elim | exact (bx (by assumption) h).elim) | ((with_reducible refine And.intro ?_ ?_); (focus omega))) <;> try simp -dsimp -implicitDefEqProofs (maxSteps := 1000000) (disch := first | exact dis | fail) only [Rc.OA, Rc.cs, Rx.oc, Rx.oa, go_sem])
  unfold hc_ref14_Ctrl_Abort_l1
  refine hw_loop b.cells.length (fun i ρ A => ρ = rg 8 [(0, .ptr 0 0), (2, .int .i64 (b.abC i)), (3, .int .i64 i)] ∧ A = ({ r with bx := r.bx.abN i } : Rc).OA) ⟨none, rfl, by simp only [foldRn, go_sem]; rfl, rfl⟩ ?_
  rintro i ρ A hi ⟨rfl, rfl⟩
  obtain ⟨ha0, ha1⟩ := abC_b b i
  have hR := h.abN i
  have hl : (r.bx.abN i).st.length = b.cells.length := by rw [hR.sl, abN_len]
  by_cases hlt : i < b.cells.length
  · have hE := rxEndO_ok (r.bx.abN i) hR.rok i 3
    rw [hR.endE, abN_endE i i (Nat.le_refl _)] at hE
    have hs : b.abC (i + 1) = b.abC i + if b.endE i = 0 then 1 else 0 := rfl
    have ht : r.bx.abN (i + 1) = (r.bx.abN i).endB i 3 := rfl
    by_cases h1 : b.endE i = 0
    · rw [if_pos h1] at hs
      rw [h1] at hE
      have hr := trivial
      try simp -dsimp -implicitDefEqProofs (maxSteps := 1000000) (disch := first | exact dis | fail) only [hc_ref14_Ctrl_Abort_b1, Rc.OA, Rc.cs, Rx.O, Rx.oc, Rx.oa, dead4, hl, go_sem]
      repeat' ((first | ((with_reducible refine ACall.atE (hE) [1, 3, 4, 5, 6] ?_ ?_ ?_ ?_ ?_); (focus decide); (focus rfl); (focus (simp -dsimp -implicitDefEqProofs (maxSteps := 1000000) (disch := first | exact dis | fail) only [standsL, Rc.OA, Rc.cs, Rx.O, Rx.oc, Rx.oa, dead4, hl, go_sem]; done)); (focus (first | rfl | (simp -dsimp -implicitDefEqProofs (maxSteps := 1000000) (disch := first | exact dis | fail) only [Rc.OA, Rc.cs, Rx.O, Rx.oc, Rx.oa, dead4, hl, go_sem]; done)))) | (with_reducible first | refine w_if ?_ ?_ | refine w_gt ?_ ?_ | refine w_gf ?_ ?_ | refine w_io ?_ ?_ | refine w_gdt ?_ ?_ | refine w_gdf ?_ ?_ | refine w_ite ?_ ?_) <;> intro h <;> (try rw [h]) <;> replace hr := And.intro h hr <;> replace h := nrm h <;> try (first | (exfalso; omega) | exact (bx h (by assumption)).elim | exact (bx (by assumption) h).elim) | ((with_reducible refine And.intro ?_ ?_); (focus omega))) <;> try simp -dsimp -implicitDefEqProofs (maxSteps := 1000000) (disch := first | exact dis | fail) only [Rc.OA, Rc.cs, Rx.O, Rx.oc, Rx.oa, dead4, hl, go_sem])
      refine ⟨some [7, 8, 9, 10], rfl, ?_, ?_⟩
      · simp only [foldR_eq, go_sem, hs]; rfl
      · simp only [foldA_eq, go_sem, ht, Rc.OA, Rc.cs, Rx.oc, Rx.oa]
    · rw [if_neg h1] at hs
      have hr := trivial
      try simp -dsimp -implicitDefEqProofs (maxSteps := 1000000) (disch := first | exact dis | fail) only [hc_ref14_Ctrl_Abort_b1, Rc.OA, Rc.cs, Rx.O, Rx.oc, Rx.oa, dead4, hl, h1, go_sem]
      repeat' ((first | ((with_reducible refine ACall.atE (hE) [1, 3, 4, 5, 6] ?_ ?_ ?_ ?_ ?_); (focus decide); (focus rfl); (focus (simp -dsimp -implicitDefEqProofs (maxSteps := 1000000) (disch := first | exact dis | fail) only [standsL, Rc.OA, Rc.cs, Rx.O, Rx.oc, Rx.oa, dead4, hl, h1, go_sem]; done)); (focus (first | rfl | (simp -dsimp -implicitDefEqProofs (maxSteps := 1000000) (disch := first | exact dis | fail) only [Rc.OA, Rc.cs, Rx.O, Rx.oc, Rx.oa, dead4, hl, h1, go_sem]; done)))) | (with_reducible first | refine w_if ?_ ?_ | refine w_gt ?_ ?_ | refine w_gf ?_ ?_ | refine w_io ?_ ?_ | refine w_gdt ?_ ?_ | refine w_gdf ?_ ?_ | refine w_ite ?_ ?_) <;> intro h <;> (try rw [h]) <;> replace hr := And.intro h hr <;> replace h := nrm h <;> try (first | (exfalso; omega) | exact (bx h (by assumption)).elim | exact (bx (by assumption) h).elim) | ((with_reducible refine And.intro ?_ ?_); (focus omega))) <;> try simp -dsimp -implicitDefEqProofs (maxSteps := 1000000) (disch := first | exact dis | fail) only [Rc.OA, Rc.cs, Rx.O, Rx.oc, Rx.oa, dead4, hl, h1, go_sem])
      refine ⟨some [7, 8, 9, 10], rfl, ?_, ?_⟩
      · simp only [foldR_eq, go_sem, hs]; rfl
      · simp only [foldA_eq, go_sem, ht, Rc.OA, Rc.cs, Rx.oc, Rx.oa]
  · obtain rfl : i = b.cells.length := by omega
    have hS := rcSet_ok r.asks (.ptr 1 0) (.sl 2 4 r.pre.length r.fifo.length false) (.int .i64 r.room) (.ps 3 (rows fiv r.acc)) (.int .i64 r.lost) (some ((r.bx.abN b.cells.length).oc 3) :: some (.arr (rows frv (r.pre ++ r.fifo))) :: (r.bx.abN b.cells.length).oa) ha 1 (.inl rfl)
    simp only [Rx.oc, Rx.oa] at hS
    by_cases h0 : 0 < b.abC b.cells.length
    · have hr := trivial
      try simp -dsimp -implicitDefEqProofs (maxSteps := 1000000) (disch := first | exact dis | fail) only [hc_ref14_Ctrl_Abort_b1, Rc.OA, Rc.cs, Rx.oc, Rx.oa, hl, h0, go_sem]
      repeat' ((first | ((with_reducible refine ACall.atE (hS) [0, 1, 2, 3, 4, 5, 6] ?_ ?_ ?_ ?_ ?_); (focus decide); (focus rfl); (focus (simp -dsimp -implicitDefEqProofs (maxSteps := 1000000) (disch := first | exact dis | fail) only [standsL, Rc.OA, Rc.cs, Rx.oc, Rx.oa, hl, h0, go_sem]; done)); (focus (first | rfl | (simp -dsimp -implicitDefEqProofs (maxSteps := 1000000) (disch := first | exact dis | fail) only [Rc.OA, Rc.cs, Rx.oc, Rx.oa, hl, h0, go_sem]; done)))) | (with_reducible first | refine w_if ?_ ?_ | refine w_gt ?_ ?_ | refine w_gf ?_ ?_ | refine w_io ?_ ?_ | refine w_gdt ?_ ?_ | refine w_gdf ?_ ?_ | refine w_ite ?_ ?_) <;> intro h <;> (try rw [h]) <;> replace hr := And.intro h hr <;> replace h := nrm h <;> try (first | (exfalso; omega) | exact (bx h (by assumption)).elim | exact (bx (by assumption) h).elim) | ((with_reducible refine And.intro ?_ ?_); (focus omega))) <;> try simp -dsimp -implicitDefEqProofs (maxSteps := 1000000) (disch := first | exact dis | fail) only [Rc.OA, Rc.cs, Rx.oc, Rx.oa, hl, h0, go_sem])
      exact rc_fin (B := r.abort b) rfl (by simp only [Rc.abort, if_pos h0, Rc.cs]) rfl rfl rfl rfl rfl rfl rfl rfl (by decide) (by decide) hl.symm rfl rfl rfl rfl rfl
    · have hr := trivial
      try simp -dsimp -implicitDefEqProofs (maxSteps := 1000000) (disch := first | exact dis | fail) only [hc_ref14_Ctrl_Abort_b1, Rc.OA, Rc.cs, Rx.oc, Rx.oa, hl, h0, go_sem]
      repeat' ((first | ((with_reducible refine ACall.atE (hS) [0, 1, 2, 3, 4, 5, 6] ?_ ?_ ?_ ?_ ?_); (focus decide); (focus rfl); (focus (simp -dsimp -implicitDefEqProofs (maxSteps := 1000000) (disch := first | exact dis | fail) only [standsL, Rc.OA, Rc.cs, Rx.oc, Rx.oa, hl, h0, go_sem]; done)); (focus (first | rfl | (simp -dsimp -implicitDefEqProofs (maxSteps := 1000000) (disch := first | exact dis | fail) only [Rc.OA, Rc.cs, Rx.oc, Rx.oa, hl, h0, go_sem]; done)))) | (with_reducible first | refine w_if ?_ ?_ | refine w_gt ?_ ?_ | refine w_gf ?_ ?_ | refine w_io ?_ ?_ | refine w_gdt ?_ ?_ | refine w_gdf ?_ ?_ | refine w_ite ?_ ?_) <;> intro h <;> (try rw [h]) <;> replace hr := And.intro h hr <;> replace h := nrm h <;> try (first | (exfalso; omega) | exact (bx h (by assumption)).elim | exact (bx (by assumption) h).elim) | ((with_reducible refine And.intro ?_ ?_); (focus omega))) <;> try simp -dsimp -implicitDefEqProofs (maxSteps := 1000000) (disch := first | exact dis | fail) only [Rc.OA, Rc.cs, Rx.oc, Rx.oa, hl, h0, go_sem])
      exact rc_fin (B := r.abort b) rfl (by simp only [Rc.abort, if_neg h0, Rc.cs]) rfl rfl rfl rfl rfl rfl rfl rfl (by decide) (by decide) hl.symm rfl rfl rfl rfl rfl
end Go.Proofs.Ytapoilcpollmpaa
end
