/- QfE, put together. Conditions: none. -/
import Derived.Test.YtapoilcpollmpaaNQfD
/- ctrl: a controller's fifo. -/
section
namespace Go.Proofs.Ytapoilcpollmpaa
open Go.SB
attribute [local irreducible] HW HSS HAS HRQ HEO HOP HCK
set_option maxRecDepth 100000
set_option maxHeartbeats 4000000
set_option linter.unusedSimpArgs false
set_option pp.deepTerms.threshold 6

instance : Flt i1 := ⟨i1_flat⟩
instance : RowF i1 1 := ⟨fun _ => ⟨rfl, rfl⟩⟩
theorem own_ren {g : Nat → Option Nat} {o : List OV} : AO.ren g (.own o) = .own o := rfl
attribute [local go_sem high] own_ren
/-- A packet, and a mailbox. -/
structure Pk where
  fr : Fr
  p1 : Int
  p2 : Int
  pb : Bool
abbrev Pk.av (p : Pk) : List AV := [.int .i64 p.fr.id, .int .i64 p.fr.fl, .int .i64 p.fr.len, .str p.fr.data, .int .i64 p.p1, .int .i64 p.p2, .bool p.pb]
structure Ce where
  st : Int
  pk : Pk
  since : Int
abbrev Ce.av (c : Ce) : List AV := [.int .i64 c.st, .int .i64 c.pk.fr.id, .int .i64 c.pk.fr.fl, .int .i64 c.pk.fr.len, .str c.pk.fr.data, .int .i64 c.pk.p1, .int .i64 c.pk.p2, .bool c.pk.pb, .int .i64 c.since]
def cev (c : Ce) : List AV := c.av
theorem cev_eq (c : Ce) : cev c = c.av := rfl
instance : Flt cev := ⟨fun _ => rfl⟩
instance : RowF cev 9 := ⟨fun _ => ⟨rfl, rfl⟩⟩
def Pk.zero : Pk := ⟨Fr.zero, 0, 0, false⟩
def Ce.zero : Ce := ⟨0, Pk.zero, 0⟩
structure Bx where
  cells : List Ce
  ended : List Int
  puts : Int
def Bx.ov (b : Bx) : List OV := [.s 9 (rows cev b.cells), .s 1 (rows i1 b.ended), .v (.int .i64 b.puts)]
def Bx.A (b : Bx) : AHeap := [some (.own b.ov)]
def Bx.new (n : Int) : Bx := ⟨List.replicate (roomI n).toNat Ce.zero, [], 0⟩
theorem rep_zeroC {n : Nat} : List.replicate n [AV.int .i64 0, .int .i64 0, .int .i64 0, .int .i64 0, .str [], .int .i64 0, .int .i64 0, .bool false, .int .i64 0] = rows cev (List.replicate n Ce.zero) := rows_rep (f := cev) (x := Ce.zero)
theorem bNew_ok (n : Int) : ACall Try.prog f_box_New [.int .i64 n] [] fun v A => v = .ptr 0 0 ∧ A = (Bx.new n).A := by
  refine acallV ok_box_New (Vw.refl _) ?_
  have hb := roomI_b n
  have hm : min (max n 1) 1000 = roomI n := rfl
  obtain ⟨k, hk⟩ : ∃ k : Nat, roomI n = k := ⟨(roomI n).toNat, by omega⟩
  have hr := trivial
  try simp -dsimp -implicitDefEqProofs (maxSteps := 1000000) (disch := first | exact dis | fail) only [hc_box_New, hm, hk, Int.toNat_natCast, rep_zeroC, go_sem]
  repeat' ((first | (with_reducible first | refine w_if ?_ ?_ | refine w_gt ?_ ?_ | refine w_gf ?_ ?_ | refine w_io ?_ ?_ | refine w_gdt ?_ ?_ | refine w_gdf ?_ ?_ | refine w_ite ?_ ?_) <;> intro h <;> (try rw [h]) <;> replace hr := And.intro h hr <;> replace h := nrm h <;> try (first | (exfalso; omega) | exact (bx h (by assumption)).elim | exact (bx (by assumption) h).elim) | ((with_reducible refine And.intro ?_ ?_); (focus omega))) <;> try simp -dsimp -implicitDefEqProofs (maxSteps := 1000000) (disch := first | exact dis | fail) only [hm, hk, Int.toNat_natCast, rep_zeroC, go_sem])
  refine ⟨_, vw_close (l := 1) rfl (.sl (p := 0) rfl (by simp [rows_length]) (by decide) (rows_allN (by simp)) flatLL_rows rfl (.nils (sz := 1) (by decide) (.v rfl .nil))), some [1], rfl, rfl, ?_⟩
  simp only [clo, kills, foldA_eq, go_sem, Bx.A, Bx.ov, Bx.new, hk, Int.toNat_natCast]; rfl
/-- A controller's making. -/
structure Cf where
  boxes : Int
  fifo : Int
  b3 : Int
  b4 : Int
  b5 : Int
  b6 : Int
  b7 : Int
  acc : List Fi
abbrev Cf.av (c : Cf) : List AV := [.int .i64 c.boxes, .int .i64 c.fifo, .int .i64 c.b3, .int .i64 c.b4, .int .i64 c.b5, .int .i64 c.b6, .int .i64 c.b7, .ps 3 (rows fiv c.acc)]
structure Ct where
  bx : Bx
  rg : Rg
  acc : List Fi
  asks : Int
def Ct.A (c : Ct) : AHeap := [some (.cells [.ptr 1 0, .ptr 2 0, .sl 3 3 0 c.acc.length false, .int .i64 c.asks]), some (.own c.bx.ov), some (.own c.rg.ov), some (.arr (rows fiv c.acc))]
def Ct.new (c : Cf) : Ct := ⟨Bx.new c.boxes, Rg.new c.fifo, c.acc, 0⟩
theorem cNew_ok (c : Cf) (hn : c.acc.length ≤ 1000) : ACall Try.prog f_ctrl_New [.agg c.av] [] fun v A => v = .ptr 0 0 ∧ A = (Ct.new c).A := by
  refine acallH ok_ctrl_New ?_
  have hA := bNew_ok c.boxes
  have hB := rNew_ok c.fifo
  have hr := trivial
  try simp -dsimp -implicitDefEqProofs (maxSteps := 1000000) (disch := first | exact dis | fail) only [hc_ctrl_New, Cf.av, Bx.A, Rg.A, go_sem]
  repeat' ((first | ((with_reducible refine ACall.atE (hA) [] ?_ ?_ ?_ ?_ ?_); (focus decide); (focus rfl); (focus (simp -dsimp -implicitDefEqProofs (maxSteps := 1000000) (disch := first | exact dis | fail) only [standsL, Cf.av, Bx.A, Rg.A, go_sem]; done)); (focus (first | rfl | (simp -dsimp -implicitDefEqProofs (maxSteps := 1000000) (disch := first | exact dis | fail) only [Cf.av, Bx.A, Rg.A, go_sem]; done)))) | ((with_reducible refine ACall.atE (hB) [] ?_ ?_ ?_ ?_ ?_); (focus decide); (focus rfl); (focus (simp -dsimp -implicitDefEqProofs (maxSteps := 1000000) (disch := first | exact dis | fail) only [standsL, Cf.av, Bx.A, Rg.A, go_sem]; done)); (focus (first | rfl | (simp -dsimp -implicitDefEqProofs (maxSteps := 1000000) (disch := first | exact dis | fail) only [Cf.av, Bx.A, Rg.A, go_sem]; done)))) | ((with_reducible refine ACall.atE (FClone_ok c.acc hn) [] ?_ ?_ ?_ ?_ ?_); (focus decide); (focus rfl); (focus (simp -dsimp -implicitDefEqProofs (maxSteps := 1000000) (disch := first | exact dis | fail) only [standsL, Cf.av, Bx.A, Rg.A, go_sem]; done)); (focus (first | rfl | (simp -dsimp -implicitDefEqProofs (maxSteps := 1000000) (disch := first | exact dis | fail) only [Cf.av, Bx.A, Rg.A, go_sem]; done)))) | (with_reducible first | refine w_if ?_ ?_ | refine w_gt ?_ ?_ | refine w_gf ?_ ?_ | refine w_io ?_ ?_ | refine w_gdt ?_ ?_ | refine w_gdf ?_ ?_ | refine w_ite ?_ ?_) <;> intro h <;> (try rw [h]) <;> replace hr := And.intro h hr <;> replace h := nrm h <;> try (first | (exfalso; omega) | exact (bx h (by assumption)).elim | exact (bx (by assumption) h).elim) | ((with_reducible refine And.intro ?_ ?_); (focus omega))) <;> try simp -dsimp -implicitDefEqProofs (maxSteps := 1000000) (disch := first | exact dis | fail) only [Cf.av, Bx.A, Rg.A, go_sem])
  exact ⟨some [1, 2, 3, 4], rfl, rfl, by simp only [foldA_eq, go_sem, Ct.new, Ct.A]⟩
def letsB (acc : List Fi) (f : Fr) : Bool := decide (0 ≤ keyR f) && (decide (acc.length = 0) || anyB acc f)
theorem lets_ok (c : Ct) (hn : c.acc.length ≤ 1000) (f : Fr) : ACall Try.prog f_ctrl_Ctrl_lets [.ptr 0 0, .agg f.av] c.A fun v A => v = .bool (letsB c.acc f) ∧ A = c.A := by
  refine acallH ok_ctrl_Ctrl_lets ?_
  have hk : PCall Try.prog f_frame_Key [.agg f.av] (.int .i64 (keyR f)) := key_eq f ▸ Key_ok f
  have hC := FContains_ok c.acc hn f false
  have hr := trivial
  try simp -dsimp -implicitDefEqProofs (maxSteps := 1000000) (disch := first | exact dis | fail) only [hc_ctrl_Ctrl_lets, Ct.A, Fr.av, FH, go_sem]
  repeat' ((first | (with_reducible refine PCall.aci hk ?_) | ((with_reducible refine ACall.atE (hC) [3, 4] ?_ ?_ ?_ ?_ ?_); (focus decide); (focus rfl); (focus (simp -dsimp -implicitDefEqProofs (maxSteps := 1000000) (disch := first | exact dis | fail) only [standsL, Ct.A, Fr.av, FH, go_sem]; done)); (focus (first | rfl | (simp -dsimp -implicitDefEqProofs (maxSteps := 1000000) (disch := first | exact dis | fail) only [Ct.A, Fr.av, FH, go_sem]; done)))) | (with_reducible first | refine w_if ?_ ?_ | refine w_gt ?_ ?_ | refine w_gf ?_ ?_ | refine w_io ?_ ?_ | refine w_gdt ?_ ?_ | refine w_gdf ?_ ?_ | refine w_ite ?_ ?_) <;> intro h <;> (try rw [h]) <;> replace hr := And.intro h hr <;> replace h := nrm h <;> try (first | (exfalso; omega) | exact (bx h (by assumption)).elim | exact (bx (by assumption) h).elim) | ((with_reducible refine And.intro ?_ ?_); (focus omega))) <;> try simp -dsimp -implicitDefEqProofs (maxSteps := 1000000) (disch := first | exact dis | fail) only [Ct.A, Fr.av, FH, go_sem])
  · exact ⟨some [], rfl, by rw [letsB, decide_eq_false (by omega)]; rfl, by simp only [foldA_eq, go_sem]⟩
  · exact ⟨some [], rfl, by rw [letsB, decide_eq_true (by omega), decide_eq_false (by omega)]; rfl, by simp only [foldA_eq, go_sem]⟩
  · exact ⟨some [], rfl, by rw [letsB, decide_eq_true (by omega), decide_eq_true (by omega)]; rfl, by simp only [foldA_eq, go_sem]⟩
def Ct.hear (c : Ct) (f : Fr) : Ct := if letsB c.acc f then { c with rg := c.rg.put f, asks := ibits .or .i64 c.asks (if c.rg.many = c.rg.cells.length then 4 else 2) } else c
theorem cHear_ok (c : Ct) (hn : c.acc.length ≤ 1000) (h : RgOk c.rg) (f : Fr) : ACall Try.prog f_ctrl_Ctrl_Hear [.ptr 0 0, .agg f.av] c.A fun v A => v = .bool (letsB c.acc f && decide (c.rg.many ≠ c.rg.cells.length)) ∧ A = (c.hear f).A := by
  refine acallH ok_ctrl_Ctrl_Hear ?_
  have hL := lets_ok c hn f
  have hP := rPut_ok c.rg h f
  unfold Ct.hear
  generalize letsB c.acc f = b at hL
  by_cases hm : c.rg.many = c.rg.cells.length
  · cases b
    · have hr := trivial
      try simp -dsimp -implicitDefEqProofs (maxSteps := 1000000) (disch := first | exact dis | fail) only [hc_ctrl_Ctrl_Hear, Ct.A, Rg.A, hm, go_sem]
      repeat' ((first | ((with_reducible refine ACall.atE (hL) [0, 1, 2, 3] ?_ ?_ ?_ ?_ ?_); (focus decide); (focus rfl); (focus (simp -dsimp -implicitDefEqProofs (maxSteps := 1000000) (disch := first | exact dis | fail) only [standsL, Ct.A, Rg.A, hm, go_sem]; done)); (focus (first | rfl | (simp -dsimp -implicitDefEqProofs (maxSteps := 1000000) (disch := first | exact dis | fail) only [Ct.A, Rg.A, hm, go_sem]; done)))) | (with_reducible first | refine w_if ?_ ?_ | refine w_gt ?_ ?_ | refine w_gf ?_ ?_ | refine w_io ?_ ?_ | refine w_gdt ?_ ?_ | refine w_gdf ?_ ?_ | refine w_ite ?_ ?_) <;> intro h <;> (try rw [h]) <;> replace hr := And.intro h hr <;> replace h := nrm h <;> try (first | (exfalso; omega) | exact (bx h (by assumption)).elim | exact (bx (by assumption) h).elim) | ((with_reducible refine And.intro ?_ ?_); (focus omega))) <;> try simp -dsimp -implicitDefEqProofs (maxSteps := 1000000) (disch := first | exact dis | fail) only [Ct.A, Rg.A, hm, go_sem])
      exact ⟨some [], rfl, rfl, by simp only [foldA_eq, go_sem]⟩
    · have hr := trivial
      try simp -dsimp -implicitDefEqProofs (maxSteps := 1000000) (disch := first | exact dis | fail) only [hc_ctrl_Ctrl_Hear, Ct.A, Rg.A, hm, go_sem]
      repeat' ((first | ((with_reducible refine ACall.atE (hL) [0, 1, 2, 3] ?_ ?_ ?_ ?_ ?_); (focus decide); (focus rfl); (focus (simp -dsimp -implicitDefEqProofs (maxSteps := 1000000) (disch := first | exact dis | fail) only [standsL, Ct.A, Rg.A, hm, go_sem]; done)); (focus (first | rfl | (simp -dsimp -implicitDefEqProofs (maxSteps := 1000000) (disch := first | exact dis | fail) only [Ct.A, Rg.A, hm, go_sem]; done)))) | ((with_reducible refine ACall.atE (hP) [2] ?_ ?_ ?_ ?_ ?_); (focus decide); (focus rfl); (focus (simp -dsimp -implicitDefEqProofs (maxSteps := 1000000) (disch := first | exact dis | fail) only [standsL, Ct.A, Rg.A, hm, go_sem]; done)); (focus (first | rfl | (simp -dsimp -implicitDefEqProofs (maxSteps := 1000000) (disch := first | exact dis | fail) only [Ct.A, Rg.A, hm, go_sem]; done)))) | (with_reducible first | refine w_if ?_ ?_ | refine w_gt ?_ ?_ | refine w_gf ?_ ?_ | refine w_io ?_ ?_ | refine w_gdt ?_ ?_ | refine w_gdf ?_ ?_ | refine w_ite ?_ ?_) <;> intro h <;> (try rw [h]) <;> replace hr := And.intro h hr <;> replace h := nrm h <;> try (first | (exfalso; omega) | exact (bx h (by assumption)).elim | exact (bx (by assumption) h).elim) | ((with_reducible refine And.intro ?_ ?_); (focus omega))) <;> try simp -dsimp -implicitDefEqProofs (maxSteps := 1000000) (disch := first | exact dis | fail) only [Ct.A, Rg.A, hm, go_sem])
      exact ⟨some [], rfl, rfl, by simp only [foldA_eq, go_sem]⟩
  · cases b
    · have hr := trivial
      try simp -dsimp -implicitDefEqProofs (maxSteps := 1000000) (disch := first | exact dis | fail) only [hc_ctrl_Ctrl_Hear, Ct.A, Rg.A, hm, go_sem]
      repeat' ((first | ((with_reducible refine ACall.atE (hL) [0, 1, 2, 3] ?_ ?_ ?_ ?_ ?_); (focus decide); (focus rfl); (focus (simp -dsimp -implicitDefEqProofs (maxSteps := 1000000) (disch := first | exact dis | fail) only [standsL, Ct.A, Rg.A, hm, go_sem]; done)); (focus (first | rfl | (simp -dsimp -implicitDefEqProofs (maxSteps := 1000000) (disch := first | exact dis | fail) only [Ct.A, Rg.A, hm, go_sem]; done)))) | (with_reducible first | refine w_if ?_ ?_ | refine w_gt ?_ ?_ | refine w_gf ?_ ?_ | refine w_io ?_ ?_ | refine w_gdt ?_ ?_ | refine w_gdf ?_ ?_ | refine w_ite ?_ ?_) <;> intro h <;> (try rw [h]) <;> replace hr := And.intro h hr <;> replace h := nrm h <;> try (first | (exfalso; omega) | exact (bx h (by assumption)).elim | exact (bx (by assumption) h).elim) | ((with_reducible refine And.intro ?_ ?_); (focus omega))) <;> try simp -dsimp -implicitDefEqProofs (maxSteps := 1000000) (disch := first | exact dis | fail) only [Ct.A, Rg.A, hm, go_sem])
      exact ⟨some [], rfl, rfl, by simp only [foldA_eq, go_sem]⟩
    · have hr := trivial
      try simp -dsimp -implicitDefEqProofs (maxSteps := 1000000) (disch := first | exact dis | fail) only [hc_ctrl_Ctrl_Hear, Ct.A, Rg.A, hm, go_sem]
      repeat' ((first | ((with_reducible refine ACall.atE (hL) [0, 1, 2, 3] ?_ ?_ ?_ ?_ ?_); (focus decide); (focus rfl); (focus (simp -dsimp -implicitDefEqProofs (maxSteps := 1000000) (disch := first | exact dis | fail) only [standsL, Ct.A, Rg.A, hm, go_sem]; done)); (focus (first | rfl | (simp -dsimp -implicitDefEqProofs (maxSteps := 1000000) (disch := first | exact dis | fail) only [Ct.A, Rg.A, hm, go_sem]; done)))) | ((with_reducible refine ACall.atE (hP) [2] ?_ ?_ ?_ ?_ ?_); (focus decide); (focus rfl); (focus (simp -dsimp -implicitDefEqProofs (maxSteps := 1000000) (disch := first | exact dis | fail) only [standsL, Ct.A, Rg.A, hm, go_sem]; done)); (focus (first | rfl | (simp -dsimp -implicitDefEqProofs (maxSteps := 1000000) (disch := first | exact dis | fail) only [Ct.A, Rg.A, hm, go_sem]; done)))) | (with_reducible first | refine w_if ?_ ?_ | refine w_gt ?_ ?_ | refine w_gf ?_ ?_ | refine w_io ?_ ?_ | refine w_gdt ?_ ?_ | refine w_gdf ?_ ?_ | refine w_ite ?_ ?_) <;> intro h <;> (try rw [h]) <;> replace hr := And.intro h hr <;> replace h := nrm h <;> try (first | (exfalso; omega) | exact (bx h (by assumption)).elim | exact (bx (by assumption) h).elim) | ((with_reducible refine And.intro ?_ ?_); (focus omega))) <;> try simp -dsimp -implicitDefEqProofs (maxSteps := 1000000) (disch := first | exact dis | fail) only [Ct.A, Rg.A, hm, go_sem])
      exact ⟨some [], rfl, rfl, by simp only [foldA_eq, go_sem]⟩
theorem cFetch_ok (c : Ct) (h : RgOk c.rg) : ACall Try.prog f_ctrl_Ctrl_Fetch [.ptr 0 0] c.A fun v A => v = .tup [.agg c.rg.first.av, .int .i64 (if c.rg.many = 0 then 6 else 0)] ∧ A = ({ c with rg := c.rg.take } : Ct).A := by
  refine acallH ok_ctrl_Ctrl_Fetch ?_
  have hT := rTake_ok c.rg h
  have hr := trivial
  try simp -dsimp -implicitDefEqProofs (maxSteps := 1000000) (disch := first | exact dis | fail) only [hc_ctrl_Ctrl_Fetch, Ct.A, Fr.av, Rg.A, go_sem]
  repeat' ((first | ((with_reducible refine ACall.atE (hT) [2] ?_ ?_ ?_ ?_ ?_); (focus decide); (focus rfl); (focus (simp -dsimp -implicitDefEqProofs (maxSteps := 1000000) (disch := first | exact dis | fail) only [standsL, Ct.A, Fr.av, Rg.A, go_sem]; done)); (focus (first | rfl | (simp -dsimp -implicitDefEqProofs (maxSteps := 1000000) (disch := first | exact dis | fail) only [Ct.A, Fr.av, Rg.A, go_sem]; done)))) | (with_reducible first | refine w_if ?_ ?_ | refine w_gt ?_ ?_ | refine w_gf ?_ ?_ | refine w_io ?_ ?_ | refine w_gdt ?_ ?_ | refine w_gdf ?_ ?_ | refine w_ite ?_ ?_) <;> intro h <;> (try rw [h]) <;> replace hr := And.intro h hr <;> replace h := nrm h <;> try (first | (exfalso; omega) | exact (bx h (by assumption)).elim | exact (bx (by assumption) h).elim) | ((with_reducible refine And.intro ?_ ?_); (focus omega))) <;> try simp -dsimp -implicitDefEqProofs (maxSteps := 1000000) (disch := first | exact dis | fail) only [Ct.A, Fr.av, Rg.A, go_sem])
  exact ⟨some [], rfl, rfl, by simp only [foldA_eq, go_sem]⟩
theorem cKept_ok (c : Ct) : ACall Try.prog f_ctrl_Ctrl_Kept [.ptr 0 0] c.A fun v A => v = .int .i64 c.rg.many ∧ A = c.A := by
  refine acallH ok_ctrl_Ctrl_Kept ?_
  have hT := rLen_ok c.rg
  have hr := trivial
  try simp -dsimp -implicitDefEqProofs (maxSteps := 1000000) (disch := first | exact dis | fail) only [hc_ctrl_Ctrl_Kept, Ct.A, Rg.A, go_sem]
  repeat' ((first | ((with_reducible refine ACall.atE (hT) [2] ?_ ?_ ?_ ?_ ?_); (focus decide); (focus rfl); (focus (simp -dsimp -implicitDefEqProofs (maxSteps := 1000000) (disch := first | exact dis | fail) only [standsL, Ct.A, Rg.A, go_sem]; done)); (focus (first | rfl | (simp -dsimp -implicitDefEqProofs (maxSteps := 1000000) (disch := first | exact dis | fail) only [Ct.A, Rg.A, go_sem]; done)))) | (with_reducible first | refine w_if ?_ ?_ | refine w_gt ?_ ?_ | refine w_gf ?_ ?_ | refine w_io ?_ ?_ | refine w_gdt ?_ ?_ | refine w_gdf ?_ ?_ | refine w_ite ?_ ?_) <;> intro h <;> (try rw [h]) <;> replace hr := And.intro h hr <;> replace h := nrm h <;> try (first | (exfalso; omega) | exact (bx h (by assumption)).elim | exact (bx (by assumption) h).elim) | ((with_reducible refine And.intro ?_ ?_); (focus omega))) <;> try simp -dsimp -implicitDefEqProofs (maxSteps := 1000000) (disch := first | exact dis | fail) only [Ct.A, Rg.A, go_sem])
  exact ⟨none, rfl, rfl, rfl⟩
theorem cLost_ok (c : Ct) : ACall Try.prog f_ctrl_Ctrl_Lost [.ptr 0 0] c.A fun v A => v = .int .i64 c.rg.lost ∧ A = c.A := by
  refine acallH ok_ctrl_Ctrl_Lost ?_
  have hT := rLost_ok c.rg
  have hr := trivial
  try simp -dsimp -implicitDefEqProofs (maxSteps := 1000000) (disch := first | exact dis | fail) only [hc_ctrl_Ctrl_Lost, Ct.A, Rg.A, go_sem]
  repeat' ((first | ((with_reducible refine ACall.atE (hT) [2] ?_ ?_ ?_ ?_ ?_); (focus decide); (focus rfl); (focus (simp -dsimp -implicitDefEqProofs (maxSteps := 1000000) (disch := first | exact dis | fail) only [standsL, Ct.A, Rg.A, go_sem]; done)); (focus (first | rfl | (simp -dsimp -implicitDefEqProofs (maxSteps := 1000000) (disch := first | exact dis | fail) only [Ct.A, Rg.A, go_sem]; done)))) | (with_reducible first | refine w_if ?_ ?_ | refine w_gt ?_ ?_ | refine w_gf ?_ ?_ | refine w_io ?_ ?_ | refine w_gdt ?_ ?_ | refine w_gdf ?_ ?_ | refine w_ite ?_ ?_) <;> intro h <;> (try rw [h]) <;> replace hr := And.intro h hr <;> replace h := nrm h <;> try (first | (exfalso; omega) | exact (bx h (by assumption)).elim | exact (bx (by assumption) h).elim) | ((with_reducible refine And.intro ?_ ?_); (focus omega))) <;> try simp -dsimp -implicitDefEqProofs (maxSteps := 1000000) (disch := first | exact dis | fail) only [Ct.A, Rg.A, go_sem])
  exact ⟨none, rfl, rfl, rfl⟩
end Go.Proofs.Ytapoilcpollmpaa
end
