/- QgR, QgS, QgT, put together. Conditions: none. -/
import Derived.Test.YtapoilcpollmpaaNQgNQ
/- CtrlPlays, CtrlBits: a call. -/
section
namespace Go.Proofs.Ytapoilcpollmpaa
open Go.SB
attribute [local irreducible] HW HSS HAS HRQ HEO HOP HCK
set_option maxRecDepth 100000
set_option maxHeartbeats 1000000
set_option linter.unusedSimpArgs false
set_option pp.deepTerms.threshold 6
attribute [local go_sem high] own_ren

/-- A call that is asked for. -/
structure OpD where
  kind : Int
  n : Int
  pk : Pk
abbrev OpD.av (o : OpD) : List AV := [.int .i64 o.kind, .int .i64 o.n, .int .i64 o.pk.fr.id, .int .i64 o.pk.fr.fl, .int .i64 o.pk.fr.len, .str o.pk.fr.data, .int .i64 o.pk.p1, .int .i64 o.pk.p2, .bool o.pk.pb]
/-- Both controllers go together. -/
structure CR (cf : Cf) (k : Nat) (c : Ct) (r : Rc) : Prop where
  br : BR c.bx r.bx
  rg : RgOk c.rg
  fifo : c.rg.all = r.fifo
  room : r.room = c.rg.cells.length
  acc : c.acc = cf.acc
  racc : r.acc = cf.acc
  lost : r.lost = c.rg.lost
  lo : c.rg.lost ≤ k
  asks : r.asks = c.asks
  ask : 0 ≤ c.asks ∧ c.asks ≤ 15
  puts : c.bx.puts ≤ k
def DH (c : Ct) (r : Rc) : AHeap := [some (.cells [.ptr 1 0, .ptr 2 0, .sl 3 3 0 c.acc.length false, .int .i64 c.asks]), some (.own c.bx.ov), some (.own c.rg.ov), some (.arr (rows fiv c.acc)),
  some (.cells [.ptr 5 0, .sl 6 4 r.pre.length r.fifo.length false, .int .i64 r.room, .ps 3 (rows fiv r.acc), .int .i64 r.lost, .int .i64 r.asks]), some (.own r.bx.ov), some (.arr (rows frv (r.pre ++ r.fifo)))]
def DH8 (c : Ct) (r : Rc) (g : List Fr) : AHeap := [some (.cells [.ptr 1 0, .ptr 2 0, .sl 3 3 0 c.acc.length false, .int .i64 c.asks]), some (.own c.bx.ov), some (.own c.rg.ov), some (.arr (rows fiv c.acc)),
  some (.cells [.ptr 5 0, .sl 7 4 r.pre.length r.fifo.length false, .int .i64 r.room, .ps 3 (rows fiv r.acc), .int .i64 r.lost, .int .i64 r.asks]), some (.own r.bx.ov), some (.arr (rows frv g)), some (.arr (rows frv (r.pre ++ r.fifo)))]
theorem do0_ok (o : OpD) (hk : o.kind = 0) (c : Ct) (r : Rc) (h : BR c.bx r.bx) (hp : c.bx.puts ≤ 1000) :
    ACall Try.prog f_law14_do [.ptr 0 0, .ptr 4 0, .agg o.av] (DH c r) fun v A => v = .bool true ∧ A = DH { c with bx := c.bx.put o.pk } { r with bx := r.bx.put o.pk } := by
  refine acallH ok_law14_do ?_
  rw [show (DH c r).length = 7 from rfl]
  have h1 := cLoad_ok c (h.bok (by omega)) o.pk
  have h2 := rxPut_ok r.bx h.rok o.pk
  rw [(h.put o.pk).2.1] at h2
  have hr := trivial
  try simp -dsimp -implicitDefEqProofs (maxSteps := 1000000) (disch := first | exact dis | fail) only [hc_law14_do, DH, Ct.A, Rx.A, Pk.av, hk, go_sem]
  repeat' ((first | ((with_reducible refine ACall.atE (h1) [0, 1, 2, 3] ?_ ?_ ?_ ?_ ?_); (focus decide); (focus rfl); (focus (simp -dsimp -implicitDefEqProofs (maxSteps := 1000000) (disch := first | exact dis | fail) only [standsL, DH, Ct.A, Rx.A, Pk.av, hk, go_sem]; done)); (focus (first | rfl | (simp -dsimp -implicitDefEqProofs (maxSteps := 1000000) (disch := first | exact dis | fail) only [DH, Ct.A, Rx.A, Pk.av, hk, go_sem]; done)))) | ((with_reducible refine ACall.atE (h2) [5] ?_ ?_ ?_ ?_ ?_); (focus decide); (focus rfl); (focus (simp -dsimp -implicitDefEqProofs (maxSteps := 1000000) (disch := first | exact dis | fail) only [standsL, DH, Ct.A, Rx.A, Pk.av, hk, go_sem]; done)); (focus (first | rfl | (simp -dsimp -implicitDefEqProofs (maxSteps := 1000000) (disch := first | exact dis | fail) only [DH, Ct.A, Rx.A, Pk.av, hk, go_sem]; done)))) | (with_reducible first | refine w_if ?_ ?_ | refine w_gt ?_ ?_ | refine w_gf ?_ ?_ | refine w_io ?_ ?_ | refine w_gdt ?_ ?_ | refine w_gdf ?_ ?_ | refine w_ite ?_ ?_) <;> intro h <;> (try rw [h]) <;> replace hr := And.intro h hr <;> replace h := nrm h <;> try (first | (exfalso; omega) | exact (bx h (by assumption)).elim | exact (bx (by assumption) h).elim) | ((with_reducible refine And.intro ?_ ?_); (focus omega))) <;> try simp -dsimp -implicitDefEqProofs (maxSteps := 1000000) (disch := first | exact dis | fail) only [DH, Ct.A, Rx.A, Pk.av, hk, go_sem])
  exact ⟨some [], rfl, rfl, by simp only [foldA_eq, go_sem]⟩
theorem BR.bestF {b : Bx} {r : Rx} (h : BR b r) : r.best = b.best ∧ r.bestF = b.bestF := by
  have hb : r.best = b.best := h.best
  refine ⟨hb, ?_⟩
  unfold Rx.bestF Bx.bestF
  rw [hb, h.pk]
  congr 1
  simp only [List.getD, List.getElem?_map]
  cases b.cells[b.best.toNat]? <;> rfl
theorem BR.ino {b : Bx} {r : Rx} (h : BR b r) : InO r := fun k hk => by rw [h.pl]; exact h.I.osIn k hk
theorem do1_ok (o : OpD) (hk : o.kind = 1) (c : Ct) (r : Rc) (h : BR c.bx r.bx) (hp : c.bx.puts ≤ 1000) :
    ACall Try.prog f_law14_do [.ptr 0 0, .ptr 4 0, .agg o.av] (DH c r) fun v A => v = .bool true ∧ A = DH c r := by
  refine acallH ok_law14_do ?_
  rw [show (DH c r).length = 7 from rfl]
  have h1 := cOffer_ok c (h.bok (by omega))
  have h2 := rcOffer_ok r h.rok h.ino
  rw [h.bestF.1, h.bestF.2] at h2
  generalize c.bx.bestF = f at h1 h2
  generalize decide (0 ≤ c.bx.best) = t at h1 h2
  have hr := trivial
  try simp -dsimp -implicitDefEqProofs (maxSteps := 1000000) (disch := first | exact dis | fail) only [hc_law14_do, DH, Ct.A, Rc.A, Rc.cs, Fr.av, hk, go_sem]
  repeat' ((first | ((with_reducible refine ACall.atE (h1) [0, 1, 2, 3] ?_ ?_ ?_ ?_ ?_); (focus decide); (focus rfl); (focus (simp -dsimp -implicitDefEqProofs (maxSteps := 1000000) (disch := first | exact dis | fail) only [standsL, DH, Ct.A, Rc.A, Rc.cs, Fr.av, hk, go_sem]; done)); (focus (first | rfl | (simp -dsimp -implicitDefEqProofs (maxSteps := 1000000) (disch := first | exact dis | fail) only [DH, Ct.A, Rc.A, Rc.cs, Fr.av, hk, go_sem]; done)))) | ((with_reducible refine ACall.atE (h2) [4, 5, 6] ?_ ?_ ?_ ?_ ?_); (focus decide); (focus rfl); (focus (simp -dsimp -implicitDefEqProofs (maxSteps := 1000000) (disch := first | exact dis | fail) only [standsL, DH, Ct.A, Rc.A, Rc.cs, Fr.av, hk, go_sem]; done)); (focus (first | rfl | (simp -dsimp -implicitDefEqProofs (maxSteps := 1000000) (disch := first | exact dis | fail) only [DH, Ct.A, Rc.A, Rc.cs, Fr.av, hk, go_sem]; done)))) | (with_reducible first | refine w_if ?_ ?_ | refine w_gt ?_ ?_ | refine w_gf ?_ ?_ | refine w_io ?_ ?_ | refine w_gdt ?_ ?_ | refine w_gdf ?_ ?_ | refine w_ite ?_ ?_) <;> intro h <;> (try rw [h]) <;> replace hr := And.intro h hr <;> replace h := nrm h <;> try (first | (exfalso; omega) | exact (bx h (by assumption)).elim | exact (bx (by assumption) h).elim) | ((with_reducible refine And.intro ?_ ?_); (focus omega))) <;> try simp -dsimp -implicitDefEqProofs (maxSteps := 1000000) (disch := first | exact dis | fail) only [DH, Ct.A, Rc.A, Rc.cs, Fr.av, hk, go_sem])
  exact ⟨some [], rfl, rfl, by simp only [foldA_eq, go_sem]⟩
theorem do2_ok (o : OpD) (hk : o.kind = 2) (c : Ct) (r : Rc) (h : BR c.bx r.bx) (hp : c.bx.puts ≤ 1000) (ha : 0 ≤ r.asks ∧ r.asks ≤ 15) :
    ACall Try.prog f_law14_do [.ptr 0 0, .ptr 4 0, .agg o.av] (DH c r) fun v A => v = .bool true ∧ A = DH c.won r.won := by
  refine acallH ok_law14_do ?_
  rw [show (DH c r).length = 7 from rfl]
  have h1 := cWon_ok c (h.bok (by omega))
  have h2 := rcWon_ok r h.rok h.ino ha
  rw [h.bestF.1] at h2
  generalize decide (0 ≤ c.bx.best) = t at h1 h2
  have e1 : c.won.acc = c.acc := by unfold Ct.won; split <;> rfl
  have e2 : c.won.rg = c.rg := by unfold Ct.won; split <;> rfl
  have e3 : r.won.pre = r.pre ∧ r.won.fifo = r.fifo ∧ r.won.room = r.room ∧ r.won.acc = r.acc ∧ r.won.lost = r.lost := by unfold Rc.won; split <;> exact ⟨rfl, rfl, rfl, rfl, rfl⟩
  obtain ⟨e3, e4, e5, e6, e7⟩ := e3
  generalize c.won = c' at h1 e1 e2 ⊢
  generalize r.won = r' at h2 e3 e4 e5 e6 e7 ⊢
  have hr := trivial
  try simp -dsimp -implicitDefEqProofs (maxSteps := 1000000) (disch := first | exact dis | fail) only [hc_law14_do, DH, Ct.A, Rc.A, Rc.cs, hk, e1, e2, e3, e4, e5, e6, e7, go_sem]
  repeat' ((first | ((with_reducible refine ACall.atE (h1) [0, 1, 2, 3] ?_ ?_ ?_ ?_ ?_); (focus decide); (focus rfl); (focus (simp -dsimp -implicitDefEqProofs (maxSteps := 1000000) (disch := first | exact dis | fail) only [standsL, DH, Ct.A, Rc.A, Rc.cs, hk, e1, e2, e3, e4, e5, e6, e7, go_sem]; done)); (focus (first | rfl | (simp -dsimp -implicitDefEqProofs (maxSteps := 1000000) (disch := first | exact dis | fail) only [DH, Ct.A, Rc.A, Rc.cs, hk, e1, e2, e3, e4, e5, e6, e7, go_sem]; done)))) | ((with_reducible refine ACall.atE (h2) [4, 5, 6] ?_ ?_ ?_ ?_ ?_); (focus decide); (focus rfl); (focus (simp -dsimp -implicitDefEqProofs (maxSteps := 1000000) (disch := first | exact dis | fail) only [standsL, DH, Ct.A, Rc.A, Rc.cs, hk, e1, e2, e3, e4, e5, e6, e7, go_sem]; done)); (focus (first | rfl | (simp -dsimp -implicitDefEqProofs (maxSteps := 1000000) (disch := first | exact dis | fail) only [DH, Ct.A, Rc.A, Rc.cs, hk, e1, e2, e3, e4, e5, e6, e7, go_sem]; done)))) | (with_reducible first | refine w_if ?_ ?_ | refine w_gt ?_ ?_ | refine w_gf ?_ ?_ | refine w_io ?_ ?_ | refine w_gdt ?_ ?_ | refine w_gdf ?_ ?_ | refine w_ite ?_ ?_) <;> intro h <;> (try rw [h]) <;> replace hr := And.intro h hr <;> replace h := nrm h <;> try (first | (exfalso; omega) | exact (bx h (by assumption)).elim | exact (bx (by assumption) h).elim) | ((with_reducible refine And.intro ?_ ?_); (focus omega))) <;> try simp -dsimp -implicitDefEqProofs (maxSteps := 1000000) (disch := first | exact dis | fail) only [DH, Ct.A, Rc.A, Rc.cs, hk, e1, e2, e3, e4, e5, e6, e7, go_sem])
  exact ⟨some [], rfl, rfl, by simp only [foldA_eq, go_sem, e1, e2, e3, e4, e5, e6, e7]⟩
theorem do4_ok (o : OpD) (hk : o.kind = 4) (c : Ct) (r : Rc) (ha : 0 ≤ r.asks ∧ r.asks ≤ 15) :
    ACall Try.prog f_law14_do [.ptr 0 0, .ptr 4 0, .agg o.av] (DH c r) fun v A => v = .bool true ∧ A = DH c.off { r with asks := ibits .or .i64 r.asks 8 } := by
  refine acallH ok_law14_do ?_
  rw [show (DH c r).length = 7 from rfl]
  have h1 := cOff_ok c
  have h2 := rcSet_ok r.asks (.ptr 1 0) (.sl 2 4 r.pre.length r.fifo.length false) (.int .i64 r.room) (.ps 3 (rows fiv r.acc)) (.int .i64 r.lost) [some (.own r.bx.ov), some (.arr (rows frv (r.pre ++ r.fifo)))] ha 8 (.inr (.inr (.inr rfl)))
  unfold Ct.off at h1 ⊢
  have hr := trivial
  try simp -dsimp -implicitDefEqProofs (maxSteps := 1000000) (disch := first | exact dis | fail) only [hc_law14_do, DH, Ct.A, hk, go_sem]
  repeat' ((first | ((with_reducible refine ACall.atE (h1) [0, 1, 2, 3] ?_ ?_ ?_ ?_ ?_); (focus decide); (focus rfl); (focus (simp -dsimp -implicitDefEqProofs (maxSteps := 1000000) (disch := first | exact dis | fail) only [standsL, DH, Ct.A, hk, go_sem]; done)); (focus (first | rfl | (simp -dsimp -implicitDefEqProofs (maxSteps := 1000000) (disch := first | exact dis | fail) only [DH, Ct.A, hk, go_sem]; done)))) | ((with_reducible refine ACall.atE (h2) [4, 5, 6] ?_ ?_ ?_ ?_ ?_); (focus decide); (focus rfl); (focus (simp -dsimp -implicitDefEqProofs (maxSteps := 1000000) (disch := first | exact dis | fail) only [standsL, DH, Ct.A, hk, go_sem]; done)); (focus (first | rfl | (simp -dsimp -implicitDefEqProofs (maxSteps := 1000000) (disch := first | exact dis | fail) only [DH, Ct.A, hk, go_sem]; done)))) | (with_reducible first | refine w_if ?_ ?_ | refine w_gt ?_ ?_ | refine w_gf ?_ ?_ | refine w_io ?_ ?_ | refine w_gdt ?_ ?_ | refine w_gdf ?_ ?_ | refine w_ite ?_ ?_) <;> intro h <;> (try rw [h]) <;> replace hr := And.intro h hr <;> replace h := nrm h <;> try (first | (exfalso; omega) | exact (bx h (by assumption)).elim | exact (bx (by assumption) h).elim) | ((with_reducible refine And.intro ?_ ?_); (focus omega))) <;> try simp -dsimp -implicitDefEqProofs (maxSteps := 1000000) (disch := first | exact dis | fail) only [DH, Ct.A, hk, go_sem])
  exact ⟨some [], rfl, rfl, by simp only [foldA_eq, go_sem]⟩
theorem do5_ok (o : OpD) (hk : o.kind = 5) (c : Ct) (r : Rc) (ha : 0 ≤ r.asks ∧ r.asks ≤ 15) :
    ACall Try.prog f_law14_do [.ptr 0 0, .ptr 4 0, .agg o.av] (DH c r) fun v A => v = .bool true ∧ A = DH (c.clear o.n) { r with asks := ibits .andNot .i64 r.asks o.n } := by
  refine acallH ok_law14_do ?_
  rw [show (DH c r).length = 7 from rfl]
  have h1 := cClear_ok c o.n
  have h2 := rcClear_ok r ha o.n
  unfold Ct.clear at h1 ⊢
  have hr := trivial
  try simp -dsimp -implicitDefEqProofs (maxSteps := 1000000) (disch := first | exact dis | fail) only [hc_law14_do, DH, Ct.A, Rc.A, Rc.cs, hk, go_sem]
  repeat' ((first | ((with_reducible refine ACall.atE (h1) [0, 1, 2, 3] ?_ ?_ ?_ ?_ ?_); (focus decide); (focus rfl); (focus (simp -dsimp -implicitDefEqProofs (maxSteps := 1000000) (disch := first | exact dis | fail) only [standsL, DH, Ct.A, Rc.A, Rc.cs, hk, go_sem]; done)); (focus (first | rfl | (simp -dsimp -implicitDefEqProofs (maxSteps := 1000000) (disch := first | exact dis | fail) only [DH, Ct.A, Rc.A, Rc.cs, hk, go_sem]; done)))) | ((with_reducible refine ACall.atE (h2) [4, 5, 6] ?_ ?_ ?_ ?_ ?_); (focus decide); (focus rfl); (focus (simp -dsimp -implicitDefEqProofs (maxSteps := 1000000) (disch := first | exact dis | fail) only [standsL, DH, Ct.A, Rc.A, Rc.cs, hk, go_sem]; done)); (focus (first | rfl | (simp -dsimp -implicitDefEqProofs (maxSteps := 1000000) (disch := first | exact dis | fail) only [DH, Ct.A, Rc.A, Rc.cs, hk, go_sem]; done)))) | (with_reducible first | refine w_if ?_ ?_ | refine w_gt ?_ ?_ | refine w_gf ?_ ?_ | refine w_io ?_ ?_ | refine w_gdt ?_ ?_ | refine w_gdf ?_ ?_ | refine w_ite ?_ ?_) <;> intro h <;> (try rw [h]) <;> replace hr := And.intro h hr <;> replace h := nrm h <;> try (first | (exfalso; omega) | exact (bx h (by assumption)).elim | exact (bx (by assumption) h).elim) | ((with_reducible refine And.intro ?_ ?_); (focus omega))) <;> try simp -dsimp -implicitDefEqProofs (maxSteps := 1000000) (disch := first | exact dis | fail) only [DH, Ct.A, Rc.A, Rc.cs, hk, go_sem])
  exact ⟨some [], rfl, rfl, by simp only [foldA_eq, go_sem]⟩
theorem do8_ok (o : OpD) (hk : o.kind = 8) (c : Ct) (r : Rc) (h : BR c.bx r.bx) (hp : c.bx.puts ≤ 1000) (ha : 0 ≤ r.asks ∧ r.asks ≤ 15) :
    ACall Try.prog f_law14_do [.ptr 0 0, .ptr 4 0, .agg o.av] (DH c r) fun v A => v = .bool true ∧ A = DH c.abort (r.abort c.bx) := by
  refine acallH ok_law14_do ?_
  rw [show (DH c r).length = 7 from rfl]
  have h1 := cAbort_ok c (h.bok (by omega)) (fun i => (h.abN i).bok (by rw [abN_puts]; omega))
  have h2 := rcAbort_ok r c.bx h ha
  unfold Ct.abort at h1 ⊢
  unfold Rc.abort at h2 ⊢
  generalize (if 0 < c.bx.abC c.bx.cells.length then ibits .or .i64 c.asks 1 else c.asks) = a1 at h1 ⊢
  generalize (if 0 < c.bx.abC c.bx.cells.length then ibits .or .i64 r.asks 1 else r.asks) = a2 at h2 ⊢
  generalize c.bx.abN c.bx.cells.length = b1 at h1 ⊢
  generalize r.bx.abN c.bx.cells.length = b2 at h2 ⊢
  generalize c.bx.abC c.bx.cells.length = n at h1 h2
  have hr := trivial
  try simp -dsimp -implicitDefEqProofs (maxSteps := 1000000) (disch := first | exact dis | fail) only [hc_law14_do, DH, Ct.A, Rc.A, Rc.cs, hk, go_sem]
  repeat' ((first | ((with_reducible refine ACall.atE (h1) [0, 1, 2, 3] ?_ ?_ ?_ ?_ ?_); (focus decide); (focus rfl); (focus (simp -dsimp -implicitDefEqProofs (maxSteps := 1000000) (disch := first | exact dis | fail) only [standsL, DH, Ct.A, Rc.A, Rc.cs, hk, go_sem]; done)); (focus (first | rfl | (simp -dsimp -implicitDefEqProofs (maxSteps := 1000000) (disch := first | exact dis | fail) only [DH, Ct.A, Rc.A, Rc.cs, hk, go_sem]; done)))) | ((with_reducible refine ACall.atE (h2) [4, 5, 6] ?_ ?_ ?_ ?_ ?_); (focus decide); (focus rfl); (focus (simp -dsimp -implicitDefEqProofs (maxSteps := 1000000) (disch := first | exact dis | fail) only [standsL, DH, Ct.A, Rc.A, Rc.cs, hk, go_sem]; done)); (focus (first | rfl | (simp -dsimp -implicitDefEqProofs (maxSteps := 1000000) (disch := first | exact dis | fail) only [DH, Ct.A, Rc.A, Rc.cs, hk, go_sem]; done)))) | (with_reducible first | refine w_if ?_ ?_ | refine w_gt ?_ ?_ | refine w_gf ?_ ?_ | refine w_io ?_ ?_ | refine w_gdt ?_ ?_ | refine w_gdf ?_ ?_ | refine w_ite ?_ ?_) <;> intro h <;> (try rw [h]) <;> replace hr := And.intro h hr <;> replace h := nrm h <;> try (first | (exfalso; omega) | exact (bx h (by assumption)).elim | exact (bx (by assumption) h).elim) | ((with_reducible refine And.intro ?_ ?_); (focus omega))) <;> try simp -dsimp -implicitDefEqProofs (maxSteps := 1000000) (disch := first | exact dis | fail) only [DH, Ct.A, Rc.A, Rc.cs, hk, go_sem])
  exact ⟨some [], rfl, rfl, by simp only [foldA_eq, go_sem]⟩
theorem do9_ok (o : OpD) (hk : ¬ o.kind = 0 ∧ ¬ o.kind = 1 ∧ ¬ o.kind = 2 ∧ ¬ o.kind = 3 ∧ ¬ o.kind = 4 ∧ ¬ o.kind = 5 ∧ ¬ o.kind = 6 ∧ ¬ o.kind = 7 ∧ ¬ o.kind = 8) (c : Ct) (r : Rc) :
    ACall Try.prog f_law14_do [.ptr 0 0, .ptr 4 0, .agg o.av] (DH c r) fun v A => v = .bool true ∧ A = DH c r := by
  refine acallH ok_law14_do ?_
  rw [show (DH c r).length = 7 from rfl]
  obtain ⟨k0, k1, k2, k3, k4, k5, k6, k7, k8⟩ := hk
  have hr := trivial
  try simp -dsimp -implicitDefEqProofs (maxSteps := 1000000) (disch := first | exact dis | fail) only [hc_law14_do, DH, k0, k1, k2, k3, k4, k5, k6, k7, k8, go_sem]
  repeat' ((first | (with_reducible first | refine w_if ?_ ?_ | refine w_gt ?_ ?_ | refine w_gf ?_ ?_ | refine w_io ?_ ?_ | refine w_gdt ?_ ?_ | refine w_gdf ?_ ?_ | refine w_ite ?_ ?_) <;> intro h <;> (try rw [h]) <;> replace hr := And.intro h hr <;> replace h := nrm h <;> try (first | (exfalso; omega) | exact (bx h (by assumption)).elim | exact (bx (by assumption) h).elim) | ((with_reducible refine And.intro ?_ ?_); (focus omega))) <;> try simp -dsimp -implicitDefEqProofs (maxSteps := 1000000) (disch := first | exact dis | fail) only [DH, k0, k1, k2, k3, k4, k5, k6, k7, k8, go_sem])
  exact ⟨some [], rfl, rfl, by simp only [foldA_eq, go_sem]⟩
end Go.Proofs.Ytapoilcpollmpaa
end

/- CtrlPlays, CtrlBits: hearing, what has ended, fetching. -/
section
namespace Go.Proofs.Ytapoilcpollmpaa
open Go.SB
attribute [local irreducible] HW HSS HAS HRQ HEO HOP HCK
set_option maxRecDepth 100000
set_option maxHeartbeats 1000000
set_option linter.unusedSimpArgs false
set_option pp.deepTerms.threshold 6
attribute [local go_sem high] own_ren

theorem all_len' {r : Rg} (h : RgOk r) : (r.all.length : Int) = r.many := by
  have := h.m
  rw [Rg.all_len]; omega
theorem do3_no (o : OpD) (hk : o.kind = 3) (c : Ct) (r : Rc) (hacc : r.acc = c.acc) (hn : c.acc.length ≤ 1000) (hfi : ∀ x, x ∈ c.acc → FiOk x) (hg : RgOk c.rg) (hL : letsB c.acc o.pk.fr = false) :
    ACall Try.prog f_law14_do [.ptr 0 0, .ptr 4 0, .agg o.av] (DH c r) fun v A => v = .bool true ∧ A = DH (c.hear o.pk.fr) r := by
  refine acallH ok_law14_do ?_
  rw [show (DH c r).length = 7 from rfl]
  have h1 := cHear_ok c hn hg o.pk.fr
  have h2 := rcHear_no r o.pk.fr (by rw [hacc]; exact hfi) (by rw [hacc]; exact hn) (by rw [hacc]; exact hL)
  have e : c.hear o.pk.fr = c := by unfold Ct.hear; rw [hL]; rfl
  rw [hL, Bool.false_and, e] at h1
  rw [e]
  have hr := trivial
  try simp -dsimp -implicitDefEqProofs (maxSteps := 1000000) (disch := first | exact dis | fail) only [hc_law14_do, DH, Ct.A, Rc.A, Rc.cs, Fr.av, hk, go_sem]
  repeat' ((first | ((with_reducible refine ACall.atE (h1) [0, 1, 2, 3] ?_ ?_ ?_ ?_ ?_); (focus decide); (focus rfl); (focus (simp -dsimp -implicitDefEqProofs (maxSteps := 1000000) (disch := first | exact dis | fail) only [standsL, DH, Ct.A, Rc.A, Rc.cs, Fr.av, hk, go_sem]; done)); (focus (first | rfl | (simp -dsimp -implicitDefEqProofs (maxSteps := 1000000) (disch := first | exact dis | fail) only [DH, Ct.A, Rc.A, Rc.cs, Fr.av, hk, go_sem]; done)))) | ((with_reducible refine ACall.atE (h2) [4, 5, 6] ?_ ?_ ?_ ?_ ?_); (focus decide); (focus rfl); (focus (simp -dsimp -implicitDefEqProofs (maxSteps := 1000000) (disch := first | exact dis | fail) only [standsL, DH, Ct.A, Rc.A, Rc.cs, Fr.av, hk, go_sem]; done)); (focus (first | rfl | (simp -dsimp -implicitDefEqProofs (maxSteps := 1000000) (disch := first | exact dis | fail) only [DH, Ct.A, Rc.A, Rc.cs, Fr.av, hk, go_sem]; done)))) | (with_reducible first | refine w_if ?_ ?_ | refine w_gt ?_ ?_ | refine w_gf ?_ ?_ | refine w_io ?_ ?_ | refine w_gdt ?_ ?_ | refine w_gdf ?_ ?_ | refine w_ite ?_ ?_) <;> intro h <;> (try rw [h]) <;> replace hr := And.intro h hr <;> replace h := nrm h <;> try (first | (exfalso; omega) | exact (bx h (by assumption)).elim | exact (bx (by assumption) h).elim) | ((with_reducible refine And.intro ?_ ?_); (focus omega))) <;> try simp -dsimp -implicitDefEqProofs (maxSteps := 1000000) (disch := first | exact dis | fail) only [DH, Ct.A, Rc.A, Rc.cs, Fr.av, hk, go_sem])
  exact ⟨some [], rfl, rfl, by simp only [foldA_eq, go_sem]⟩
theorem do3_full (o : OpD) (hk : o.kind = 3) (c : Ct) (r : Rc) (hacc : r.acc = c.acc) (hn : c.acc.length ≤ 1000) (hfi : ∀ x, x ∈ c.acc → FiOk x) (hg : RgOk c.rg) (hL : letsB c.acc o.pk.fr = true) (hm : c.rg.many = c.rg.cells.length)
    (ha : 0 ≤ r.asks ∧ r.asks ≤ 15) (hlo : 0 ≤ r.lost ∧ r.lost ≤ 1000000) (hf : (r.fifo.length : Int) = r.room) :
    ACall Try.prog f_law14_do [.ptr 0 0, .ptr 4 0, .agg o.av] (DH c r) fun v A => v = .bool true ∧ A = DH (c.hear o.pk.fr) r.lose := by
  refine acallH ok_law14_do ?_
  rw [show (DH c r).length = 7 from rfl]
  have h1 := cHear_ok c hn hg o.pk.fr
  have h2 := rcHear_full r o.pk.fr (by rw [hacc]; exact hfi) (by rw [hacc]; exact hn) ha hlo (by rw [hacc]; exact hL) hf
  have e1 : (c.hear o.pk.fr).bx = c.bx := by unfold Ct.hear; split <;> rfl
  have e2 : (c.hear o.pk.fr).acc = c.acc := by unfold Ct.hear; split <;> rfl
  rw [hL, Bool.true_and, decide_eq_false (fun h => h hm)] at h1
  generalize c.hear o.pk.fr = c' at h1 e1 e2 ⊢
  unfold Rc.lose at h2 ⊢
  have hr := trivial
  try simp -dsimp -implicitDefEqProofs (maxSteps := 1000000) (disch := first | exact dis | fail) only [hc_law14_do, DH, Ct.A, Rc.A, Rc.cs, Fr.av, hk, e1, e2, go_sem]
  repeat' ((first | ((with_reducible refine ACall.atE (h1) [0, 1, 2, 3] ?_ ?_ ?_ ?_ ?_); (focus decide); (focus rfl); (focus (simp -dsimp -implicitDefEqProofs (maxSteps := 1000000) (disch := first | exact dis | fail) only [standsL, DH, Ct.A, Rc.A, Rc.cs, Fr.av, hk, e1, e2, go_sem]; done)); (focus (first | rfl | (simp -dsimp -implicitDefEqProofs (maxSteps := 1000000) (disch := first | exact dis | fail) only [DH, Ct.A, Rc.A, Rc.cs, Fr.av, hk, e1, e2, go_sem]; done)))) | ((with_reducible refine ACall.atE (h2) [4, 5, 6] ?_ ?_ ?_ ?_ ?_); (focus decide); (focus rfl); (focus (simp -dsimp -implicitDefEqProofs (maxSteps := 1000000) (disch := first | exact dis | fail) only [standsL, DH, Ct.A, Rc.A, Rc.cs, Fr.av, hk, e1, e2, go_sem]; done)); (focus (first | rfl | (simp -dsimp -implicitDefEqProofs (maxSteps := 1000000) (disch := first | exact dis | fail) only [DH, Ct.A, Rc.A, Rc.cs, Fr.av, hk, e1, e2, go_sem]; done)))) | (with_reducible first | refine w_if ?_ ?_ | refine w_gt ?_ ?_ | refine w_gf ?_ ?_ | refine w_io ?_ ?_ | refine w_gdt ?_ ?_ | refine w_gdf ?_ ?_ | refine w_ite ?_ ?_) <;> intro h <;> (try rw [h]) <;> replace hr := And.intro h hr <;> replace h := nrm h <;> try (first | (exfalso; omega) | exact (bx h (by assumption)).elim | exact (bx (by assumption) h).elim) | ((with_reducible refine And.intro ?_ ?_); (focus omega))) <;> try simp -dsimp -implicitDefEqProofs (maxSteps := 1000000) (disch := first | exact dis | fail) only [DH, Ct.A, Rc.A, Rc.cs, Fr.av, hk, e1, e2, go_sem])
  exact ⟨some [], rfl, rfl, by simp only [foldA_eq, go_sem, e1, e2]⟩
theorem do3_yes (o : OpD) (hk : o.kind = 3) (c : Ct) (r : Rc) (hacc : r.acc = c.acc) (hn : c.acc.length ≤ 1000) (hfi : ∀ x, x ∈ c.acc → FiOk x) (hg : RgOk c.rg) (hL : letsB c.acc o.pk.fr = true) (hm : c.rg.many ≠ c.rg.cells.length)
    (ha : 0 ≤ r.asks ∧ r.asks ≤ 15) (hl : r.fifo.length ≤ 1000) (hf : (r.fifo.length : Int) ≠ r.room) :
    ACall Try.prog f_law14_do [.ptr 0 0, .ptr 4 0, .agg o.av] (DH c r) fun v A => v = .bool true ∧ A = DH8 (c.hear o.pk.fr) (r.heard o.pk.fr) (r.pre ++ r.fifo) := by
  refine acallH ok_law14_do ?_
  rw [show (DH c r).length = 7 from rfl]
  have h1 := cHear_ok c hn hg o.pk.fr
  have h2 := rcHear_yes r o.pk.fr (by rw [hacc]; exact hfi) (by rw [hacc]; exact hn) ha hl (by rw [hacc]; exact hL) hf
  have e1 : (c.hear o.pk.fr).bx = c.bx := by unfold Ct.hear; split <;> rfl
  have e2 : (c.hear o.pk.fr).acc = c.acc := by unfold Ct.hear; split <;> rfl
  rw [hL, Bool.true_and, decide_eq_true hm] at h1
  generalize c.hear o.pk.fr = c' at h1 e1 e2 ⊢
  unfold Rc.heard at h2 ⊢
  have hr := trivial
  try simp -dsimp -implicitDefEqProofs (maxSteps := 1000000) (disch := first | exact dis | fail) only [hc_law14_do, DH, Ct.A, Rc.A, Rc.cs, Rc.A8, Fr.av, hk, e1, e2, go_sem]
  repeat' ((first | ((with_reducible refine ACall.atE (h1) [0, 1, 2, 3] ?_ ?_ ?_ ?_ ?_); (focus decide); (focus rfl); (focus (simp -dsimp -implicitDefEqProofs (maxSteps := 1000000) (disch := first | exact dis | fail) only [standsL, DH, Ct.A, Rc.A, Rc.cs, Rc.A8, Fr.av, hk, e1, e2, go_sem]; done)); (focus (first | rfl | (simp -dsimp -implicitDefEqProofs (maxSteps := 1000000) (disch := first | exact dis | fail) only [DH, Ct.A, Rc.A, Rc.cs, Rc.A8, Fr.av, hk, e1, e2, go_sem]; done)))) | ((with_reducible refine ACall.atE (h2) [4, 5, 6] ?_ ?_ ?_ ?_ ?_); (focus decide); (focus rfl); (focus (simp -dsimp -implicitDefEqProofs (maxSteps := 1000000) (disch := first | exact dis | fail) only [standsL, DH, Ct.A, Rc.A, Rc.cs, Rc.A8, Fr.av, hk, e1, e2, go_sem]; done)); (focus (first | rfl | (simp -dsimp -implicitDefEqProofs (maxSteps := 1000000) (disch := first | exact dis | fail) only [DH, Ct.A, Rc.A, Rc.cs, Rc.A8, Fr.av, hk, e1, e2, go_sem]; done)))) | (with_reducible first | refine w_if ?_ ?_ | refine w_gt ?_ ?_ | refine w_gf ?_ ?_ | refine w_io ?_ ?_ | refine w_gdt ?_ ?_ | refine w_gdf ?_ ?_ | refine w_ite ?_ ?_) <;> intro h <;> (try rw [h]) <;> replace hr := And.intro h hr <;> replace h := nrm h <;> try (first | (exfalso; omega) | exact (bx h (by assumption)).elim | exact (bx (by assumption) h).elim) | ((with_reducible refine And.intro ?_ ?_); (focus omega))) <;> try simp -dsimp -implicitDefEqProofs (maxSteps := 1000000) (disch := first | exact dis | fail) only [DH, Ct.A, Rc.A, Rc.cs, Rc.A8, Fr.av, hk, e1, e2, go_sem])
  exact ⟨some [8], rfl, rfl, by simp only [foldA_eq, go_sem, e1, e2, DH8]⟩
theorem do7_ok (o : OpD) (hk : o.kind = 7) (c : Ct) (r : Rc) (hg : RgOk c.rg) (hf : c.rg.all = r.fifo) :
    ACall Try.prog f_law14_do [.ptr 0 0, .ptr 4 0, .agg o.av] (DH c r) fun v A => v = .bool true ∧ A = DH { c with rg := c.rg.take } r.fetch := by
  refine acallH ok_law14_do ?_
  rw [show (DH c r).length = 7 from rfl]
  have h1 := cFetch_ok c hg
  have h2 := rcFetch_ok r
  have hm := all_len' hg
  by_cases h0 : c.rg.many = 0
  · have hz : r.fifo = [] := by rw [← hf]; exact List.eq_nil_of_length_eq_zero (by omega)
    have e1 : r.fetchV = .tup [.agg Fr.zero.av, .bool false] := by simp only [Rc.fetchV, hz]
    have e2 : r.fetch = r := by simp only [Rc.fetch, hz]
    have e3 : c.rg.first = Fr.zero := by unfold Rg.first; rw [if_pos h0]
    rw [e1, e2] at h2
    rw [if_pos h0, e3] at h1
    rw [e2]
    have hr := trivial
    try simp -dsimp -implicitDefEqProofs (maxSteps := 1000000) (disch := first | exact dis | fail) only [hc_law14_do, DH, Ct.A, Rc.A, Rc.cs, Fr.av, hk, go_sem]
    repeat' ((first | ((with_reducible refine ACall.atE (h1) [0, 1, 2, 3] ?_ ?_ ?_ ?_ ?_); (focus decide); (focus rfl); (focus (simp -dsimp -implicitDefEqProofs (maxSteps := 1000000) (disch := first | exact dis | fail) only [standsL, DH, Ct.A, Rc.A, Rc.cs, Fr.av, hk, go_sem]; done)); (focus (first | rfl | (simp -dsimp -implicitDefEqProofs (maxSteps := 1000000) (disch := first | exact dis | fail) only [DH, Ct.A, Rc.A, Rc.cs, Fr.av, hk, go_sem]; done)))) | ((with_reducible refine ACall.atE (h2) [4, 5, 6] ?_ ?_ ?_ ?_ ?_); (focus decide); (focus rfl); (focus (simp -dsimp -implicitDefEqProofs (maxSteps := 1000000) (disch := first | exact dis | fail) only [standsL, DH, Ct.A, Rc.A, Rc.cs, Fr.av, hk, go_sem]; done)); (focus (first | rfl | (simp -dsimp -implicitDefEqProofs (maxSteps := 1000000) (disch := first | exact dis | fail) only [DH, Ct.A, Rc.A, Rc.cs, Fr.av, hk, go_sem]; done)))) | (with_reducible first | refine w_if ?_ ?_ | refine w_gt ?_ ?_ | refine w_gf ?_ ?_ | refine w_io ?_ ?_ | refine w_gdt ?_ ?_ | refine w_gdf ?_ ?_ | refine w_ite ?_ ?_) <;> intro h <;> (try rw [h]) <;> replace hr := And.intro h hr <;> replace h := nrm h <;> try (first | (exfalso; omega) | exact (bx h (by assumption)).elim | exact (bx (by assumption) h).elim) | ((with_reducible refine And.intro ?_ ?_); (focus omega))) <;> try simp -dsimp -implicitDefEqProofs (maxSteps := 1000000) (disch := first | exact dis | fail) only [DH, Ct.A, Rc.A, Rc.cs, Fr.av, hk, go_sem])
    exact ⟨some [], rfl, rfl, by simp only [foldA_eq, go_sem]⟩
  · have ht := take_all hg h0
    rw [hf] at ht
    have e1 : r.fetchV = .tup [.agg c.rg.first.av, .bool true] := by simp only [Rc.fetchV, ht]
    have e2 : r.fetch = { r with pre := r.pre ++ [c.rg.first], fifo := c.rg.take.all } := by simp only [Rc.fetch, ht]
    rw [e1, e2] at h2
    rw [if_neg h0] at h1
    rw [e2]
    generalize c.rg.first = f at h1 h2 ⊢
    have hr := trivial
    try simp -dsimp -implicitDefEqProofs (maxSteps := 1000000) (disch := first | exact dis | fail) only [hc_law14_do, DH, Ct.A, Rc.A, Rc.cs, Fr.av, hk, go_sem]
    repeat' ((first | ((with_reducible refine ACall.atE (h1) [0, 1, 2, 3] ?_ ?_ ?_ ?_ ?_); (focus decide); (focus rfl); (focus (simp -dsimp -implicitDefEqProofs (maxSteps := 1000000) (disch := first | exact dis | fail) only [standsL, DH, Ct.A, Rc.A, Rc.cs, Fr.av, hk, go_sem]; done)); (focus (first | rfl | (simp -dsimp -implicitDefEqProofs (maxSteps := 1000000) (disch := first | exact dis | fail) only [DH, Ct.A, Rc.A, Rc.cs, Fr.av, hk, go_sem]; done)))) | ((with_reducible refine ACall.atE (h2) [4, 5, 6] ?_ ?_ ?_ ?_ ?_); (focus decide); (focus rfl); (focus (simp -dsimp -implicitDefEqProofs (maxSteps := 1000000) (disch := first | exact dis | fail) only [standsL, DH, Ct.A, Rc.A, Rc.cs, Fr.av, hk, go_sem]; done)); (focus (first | rfl | (simp -dsimp -implicitDefEqProofs (maxSteps := 1000000) (disch := first | exact dis | fail) only [DH, Ct.A, Rc.A, Rc.cs, Fr.av, hk, go_sem]; done)))) | (with_reducible first | refine w_if ?_ ?_ | refine w_gt ?_ ?_ | refine w_gf ?_ ?_ | refine w_io ?_ ?_ | refine w_gdt ?_ ?_ | refine w_gdf ?_ ?_ | refine w_ite ?_ ?_) <;> intro h <;> (try rw [h]) <;> replace hr := And.intro h hr <;> replace h := nrm h <;> try (first | (exfalso; omega) | exact (bx h (by assumption)).elim | exact (bx (by assumption) h).elim) | ((with_reducible refine And.intro ?_ ?_); (focus omega))) <;> try simp -dsimp -implicitDefEqProofs (maxSteps := 1000000) (disch := first | exact dis | fail) only [DH, Ct.A, Rc.A, Rc.cs, Fr.av, hk, go_sem])
    exact ⟨some [], rfl, rfl, by simp only [foldA_eq, go_sem]⟩
theorem do6_ok (o : OpD) (hk : o.kind = 6) (c : Ct) (r : Rc) (h : BR c.bx r.bx) (hp : c.bx.puts ≤ 1000) :
    ACall Try.prog f_law14_do [.ptr 0 0, .ptr 4 0, .agg o.av] (DH c r) fun v A => v = .bool true ∧ A = DH { c with bx := c.bx.take } { r with bx := r.bx.take } := by
  refine acallH ok_law14_do ?_
  rw [show (DH c r).length = 7 from rfl]
  have h1 := cEnded_ok c (h.bok (by omega)) h.I.esIn
  have h2 := rxTake_ok r.bx h.rok (by rw [h.en, h.sl]; exact h.I.esIn)
  cases he : c.bx.ended with
  | nil =>
    have e1 : doneV c.bx = [.int .i64 0, .int .i64 0, .int .i64 0, .int .i64 0, .str [], .int .i64 0, .int .i64 0, .bool false, .bool false] := by simp only [doneV, he]
    have e2 : r.bx.takeV = .tup [.int .i64 (-1), .agg Pk.zero.av, .bool false] := by simp only [Rx.takeV, h.en, he]
    have e3 : c.bx.takeE = 6 := by simp only [Bx.takeE, he]; rfl
    rw [e1, e3] at h1
    rw [e2] at h2
    have hr := trivial
    try simp -dsimp -implicitDefEqProofs (maxSteps := 1000000) (disch := first | exact dis | fail) only [hc_law14_do, DH, Ct.A, Rx.A, Pk.av, hk, go_sem]
    repeat' ((first | ((with_reducible refine ACall.atE (h1) [0, 1, 2, 3] ?_ ?_ ?_ ?_ ?_); (focus decide); (focus rfl); (focus (simp -dsimp -implicitDefEqProofs (maxSteps := 1000000) (disch := first | exact dis | fail) only [standsL, DH, Ct.A, Rx.A, Pk.av, hk, go_sem]; done)); (focus (first | rfl | (simp -dsimp -implicitDefEqProofs (maxSteps := 1000000) (disch := first | exact dis | fail) only [DH, Ct.A, Rx.A, Pk.av, hk, go_sem]; done)))) | ((with_reducible refine ACall.atE (h2) [5] ?_ ?_ ?_ ?_ ?_); (focus decide); (focus rfl); (focus (simp -dsimp -implicitDefEqProofs (maxSteps := 1000000) (disch := first | exact dis | fail) only [standsL, DH, Ct.A, Rx.A, Pk.av, hk, go_sem]; done)); (focus (first | rfl | (simp -dsimp -implicitDefEqProofs (maxSteps := 1000000) (disch := first | exact dis | fail) only [DH, Ct.A, Rx.A, Pk.av, hk, go_sem]; done)))) | (with_reducible first | refine w_if ?_ ?_ | refine w_gt ?_ ?_ | refine w_gf ?_ ?_ | refine w_io ?_ ?_ | refine w_gdt ?_ ?_ | refine w_gdf ?_ ?_ | refine w_ite ?_ ?_) <;> intro h <;> (try rw [h]) <;> replace hr := And.intro h hr <;> replace h := nrm h <;> try (first | (exfalso; omega) | exact (bx h (by assumption)).elim | exact (bx (by assumption) h).elim) | ((with_reducible refine And.intro ?_ ?_); (focus omega))) <;> try simp -dsimp -implicitDefEqProofs (maxSteps := 1000000) (disch := first | exact dis | fail) only [DH, Ct.A, Rx.A, Pk.av, hk, go_sem])
    exact ⟨some [], rfl, rfl, by simp only [foldA_eq, go_sem]⟩
  | cons i es =>
    have hi := h.I.esIn i (by rw [he]; simp)
    have e3 : c.bx.takeE = 0 := by simp only [Bx.takeE, he]; rfl
    have hx : c.bx.cells[i.toNat]? = some (c.bx.cells.getD i.toNat Ce.zero) := by rw [List.getD, List.getElem?_eq_getElem (by omega)]; rfl
    generalize hce : c.bx.cells.getD i.toNat Ce.zero = ce at hx
    have e1 : doneV c.bx = .int .i64 i :: ce.pk.av ++ [.bool (decide (ce.st = 2))] := by simp only [doneV, he, hce]
    have g1 : r.bx.pk.getD i.toNat Pk.zero = ce.pk := by rw [h.pk]; simp [List.getD, hx]
    have g2 : r.bx.st.getD i.toNat 0 = ce.st := by rw [h.st]; simp [List.getD, Bx.sts, hx]
    have e2 : r.bx.takeV = .tup [.int .i64 i, .agg ce.pk.av, .bool (decide (ce.st = 2))] := by simp only [Rx.takeV, h.en, he, g1, g2]
    rw [e1, e3] at h1
    rw [e2] at h2
    simp only [List.cons_append, List.nil_append] at h1
    generalize decide (ce.st = 2) = t at h1 h2
    generalize ce.pk = p at h1 h2
    have hr := trivial
    try simp -dsimp -implicitDefEqProofs (maxSteps := 1000000) (disch := first | exact dis | fail) only [hc_law14_do, DH, Ct.A, Rx.A, Pk.av, hk, go_sem]
    repeat' ((first | ((with_reducible refine ACall.atE (h1) [0, 1, 2, 3] ?_ ?_ ?_ ?_ ?_); (focus decide); (focus rfl); (focus (simp -dsimp -implicitDefEqProofs (maxSteps := 1000000) (disch := first | exact dis | fail) only [standsL, DH, Ct.A, Rx.A, Pk.av, hk, go_sem]; done)); (focus (first | rfl | (simp -dsimp -implicitDefEqProofs (maxSteps := 1000000) (disch := first | exact dis | fail) only [DH, Ct.A, Rx.A, Pk.av, hk, go_sem]; done)))) | ((with_reducible refine ACall.atE (h2) [5] ?_ ?_ ?_ ?_ ?_); (focus decide); (focus rfl); (focus (simp -dsimp -implicitDefEqProofs (maxSteps := 1000000) (disch := first | exact dis | fail) only [standsL, DH, Ct.A, Rx.A, Pk.av, hk, go_sem]; done)); (focus (first | rfl | (simp -dsimp -implicitDefEqProofs (maxSteps := 1000000) (disch := first | exact dis | fail) only [DH, Ct.A, Rx.A, Pk.av, hk, go_sem]; done)))) | (with_reducible first | refine w_if ?_ ?_ | refine w_gt ?_ ?_ | refine w_gf ?_ ?_ | refine w_io ?_ ?_ | refine w_gdt ?_ ?_ | refine w_gdf ?_ ?_ | refine w_ite ?_ ?_) <;> intro h <;> (try rw [h]) <;> replace hr := And.intro h hr <;> replace h := nrm h <;> try (first | (exfalso; omega) | exact (bx h (by assumption)).elim | exact (bx (by assumption) h).elim) | ((with_reducible refine And.intro ?_ ?_); (focus omega))) <;> try simp -dsimp -implicitDefEqProofs (maxSteps := 1000000) (disch := first | exact dis | fail) only [DH, Ct.A, Rx.A, Pk.av, hk, go_sem])
    exact ⟨some [], rfl, by rw [decide_eq_true hi.1, Bool.or_true]; rfl, by simp only [foldA_eq, go_sem]⟩
end Go.Proofs.Ytapoilcpollmpaa
end

/- CtrlPlays, CtrlBits: both controllers go together. -/
section
namespace Go.Proofs.Ytapoilcpollmpaa
open Go.SB
attribute [local irreducible] HW HSS HAS HRQ HEO HOP HCK
set_option maxRecDepth 100000
set_option maxHeartbeats 1000000
set_option linter.unusedSimpArgs false
set_option pp.deepTerms.threshold 6
attribute [local go_sem high] own_ren

/-- What becomes of the register. -/
def Kp (o : OpD) (a a' : Int) : Prop := (o.kind = 5 → a' = ibits .andNot .i64 a o.n) ∧ (o.kind ≠ 5 → ibits .andNot .i64 a a' = 0)
theorem keepN : ∀ n : Nat, n < 16 → ibits .andNot .i64 (n : Int) n = 0 ∧ ∀ k : Nat, k < 4 → ibits .andNot .i64 (n : Int) (ibits .or .i64 (n : Int) ((2 ^ k : Nat) : Int)) = 0 := by decide +kernel
theorem keep_self {a : Int} (ha : 0 ≤ a ∧ a ≤ 15) : ibits .andNot .i64 a a = 0 := by
  obtain ⟨n, rfl⟩ : ∃ n : Nat, a = n := ⟨a.toNat, by omega⟩
  exact (keepN n (by omega)).1
theorem keep_or {a b : Int} (ha : 0 ≤ a ∧ a ≤ 15) (hb : b = 1 ∨ b = 2 ∨ b = 4 ∨ b = 8) : ibits .andNot .i64 a (ibits .or .i64 a b) = 0 := by
  obtain ⟨n, rfl⟩ : ∃ n : Nat, a = n := ⟨a.toNat, by omega⟩
  rcases hb with rfl | rfl | rfl | rfl
  · exact (keepN n (by omega)).2 0 (by decide)
  · exact (keepN n (by omega)).2 1 (by decide)
  · exact (keepN n (by omega)).2 2 (by decide)
  · exact (keepN n (by omega)).2 3 (by decide)
theorem or_le {a b : Int} (ha : 0 ≤ a ∧ a ≤ 15) (hb : b = 1 ∨ b = 2 ∨ b = 4 ∨ b = 8) : 0 ≤ ibits .or .i64 a b ∧ ibits .or .i64 a b ≤ 15 := ⟨(or_bit ha hb).2.1, (or_bit ha hb).2.2.1⟩
theorem CR.mono {cf : Cf} {k : Nat} {c : Ct} {r : Rc} (h : CR cf k c r) : CR cf (k + 1) c r :=
  ⟨h.br, h.rg, h.fifo, h.room, h.acc, h.racc, h.lost, by have := h.lo; omega, h.asks, h.ask, by have := h.puts; omega⟩
theorem take_len {r : Rg} : r.take.cells.length = r.cells.length := by unfold Rg.take; split <;> rfl
theorem fin {o : OpD} {cf : Cf} {k : Nat} {c' : Ct} {r' : Rc} {v : AV} {A : AHeap} {a : Int} (hh : v = .bool true ∧ A = DH c' r') (h1 : CR cf (k + 1) c' r') (h2 : Kp o a c'.asks) :
    v = .bool true ∧ ∃ c' r', CR cf (k + 1) c' r' ∧ Kp o a c'.asks ∧ (A = DH c' r' ∨ ∃ g, A = DH8 c' r' g) := ⟨hh.1, _, _, h1, h2, .inl hh.2⟩
theorem fin8 {o : OpD} {cf : Cf} {k : Nat} {c' : Ct} {r' : Rc} {g : List Fr} {v : AV} {A : AHeap} {a : Int} (hh : v = .bool true ∧ A = DH8 c' r' g) (h1 : CR cf (k + 1) c' r') (h2 : Kp o a c'.asks) :
    v = .bool true ∧ ∃ c' r', CR cf (k + 1) c' r' ∧ Kp o a c'.asks ∧ (A = DH c' r' ∨ ∃ g, A = DH8 c' r' g) := ⟨hh.1, _, _, h1, h2, .inr ⟨_, hh.2⟩⟩
theorem do_ok (cf : Cf) (hn : cf.acc.length ≤ 50) (hfi : ∀ x, x ∈ cf.acc → FiOk x) (k : Nat) (hk : k ≤ 300) (o : OpD) (c : Ct) (r : Rc) (h : CR cf k c r) :
    ACall Try.prog f_law14_do [.ptr 0 0, .ptr 4 0, .agg o.av] (DH c r) fun v A => v = .bool true ∧ ∃ c' r', CR cf (k + 1) c' r' ∧ Kp o c.asks c'.asks ∧ (A = DH c' r' ∨ ∃ g, A = DH8 c' r' g) := by
  have hp : c.bx.puts ≤ 1000 := by have := h.puts; omega
  have ha : 0 ≤ r.asks ∧ r.asks ≤ 15 := by rw [h.asks]; exact h.ask
  by_cases k0 : o.kind = 0
  · refine (do0_ok o k0 c r h.br hp).mono fun v A hh => ?_
    refine fin hh ?_ ⟨fun e => by omega, fun _ => keep_self h.ask⟩
    obtain ⟨g1, _, g2⟩ := h.br.put o.pk
    exact ⟨g1, h.rg, h.fifo, h.room, h.acc, h.racc, h.lost, by have := h.lo; simp only []; omega, h.asks, h.ask, by have := h.puts; simp only []; omega⟩
  by_cases k1 : o.kind = 1
  · refine (do1_ok o k1 c r h.br hp).mono fun v A hh => ?_
    exact fin hh h.mono ⟨fun e => by omega, fun _ => keep_self h.ask⟩
  by_cases k2 : o.kind = 2
  · refine (do2_ok o k2 c r h.br hp ha).mono fun v A hh => ?_
    have hb := h.br.bestF.1
    by_cases h0 : c.bx.best < 0
    · have e1 : c.won = c := by unfold Ct.won; rw [if_pos h0]
      have e2 : r.won = r := by unfold Rc.won; rw [hb, if_pos h0]
      rw [e1, e2] at hh
      exact fin hh h.mono ⟨fun e => by omega, fun _ => keep_self h.ask⟩
    · have e1 : c.won = { c with bx := c.bx.ends c.bx.best 2, asks := ibits .or .i64 c.asks 1 } := by unfold Ct.won; rw [if_neg h0]
      have e2 : r.won = { r with bx := r.bx.endB c.bx.best 2, asks := ibits .or .i64 r.asks 1 } := by unfold Rc.won; rw [hb, if_neg h0]
      rw [e1, e2] at hh
      refine fin hh ?_ ⟨fun e => by omega, fun _ => keep_or h.ask (.inl rfl)⟩
      exact ⟨h.br.ends _ (by decide), h.rg, h.fifo, h.room, h.acc, h.racc, h.lost, by have := h.lo; simp only []; omega, by simp only [h.asks], or_le h.ask (.inl rfl), by have := h.puts; simp only [ends_puts]; omega⟩
  by_cases k3 : o.kind = 3
  · have hfi' : ∀ x, x ∈ c.acc → FiOk x := by rw [h.acc]; exact hfi
    have hn' : c.acc.length ≤ 1000 := by rw [h.acc]; omega
    have hra : r.acc = c.acc := by rw [h.acc, h.racc]
    have hm := all_len' h.rg
    rw [h.fifo] at hm
    have hlo := h.lo
    have hlp := h.rg.l
    have hmb := h.rg.m
    have hcb := h.rg.c
    cases hL : letsB c.acc o.pk.fr with
    | false =>
      refine (do3_no o k3 c r hra hn' hfi' h.rg hL).mono fun v A hh => ?_
      have e : c.hear o.pk.fr = c := by unfold Ct.hear; rw [hL]; rfl
      rw [e] at hh
      exact fin hh h.mono ⟨fun e => by omega, fun _ => keep_self h.ask⟩
    | true =>
      have hpo := put_ok' h.rg o.pk.fr (by omega)
      have hpa := put_all h.rg o.pk.fr
      have hpl := put_len (r := c.rg) o.pk.fr
      have hpt := put_lost (r := c.rg) o.pk.fr
      by_cases hfu : c.rg.many = c.rg.cells.length
      · refine (do3_full o k3 c r hra hn' hfi' h.rg hL hfu ha (by rw [h.lost]; omega) (by rw [hm, h.room]; exact hfu)).mono fun v A hh => ?_
        have e : c.hear o.pk.fr = { c with rg := c.rg.put o.pk.fr, asks := ibits .or .i64 c.asks 4 } := by unfold Ct.hear; rw [hL, if_pos rfl, if_pos hfu]
        rw [if_pos hfu] at hpa hpt
        rw [e] at hh
        refine fin hh ?_ ⟨fun e => by omega, fun _ => keep_or h.ask (.inr (.inr (.inl rfl)))⟩
        exact ⟨h.br, hpo, by simp only [hpa, Rc.lose]; exact h.fifo, by simp only [hpl, Rc.lose]; exact h.room, h.acc, h.racc, by simp only [hpt, Rc.lose, h.lost], by simp only [hpt]; omega, by simp only [Rc.lose, h.asks], or_le h.ask (.inr (.inr (.inl rfl))), by have := h.puts; simp only []; omega⟩
      · refine (do3_yes o k3 c r hra hn' hfi' h.rg hL hfu ha (by omega) (by rw [hm, h.room]; exact hfu)).mono fun v A hh => ?_
        have e : c.hear o.pk.fr = { c with rg := c.rg.put o.pk.fr, asks := ibits .or .i64 c.asks 2 } := by unfold Ct.hear; rw [hL, if_pos rfl, if_neg hfu]
        rw [if_neg hfu] at hpa hpt
        rw [e] at hh
        refine fin8 hh ?_ ⟨fun e => by omega, fun _ => keep_or h.ask (.inr (.inl rfl))⟩
        exact ⟨h.br, hpo, by simp only [hpa, Rc.heard, h.fifo], by simp only [hpl, Rc.heard]; exact h.room, h.acc, h.racc, by simp only [hpt, Rc.heard, h.lost], by simp only [hpt]; omega, by simp only [Rc.heard, h.asks], or_le h.ask (.inr (.inl rfl)), by have := h.puts; simp only []; omega⟩
  by_cases k4 : o.kind = 4
  · refine (do4_ok o k4 c r ha).mono fun v A hh => ?_
    refine fin hh ?_ ⟨fun e => by omega, fun _ => keep_or h.ask (.inr (.inr (.inr rfl)))⟩
    exact ⟨h.br, h.rg, h.fifo, h.room, h.acc, h.racc, h.lost, by have := h.lo; simp only [Ct.off]; omega, by simp only [Ct.off, h.asks], or_le h.ask (.inr (.inr (.inr rfl))), by have := h.puts; simp only [Ct.off]; omega⟩
  by_cases k5 : o.kind = 5
  · refine (do5_ok o k5 c r ha).mono fun v A hh => ?_
    obtain ⟨g1, g2, _, _⟩ := clear_all c.asks o.n h.ask
    have g3 := g1 4 (by decide)
    rw [g2] at g3
    refine fin hh ?_ ⟨fun _ => rfl, fun e => absurd k5 e⟩
    exact ⟨h.br, h.rg, h.fifo, h.room, h.acc, h.racc, h.lost, by have := h.lo; simp only [Ct.clear]; omega, by simp only [Ct.clear, h.asks], ⟨g3.1, g3.2.1⟩, by have := h.puts; simp only [Ct.clear]; omega⟩
  by_cases k6 : o.kind = 6
  · refine (do6_ok o k6 c r h.br hp).mono fun v A hh => ?_
    refine fin hh ?_ ⟨fun e => by omega, fun _ => keep_self h.ask⟩
    exact ⟨h.br.take, h.rg, h.fifo, h.room, h.acc, h.racc, h.lost, by have := h.lo; simp only []; omega, h.asks, h.ask, by have := h.puts; simp only [take_puts]; omega⟩
  by_cases k7 : o.kind = 7
  · refine (do7_ok o k7 c r h.rg h.fifo).mono fun v A hh => ?_
    refine fin hh ?_ ⟨fun e => by omega, fun _ => keep_self h.ask⟩
    have hm := all_len' h.rg
    have hf : r.fetch.fifo = c.rg.take.all := by
      by_cases h0 : c.rg.many = 0
      · have hz : r.fifo = [] := by rw [← h.fifo]; exact List.eq_nil_of_length_eq_zero (by omega)
        rw [take0 h0, h.fifo]
        simp only [Rc.fetch, hz]
      · have ht := take_all h.rg h0
        rw [h.fifo] at ht
        simp only [Rc.fetch, ht]
    have e : r.fetch.bx = r.bx ∧ r.fetch.room = r.room ∧ r.fetch.acc = r.acc ∧ r.fetch.lost = r.lost ∧ r.fetch.asks = r.asks := by unfold Rc.fetch; split <;> exact ⟨rfl, rfl, rfl, rfl, rfl⟩
    obtain ⟨e1, e2, e3, e4, e5⟩ := e
    exact ⟨by rw [e1]; exact h.br, take_ok' h.rg, hf.symm, by rw [e2, h.room, take_len], h.acc, by rw [e3]; exact h.racc, by rw [e4, h.lost]; exact take_lost.symm, by have := h.lo; simp only [take_lost]; omega, by rw [e5]; exact h.asks, h.ask, by have := h.puts; simp only []; omega⟩
  by_cases k8 : o.kind = 8
  · refine (do8_ok o k8 c r h.br hp ha).mono fun v A hh => ?_
    have hab := h.br.abN c.bx.cells.length
    by_cases h0 : 0 < c.bx.abC c.bx.cells.length
    · refine fin hh ?_ ⟨fun e => by omega, fun _ => by simp only [Ct.abort, if_pos h0]; exact keep_or h.ask (.inl rfl)⟩
      exact ⟨hab, h.rg, h.fifo, h.room, h.acc, h.racc, h.lost, by have := h.lo; simp only [Ct.abort]; omega, by simp only [Ct.abort, Rc.abort, h.asks], by simp only [Ct.abort, if_pos h0]; exact or_le h.ask (.inl rfl), by have := h.puts; simp only [Ct.abort, abN_puts]; omega⟩
    · refine fin hh ?_ ⟨fun e => by omega, fun _ => by simp only [Ct.abort, if_neg h0]; exact keep_self h.ask⟩
      exact ⟨hab, h.rg, h.fifo, h.room, h.acc, h.racc, h.lost, by have := h.lo; simp only [Ct.abort]; omega, by simp only [Ct.abort, Rc.abort, h.asks], by simp only [Ct.abort, if_neg h0]; exact h.ask, by have := h.puts; simp only [Ct.abort, abN_puts]; omega⟩
  · refine (do9_ok o ⟨k0, k1, k2, k3, k4, k5, k6, k7, k8⟩ c r).mono fun v A hh => ?_
    exact fin hh h.mono ⟨fun e => by omega, fun _ => keep_self h.ask⟩
theorem CR.new (cf : Cf) : CR cf 0 (Ct.new cf) (Rc.new cf) :=
  ⟨BR.new _, new_ok' _, rfl, by have := roomI_b cf.fifo; simp [Rc.new, Ct.new, Rg.new]; omega, rfl, rfl, rfl, Int.le_refl _, rfl, by simp [Ct.new], Int.le_refl _⟩
def oav (o : OpD) : List AV := o.av
theorem oav_eq (o : OpD) : oav o = o.av := rfl
instance : Flt oav := ⟨fun _ => rfl⟩
instance : RowF oav 9 := ⟨fun _ => ⟨rfl, rfl⟩⟩
def sumO (l : List OpD) : Nat → Int
  | 0 => 0
  | i + 1 => sumO l i + min ((l[i]?.map fun o => (o.pk.fr.data.length : Int)).getD 0) 5000
theorem sumO_le (l : List OpD) : ∀ i, 0 ≤ sumO l i ∧ sumO l i ≤ 5000 * i
  | 0 => by simp [sumO]
  | i + 1 => by
    have := sumO_le l i
    unfold sumO
    cases l[i]? <;> simp <;> omega
def fewB (cf : Cf) (l : List OpD) : Bool := decide ((l.length : Int) ≤ 300) && decide (sumO l (min l.length 301) ≤ 6000) && decide ((cf.acc.length : Int) ≤ 50)
theorem few_ok (cf : Cf) (l : List OpD) : ACall Try.prog f_law14_few [.agg cf.av, .ps 9 (rows oav l)] [] fun v A => v = .bool (fewB cf l) ∧ A = [] := by
  refine acallH ok_law14_few ?_
  have hr := trivial
  try simp -dsimp -implicitDefEqProofs (maxSteps := 1000000) (disch := first | exact dis | fail) only [hc_law14_few, Cf.av, go_sem]
  repeat' ((first | (with_reducible first | refine w_if ?_ ?_ | refine w_gt ?_ ?_ | refine w_gf ?_ ?_ | refine w_io ?_ ?_ | refine w_gdt ?_ ?_ | refine w_gdf ?_ ?_ | refine w_ite ?_ ?_) <;> intro h <;> (try rw [h]) <;> replace hr := And.intro h hr <;> replace h := nrm h <;> try (first | (exfalso; omega) | exact (bx h (by assumption)).elim | exact (bx (by assumption) h).elim) | ((with_reducible refine And.intro ?_ ?_); (focus omega))) <;> try simp -dsimp -implicitDefEqProofs (maxSteps := 1000000) (disch := first | exact dis | fail) only [Cf.av, go_sem])
  unfold hc_law14_few_l1
  refine hw_loop (min l.length 301) (fun i ρ A => ρ = rg 7 [(1, .ps 9 (rows oav l)), (2, .ptr 0 0), (4, .int .i64 (sumO l i)), (5, .int .i64 i)] ∧ A = [some (.cells cf.av)]) ⟨none, rfl, by simp only [go_sem, sumO, foldRn], rfl⟩ ?_
  rintro i ρ A hi ⟨rfl, rfl⟩
  have h5 := sumO_le l i
  by_cases hlt : i < min l.length 301
  · have hx : l[i]? = some l[i] := List.getElem?_eq_getElem (by omega)
    generalize l[i] = o at hx
    have hd : (rows oav l).getD i [] = o.av := by simp [List.getD, rows_get, hx, oav]
    have hs : sumO l (i + 1) = sumO l i + min (o.pk.fr.data.length : Int) 5000 := by simp [sumO, hx]
    have hr := trivial
    try simp -dsimp -implicitDefEqProofs (maxSteps := 1000000) (disch := first | exact dis | fail) only [hc_law14_few_b1, Cf.av, Int.toNat_natCast, hd, OpD.av, go_sem]
    repeat' ((first | (with_reducible first | refine w_if ?_ ?_ | refine w_gt ?_ ?_ | refine w_gf ?_ ?_ | refine w_io ?_ ?_ | refine w_gdt ?_ ?_ | refine w_gdf ?_ ?_ | refine w_ite ?_ ?_) <;> intro h <;> (try rw [h]) <;> replace hr := And.intro h hr <;> replace h := nrm h <;> try (first | (exfalso; omega) | exact (bx h (by assumption)).elim | exact (bx (by assumption) h).elim) | ((with_reducible refine And.intro ?_ ?_); (focus omega))) <;> try simp -dsimp -implicitDefEqProofs (maxSteps := 1000000) (disch := first | exact dis | fail) only [Cf.av, Int.toNat_natCast, hd, OpD.av, go_sem])
    exact ⟨none, rfl, by simp only [hs, foldRn, go_sem]; rfl, rfl⟩
  · obtain rfl : i = min l.length 301 := by omega
    have hr := trivial
    try simp -dsimp -implicitDefEqProofs (maxSteps := 1000000) (disch := first | exact dis | fail) only [hc_law14_few_b1, Cf.av, go_sem]
    repeat' ((first | (with_reducible first | refine w_if ?_ ?_ | refine w_gt ?_ ?_ | refine w_gf ?_ ?_ | refine w_io ?_ ?_ | refine w_gdt ?_ ?_ | refine w_gdf ?_ ?_ | refine w_ite ?_ ?_) <;> intro h <;> (try rw [h]) <;> replace hr := And.intro h hr <;> replace h := nrm h <;> try (first | (exfalso; omega) | exact (bx h (by assumption)).elim | exact (bx (by assumption) h).elim) | ((with_reducible refine And.intro ?_ ?_); (focus omega))) <;> try simp -dsimp -implicitDefEqProofs (maxSteps := 1000000) (disch := first | exact dis | fail) only [Cf.av, go_sem])
    exact ⟨some [], rfl, by rw [fewB]; simp only [foldV_eq, go_sem, rows_length], by simp only [foldA_eq, go_sem]⟩
theorem Ints_ok (xs : List Int) (hn : xs.length ≤ 1000) : ACall Try.prog f_ref09_Ints [.sl 0 1 0 xs.length false, .sl 1 1 0 xs.length false] [some (.arr (rows i1 xs)), some (.arr (rows i1 xs))] fun r A => r = .bool true ∧ A = [some (.arr (rows i1 xs)), some (.arr (rows i1 xs))] := by
  refine acallH ok_ref09_Ints ?_
  have hr := trivial
  try simp -dsimp -implicitDefEqProofs (maxSteps := 1000000) (disch := first | exact dis | fail) only [hc_ref09_Ints, go_sem]
  repeat' ((first | (with_reducible first | refine w_if ?_ ?_ | refine w_gt ?_ ?_ | refine w_gf ?_ ?_ | refine w_io ?_ ?_ | refine w_gdt ?_ ?_ | refine w_gdf ?_ ?_ | refine w_ite ?_ ?_) <;> intro h <;> (try rw [h]) <;> replace hr := And.intro h hr <;> replace h := nrm h <;> try (first | (exfalso; omega) | exact (bx h (by assumption)).elim | exact (bx (by assumption) h).elim) | ((with_reducible refine And.intro ?_ ?_); (focus omega))) <;> try simp -dsimp -implicitDefEqProofs (maxSteps := 1000000) (disch := first | exact dis | fail) only [go_sem])
  unfold hc_ref09_Ints_l1
  refine hw_loop xs.length (fun i ρ A => ρ = rg 7 [(0, .sl 0 1 0 xs.length false), (1, .sl 1 1 0 xs.length false), (3, .int .i64 i)] ∧ A = [some (.arr (rows i1 xs)), some (.arr (rows i1 xs))]) ⟨none, rfl, rfl, rfl⟩ ?_
  rintro i ρ A hi ⟨rfl, rfl⟩
  by_cases hlt : i < xs.length
  · have hx : xs[i]? = some xs[i] := List.getElem?_eq_getElem hlt
    generalize xs[i] = x at hx
    have hr := trivial
    try simp -dsimp -implicitDefEqProofs (maxSteps := 1000000) (disch := first | exact dis | fail) only [hc_ref09_Ints_b1, Int.toNat_natCast, rows_get, hx, i1, go_sem]
    repeat' ((first | (with_reducible first | refine w_if ?_ ?_ | refine w_gt ?_ ?_ | refine w_gf ?_ ?_ | refine w_io ?_ ?_ | refine w_gdt ?_ ?_ | refine w_gdf ?_ ?_ | refine w_ite ?_ ?_) <;> intro h <;> (try rw [h]) <;> replace hr := And.intro h hr <;> replace h := nrm h <;> try (first | (exfalso; omega) | exact (bx h (by assumption)).elim | exact (bx (by assumption) h).elim) | ((with_reducible refine And.intro ?_ ?_); (focus omega))) <;> try simp -dsimp -implicitDefEqProofs (maxSteps := 1000000) (disch := first | exact dis | fail) only [Int.toNat_natCast, rows_get, hx, i1, go_sem])
    exact ⟨none, rfl, rfl, rfl⟩
  · obtain rfl : i = xs.length := by omega
    have hr := trivial
    try simp -dsimp -implicitDefEqProofs (maxSteps := 1000000) (disch := first | exact dis | fail) only [hc_ref09_Ints_b1, go_sem]
    repeat' ((first | (with_reducible first | refine w_if ?_ ?_ | refine w_gt ?_ ?_ | refine w_gf ?_ ?_ | refine w_io ?_ ?_ | refine w_gdt ?_ ?_ | refine w_gdf ?_ ?_ | refine w_ite ?_ ?_) <;> intro h <;> (try rw [h]) <;> replace hr := And.intro h hr <;> replace h := nrm h <;> try (first | (exfalso; omega) | exact (bx h (by assumption)).elim | exact (bx (by assumption) h).elim) | ((with_reducible refine And.intro ?_ ?_); (focus omega))) <;> try simp -dsimp -implicitDefEqProofs (maxSteps := 1000000) (disch := first | exact dis | fail) only [go_sem])
    exact ⟨none, rfl, rfl, rfl⟩
end Go.Proofs.Ytapoilcpollmpaa
end
