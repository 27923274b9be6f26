/- QhD, QhE, put together. Conditions: none. -/
import Derived.Test.YtapoilcpollmpaaNQhAC
/- bcm: rows of jobs of sending. -/
section
namespace Go.Proofs.Ytapoilcpollmpaa
open Go.SB
attribute [local irreducible] HW HSS HAS HRQ HEO HOP HCK
set_option maxRecDepth 100000
set_option maxHeartbeats 1000000
set_option linter.unusedSimpArgs false
set_option pp.deepTerms.threshold 6
theorem own_ren {g : Nat → Option Nat} {o : Assn} : AO.ren g (.opq o) = .opq o := rfl
attribute [local go_sem high] own_ren rp_ren
theorem rows_all {α : Type} {f : α → List AV} {xs : List α} : rows f xs = ((rows f xs).drop 0).take xs.length := by
  rw [List.drop_zero, show xs.length = (rows f xs).length from rows_length.symm, List.take_length]
theorem rows_allN {α : Type} {f : α → List AV} {xs : List α} {n : Nat} (h : n = xs.length) : rows f xs = ((rows f xs).drop 0).take n := h ▸ rows_all
theorem rows_set {α : Type} {f : α → List AV} {xs : List α} {n : Nat} {x : α} : (rows f xs).set n (f x) = rows f (xs.set n x) := by simp [rows, List.map_set]
theorem nilS_raw {a : Addr} {n c : Nat} : AV.nilS (.raw (.slice (some a) n c)) = some false := rfl
theorem elems_raw {A : AHeap} {z : Nat} {a : Addr} {c : Nat} : elemsOf A z (.raw (.slice (some a) 0 c)) = some [] := rfl
/-- The first that holds. -/
def idxAt {α : Type} (g : α → Bool) : List α → Nat → Option Nat
  | [], _ => none
  | c :: cs, i => if g c then some i else idxAt g cs (i + 1)
theorem idxAt_step {α : Type} {g : α → Bool} {cs : List α} {i : Nat} {c : α} (h : cs[i]? = some c) : idxAt g (cs.drop i) i = if g c then some i else idxAt g (cs.drop (i + 1)) (i + 1) := by
  have hlt : i < cs.length := (List.getElem?_eq_some_iff.1 h).1
  rw [List.drop_eq_getElem_cons hlt]
  have : cs[i] = c := by rw [List.getElem?_eq_getElem hlt] at h; exact Option.some.inj h
  rw [this]; rfl
def idxV {α : Type} (g : α → Bool) (cs : List α) : Int := match idxAt g cs 0 with | some i => i | none => -1
theorem idxAt_none {α : Type} {g : α → Bool} : ∀ {cs : List α} {k : Nat}, idxAt g cs k = none → cs.filter (fun c => !g c) = cs
  | [], _, _ => rfl
  | c :: cs, k, h => by
    unfold idxAt at h
    cases hc : g c
    · rw [hc] at h
      simp only [Bool.false_eq_true, if_false] at h
      rw [List.filter_cons, hc, idxAt_none h]; rfl
    · rw [hc] at h; cases h
theorem idxAt_some {α : Type} {g : α → Bool} : ∀ {cs : List α} {k i : Nat}, idxAt g cs k = some i → k ≤ i ∧ i < k + cs.length ∧ (cs.take (i - k)).filter (fun c => !g c) = cs.take (i - k) ∧ ∃ c, cs[i - k]? = some c ∧ g c = true
  | [], _, _, h => by cases h
  | c :: cs, k, i, h => by
    unfold idxAt at h
    cases hc : g c
    · rw [hc] at h
      simp only [Bool.false_eq_true, if_false] at h
      obtain ⟨h1, h2, h3, d, h4, h5⟩ := idxAt_some h
      have e : i - k = (i - (k + 1)) + 1 := by omega
      refine ⟨by omega, by simp only [List.length_cons]; omega, ?_, d, ?_, h5⟩
      · rw [e, List.take_succ_cons, List.filter_cons, hc, h3]; rfl
      · rw [e]; simpa using h4
    · rw [hc] at h
      cases h
      exact ⟨Nat.le_refl _, by simp, by simp, c, by simp, hc⟩
/-- What is kept of the first so many. -/
def keptN {α : Type} (g : α → Bool) (xs : List α) (j : Nat) : List α := (xs.take j).filter fun c => !g c
theorem keptN_step {α : Type} {g : α → Bool} {xs : List α} {j : Nat} {x : α} (h : xs[j]? = some x) : keptN g xs (j + 1) = keptN g xs j ++ if g x then [] else [x] := by
  unfold keptN
  rw [List.take_add_one, h, List.filter_append]
  cases hx : g x <;> simp [hx]
theorem keptN_len {α : Type} {g : α → Bool} {xs : List α} {j : Nat} : (keptN g xs j).length ≤ j := by
  unfold keptN
  have := List.length_filter_le (fun c => !g c) (xs.take j)
  rw [List.length_take] at this; omega
/-- The row, so many having been gone through. -/
structure DelI {α : Type} (g : α → Bool) (xs zs : List α) (j : Nat) : Prop where
  len : zs.length = xs.length
  kept : zs.take (keptN g xs j).length = keptN g xs j
  rest : zs.drop j = xs.drop j
theorem DelI.start {α : Type} {g : α → Bool} {xs : List α} {i : Nat} (h : idxAt g xs 0 = some i) : DelI g xs xs (i + 1) ∧ (keptN g xs (i + 1)).length = i := by
  obtain ⟨_, h2, h3, c, h4, h5⟩ := idxAt_some h
  rw [Nat.sub_zero] at h3 h4
  have e : keptN g xs (i + 1) = xs.take i := by
    rw [keptN_step h4, h5]; unfold keptN; rw [h3]; simp
  refine ⟨⟨rfl, ?_, rfl⟩, ?_⟩
  · rw [e, List.length_take, show min i xs.length = i by omega]
  · rw [e, List.length_take]; omega
theorem DelI.skip {α : Type} {g : α → Bool} {xs zs : List α} {j : Nat} (I : DelI g xs zs j) {x : α} (hx : xs[j]? = some x) (hg : g x = true) : DelI g xs zs (j + 1) ∧ keptN g xs (j + 1) = keptN g xs j := by
  have e : keptN g xs (j + 1) = keptN g xs j := by rw [keptN_step hx, hg]; simp
  refine ⟨⟨I.len, by rw [e]; exact I.kept, ?_⟩, e⟩
  rw [← List.drop_drop, ← List.drop_drop, I.rest]
theorem DelI.move {α : Type} {g : α → Bool} {xs zs : List α} {j : Nat} (I : DelI g xs zs j) {x : α} (hx : xs[j]? = some x) (hg : g x = false) (hlt : (keptN g xs j).length < j) :
    DelI g xs (zs.set (keptN g xs j).length x) (j + 1) ∧ (keptN g xs (j + 1)).length = (keptN g xs j).length + 1 := by
  have hj : j < xs.length := (List.getElem?_eq_some_iff.1 hx).1
  have e : keptN g xs (j + 1) = keptN g xs j ++ [x] := by rw [keptN_step hx, hg]; simp
  refine ⟨⟨by rw [List.length_set]; exact I.len, ?_, ?_⟩, by rw [e]; simp⟩
  · have hl := I.len
    rw [e, List.length_append, List.length_singleton, List.take_add_one, List.take_set_of_le (Nat.le_refl _), I.kept, List.getElem?_set_self (by omega)]; rfl
  · rw [List.drop_set_of_lt (by omega), ← List.drop_drop, ← List.drop_drop, I.rest]
theorem DelI.at {α : Type} {g : α → Bool} {xs zs : List α} {j : Nat} (I : DelI g xs zs j) : zs[j]? = xs[j]? := by
  have := congrArg (fun l => l[0]?) I.rest
  simpa using this
theorem DelI.done {α : Type} {g : α → Bool} {xs zs : List α} (I : DelI g xs zs xs.length) : zs.take (xs.filter fun c => !g c).length = xs.filter fun c => !g c := by
  have := I.kept
  unfold keptN at this
  rwa [List.take_length] at this
def cntG {α : Type} (g : α → Bool) (xs : List α) (i : Nat) : Nat := ((xs.take i).filter g).length
theorem cntG_step {α : Type} {g : α → Bool} {xs : List α} {j : Nat} {x : α} (h : xs[j]? = some x) : cntG g xs (j + 1) = cntG g xs j + if g x then 1 else 0 := by
  unfold cntG
  rw [List.take_add_one, h, List.filter_append, List.length_append]
  cases hx : g x <;> simp [hx]
theorem cntG_le {α : Type} {g : α → Bool} {xs : List α} {j : Nat} : cntG g xs j ≤ j := by
  unfold cntG
  have := List.length_filter_le g (xs.take j)
  rw [List.length_take] at this; omega
/-- A job of sending. -/
structure Sd where
  sock : Int
  id : Int
  p : Nat × Nat
def sdv (s : Sd) : List AV := [.int .i64 s.sock, .int .i64 s.id, rp s.p]
theorem sdv_eq (s : Sd) : sdv s = [.int .i64 s.sock, .int .i64 s.id, rp s.p] := rfl
instance : Flt sdv := ⟨fun _ => rfl⟩
instance : RowF sdv 3 := ⟨fun _ => ⟨rfl, rfl⟩⟩
def sdo : Option Sd → List AV
  | some s => sdv s
  | none => [.int .i64 0, .int .i64 0, .nilp]
theorem sdo_some (s : Sd) : sdo (some s) = sdv s := rfl
instance : Flt sdo := ⟨fun x => by cases x <;> rfl⟩
instance : RowF sdo 3 := ⟨fun x => by cases x <;> exact ⟨rfl, rfl⟩⟩
/-- A row of jobs, and of places that were cleared. -/
def padSd (xs : List Sd) (n : Nat) : List (Option Sd) := xs.map some ++ List.replicate n none
theorem padSd_get {xs : List Sd} {n i : Nat} {s : Sd} (h : xs[i]? = some s) : (padSd xs n)[i]? = some (some s) := by
  unfold padSd
  rw [List.getElem?_append_left (by simpa using (List.getElem?_eq_some_iff.1 h).1)]; simp [h]
theorem padSd_take {xs : List Sd} {n : Nat} : rows sdv xs = ((rows sdo (padSd xs n)).drop 0).take xs.length := by
  rw [List.drop_zero, rows_take]
  unfold padSd
  rw [List.take_append_of_le_length (by simp), List.take_of_length_le (by simp)]
  simp [rows, sdo]
theorem padSd_len {xs : List Sd} {n : Nat} : (padSd xs n).length = xs.length + n := by simp [padSd]
theorem snocSd {xs : List Sd} {x : Sd} : rows sdv xs ++ [sdv x] = rows sdv (xs ++ [x]) := by simp [rows]
theorem CloneSd_ok (xs : List Sd) (hn : xs.length ≤ 1000) : ACall Try.prog f_slices_Clone_of_sender [.sl 0 3 0 xs.length false] [some (.arr (rows sdv xs))] fun r A => r = .sl 1 3 0 xs.length false ∧ A = [some (.arr (rows sdv xs)), some (.arr (rows sdv xs))] := by
  by_cases h0 : xs = []
  · subst h0
    refine acall_sl0 (pre := []) (post := []) (acall_emp (z := 3) (by decide) ?_) fun a c => ?_
    · refine acallH ok_slices_Clone_of_sender ?_
      have hr := trivial
      try simp -dsimp -implicitDefEqProofs (maxSteps := 1000000) (disch := first | exact dis | fail) only [hc_slices_Clone_of_sender, eqv_slice, List.nil_append, go_sem]
      repeat' ((first | (with_reducible first | refine w_if ?_ ?_ | refine w_gt ?_ ?_ | refine w_gf ?_ ?_ | refine w_io ?_ ?_ | refine w_gdt ?_ ?_ | refine w_gdf ?_ ?_ | refine w_ite ?_ ?_) <;> intro h <;> (try rw [h]) <;> replace hr := And.intro h hr <;> replace h := nrm h <;> try (first | (exfalso; omega) | exact (bx h (by assumption)).elim | exact (bx (by assumption) h).elim) | ((with_reducible refine And.intro ?_ ?_); (focus omega))) <;> try simp -dsimp -implicitDefEqProofs (maxSteps := 1000000) (disch := first | exact dis | fail) only [eqv_slice, List.nil_append, go_sem])
      exact ⟨some [], rfl, .inl rfl, by simp only [foldA_eq, go_sem]⟩
    · refine acallH ok_slices_Clone_of_sender ?_
      have hr := trivial
      try simp -dsimp -implicitDefEqProofs (maxSteps := 1000000) (disch := first | exact dis | fail) only [hc_slices_Clone_of_sender, eqv_slice, List.nil_append, nilS_raw, elems_raw, go_sem]
      repeat' ((first | (with_reducible first | refine w_if ?_ ?_ | refine w_gt ?_ ?_ | refine w_gf ?_ ?_ | refine w_io ?_ ?_ | refine w_gdt ?_ ?_ | refine w_gdf ?_ ?_ | refine w_ite ?_ ?_) <;> intro h <;> (try rw [h]) <;> replace hr := And.intro h hr <;> replace h := nrm h <;> try (first | (exfalso; omega) | exact (bx h (by assumption)).elim | exact (bx (by assumption) h).elim) | ((with_reducible refine And.intro ?_ ?_); (focus omega))) <;> try simp -dsimp -implicitDefEqProofs (maxSteps := 1000000) (disch := first | exact dis | fail) only [eqv_slice, List.nil_append, nilS_raw, elems_raw, go_sem])
      exact ⟨some [2], rfl, rfl, by simp only [foldA_eq, go_sem]; rfl⟩
  · have hl : 0 < xs.length := by cases xs; exact absurd rfl h0; simp
    have hd : ((rows sdv xs).drop 0).take xs.length = rows sdv xs := by
      rw [List.drop_zero]; exact rows_all.symm
    refine acallH ok_slices_Clone_of_sender ?_
    have hr := trivial
    try simp -dsimp -implicitDefEqProofs (maxSteps := 1000000) (disch := first | exact dis | fail) only [hc_slices_Clone_of_sender, eqv_slice, hd, go_sem]
    repeat' ((first | (with_reducible first | refine w_if ?_ ?_ | refine w_gt ?_ ?_ | refine w_gf ?_ ?_ | refine w_io ?_ ?_ | refine w_gdt ?_ ?_ | refine w_gdf ?_ ?_ | refine w_ite ?_ ?_) <;> intro h <;> (try rw [h]) <;> replace hr := And.intro h hr <;> replace h := nrm h <;> try (first | (exfalso; omega) | exact (bx h (by assumption)).elim | exact (bx (by assumption) h).elim) | ((with_reducible refine And.intro ?_ ?_); (focus omega))) <;> try simp -dsimp -implicitDefEqProofs (maxSteps := 1000000) (disch := first | exact dis | fail) only [eqv_slice, hd, go_sem])
    exact ⟨some [2], rfl, rfl, by simp only [foldA_eq, go_sem]⟩
theorem slcsSd {q n : Nat} (h : q ≤ n) : AV.slc 3 (.sl 0 3 0 n false) (some (.int .i64 q)) none none = some (.sl 0 3 q (n - q) false) ∧ AV.slc 3 (.sl 0 3 0 n false) none (some (.int .i64 q)) none = some (.sl 0 3 0 q false) := by
  have e : (q : Int) ≤ (n : Int) := by omega
  constructor <;> simp [AV.slc, bnds, hiOr, bnd, e]
theorem clrSd {o1 o2 : AO} {xs zs ys : List Sd} (hl : zs.length = xs.length) (hlt : ys.length < xs.length) (hd : zs.take ys.length = ys) :
    aclrs [some (.arr (rows sdv zs)), some o1, some o2] 3 [.int .i64 0, .int .i64 0, .nilp] (.sl 0 3 ys.length (xs.length - ys.length) false) = some [some (.arr (rows sdo (padSd ys (xs.length - ys.length)))), some o1, some o2] := by
  have e : ys.length + (xs.length - ys.length) = xs.length := by omega
  have e2 : (rows sdv zs).take ys.length = rows sdv ys := by rw [rows_take, hd]
  have e3 : (rows sdv zs).length = xs.length := by rw [rows_length, hl]
  have e4 : rows sdo (padSd ys (xs.length - ys.length)) = rows sdv ys ++ List.replicate (xs.length - ys.length) [.int .i64 0, .int .i64 0, .nilp] := by simp [padSd, rows, sdo]
  rw [e4]
  simp [aclrs, e, e2, e3]
theorem IndexSd2_ok (fid : Nat) (o1 o2 : AO) (h1 : ∀ g, AO.ren g o1 = o1) (h2 : ∀ g, AO.ren g o2 = o2) (g : Sd → Bool) (hP : ∀ s, ACall Try.prog fid [.agg (sdv s), .ptr 0 0, .ptr 1 0] [some o1, some o2] fun r A => r = .bool (g s) ∧ A = [some o1, some o2])
    (xs : List Sd) (hn : xs.length ≤ 1000) : ACall Try.prog f_slices_IndexFunc_of_sender [.sl 0 3 0 xs.length false, .fn fid [] [.ptr 1 0, .ptr 2 0]] [some (.arr (rows sdv xs)), some o1, some o2] fun r A => r = .int .i64 (idxV g xs) ∧ A = [some (.arr (rows sdv xs)), some o1, some o2] := by
  refine acallH ok_slices_IndexFunc_of_sender ?_
  have hr := trivial
  try simp -dsimp -implicitDefEqProofs (maxSteps := 1000000) (disch := first | exact dis | fail) only [hc_slices_IndexFunc_of_sender, go_sem]
  repeat' ((first | (with_reducible first | refine w_if ?_ ?_ | refine w_gt ?_ ?_ | refine w_gf ?_ ?_ | refine w_io ?_ ?_ | refine w_gdt ?_ ?_ | refine w_gdf ?_ ?_ | refine w_ite ?_ ?_) <;> intro h <;> (try rw [h]) <;> replace hr := And.intro h hr <;> replace h := nrm h <;> try (first | (exfalso; omega) | exact (bx h (by assumption)).elim | exact (bx (by assumption) h).elim) | ((with_reducible refine And.intro ?_ ?_); (focus omega))) <;> try simp -dsimp -implicitDefEqProofs (maxSteps := 1000000) (disch := first | exact dis | fail) only [go_sem])
  refine hw_loop xs.length (fun i ρ A => ρ = rg 8 [(0, .sl 0 3 0 xs.length false), (1, .fn fid [] [.ptr 1 0, .ptr 2 0]), (4, .int .i64 xs.length), (5, .int .i64 i)] ∧ A = [some (.arr (rows sdv xs)), some o1, some o2] ∧ idxAt g (xs.drop i) i = idxAt g xs 0) ⟨none, rfl, rfl, rfl, rfl⟩ ?_
  rintro i ρ A hi ⟨rfl, rfl, hc⟩
  by_cases hlt : i < xs.length
  · have hx : xs[i]? = some xs[i] := List.getElem?_eq_getElem hlt
    generalize xs[i] = s at hx
    rw [idxAt_step hx] at hc
    have hs := hP s
    cases hg : g s
    · rw [hg] at hs hc
      have hr := trivial
      try simp -dsimp -implicitDefEqProofs (maxSteps := 1000000) (disch := first | exact dis | fail) only [hc_slices_IndexFunc_of_sender_b1, Int.toNat_natCast, rows_get, hx, sdv_eq, h1, h2, go_sem]
      repeat' ((first | ((with_reducible refine ACall.atE (hs) [1, 2] ?_ ?_ ?_ ?_ ?_); (focus decide); (focus rfl); (focus (simp -dsimp -implicitDefEqProofs (maxSteps := 1000000) (disch := first | exact dis | fail) only [standsL, Int.toNat_natCast, rows_get, hx, sdv_eq, h1, h2, go_sem]; done)); (focus (first | rfl | (simp -dsimp -implicitDefEqProofs (maxSteps := 1000000) (disch := first | exact dis | fail) only [Int.toNat_natCast, rows_get, hx, sdv_eq, h1, h2, go_sem]; done)))) | (with_reducible first | refine w_if ?_ ?_ | refine w_gt ?_ ?_ | refine w_gf ?_ ?_ | refine w_io ?_ ?_ | refine w_gdt ?_ ?_ | refine w_gdf ?_ ?_ | refine w_ite ?_ ?_) <;> intro h <;> (try rw [h]) <;> replace hr := And.intro h hr <;> replace h := nrm h <;> try (first | (exfalso; omega) | exact (bx h (by assumption)).elim | exact (bx (by assumption) h).elim) | ((with_reducible refine And.intro ?_ ?_); (focus omega))) <;> try simp -dsimp -implicitDefEqProofs (maxSteps := 1000000) (disch := first | exact dis | fail) only [Int.toNat_natCast, rows_get, hx, sdv_eq, h1, h2, go_sem])
      exact ⟨none, rfl, rfl, rfl, hc⟩
    · rw [hg] at hs hc
      have hr := trivial
      try simp -dsimp -implicitDefEqProofs (maxSteps := 1000000) (disch := first | exact dis | fail) only [hc_slices_IndexFunc_of_sender_b1, Int.toNat_natCast, rows_get, hx, sdv_eq, h1, h2, go_sem]
      repeat' ((first | ((with_reducible refine ACall.atE (hs) [1, 2] ?_ ?_ ?_ ?_ ?_); (focus decide); (focus rfl); (focus (simp -dsimp -implicitDefEqProofs (maxSteps := 1000000) (disch := first | exact dis | fail) only [standsL, Int.toNat_natCast, rows_get, hx, sdv_eq, h1, h2, go_sem]; done)); (focus (first | rfl | (simp -dsimp -implicitDefEqProofs (maxSteps := 1000000) (disch := first | exact dis | fail) only [Int.toNat_natCast, rows_get, hx, sdv_eq, h1, h2, go_sem]; done)))) | (with_reducible first | refine w_if ?_ ?_ | refine w_gt ?_ ?_ | refine w_gf ?_ ?_ | refine w_io ?_ ?_ | refine w_gdt ?_ ?_ | refine w_gdf ?_ ?_ | refine w_ite ?_ ?_) <;> intro h <;> (try rw [h]) <;> replace hr := And.intro h hr <;> replace h := nrm h <;> try (first | (exfalso; omega) | exact (bx h (by assumption)).elim | exact (bx (by assumption) h).elim) | ((with_reducible refine And.intro ?_ ?_); (focus omega))) <;> try simp -dsimp -implicitDefEqProofs (maxSteps := 1000000) (disch := first | exact dis | fail) only [Int.toNat_natCast, rows_get, hx, sdv_eq, h1, h2, go_sem])
      exact ⟨none, rfl, by simp only [idxV, ← hc]; rfl, rfl⟩
  · obtain rfl : i = xs.length := by omega
    rw [List.drop_length] at hc
    have hr := trivial
    try simp -dsimp -implicitDefEqProofs (maxSteps := 1000000) (disch := first | exact dis | fail) only [hc_slices_IndexFunc_of_sender_b1, go_sem]
    repeat' ((first | (with_reducible first | refine w_if ?_ ?_ | refine w_gt ?_ ?_ | refine w_gf ?_ ?_ | refine w_io ?_ ?_ | refine w_gdt ?_ ?_ | refine w_gdf ?_ ?_ | refine w_ite ?_ ?_) <;> intro h <;> (try rw [h]) <;> replace hr := And.intro h hr <;> replace h := nrm h <;> try (first | (exfalso; omega) | exact (bx h (by assumption)).elim | exact (bx (by assumption) h).elim) | ((with_reducible refine And.intro ?_ ?_); (focus omega))) <;> try simp -dsimp -implicitDefEqProofs (maxSteps := 1000000) (disch := first | exact dis | fail) only [go_sem])
    exact ⟨none, rfl, by simp only [idxV, ← hc, idxAt]; rfl, rfl⟩
theorem DeleteSd2_ok (fid : Nat) (o1 o2 : AO) (h1 : ∀ g, AO.ren g o1 = o1) (h2 : ∀ g, AO.ren g o2 = o2) (g : Sd → Bool) (hP : ∀ s, ACall Try.prog fid [.agg (sdv s), .ptr 0 0, .ptr 1 0] [some o1, some o2] fun r A => r = .bool (g s) ∧ A = [some o1, some o2])
    (xs : List Sd) (hn : xs.length ≤ 1000) : ACall Try.prog f_slices_DeleteFunc_of_sender [.sl 0 3 0 xs.length false, .fn fid [] [.ptr 1 0, .ptr 2 0]] [some (.arr (rows sdv xs)), some o1, some o2] fun r A => r = .sl 0 3 0 (xs.filter fun c => !g c).length false ∧ ∃ n, A = [some (.arr (rows sdo (padSd (xs.filter fun c => !g c) n))), some o1, some o2] := by
  refine acallH ok_slices_DeleteFunc_of_sender ?_
  have hI := IndexSd2_ok fid o1 o2 h1 h2 g hP xs hn
  unfold idxV at hI
  cases hf : idxAt g xs 0 with
  | none =>
    rw [hf] at hI
    rw [idxAt_none hf]
    have hr := trivial
    try simp -dsimp -implicitDefEqProofs (maxSteps := 1000000) (disch := first | exact dis | fail) only [hc_slices_DeleteFunc_of_sender, h1, h2, go_sem]
    repeat' ((first | ((with_reducible refine ACall.atE (hI) [0, 1, 2] ?_ ?_ ?_ ?_ ?_); (focus decide); (focus rfl); (focus (simp -dsimp -implicitDefEqProofs (maxSteps := 1000000) (disch := first | exact dis | fail) only [standsL, h1, h2, go_sem]; done)); (focus (first | rfl | (simp -dsimp -implicitDefEqProofs (maxSteps := 1000000) (disch := first | exact dis | fail) only [h1, h2, go_sem]; done)))) | (with_reducible first | refine w_if ?_ ?_ | refine w_gt ?_ ?_ | refine w_gf ?_ ?_ | refine w_io ?_ ?_ | refine w_gdt ?_ ?_ | refine w_gdf ?_ ?_ | refine w_ite ?_ ?_) <;> intro h <;> (try rw [h]) <;> replace hr := And.intro h hr <;> replace h := nrm h <;> try (first | (exfalso; omega) | exact (bx h (by assumption)).elim | exact (bx (by assumption) h).elim) | ((with_reducible refine And.intro ?_ ?_); (focus omega))) <;> try simp -dsimp -implicitDefEqProofs (maxSteps := 1000000) (disch := first | exact dis | fail) only [h1, h2, go_sem])
    exact ⟨none, rfl, rfl, 0, by rw [foldAn, show rows sdv xs = rows sdo (padSd xs 0) from by simp [padSd, rows, sdo]]⟩
  | some i0 =>
    rw [hf] at hI
    obtain ⟨hI0, hk0⟩ := DelI.start hf
    have hb0 := (idxAt_some hf).2.1
    have hr := trivial
    try simp -dsimp -implicitDefEqProofs (maxSteps := 1000000) (disch := first | exact dis | fail) only [hc_slices_DeleteFunc_of_sender, h1, h2, go_sem]
    repeat' ((first | ((with_reducible refine ACall.atE (hI) [0, 1, 2] ?_ ?_ ?_ ?_ ?_); (focus decide); (focus rfl); (focus (simp -dsimp -implicitDefEqProofs (maxSteps := 1000000) (disch := first | exact dis | fail) only [standsL, h1, h2, go_sem]; done)); (focus (first | rfl | (simp -dsimp -implicitDefEqProofs (maxSteps := 1000000) (disch := first | exact dis | fail) only [h1, h2, go_sem]; done)))) | (with_reducible first | refine w_if ?_ ?_ | refine w_gt ?_ ?_ | refine w_gf ?_ ?_ | refine w_io ?_ ?_ | refine w_gdt ?_ ?_ | refine w_gdf ?_ ?_ | refine w_ite ?_ ?_) <;> intro h <;> (try rw [h]) <;> replace hr := And.intro h hr <;> replace h := nrm h <;> try (first | (exfalso; omega) | exact (bx h (by assumption)).elim | exact (bx (by assumption) h).elim) | ((with_reducible refine And.intro ?_ ?_); (focus omega))) <;> try simp -dsimp -implicitDefEqProofs (maxSteps := 1000000) (disch := first | exact dis | fail) only [h1, h2, go_sem])
    unfold hc_slices_DeleteFunc_of_sender_l1
    refine hw_loop (xs.length - (i0 + 1)) (fun m ρ A => ∃ zs : List Sd, DelI g xs zs (i0 + 1 + m) ∧ (keptN g xs (i0 + 1 + m)).length < i0 + 1 + m ∧ ρ = rg 12 [(0, .sl 0 3 0 xs.length false), (1, .fn fid [] [.ptr 1 0, .ptr 2 0]), (3, .int .i64 (keptN g xs (i0 + 1 + m)).length), (4, .int .i64 ((i0 + 1 + m : Nat) : Int))] ∧ A = [some (.arr (rows sdv zs)), some o1, some o2]) ⟨none, rfl, xs, hI0, by rw [hk0]; omega, by simp only [foldRn, go_sem, Nat.add_zero, hk0]; rfl, rfl⟩ ?_
    rintro m ρ A hm ⟨zs, I, hlt2, rfl, rfl⟩
    have hzl := I.len
    have hI1 := I.at
    by_cases hlt : m < xs.length - (i0 + 1)
    · have hx : xs[i0 + 1 + m]? = some (xs[i0 + 1 + m]'(by omega)) := List.getElem?_eq_getElem (by omega)
      generalize xs[i0 + 1 + m]'(by omega) = s at hx
      rw [hx] at hI1
      have hs := hP s
      have hsk := fun hg => I.skip hx hg
      have hmv := fun hg => I.move hx hg hlt2
      have hjl : i0 + 1 + m < xs.length := by omega
      have hj1 : i0 + 1 + (m + 1) = i0 + 1 + m + 1 := by omega
      generalize hj : i0 + 1 + m = j at *
      cases hg : g s
      · rw [hg] at hs
        obtain ⟨hN, hL⟩ := hmv hg
        generalize (keptN g xs j).length = q at *
        have hq : zs[q]? = some (zs[q]'(by omega)) := List.getElem?_eq_getElem (by omega)
        generalize zs[q]'(by omega) = y at hq
        have hset : (rows sdv zs).set q (sdv s) = rows sdv (zs.set q s) := rows_set
        rw [sdv_eq] at hset
        have hr := trivial
        try simp -dsimp -implicitDefEqProofs (maxSteps := 1000000) (disch := first | exact dis | fail) only [hc_slices_DeleteFunc_of_sender_b1, Int.toNat_natCast, rows_get, hI1, hq, hset, sdv_eq, h1, h2, go_sem]
        repeat' ((first | ((with_reducible refine ACall.atE (hs) [1, 2] ?_ ?_ ?_ ?_ ?_); (focus decide); (focus rfl); (focus (simp -dsimp -implicitDefEqProofs (maxSteps := 1000000) (disch := first | exact dis | fail) only [standsL, Int.toNat_natCast, rows_get, hI1, hq, hset, sdv_eq, h1, h2, go_sem]; done)); (focus (first | rfl | (simp -dsimp -implicitDefEqProofs (maxSteps := 1000000) (disch := first | exact dis | fail) only [Int.toNat_natCast, rows_get, hI1, hq, hset, sdv_eq, h1, h2, go_sem]; done)))) | (with_reducible first | refine w_if ?_ ?_ | refine w_gt ?_ ?_ | refine w_gf ?_ ?_ | refine w_io ?_ ?_ | refine w_gdt ?_ ?_ | refine w_gdf ?_ ?_ | refine w_ite ?_ ?_) <;> intro h <;> (try rw [h]) <;> replace hr := And.intro h hr <;> replace h := nrm h <;> try (first | (exfalso; omega) | exact (bx h (by assumption)).elim | exact (bx (by assumption) h).elim) | ((with_reducible refine And.intro ?_ ?_); (focus omega))) <;> try simp -dsimp -implicitDefEqProofs (maxSteps := 1000000) (disch := first | exact dis | fail) only [Int.toNat_natCast, rows_get, hI1, hq, hset, sdv_eq, h1, h2, go_sem])
        rw [hj1]
        refine ⟨some [], rfl, zs.set q s, hN, by omega, ?_, ?_⟩
        · simp only [foldR_eq, go_sem, hL]; rfl
        · simp only [foldA_eq, go_sem, h1, h2]
      · rw [hg] at hs
        obtain ⟨hN, hL⟩ := hsk hg
        have hr := trivial
        try simp -dsimp -implicitDefEqProofs (maxSteps := 1000000) (disch := first | exact dis | fail) only [hc_slices_DeleteFunc_of_sender_b1, Int.toNat_natCast, rows_get, hI1, sdv_eq, h1, h2, go_sem]
        repeat' ((first | ((with_reducible refine ACall.atE (hs) [1, 2] ?_ ?_ ?_ ?_ ?_); (focus decide); (focus rfl); (focus (simp -dsimp -implicitDefEqProofs (maxSteps := 1000000) (disch := first | exact dis | fail) only [standsL, Int.toNat_natCast, rows_get, hI1, sdv_eq, h1, h2, go_sem]; done)); (focus (first | rfl | (simp -dsimp -implicitDefEqProofs (maxSteps := 1000000) (disch := first | exact dis | fail) only [Int.toNat_natCast, rows_get, hI1, sdv_eq, h1, h2, go_sem]; done)))) | (with_reducible first | refine w_if ?_ ?_ | refine w_gt ?_ ?_ | refine w_gf ?_ ?_ | refine w_io ?_ ?_ | refine w_gdt ?_ ?_ | refine w_gdf ?_ ?_ | refine w_ite ?_ ?_) <;> intro h <;> (try rw [h]) <;> replace hr := And.intro h hr <;> replace h := nrm h <;> try (first | (exfalso; omega) | exact (bx h (by assumption)).elim | exact (bx (by assumption) h).elim) | ((with_reducible refine And.intro ?_ ?_); (focus omega))) <;> try simp -dsimp -implicitDefEqProofs (maxSteps := 1000000) (disch := first | exact dis | fail) only [Int.toNat_natCast, rows_get, hI1, sdv_eq, h1, h2, go_sem])
        rw [hj1]
        refine ⟨some [], rfl, zs, hN, by rw [hL]; omega, ?_, ?_⟩
        · simp only [foldR_eq, go_sem, hL]; rfl
        · simp only [foldA_eq, go_sem, h1, h2]
    · have hj : i0 + 1 + m = xs.length := by omega
      rw [hj] at I hlt2 ⊢
      have hkl : keptN g xs xs.length = xs.filter fun c => !g c := by unfold keptN; rw [List.take_length]
      have hdn := I.done
      rw [hkl] at hlt2 ⊢
      generalize (xs.filter fun c => !g c) = ys at hlt2 hdn ⊢
      obtain ⟨hs1, hs2⟩ := slcsSd (show ys.length ≤ xs.length by omega)
      have hcl := clrSd (o1 := o1) (o2 := o2) hzl hlt2 hdn
      have hr := trivial
      try simp -dsimp -implicitDefEqProofs (maxSteps := 1000000) (disch := first | exact dis | fail) only [hc_slices_DeleteFunc_of_sender_b1, h1, h2, hs1, hs2, hcl, go_sem]
      repeat' ((first | (with_reducible first | refine w_if ?_ ?_ | refine w_gt ?_ ?_ | refine w_gf ?_ ?_ | refine w_io ?_ ?_ | refine w_gdt ?_ ?_ | refine w_gdf ?_ ?_ | refine w_ite ?_ ?_) <;> intro h <;> (try rw [h]) <;> replace hr := And.intro h hr <;> replace h := nrm h <;> try (first | (exfalso; omega) | exact (bx h (by assumption)).elim | exact (bx (by assumption) h).elim) | ((with_reducible refine And.intro ?_ ?_); (focus omega))) <;> try simp -dsimp -implicitDefEqProofs (maxSteps := 1000000) (disch := first | exact dis | fail) only [h1, h2, hs1, hs2, hcl, go_sem])
      exact ⟨none, rfl, rfl, _, rfl⟩
theorem IndexSd1_ok (fid : Nat) (o1 o2 : AO) (h1 : ∀ g, AO.ren g o1 = o1) (h2 : ∀ g, AO.ren g o2 = o2) (g : Sd → Bool) (hP : ∀ s, ACall Try.prog fid [.agg (sdv s), .ptr 0 0] [some o1, some o2] fun r A => r = .bool (g s) ∧ A = [some o1, some o2])
    (xs : List Sd) (hn : xs.length ≤ 1000) : ACall Try.prog f_slices_IndexFunc_of_sender [.sl 0 3 0 xs.length false, .fn fid [] [.ptr 1 0]] [some (.arr (rows sdv xs)), some o1, some o2] fun r A => r = .int .i64 (idxV g xs) ∧ A = [some (.arr (rows sdv xs)), some o1, some o2] := by
  refine acallH ok_slices_IndexFunc_of_sender ?_
  have hr := trivial
  try simp -dsimp -implicitDefEqProofs (maxSteps := 1000000) (disch := first | exact dis | fail) only [hc_slices_IndexFunc_of_sender, go_sem]
  repeat' ((first | (with_reducible first | refine w_if ?_ ?_ | refine w_gt ?_ ?_ | refine w_gf ?_ ?_ | refine w_io ?_ ?_ | refine w_gdt ?_ ?_ | refine w_gdf ?_ ?_ | refine w_ite ?_ ?_) <;> intro h <;> (try rw [h]) <;> replace hr := And.intro h hr <;> replace h := nrm h <;> try (first | (exfalso; omega) | exact (bx h (by assumption)).elim | exact (bx (by assumption) h).elim) | ((with_reducible refine And.intro ?_ ?_); (focus omega))) <;> try simp -dsimp -implicitDefEqProofs (maxSteps := 1000000) (disch := first | exact dis | fail) only [go_sem])
  refine hw_loop xs.length (fun i ρ A => ρ = rg 8 [(0, .sl 0 3 0 xs.length false), (1, .fn fid [] [.ptr 1 0]), (4, .int .i64 xs.length), (5, .int .i64 i)] ∧ A = [some (.arr (rows sdv xs)), some o1, some o2] ∧ idxAt g (xs.drop i) i = idxAt g xs 0) ⟨none, rfl, rfl, rfl, rfl⟩ ?_
  rintro i ρ A hi ⟨rfl, rfl, hc⟩
  by_cases hlt : i < xs.length
  · have hx : xs[i]? = some xs[i] := List.getElem?_eq_getElem hlt
    generalize xs[i] = s at hx
    rw [idxAt_step hx] at hc
    have hs := hP s
    cases hg : g s
    · rw [hg] at hs hc
      have hr := trivial
      try simp -dsimp -implicitDefEqProofs (maxSteps := 1000000) (disch := first | exact dis | fail) only [hc_slices_IndexFunc_of_sender_b1, Int.toNat_natCast, rows_get, hx, sdv_eq, h1, h2, go_sem]
      repeat' ((first | ((with_reducible refine ACall.atE (hs) [1, 2] ?_ ?_ ?_ ?_ ?_); (focus decide); (focus rfl); (focus (simp -dsimp -implicitDefEqProofs (maxSteps := 1000000) (disch := first | exact dis | fail) only [standsL, Int.toNat_natCast, rows_get, hx, sdv_eq, h1, h2, go_sem]; done)); (focus (first | rfl | (simp -dsimp -implicitDefEqProofs (maxSteps := 1000000) (disch := first | exact dis | fail) only [Int.toNat_natCast, rows_get, hx, sdv_eq, h1, h2, go_sem]; done)))) | (with_reducible first | refine w_if ?_ ?_ | refine w_gt ?_ ?_ | refine w_gf ?_ ?_ | refine w_io ?_ ?_ | refine w_gdt ?_ ?_ | refine w_gdf ?_ ?_ | refine w_ite ?_ ?_) <;> intro h <;> (try rw [h]) <;> replace hr := And.intro h hr <;> replace h := nrm h <;> try (first | (exfalso; omega) | exact (bx h (by assumption)).elim | exact (bx (by assumption) h).elim) | ((with_reducible refine And.intro ?_ ?_); (focus omega))) <;> try simp -dsimp -implicitDefEqProofs (maxSteps := 1000000) (disch := first | exact dis | fail) only [Int.toNat_natCast, rows_get, hx, sdv_eq, h1, h2, go_sem])
      exact ⟨none, rfl, rfl, rfl, hc⟩
    · rw [hg] at hs hc
      have hr := trivial
      try simp -dsimp -implicitDefEqProofs (maxSteps := 1000000) (disch := first | exact dis | fail) only [hc_slices_IndexFunc_of_sender_b1, Int.toNat_natCast, rows_get, hx, sdv_eq, h1, h2, go_sem]
      repeat' ((first | ((with_reducible refine ACall.atE (hs) [1, 2] ?_ ?_ ?_ ?_ ?_); (focus decide); (focus rfl); (focus (simp -dsimp -implicitDefEqProofs (maxSteps := 1000000) (disch := first | exact dis | fail) only [standsL, Int.toNat_natCast, rows_get, hx, sdv_eq, h1, h2, go_sem]; done)); (focus (first | rfl | (simp -dsimp -implicitDefEqProofs (maxSteps := 1000000) (disch := first | exact dis | fail) only [Int.toNat_natCast, rows_get, hx, sdv_eq, h1, h2, go_sem]; done)))) | (with_reducible first | refine w_if ?_ ?_ | refine w_gt ?_ ?_ | refine w_gf ?_ ?_ | refine w_io ?_ ?_ | refine w_gdt ?_ ?_ | refine w_gdf ?_ ?_ | refine w_ite ?_ ?_) <;> intro h <;> (try rw [h]) <;> replace hr := And.intro h hr <;> replace h := nrm h <;> try (first | (exfalso; omega) | exact (bx h (by assumption)).elim | exact (bx (by assumption) h).elim) | ((with_reducible refine And.intro ?_ ?_); (focus omega))) <;> try simp -dsimp -implicitDefEqProofs (maxSteps := 1000000) (disch := first | exact dis | fail) only [Int.toNat_natCast, rows_get, hx, sdv_eq, h1, h2, go_sem])
      exact ⟨none, rfl, by simp only [idxV, ← hc]; rfl, rfl⟩
  · obtain rfl : i = xs.length := by omega
    rw [List.drop_length] at hc
    have hr := trivial
    try simp -dsimp -implicitDefEqProofs (maxSteps := 1000000) (disch := first | exact dis | fail) only [hc_slices_IndexFunc_of_sender_b1, go_sem]
    repeat' ((first | (with_reducible first | refine w_if ?_ ?_ | refine w_gt ?_ ?_ | refine w_gf ?_ ?_ | refine w_io ?_ ?_ | refine w_gdt ?_ ?_ | refine w_gdf ?_ ?_ | refine w_ite ?_ ?_) <;> intro h <;> (try rw [h]) <;> replace hr := And.intro h hr <;> replace h := nrm h <;> try (first | (exfalso; omega) | exact (bx h (by assumption)).elim | exact (bx (by assumption) h).elim) | ((with_reducible refine And.intro ?_ ?_); (focus omega))) <;> try simp -dsimp -implicitDefEqProofs (maxSteps := 1000000) (disch := first | exact dis | fail) only [go_sem])
    exact ⟨none, rfl, by simp only [idxV, ← hc, idxAt]; rfl, rfl⟩
theorem DeleteSd1_ok (fid : Nat) (o1 o2 : AO) (h1 : ∀ g, AO.ren g o1 = o1) (h2 : ∀ g, AO.ren g o2 = o2) (g : Sd → Bool) (hP : ∀ s, ACall Try.prog fid [.agg (sdv s), .ptr 0 0] [some o1, some o2] fun r A => r = .bool (g s) ∧ A = [some o1, some o2])
    (xs : List Sd) (hn : xs.length ≤ 1000) : ACall Try.prog f_slices_DeleteFunc_of_sender [.sl 0 3 0 xs.length false, .fn fid [] [.ptr 1 0]] [some (.arr (rows sdv xs)), some o1, some o2] fun r A => r = .sl 0 3 0 (xs.filter fun c => !g c).length false ∧ ∃ n, A = [some (.arr (rows sdo (padSd (xs.filter fun c => !g c) n))), some o1, some o2] := by
  refine acallH ok_slices_DeleteFunc_of_sender ?_
  have hI := IndexSd1_ok fid o1 o2 h1 h2 g hP xs hn
  unfold idxV at hI
  cases hf : idxAt g xs 0 with
  | none =>
    rw [hf] at hI
    rw [idxAt_none hf]
    have hr := trivial
    try simp -dsimp -implicitDefEqProofs (maxSteps := 1000000) (disch := first | exact dis | fail) only [hc_slices_DeleteFunc_of_sender, h1, h2, go_sem]
    repeat' ((first | ((with_reducible refine ACall.atE (hI) [0, 1, 2] ?_ ?_ ?_ ?_ ?_); (focus decide); (focus rfl); (focus (simp -dsimp -implicitDefEqProofs (maxSteps := 1000000) (disch := first | exact dis | fail) only [standsL, h1, h2, go_sem]; done)); (focus (first | rfl | (simp -dsimp -implicitDefEqProofs (maxSteps := 1000000) (disch := first | exact dis | fail) only [h1, h2, go_sem]; done)))) | (with_reducible first | refine w_if ?_ ?_ | refine w_gt ?_ ?_ | refine w_gf ?_ ?_ | refine w_io ?_ ?_ | refine w_gdt ?_ ?_ | refine w_gdf ?_ ?_ | refine w_ite ?_ ?_) <;> intro h <;> (try rw [h]) <;> replace hr := And.intro h hr <;> replace h := nrm h <;> try (first | (exfalso; omega) | exact (bx h (by assumption)).elim | exact (bx (by assumption) h).elim) | ((with_reducible refine And.intro ?_ ?_); (focus omega))) <;> try simp -dsimp -implicitDefEqProofs (maxSteps := 1000000) (disch := first | exact dis | fail) only [h1, h2, go_sem])
    exact ⟨none, rfl, rfl, 0, by rw [foldAn, show rows sdv xs = rows sdo (padSd xs 0) from by simp [padSd, rows, sdo]]⟩
  | some i0 =>
    rw [hf] at hI
    obtain ⟨hI0, hk0⟩ := DelI.start hf
    have hb0 := (idxAt_some hf).2.1
    have hr := trivial
    try simp -dsimp -implicitDefEqProofs (maxSteps := 1000000) (disch := first | exact dis | fail) only [hc_slices_DeleteFunc_of_sender, h1, h2, go_sem]
    repeat' ((first | ((with_reducible refine ACall.atE (hI) [0, 1, 2] ?_ ?_ ?_ ?_ ?_); (focus decide); (focus rfl); (focus (simp -dsimp -implicitDefEqProofs (maxSteps := 1000000) (disch := first | exact dis | fail) only [standsL, h1, h2, go_sem]; done)); (focus (first | rfl | (simp -dsimp -implicitDefEqProofs (maxSteps := 1000000) (disch := first | exact dis | fail) only [h1, h2, go_sem]; done)))) | (with_reducible first | refine w_if ?_ ?_ | refine w_gt ?_ ?_ | refine w_gf ?_ ?_ | refine w_io ?_ ?_ | refine w_gdt ?_ ?_ | refine w_gdf ?_ ?_ | refine w_ite ?_ ?_) <;> intro h <;> (try rw [h]) <;> replace hr := And.intro h hr <;> replace h := nrm h <;> try (first | (exfalso; omega) | exact (bx h (by assumption)).elim | exact (bx (by assumption) h).elim) | ((with_reducible refine And.intro ?_ ?_); (focus omega))) <;> try simp -dsimp -implicitDefEqProofs (maxSteps := 1000000) (disch := first | exact dis | fail) only [h1, h2, go_sem])
    unfold hc_slices_DeleteFunc_of_sender_l1
    refine hw_loop (xs.length - (i0 + 1)) (fun m ρ A => ∃ zs : List Sd, DelI g xs zs (i0 + 1 + m) ∧ (keptN g xs (i0 + 1 + m)).length < i0 + 1 + m ∧ ρ = rg 12 [(0, .sl 0 3 0 xs.length false), (1, .fn fid [] [.ptr 1 0]), (3, .int .i64 (keptN g xs (i0 + 1 + m)).length), (4, .int .i64 ((i0 + 1 + m : Nat) : Int))] ∧ A = [some (.arr (rows sdv zs)), some o1, some o2]) ⟨none, rfl, xs, hI0, by rw [hk0]; omega, by simp only [foldRn, go_sem, Nat.add_zero, hk0]; rfl, rfl⟩ ?_
    rintro m ρ A hm ⟨zs, I, hlt2, rfl, rfl⟩
    have hzl := I.len
    have hI1 := I.at
    by_cases hlt : m < xs.length - (i0 + 1)
    · have hx : xs[i0 + 1 + m]? = some (xs[i0 + 1 + m]'(by omega)) := List.getElem?_eq_getElem (by omega)
      generalize xs[i0 + 1 + m]'(by omega) = s at hx
      rw [hx] at hI1
      have hs := hP s
      have hsk := fun hg => I.skip hx hg
      have hmv := fun hg => I.move hx hg hlt2
      have hjl : i0 + 1 + m < xs.length := by omega
      have hj1 : i0 + 1 + (m + 1) = i0 + 1 + m + 1 := by omega
      generalize hj : i0 + 1 + m = j at *
      cases hg : g s
      · rw [hg] at hs
        obtain ⟨hN, hL⟩ := hmv hg
        generalize (keptN g xs j).length = q at *
        have hq : zs[q]? = some (zs[q]'(by omega)) := List.getElem?_eq_getElem (by omega)
        generalize zs[q]'(by omega) = y at hq
        have hset : (rows sdv zs).set q (sdv s) = rows sdv (zs.set q s) := rows_set
        rw [sdv_eq] at hset
        have hr := trivial
        try simp -dsimp -implicitDefEqProofs (maxSteps := 1000000) (disch := first | exact dis | fail) only [hc_slices_DeleteFunc_of_sender_b1, Int.toNat_natCast, rows_get, hI1, hq, hset, sdv_eq, h1, h2, go_sem]
        repeat' ((first | ((with_reducible refine ACall.atE (hs) [1, 2] ?_ ?_ ?_ ?_ ?_); (focus decide); (focus rfl); (focus (simp -dsimp -implicitDefEqProofs (maxSteps := 1000000) (disch := first | exact dis | fail) only [standsL, Int.toNat_natCast, rows_get, hI1, hq, hset, sdv_eq, h1, h2, go_sem]; done)); (focus (first | rfl | (simp -dsimp -implicitDefEqProofs (maxSteps := 1000000) (disch := first | exact dis | fail) only [Int.toNat_natCast, rows_get, hI1, hq, hset, sdv_eq, h1, h2, go_sem]; done)))) | (with_reducible first | refine w_if ?_ ?_ | refine w_gt ?_ ?_ | refine w_gf ?_ ?_ | refine w_io ?_ ?_ | refine w_gdt ?_ ?_ | refine w_gdf ?_ ?_ | refine w_ite ?_ ?_) <;> intro h <;> (try rw [h]) <;> replace hr := And.intro h hr <;> replace h := nrm h <;> try (first | (exfalso; omega) | exact (bx h (by assumption)).elim | exact (bx (by assumption) h).elim) | ((with_reducible refine And.intro ?_ ?_); (focus omega))) <;> try simp -dsimp -implicitDefEqProofs (maxSteps := 1000000) (disch := first | exact dis | fail) only [Int.toNat_natCast, rows_get, hI1, hq, hset, sdv_eq, h1, h2, go_sem])
        rw [hj1]
        refine ⟨some [], rfl, zs.set q s, hN, by omega, ?_, ?_⟩
        · simp only [foldR_eq, go_sem, hL]; rfl
        · simp only [foldA_eq, go_sem, h1, h2]
      · rw [hg] at hs
        obtain ⟨hN, hL⟩ := hsk hg
        have hr := trivial
        try simp -dsimp -implicitDefEqProofs (maxSteps := 1000000) (disch := first | exact dis | fail) only [hc_slices_DeleteFunc_of_sender_b1, Int.toNat_natCast, rows_get, hI1, sdv_eq, h1, h2, go_sem]
        repeat' ((first | ((with_reducible refine ACall.atE (hs) [1, 2] ?_ ?_ ?_ ?_ ?_); (focus decide); (focus rfl); (focus (simp -dsimp -implicitDefEqProofs (maxSteps := 1000000) (disch := first | exact dis | fail) only [standsL, Int.toNat_natCast, rows_get, hI1, sdv_eq, h1, h2, go_sem]; done)); (focus (first | rfl | (simp -dsimp -implicitDefEqProofs (maxSteps := 1000000) (disch := first | exact dis | fail) only [Int.toNat_natCast, rows_get, hI1, sdv_eq, h1, h2, go_sem]; done)))) | (with_reducible first | refine w_if ?_ ?_ | refine w_gt ?_ ?_ | refine w_gf ?_ ?_ | refine w_io ?_ ?_ | refine w_gdt ?_ ?_ | refine w_gdf ?_ ?_ | refine w_ite ?_ ?_) <;> intro h <;> (try rw [h]) <;> replace hr := And.intro h hr <;> replace h := nrm h <;> try (first | (exfalso; omega) | exact (bx h (by assumption)).elim | exact (bx (by assumption) h).elim) | ((with_reducible refine And.intro ?_ ?_); (focus omega))) <;> try simp -dsimp -implicitDefEqProofs (maxSteps := 1000000) (disch := first | exact dis | fail) only [Int.toNat_natCast, rows_get, hI1, sdv_eq, h1, h2, go_sem])
        rw [hj1]
        refine ⟨some [], rfl, zs, hN, by rw [hL]; omega, ?_, ?_⟩
        · simp only [foldR_eq, go_sem, hL]; rfl
        · simp only [foldA_eq, go_sem, h1, h2]
    · have hj : i0 + 1 + m = xs.length := by omega
      rw [hj] at I hlt2 ⊢
      have hkl : keptN g xs xs.length = xs.filter fun c => !g c := by unfold keptN; rw [List.take_length]
      have hdn := I.done
      rw [hkl] at hlt2 ⊢
      generalize (xs.filter fun c => !g c) = ys at hlt2 hdn ⊢
      obtain ⟨hs1, hs2⟩ := slcsSd (show ys.length ≤ xs.length by omega)
      have hcl := clrSd (o1 := o1) (o2 := o2) hzl hlt2 hdn
      have hr := trivial
      try simp -dsimp -implicitDefEqProofs (maxSteps := 1000000) (disch := first | exact dis | fail) only [hc_slices_DeleteFunc_of_sender_b1, h1, h2, hs1, hs2, hcl, go_sem]
      repeat' ((first | (with_reducible first | refine w_if ?_ ?_ | refine w_gt ?_ ?_ | refine w_gf ?_ ?_ | refine w_io ?_ ?_ | refine w_gdt ?_ ?_ | refine w_gdf ?_ ?_ | refine w_ite ?_ ?_) <;> intro h <;> (try rw [h]) <;> replace hr := And.intro h hr <;> replace h := nrm h <;> try (first | (exfalso; omega) | exact (bx h (by assumption)).elim | exact (bx (by assumption) h).elim) | ((with_reducible refine And.intro ?_ ?_); (focus omega))) <;> try simp -dsimp -implicitDefEqProofs (maxSteps := 1000000) (disch := first | exact dis | fail) only [h1, h2, hs1, hs2, hcl, go_sem])
      exact ⟨none, rfl, rfl, _, rfl⟩
theorem CountSd_ok (fid : Nat) (o1 : AO) (h1 : ∀ g, AO.ren g o1 = o1) (g : Sd → Bool) (hP : ∀ s, ACall Try.prog fid [.agg (sdv s), .ptr 0 0] [some o1] fun r A => r = .bool (g s) ∧ A = [some o1])
    (xs : List Sd) (n : Nat) (hn : xs.length ≤ 1000) : ACall Try.prog f_bcm_count_of_sender [.sl 0 3 0 xs.length false, .fn fid [] [.ptr 1 0]] [some (.arr (rows sdo (padSd xs n))), some o1] fun r A => r = .int .i64 (cntG g xs xs.length) ∧ A = [some (.arr (rows sdo (padSd xs n))), some o1] := by
  refine acallH ok_bcm_count_of_sender ?_
  have hr := trivial
  try simp -dsimp -implicitDefEqProofs (maxSteps := 1000000) (disch := first | exact dis | fail) only [hc_bcm_count_of_sender, go_sem]
  repeat' ((first | (with_reducible first | refine w_if ?_ ?_ | refine w_gt ?_ ?_ | refine w_gf ?_ ?_ | refine w_io ?_ ?_ | refine w_gdt ?_ ?_ | refine w_gdf ?_ ?_ | refine w_ite ?_ ?_) <;> intro h <;> (try rw [h]) <;> replace hr := And.intro h hr <;> replace h := nrm h <;> try (first | (exfalso; omega) | exact (bx h (by assumption)).elim | exact (bx (by assumption) h).elim) | ((with_reducible refine And.intro ?_ ?_); (focus omega))) <;> try simp -dsimp -implicitDefEqProofs (maxSteps := 1000000) (disch := first | exact dis | fail) only [go_sem])
  unfold hc_bcm_count_of_sender_l1
  refine hw_loop xs.length (fun i ρ A => ρ = rg 11 [(1, .fn fid [] [.ptr 1 0]), (3, .int .i64 (cntG g xs i)), (5, .sl 0 3 0 xs.length false), (6, .int .i64 xs.length), (7, .int .i64 i)] ∧ A = [some (.arr (rows sdo (padSd xs n))), some o1]) ⟨none, rfl, by simp only [foldRn, go_sem]; rfl, rfl⟩ ?_
  rintro i ρ A hi ⟨rfl, rfl⟩
  have hcl := cntG_le (g := g) (xs := xs) (j := i)
  by_cases hlt : i < xs.length
  · have hx : xs[i]? = some xs[i] := List.getElem?_eq_getElem hlt
    generalize xs[i] = s at hx
    have hy := padSd_get (n := n) hx
    have hst := cntG_step (g := g) hx
    have hs := hP s
    cases hg : g s
    · rw [hg] at hs hst
      have hr := trivial
      try simp -dsimp -implicitDefEqProofs (maxSteps := 1000000) (disch := first | exact dis | fail) only [hc_bcm_count_of_sender_b1, Int.toNat_natCast, rows_get, hy, sdo_some, sdv_eq, h1, padSd_len, go_sem]
      repeat' ((first | ((with_reducible refine ACall.atE (hs) [1] ?_ ?_ ?_ ?_ ?_); (focus decide); (focus rfl); (focus (simp -dsimp -implicitDefEqProofs (maxSteps := 1000000) (disch := first | exact dis | fail) only [standsL, Int.toNat_natCast, rows_get, hy, sdo_some, sdv_eq, h1, padSd_len, go_sem]; done)); (focus (first | rfl | (simp -dsimp -implicitDefEqProofs (maxSteps := 1000000) (disch := first | exact dis | fail) only [Int.toNat_natCast, rows_get, hy, sdo_some, sdv_eq, h1, padSd_len, go_sem]; done)))) | (with_reducible first | refine w_if ?_ ?_ | refine w_gt ?_ ?_ | refine w_gf ?_ ?_ | refine w_io ?_ ?_ | refine w_gdt ?_ ?_ | refine w_gdf ?_ ?_ | refine w_ite ?_ ?_) <;> intro h <;> (try rw [h]) <;> replace hr := And.intro h hr <;> replace h := nrm h <;> try (first | (exfalso; omega) | exact (bx h (by assumption)).elim | exact (bx (by assumption) h).elim) | ((with_reducible refine And.intro ?_ ?_); (focus omega))) <;> try simp -dsimp -implicitDefEqProofs (maxSteps := 1000000) (disch := first | exact dis | fail) only [Int.toNat_natCast, rows_get, hy, sdo_some, sdv_eq, h1, padSd_len, go_sem])
      exact ⟨some [], rfl, by simp only [foldR_eq, go_sem, hst]; rfl, by simp only [foldA_eq, go_sem, h1]⟩
    · rw [hg] at hs hst
      have hr := trivial
      try simp -dsimp -implicitDefEqProofs (maxSteps := 1000000) (disch := first | exact dis | fail) only [hc_bcm_count_of_sender_b1, Int.toNat_natCast, rows_get, hy, sdo_some, sdv_eq, h1, padSd_len, go_sem]
      repeat' ((first | ((with_reducible refine ACall.atE (hs) [1] ?_ ?_ ?_ ?_ ?_); (focus decide); (focus rfl); (focus (simp -dsimp -implicitDefEqProofs (maxSteps := 1000000) (disch := first | exact dis | fail) only [standsL, Int.toNat_natCast, rows_get, hy, sdo_some, sdv_eq, h1, padSd_len, go_sem]; done)); (focus (first | rfl | (simp -dsimp -implicitDefEqProofs (maxSteps := 1000000) (disch := first | exact dis | fail) only [Int.toNat_natCast, rows_get, hy, sdo_some, sdv_eq, h1, padSd_len, go_sem]; done)))) | (with_reducible first | refine w_if ?_ ?_ | refine w_gt ?_ ?_ | refine w_gf ?_ ?_ | refine w_io ?_ ?_ | refine w_gdt ?_ ?_ | refine w_gdf ?_ ?_ | refine w_ite ?_ ?_) <;> intro h <;> (try rw [h]) <;> replace hr := And.intro h hr <;> replace h := nrm h <;> try (first | (exfalso; omega) | exact (bx h (by assumption)).elim | exact (bx (by assumption) h).elim) | ((with_reducible refine And.intro ?_ ?_); (focus omega))) <;> try simp -dsimp -implicitDefEqProofs (maxSteps := 1000000) (disch := first | exact dis | fail) only [Int.toNat_natCast, rows_get, hy, sdo_some, sdv_eq, h1, padSd_len, go_sem])
      exact ⟨some [], rfl, by simp only [foldR_eq, go_sem, hst]; rfl, by simp only [foldA_eq, go_sem, h1]⟩
  · obtain rfl : i = xs.length := by omega
    have hr := trivial
    try simp -dsimp -implicitDefEqProofs (maxSteps := 1000000) (disch := first | exact dis | fail) only [hc_bcm_count_of_sender_b1, go_sem]
    repeat' ((first | (with_reducible first | refine w_if ?_ ?_ | refine w_gt ?_ ?_ | refine w_gf ?_ ?_ | refine w_io ?_ ?_ | refine w_gdt ?_ ?_ | refine w_gdf ?_ ?_ | refine w_ite ?_ ?_) <;> intro h <;> (try rw [h]) <;> replace hr := And.intro h hr <;> replace h := nrm h <;> try (first | (exfalso; omega) | exact (bx h (by assumption)).elim | exact (bx (by assumption) h).elim) | ((with_reducible refine And.intro ?_ ?_); (focus omega))) <;> try simp -dsimp -implicitDefEqProofs (maxSteps := 1000000) (disch := first | exact dis | fail) only [go_sem])
    exact ⟨none, rfl, rfl, rfl⟩
end Go.Proofs.Ytapoilcpollmpaa
end

/- bcm: rows of jobs of watching. -/
section
namespace Go.Proofs.Ytapoilcpollmpaa
open Go.SB
attribute [local irreducible] HW HSS HAS HRQ HEO HOP HCK
set_option maxRecDepth 100000
set_option maxHeartbeats 1000000
set_option linter.unusedSimpArgs false
set_option pp.deepTerms.threshold 6
attribute [local go_sem high] own_ren rp_ren
/-- A job of watching. -/
structure Wa where
  sock : Int
  id : Int
  mask : Int
  inv : Bool
  p : Nat × Nat
def wav (s : Wa) : List AV := [.int .i64 s.sock, .int .u32 s.id, .int .u32 s.mask, .bool s.inv, rp s.p]
theorem wav_eq (s : Wa) : wav s = [.int .i64 s.sock, .int .u32 s.id, .int .u32 s.mask, .bool s.inv, rp s.p] := rfl
instance : Flt wav := ⟨fun _ => rfl⟩
instance : RowF wav 5 := ⟨fun _ => ⟨rfl, rfl⟩⟩
def wao : Option Wa → List AV
  | some s => wav s
  | none => [.int .i64 0, .int .u32 0, .int .u32 0, .bool false, .nilp]
theorem wao_some (s : Wa) : wao (some s) = wav s := rfl
instance : Flt wao := ⟨fun x => by cases x <;> rfl⟩
instance : RowF wao 5 := ⟨fun x => by cases x <;> exact ⟨rfl, rfl⟩⟩
/-- A row of jobs, and of places that were cleared. -/
def padWa (xs : List Wa) (n : Nat) : List (Option Wa) := xs.map some ++ List.replicate n none
theorem padWa_get {xs : List Wa} {n i : Nat} {s : Wa} (h : xs[i]? = some s) : (padWa xs n)[i]? = some (some s) := by
  unfold padWa
  rw [List.getElem?_append_left (by simpa using (List.getElem?_eq_some_iff.1 h).1)]; simp [h]
theorem padWa_take {xs : List Wa} {n : Nat} : rows wav xs = ((rows wao (padWa xs n)).drop 0).take xs.length := by
  rw [List.drop_zero, rows_take]
  unfold padWa
  rw [List.take_append_of_le_length (by simp), List.take_of_length_le (by simp)]
  simp [rows, wao]
theorem padWa_len {xs : List Wa} {n : Nat} : (padWa xs n).length = xs.length + n := by simp [padWa]
theorem snocWa {xs : List Wa} {x : Wa} : rows wav xs ++ [wav x] = rows wav (xs ++ [x]) := by simp [rows]
theorem CloneWa_ok (xs : List Wa) (hn : xs.length ≤ 1000) : ACall Try.prog f_slices_Clone_of_watcher [.sl 0 5 0 xs.length false] [some (.arr (rows wav xs))] fun r A => r = .sl 1 5 0 xs.length false ∧ A = [some (.arr (rows wav xs)), some (.arr (rows wav xs))] := by
  by_cases h0 : xs = []
  · subst h0
    refine acall_sl0 (pre := []) (post := []) (acall_emp (z := 5) (by decide) ?_) fun a c => ?_
    · refine acallH ok_slices_Clone_of_watcher ?_
      have hr := trivial
      try simp -dsimp -implicitDefEqProofs (maxSteps := 1000000) (disch := first | exact dis | fail) only [hc_slices_Clone_of_watcher, eqv_slice, List.nil_append, go_sem]
      repeat' ((first | (with_reducible first | refine w_if ?_ ?_ | refine w_gt ?_ ?_ | refine w_gf ?_ ?_ | refine w_io ?_ ?_ | refine w_gdt ?_ ?_ | refine w_gdf ?_ ?_ | refine w_ite ?_ ?_) <;> intro h <;> (try rw [h]) <;> replace hr := And.intro h hr <;> replace h := nrm h <;> try (first | (exfalso; omega) | exact (bx h (by assumption)).elim | exact (bx (by assumption) h).elim) | ((with_reducible refine And.intro ?_ ?_); (focus omega))) <;> try simp -dsimp -implicitDefEqProofs (maxSteps := 1000000) (disch := first | exact dis | fail) only [eqv_slice, List.nil_append, go_sem])
      exact ⟨some [], rfl, .inl rfl, by simp only [foldA_eq, go_sem]⟩
    · refine acallH ok_slices_Clone_of_watcher ?_
      have hr := trivial
      try simp -dsimp -implicitDefEqProofs (maxSteps := 1000000) (disch := first | exact dis | fail) only [hc_slices_Clone_of_watcher, eqv_slice, List.nil_append, nilS_raw, elems_raw, go_sem]
      repeat' ((first | (with_reducible first | refine w_if ?_ ?_ | refine w_gt ?_ ?_ | refine w_gf ?_ ?_ | refine w_io ?_ ?_ | refine w_gdt ?_ ?_ | refine w_gdf ?_ ?_ | refine w_ite ?_ ?_) <;> intro h <;> (try rw [h]) <;> replace hr := And.intro h hr <;> replace h := nrm h <;> try (first | (exfalso; omega) | exact (bx h (by assumption)).elim | exact (bx (by assumption) h).elim) | ((with_reducible refine And.intro ?_ ?_); (focus omega))) <;> try simp -dsimp -implicitDefEqProofs (maxSteps := 1000000) (disch := first | exact dis | fail) only [eqv_slice, List.nil_append, nilS_raw, elems_raw, go_sem])
      exact ⟨some [2], rfl, rfl, by simp only [foldA_eq, go_sem]; rfl⟩
  · have hl : 0 < xs.length := by cases xs; exact absurd rfl h0; simp
    have hd : ((rows wav xs).drop 0).take xs.length = rows wav xs := by
      rw [List.drop_zero]; exact rows_all.symm
    refine acallH ok_slices_Clone_of_watcher ?_
    have hr := trivial
    try simp -dsimp -implicitDefEqProofs (maxSteps := 1000000) (disch := first | exact dis | fail) only [hc_slices_Clone_of_watcher, eqv_slice, hd, go_sem]
    repeat' ((first | (with_reducible first | refine w_if ?_ ?_ | refine w_gt ?_ ?_ | refine w_gf ?_ ?_ | refine w_io ?_ ?_ | refine w_gdt ?_ ?_ | refine w_gdf ?_ ?_ | refine w_ite ?_ ?_) <;> intro h <;> (try rw [h]) <;> replace hr := And.intro h hr <;> replace h := nrm h <;> try (first | (exfalso; omega) | exact (bx h (by assumption)).elim | exact (bx (by assumption) h).elim) | ((with_reducible refine And.intro ?_ ?_); (focus omega))) <;> try simp -dsimp -implicitDefEqProofs (maxSteps := 1000000) (disch := first | exact dis | fail) only [eqv_slice, hd, go_sem])
    exact ⟨some [2], rfl, rfl, by simp only [foldA_eq, go_sem]⟩
theorem slcsWa {q n : Nat} (h : q ≤ n) : AV.slc 5 (.sl 0 5 0 n false) (some (.int .i64 q)) none none = some (.sl 0 5 q (n - q) false) ∧ AV.slc 5 (.sl 0 5 0 n false) none (some (.int .i64 q)) none = some (.sl 0 5 0 q false) := by
  have e : (q : Int) ≤ (n : Int) := by omega
  constructor <;> simp [AV.slc, bnds, hiOr, bnd, e]
theorem clrWa {o1 o2 : AO} {xs zs ys : List Wa} (hl : zs.length = xs.length) (hlt : ys.length < xs.length) (hd : zs.take ys.length = ys) :
    aclrs [some (.arr (rows wav zs)), some o1, some o2] 5 [.int .i64 0, .int .u32 0, .int .u32 0, .bool false, .nilp] (.sl 0 5 ys.length (xs.length - ys.length) false) = some [some (.arr (rows wao (padWa ys (xs.length - ys.length)))), some o1, some o2] := by
  have e : ys.length + (xs.length - ys.length) = xs.length := by omega
  have e2 : (rows wav zs).take ys.length = rows wav ys := by rw [rows_take, hd]
  have e3 : (rows wav zs).length = xs.length := by rw [rows_length, hl]
  have e4 : rows wao (padWa ys (xs.length - ys.length)) = rows wav ys ++ List.replicate (xs.length - ys.length) [.int .i64 0, .int .u32 0, .int .u32 0, .bool false, .nilp] := by simp [padWa, rows, wao]
  rw [e4]
  simp [aclrs, e, e2, e3]
theorem IndexWa2_ok (fid : Nat) (o1 o2 : AO) (h1 : ∀ g, AO.ren g o1 = o1) (h2 : ∀ g, AO.ren g o2 = o2) (g : Wa → Bool) (hP : ∀ s, ACall Try.prog fid [.agg (wav s), .ptr 0 0, .ptr 1 0] [some o1, some o2] fun r A => r = .bool (g s) ∧ A = [some o1, some o2])
    (xs : List Wa) (hn : xs.length ≤ 1000) : ACall Try.prog f_slices_IndexFunc_of_watcher [.sl 0 5 0 xs.length false, .fn fid [] [.ptr 1 0, .ptr 2 0]] [some (.arr (rows wav xs)), some o1, some o2] fun r A => r = .int .i64 (idxV g xs) ∧ A = [some (.arr (rows wav xs)), some o1, some o2] := by
  refine acallH ok_slices_IndexFunc_of_watcher ?_
  have hr := trivial
  try simp -dsimp -implicitDefEqProofs (maxSteps := 1000000) (disch := first | exact dis | fail) only [hc_slices_IndexFunc_of_watcher, go_sem]
  repeat' ((first | (with_reducible first | refine w_if ?_ ?_ | refine w_gt ?_ ?_ | refine w_gf ?_ ?_ | refine w_io ?_ ?_ | refine w_gdt ?_ ?_ | refine w_gdf ?_ ?_ | refine w_ite ?_ ?_) <;> intro h <;> (try rw [h]) <;> replace hr := And.intro h hr <;> replace h := nrm h <;> try (first | (exfalso; omega) | exact (bx h (by assumption)).elim | exact (bx (by assumption) h).elim) | ((with_reducible refine And.intro ?_ ?_); (focus omega))) <;> try simp -dsimp -implicitDefEqProofs (maxSteps := 1000000) (disch := first | exact dis | fail) only [go_sem])
  refine hw_loop xs.length (fun i ρ A => ρ = rg 8 [(0, .sl 0 5 0 xs.length false), (1, .fn fid [] [.ptr 1 0, .ptr 2 0]), (4, .int .i64 xs.length), (5, .int .i64 i)] ∧ A = [some (.arr (rows wav xs)), some o1, some o2] ∧ idxAt g (xs.drop i) i = idxAt g xs 0) ⟨none, rfl, rfl, rfl, rfl⟩ ?_
  rintro i ρ A hi ⟨rfl, rfl, hc⟩
  by_cases hlt : i < xs.length
  · have hx : xs[i]? = some xs[i] := List.getElem?_eq_getElem hlt
    generalize xs[i] = s at hx
    rw [idxAt_step hx] at hc
    have hs := hP s
    cases hg : g s
    · rw [hg] at hs hc
      have hr := trivial
      try simp -dsimp -implicitDefEqProofs (maxSteps := 1000000) (disch := first | exact dis | fail) only [hc_slices_IndexFunc_of_watcher_b1, Int.toNat_natCast, rows_get, hx, wav_eq, h1, h2, go_sem]
      repeat' ((first | ((with_reducible refine ACall.atE (hs) [1, 2] ?_ ?_ ?_ ?_ ?_); (focus decide); (focus rfl); (focus (simp -dsimp -implicitDefEqProofs (maxSteps := 1000000) (disch := first | exact dis | fail) only [standsL, Int.toNat_natCast, rows_get, hx, wav_eq, h1, h2, go_sem]; done)); (focus (first | rfl | (simp -dsimp -implicitDefEqProofs (maxSteps := 1000000) (disch := first | exact dis | fail) only [Int.toNat_natCast, rows_get, hx, wav_eq, h1, h2, go_sem]; done)))) | (with_reducible first | refine w_if ?_ ?_ | refine w_gt ?_ ?_ | refine w_gf ?_ ?_ | refine w_io ?_ ?_ | refine w_gdt ?_ ?_ | refine w_gdf ?_ ?_ | refine w_ite ?_ ?_) <;> intro h <;> (try rw [h]) <;> replace hr := And.intro h hr <;> replace h := nrm h <;> try (first | (exfalso; omega) | exact (bx h (by assumption)).elim | exact (bx (by assumption) h).elim) | ((with_reducible refine And.intro ?_ ?_); (focus omega))) <;> try simp -dsimp -implicitDefEqProofs (maxSteps := 1000000) (disch := first | exact dis | fail) only [Int.toNat_natCast, rows_get, hx, wav_eq, h1, h2, go_sem])
      exact ⟨none, rfl, rfl, rfl, hc⟩
    · rw [hg] at hs hc
      have hr := trivial
      try simp -dsimp -implicitDefEqProofs (maxSteps := 1000000) (disch := first | exact dis | fail) only [hc_slices_IndexFunc_of_watcher_b1, Int.toNat_natCast, rows_get, hx, wav_eq, h1, h2, go_sem]
      repeat' ((first | ((with_reducible refine ACall.atE (hs) [1, 2] ?_ ?_ ?_ ?_ ?_); (focus decide); (focus rfl); (focus (simp -dsimp -implicitDefEqProofs (maxSteps := 1000000) (disch := first | exact dis | fail) only [standsL, Int.toNat_natCast, rows_get, hx, wav_eq, h1, h2, go_sem]; done)); (focus (first | rfl | (simp -dsimp -implicitDefEqProofs (maxSteps := 1000000) (disch := first | exact dis | fail) only [Int.toNat_natCast, rows_get, hx, wav_eq, h1, h2, go_sem]; done)))) | (with_reducible first | refine w_if ?_ ?_ | refine w_gt ?_ ?_ | refine w_gf ?_ ?_ | refine w_io ?_ ?_ | refine w_gdt ?_ ?_ | refine w_gdf ?_ ?_ | refine w_ite ?_ ?_) <;> intro h <;> (try rw [h]) <;> replace hr := And.intro h hr <;> replace h := nrm h <;> try (first | (exfalso; omega) | exact (bx h (by assumption)).elim | exact (bx (by assumption) h).elim) | ((with_reducible refine And.intro ?_ ?_); (focus omega))) <;> try simp -dsimp -implicitDefEqProofs (maxSteps := 1000000) (disch := first | exact dis | fail) only [Int.toNat_natCast, rows_get, hx, wav_eq, h1, h2, go_sem])
      exact ⟨none, rfl, by simp only [idxV, ← hc]; rfl, rfl⟩
  · obtain rfl : i = xs.length := by omega
    rw [List.drop_length] at hc
    have hr := trivial
    try simp -dsimp -implicitDefEqProofs (maxSteps := 1000000) (disch := first | exact dis | fail) only [hc_slices_IndexFunc_of_watcher_b1, go_sem]
    repeat' ((first | (with_reducible first | refine w_if ?_ ?_ | refine w_gt ?_ ?_ | refine w_gf ?_ ?_ | refine w_io ?_ ?_ | refine w_gdt ?_ ?_ | refine w_gdf ?_ ?_ | refine w_ite ?_ ?_) <;> intro h <;> (try rw [h]) <;> replace hr := And.intro h hr <;> replace h := nrm h <;> try (first | (exfalso; omega) | exact (bx h (by assumption)).elim | exact (bx (by assumption) h).elim) | ((with_reducible refine And.intro ?_ ?_); (focus omega))) <;> try simp -dsimp -implicitDefEqProofs (maxSteps := 1000000) (disch := first | exact dis | fail) only [go_sem])
    exact ⟨none, rfl, by simp only [idxV, ← hc, idxAt]; rfl, rfl⟩
theorem DeleteWa2_ok (fid : Nat) (o1 o2 : AO) (h1 : ∀ g, AO.ren g o1 = o1) (h2 : ∀ g, AO.ren g o2 = o2) (g : Wa → Bool) (hP : ∀ s, ACall Try.prog fid [.agg (wav s), .ptr 0 0, .ptr 1 0] [some o1, some o2] fun r A => r = .bool (g s) ∧ A = [some o1, some o2])
    (xs : List Wa) (hn : xs.length ≤ 1000) : ACall Try.prog f_slices_DeleteFunc_of_watcher [.sl 0 5 0 xs.length false, .fn fid [] [.ptr 1 0, .ptr 2 0]] [some (.arr (rows wav xs)), some o1, some o2] fun r A => r = .sl 0 5 0 (xs.filter fun c => !g c).length false ∧ ∃ n, A = [some (.arr (rows wao (padWa (xs.filter fun c => !g c) n))), some o1, some o2] := by
  refine acallH ok_slices_DeleteFunc_of_watcher ?_
  have hI := IndexWa2_ok fid o1 o2 h1 h2 g hP xs hn
  unfold idxV at hI
  cases hf : idxAt g xs 0 with
  | none =>
    rw [hf] at hI
    rw [idxAt_none hf]
    have hr := trivial
    try simp -dsimp -implicitDefEqProofs (maxSteps := 1000000) (disch := first | exact dis | fail) only [hc_slices_DeleteFunc_of_watcher, h1, h2, go_sem]
    repeat' ((first | ((with_reducible refine ACall.atE (hI) [0, 1, 2] ?_ ?_ ?_ ?_ ?_); (focus decide); (focus rfl); (focus (simp -dsimp -implicitDefEqProofs (maxSteps := 1000000) (disch := first | exact dis | fail) only [standsL, h1, h2, go_sem]; done)); (focus (first | rfl | (simp -dsimp -implicitDefEqProofs (maxSteps := 1000000) (disch := first | exact dis | fail) only [h1, h2, go_sem]; done)))) | (with_reducible first | refine w_if ?_ ?_ | refine w_gt ?_ ?_ | refine w_gf ?_ ?_ | refine w_io ?_ ?_ | refine w_gdt ?_ ?_ | refine w_gdf ?_ ?_ | refine w_ite ?_ ?_) <;> intro h <;> (try rw [h]) <;> replace hr := And.intro h hr <;> replace h := nrm h <;> try (first | (exfalso; omega) | exact (bx h (by assumption)).elim | exact (bx (by assumption) h).elim) | ((with_reducible refine And.intro ?_ ?_); (focus omega))) <;> try simp -dsimp -implicitDefEqProofs (maxSteps := 1000000) (disch := first | exact dis | fail) only [h1, h2, go_sem])
    exact ⟨none, rfl, rfl, 0, by rw [foldAn, show rows wav xs = rows wao (padWa xs 0) from by simp [padWa, rows, wao]]⟩
  | some i0 =>
    rw [hf] at hI
    obtain ⟨hI0, hk0⟩ := DelI.start hf
    have hb0 := (idxAt_some hf).2.1
    have hr := trivial
    try simp -dsimp -implicitDefEqProofs (maxSteps := 1000000) (disch := first | exact dis | fail) only [hc_slices_DeleteFunc_of_watcher, h1, h2, go_sem]
    repeat' ((first | ((with_reducible refine ACall.atE (hI) [0, 1, 2] ?_ ?_ ?_ ?_ ?_); (focus decide); (focus rfl); (focus (simp -dsimp -implicitDefEqProofs (maxSteps := 1000000) (disch := first | exact dis | fail) only [standsL, h1, h2, go_sem]; done)); (focus (first | rfl | (simp -dsimp -implicitDefEqProofs (maxSteps := 1000000) (disch := first | exact dis | fail) only [h1, h2, go_sem]; done)))) | (with_reducible first | refine w_if ?_ ?_ | refine w_gt ?_ ?_ | refine w_gf ?_ ?_ | refine w_io ?_ ?_ | refine w_gdt ?_ ?_ | refine w_gdf ?_ ?_ | refine w_ite ?_ ?_) <;> intro h <;> (try rw [h]) <;> replace hr := And.intro h hr <;> replace h := nrm h <;> try (first | (exfalso; omega) | exact (bx h (by assumption)).elim | exact (bx (by assumption) h).elim) | ((with_reducible refine And.intro ?_ ?_); (focus omega))) <;> try simp -dsimp -implicitDefEqProofs (maxSteps := 1000000) (disch := first | exact dis | fail) only [h1, h2, go_sem])
    unfold hc_slices_DeleteFunc_of_watcher_l1
    refine hw_loop (xs.length - (i0 + 1)) (fun m ρ A => ∃ zs : List Wa, DelI g xs zs (i0 + 1 + m) ∧ (keptN g xs (i0 + 1 + m)).length < i0 + 1 + m ∧ ρ = rg 12 [(0, .sl 0 5 0 xs.length false), (1, .fn fid [] [.ptr 1 0, .ptr 2 0]), (3, .int .i64 (keptN g xs (i0 + 1 + m)).length), (4, .int .i64 ((i0 + 1 + m : Nat) : Int))] ∧ A = [some (.arr (rows wav zs)), some o1, some o2]) ⟨none, rfl, xs, hI0, by rw [hk0]; omega, by simp only [foldRn, go_sem, Nat.add_zero, hk0]; rfl, rfl⟩ ?_
    rintro m ρ A hm ⟨zs, I, hlt2, rfl, rfl⟩
    have hzl := I.len
    have hI1 := I.at
    by_cases hlt : m < xs.length - (i0 + 1)
    · have hx : xs[i0 + 1 + m]? = some (xs[i0 + 1 + m]'(by omega)) := List.getElem?_eq_getElem (by omega)
      generalize xs[i0 + 1 + m]'(by omega) = s at hx
      rw [hx] at hI1
      have hs := hP s
      have hsk := fun hg => I.skip hx hg
      have hmv := fun hg => I.move hx hg hlt2
      have hjl : i0 + 1 + m < xs.length := by omega
      have hj1 : i0 + 1 + (m + 1) = i0 + 1 + m + 1 := by omega
      generalize hj : i0 + 1 + m = j at *
      cases hg : g s
      · rw [hg] at hs
        obtain ⟨hN, hL⟩ := hmv hg
        generalize (keptN g xs j).length = q at *
        have hq : zs[q]? = some (zs[q]'(by omega)) := List.getElem?_eq_getElem (by omega)
        generalize zs[q]'(by omega) = y at hq
        have hset : (rows wav zs).set q (wav s) = rows wav (zs.set q s) := rows_set
        rw [wav_eq] at hset
        have hr := trivial
        try simp -dsimp -implicitDefEqProofs (maxSteps := 1000000) (disch := first | exact dis | fail) only [hc_slices_DeleteFunc_of_watcher_b1, Int.toNat_natCast, rows_get, hI1, hq, hset, wav_eq, h1, h2, go_sem]
        repeat' ((first | ((with_reducible refine ACall.atE (hs) [1, 2] ?_ ?_ ?_ ?_ ?_); (focus decide); (focus rfl); (focus (simp -dsimp -implicitDefEqProofs (maxSteps := 1000000) (disch := first | exact dis | fail) only [standsL, Int.toNat_natCast, rows_get, hI1, hq, hset, wav_eq, h1, h2, go_sem]; done)); (focus (first | rfl | (simp -dsimp -implicitDefEqProofs (maxSteps := 1000000) (disch := first | exact dis | fail) only [Int.toNat_natCast, rows_get, hI1, hq, hset, wav_eq, h1, h2, go_sem]; done)))) | (with_reducible first | refine w_if ?_ ?_ | refine w_gt ?_ ?_ | refine w_gf ?_ ?_ | refine w_io ?_ ?_ | refine w_gdt ?_ ?_ | refine w_gdf ?_ ?_ | refine w_ite ?_ ?_) <;> intro h <;> (try rw [h]) <;> replace hr := And.intro h hr <;> replace h := nrm h <;> try (first | (exfalso; omega) | exact (bx h (by assumption)).elim | exact (bx (by assumption) h).elim) | ((with_reducible refine And.intro ?_ ?_); (focus omega))) <;> try simp -dsimp -implicitDefEqProofs (maxSteps := 1000000) (disch := first | exact dis | fail) only [Int.toNat_natCast, rows_get, hI1, hq, hset, wav_eq, h1, h2, go_sem])
        rw [hj1]
        refine ⟨some [], rfl, zs.set q s, hN, by omega, ?_, ?_⟩
        · simp only [foldR_eq, go_sem, hL]; rfl
        · simp only [foldA_eq, go_sem, h1, h2]
      · rw [hg] at hs
        obtain ⟨hN, hL⟩ := hsk hg
        have hr := trivial
        try simp -dsimp -implicitDefEqProofs (maxSteps := 1000000) (disch := first | exact dis | fail) only [hc_slices_DeleteFunc_of_watcher_b1, Int.toNat_natCast, rows_get, hI1, wav_eq, h1, h2, go_sem]
        repeat' ((first | ((with_reducible refine ACall.atE (hs) [1, 2] ?_ ?_ ?_ ?_ ?_); (focus decide); (focus rfl); (focus (simp -dsimp -implicitDefEqProofs (maxSteps := 1000000) (disch := first | exact dis | fail) only [standsL, Int.toNat_natCast, rows_get, hI1, wav_eq, h1, h2, go_sem]; done)); (focus (first | rfl | (simp -dsimp -implicitDefEqProofs (maxSteps := 1000000) (disch := first | exact dis | fail) only [Int.toNat_natCast, rows_get, hI1, wav_eq, h1, h2, go_sem]; done)))) | (with_reducible first | refine w_if ?_ ?_ | refine w_gt ?_ ?_ | refine w_gf ?_ ?_ | refine w_io ?_ ?_ | refine w_gdt ?_ ?_ | refine w_gdf ?_ ?_ | refine w_ite ?_ ?_) <;> intro h <;> (try rw [h]) <;> replace hr := And.intro h hr <;> replace h := nrm h <;> try (first | (exfalso; omega) | exact (bx h (by assumption)).elim | exact (bx (by assumption) h).elim) | ((with_reducible refine And.intro ?_ ?_); (focus omega))) <;> try simp -dsimp -implicitDefEqProofs (maxSteps := 1000000) (disch := first | exact dis | fail) only [Int.toNat_natCast, rows_get, hI1, wav_eq, h1, h2, go_sem])
        rw [hj1]
        refine ⟨some [], rfl, zs, hN, by rw [hL]; omega, ?_, ?_⟩
        · simp only [foldR_eq, go_sem, hL]; rfl
        · simp only [foldA_eq, go_sem, h1, h2]
    · have hj : i0 + 1 + m = xs.length := by omega
      rw [hj] at I hlt2 ⊢
      have hkl : keptN g xs xs.length = xs.filter fun c => !g c := by unfold keptN; rw [List.take_length]
      have hdn := I.done
      rw [hkl] at hlt2 ⊢
      generalize (xs.filter fun c => !g c) = ys at hlt2 hdn ⊢
      obtain ⟨hs1, hs2⟩ := slcsWa (show ys.length ≤ xs.length by omega)
      have hcl := clrWa (o1 := o1) (o2 := o2) hzl hlt2 hdn
      have hr := trivial
      try simp -dsimp -implicitDefEqProofs (maxSteps := 1000000) (disch := first | exact dis | fail) only [hc_slices_DeleteFunc_of_watcher_b1, h1, h2, hs1, hs2, hcl, go_sem]
      repeat' ((first | (with_reducible first | refine w_if ?_ ?_ | refine w_gt ?_ ?_ | refine w_gf ?_ ?_ | refine w_io ?_ ?_ | refine w_gdt ?_ ?_ | refine w_gdf ?_ ?_ | refine w_ite ?_ ?_) <;> intro h <;> (try rw [h]) <;> replace hr := And.intro h hr <;> replace h := nrm h <;> try (first | (exfalso; omega) | exact (bx h (by assumption)).elim | exact (bx (by assumption) h).elim) | ((with_reducible refine And.intro ?_ ?_); (focus omega))) <;> try simp -dsimp -implicitDefEqProofs (maxSteps := 1000000) (disch := first | exact dis | fail) only [h1, h2, hs1, hs2, hcl, go_sem])
      exact ⟨none, rfl, rfl, _, rfl⟩
theorem IndexWa1_ok (fid : Nat) (o1 o2 : AO) (h1 : ∀ g, AO.ren g o1 = o1) (h2 : ∀ g, AO.ren g o2 = o2) (g : Wa → Bool) (hP : ∀ s, ACall Try.prog fid [.agg (wav s), .ptr 0 0] [some o1, some o2] fun r A => r = .bool (g s) ∧ A = [some o1, some o2])
    (xs : List Wa) (hn : xs.length ≤ 1000) : ACall Try.prog f_slices_IndexFunc_of_watcher [.sl 0 5 0 xs.length false, .fn fid [] [.ptr 1 0]] [some (.arr (rows wav xs)), some o1, some o2] fun r A => r = .int .i64 (idxV g xs) ∧ A = [some (.arr (rows wav xs)), some o1, some o2] := by
  refine acallH ok_slices_IndexFunc_of_watcher ?_
  have hr := trivial
  try simp -dsimp -implicitDefEqProofs (maxSteps := 1000000) (disch := first | exact dis | fail) only [hc_slices_IndexFunc_of_watcher, go_sem]
  repeat' ((first | (with_reducible first | refine w_if ?_ ?_ | refine w_gt ?_ ?_ | refine w_gf ?_ ?_ | refine w_io ?_ ?_ | refine w_gdt ?_ ?_ | refine w_gdf ?_ ?_ | refine w_ite ?_ ?_) <;> intro h <;> (try rw [h]) <;> replace hr := And.intro h hr <;> replace h := nrm h <;> try (first | (exfalso; omega) | exact (bx h (by assumption)).elim | exact (bx (by assumption) h).elim) | ((with_reducible refine And.intro ?_ ?_); (focus omega))) <;> try simp -dsimp -implicitDefEqProofs (maxSteps := 1000000) (disch := first | exact dis | fail) only [go_sem])
  refine hw_loop xs.length (fun i ρ A => ρ = rg 8 [(0, .sl 0 5 0 xs.length false), (1, .fn fid [] [.ptr 1 0]), (4, .int .i64 xs.length), (5, .int .i64 i)] ∧ A = [some (.arr (rows wav xs)), some o1, some o2] ∧ idxAt g (xs.drop i) i = idxAt g xs 0) ⟨none, rfl, rfl, rfl, rfl⟩ ?_
  rintro i ρ A hi ⟨rfl, rfl, hc⟩
  by_cases hlt : i < xs.length
  · have hx : xs[i]? = some xs[i] := List.getElem?_eq_getElem hlt
    generalize xs[i] = s at hx
    rw [idxAt_step hx] at hc
    have hs := hP s
    cases hg : g s
    · rw [hg] at hs hc
      have hr := trivial
      try simp -dsimp -implicitDefEqProofs (maxSteps := 1000000) (disch := first | exact dis | fail) only [hc_slices_IndexFunc_of_watcher_b1, Int.toNat_natCast, rows_get, hx, wav_eq, h1, h2, go_sem]
      repeat' ((first | ((with_reducible refine ACall.atE (hs) [1, 2] ?_ ?_ ?_ ?_ ?_); (focus decide); (focus rfl); (focus (simp -dsimp -implicitDefEqProofs (maxSteps := 1000000) (disch := first | exact dis | fail) only [standsL, Int.toNat_natCast, rows_get, hx, wav_eq, h1, h2, go_sem]; done)); (focus (first | rfl | (simp -dsimp -implicitDefEqProofs (maxSteps := 1000000) (disch := first | exact dis | fail) only [Int.toNat_natCast, rows_get, hx, wav_eq, h1, h2, go_sem]; done)))) | (with_reducible first | refine w_if ?_ ?_ | refine w_gt ?_ ?_ | refine w_gf ?_ ?_ | refine w_io ?_ ?_ | refine w_gdt ?_ ?_ | refine w_gdf ?_ ?_ | refine w_ite ?_ ?_) <;> intro h <;> (try rw [h]) <;> replace hr := And.intro h hr <;> replace h := nrm h <;> try (first | (exfalso; omega) | exact (bx h (by assumption)).elim | exact (bx (by assumption) h).elim) | ((with_reducible refine And.intro ?_ ?_); (focus omega))) <;> try simp -dsimp -implicitDefEqProofs (maxSteps := 1000000) (disch := first | exact dis | fail) only [Int.toNat_natCast, rows_get, hx, wav_eq, h1, h2, go_sem])
      exact ⟨none, rfl, rfl, rfl, hc⟩
    · rw [hg] at hs hc
      have hr := trivial
      try simp -dsimp -implicitDefEqProofs (maxSteps := 1000000) (disch := first | exact dis | fail) only [hc_slices_IndexFunc_of_watcher_b1, Int.toNat_natCast, rows_get, hx, wav_eq, h1, h2, go_sem]
      repeat' ((first | ((with_reducible refine ACall.atE (hs) [1, 2] ?_ ?_ ?_ ?_ ?_); (focus decide); (focus rfl); (focus (simp -dsimp -implicitDefEqProofs (maxSteps := 1000000) (disch := first | exact dis | fail) only [standsL, Int.toNat_natCast, rows_get, hx, wav_eq, h1, h2, go_sem]; done)); (focus (first | rfl | (simp -dsimp -implicitDefEqProofs (maxSteps := 1000000) (disch := first | exact dis | fail) only [Int.toNat_natCast, rows_get, hx, wav_eq, h1, h2, go_sem]; done)))) | (with_reducible first | refine w_if ?_ ?_ | refine w_gt ?_ ?_ | refine w_gf ?_ ?_ | refine w_io ?_ ?_ | refine w_gdt ?_ ?_ | refine w_gdf ?_ ?_ | refine w_ite ?_ ?_) <;> intro h <;> (try rw [h]) <;> replace hr := And.intro h hr <;> replace h := nrm h <;> try (first | (exfalso; omega) | exact (bx h (by assumption)).elim | exact (bx (by assumption) h).elim) | ((with_reducible refine And.intro ?_ ?_); (focus omega))) <;> try simp -dsimp -implicitDefEqProofs (maxSteps := 1000000) (disch := first | exact dis | fail) only [Int.toNat_natCast, rows_get, hx, wav_eq, h1, h2, go_sem])
      exact ⟨none, rfl, by simp only [idxV, ← hc]; rfl, rfl⟩
  · obtain rfl : i = xs.length := by omega
    rw [List.drop_length] at hc
    have hr := trivial
    try simp -dsimp -implicitDefEqProofs (maxSteps := 1000000) (disch := first | exact dis | fail) only [hc_slices_IndexFunc_of_watcher_b1, go_sem]
    repeat' ((first | (with_reducible first | refine w_if ?_ ?_ | refine w_gt ?_ ?_ | refine w_gf ?_ ?_ | refine w_io ?_ ?_ | refine w_gdt ?_ ?_ | refine w_gdf ?_ ?_ | refine w_ite ?_ ?_) <;> intro h <;> (try rw [h]) <;> replace hr := And.intro h hr <;> replace h := nrm h <;> try (first | (exfalso; omega) | exact (bx h (by assumption)).elim | exact (bx (by assumption) h).elim) | ((with_reducible refine And.intro ?_ ?_); (focus omega))) <;> try simp -dsimp -implicitDefEqProofs (maxSteps := 1000000) (disch := first | exact dis | fail) only [go_sem])
    exact ⟨none, rfl, by simp only [idxV, ← hc, idxAt]; rfl, rfl⟩
theorem DeleteWa1_ok (fid : Nat) (o1 o2 : AO) (h1 : ∀ g, AO.ren g o1 = o1) (h2 : ∀ g, AO.ren g o2 = o2) (g : Wa → Bool) (hP : ∀ s, ACall Try.prog fid [.agg (wav s), .ptr 0 0] [some o1, some o2] fun r A => r = .bool (g s) ∧ A = [some o1, some o2])
    (xs : List Wa) (hn : xs.length ≤ 1000) : ACall Try.prog f_slices_DeleteFunc_of_watcher [.sl 0 5 0 xs.length false, .fn fid [] [.ptr 1 0]] [some (.arr (rows wav xs)), some o1, some o2] fun r A => r = .sl 0 5 0 (xs.filter fun c => !g c).length false ∧ ∃ n, A = [some (.arr (rows wao (padWa (xs.filter fun c => !g c) n))), some o1, some o2] := by
  refine acallH ok_slices_DeleteFunc_of_watcher ?_
  have hI := IndexWa1_ok fid o1 o2 h1 h2 g hP xs hn
  unfold idxV at hI
  cases hf : idxAt g xs 0 with
  | none =>
    rw [hf] at hI
    rw [idxAt_none hf]
    have hr := trivial
    try simp -dsimp -implicitDefEqProofs (maxSteps := 1000000) (disch := first | exact dis | fail) only [hc_slices_DeleteFunc_of_watcher, h1, h2, go_sem]
    repeat' ((first | ((with_reducible refine ACall.atE (hI) [0, 1, 2] ?_ ?_ ?_ ?_ ?_); (focus decide); (focus rfl); (focus (simp -dsimp -implicitDefEqProofs (maxSteps := 1000000) (disch := first | exact dis | fail) only [standsL, h1, h2, go_sem]; done)); (focus (first | rfl | (simp -dsimp -implicitDefEqProofs (maxSteps := 1000000) (disch := first | exact dis | fail) only [h1, h2, go_sem]; done)))) | (with_reducible first | refine w_if ?_ ?_ | refine w_gt ?_ ?_ | refine w_gf ?_ ?_ | refine w_io ?_ ?_ | refine w_gdt ?_ ?_ | refine w_gdf ?_ ?_ | refine w_ite ?_ ?_) <;> intro h <;> (try rw [h]) <;> replace hr := And.intro h hr <;> replace h := nrm h <;> try (first | (exfalso; omega) | exact (bx h (by assumption)).elim | exact (bx (by assumption) h).elim) | ((with_reducible refine And.intro ?_ ?_); (focus omega))) <;> try simp -dsimp -implicitDefEqProofs (maxSteps := 1000000) (disch := first | exact dis | fail) only [h1, h2, go_sem])
    exact ⟨none, rfl, rfl, 0, by rw [foldAn, show rows wav xs = rows wao (padWa xs 0) from by simp [padWa, rows, wao]]⟩
  | some i0 =>
    rw [hf] at hI
    obtain ⟨hI0, hk0⟩ := DelI.start hf
    have hb0 := (idxAt_some hf).2.1
    have hr := trivial
    try simp -dsimp -implicitDefEqProofs (maxSteps := 1000000) (disch := first | exact dis | fail) only [hc_slices_DeleteFunc_of_watcher, h1, h2, go_sem]
    repeat' ((first | ((with_reducible refine ACall.atE (hI) [0, 1, 2] ?_ ?_ ?_ ?_ ?_); (focus decide); (focus rfl); (focus (simp -dsimp -implicitDefEqProofs (maxSteps := 1000000) (disch := first | exact dis | fail) only [standsL, h1, h2, go_sem]; done)); (focus (first | rfl | (simp -dsimp -implicitDefEqProofs (maxSteps := 1000000) (disch := first | exact dis | fail) only [h1, h2, go_sem]; done)))) | (with_reducible first | refine w_if ?_ ?_ | refine w_gt ?_ ?_ | refine w_gf ?_ ?_ | refine w_io ?_ ?_ | refine w_gdt ?_ ?_ | refine w_gdf ?_ ?_ | refine w_ite ?_ ?_) <;> intro h <;> (try rw [h]) <;> replace hr := And.intro h hr <;> replace h := nrm h <;> try (first | (exfalso; omega) | exact (bx h (by assumption)).elim | exact (bx (by assumption) h).elim) | ((with_reducible refine And.intro ?_ ?_); (focus omega))) <;> try simp -dsimp -implicitDefEqProofs (maxSteps := 1000000) (disch := first | exact dis | fail) only [h1, h2, go_sem])
    unfold hc_slices_DeleteFunc_of_watcher_l1
    refine hw_loop (xs.length - (i0 + 1)) (fun m ρ A => ∃ zs : List Wa, DelI g xs zs (i0 + 1 + m) ∧ (keptN g xs (i0 + 1 + m)).length < i0 + 1 + m ∧ ρ = rg 12 [(0, .sl 0 5 0 xs.length false), (1, .fn fid [] [.ptr 1 0]), (3, .int .i64 (keptN g xs (i0 + 1 + m)).length), (4, .int .i64 ((i0 + 1 + m : Nat) : Int))] ∧ A = [some (.arr (rows wav zs)), some o1, some o2]) ⟨none, rfl, xs, hI0, by rw [hk0]; omega, by simp only [foldRn, go_sem, Nat.add_zero, hk0]; rfl, rfl⟩ ?_
    rintro m ρ A hm ⟨zs, I, hlt2, rfl, rfl⟩
    have hzl := I.len
    have hI1 := I.at
    by_cases hlt : m < xs.length - (i0 + 1)
    · have hx : xs[i0 + 1 + m]? = some (xs[i0 + 1 + m]'(by omega)) := List.getElem?_eq_getElem (by omega)
      generalize xs[i0 + 1 + m]'(by omega) = s at hx
      rw [hx] at hI1
      have hs := hP s
      have hsk := fun hg => I.skip hx hg
      have hmv := fun hg => I.move hx hg hlt2
      have hjl : i0 + 1 + m < xs.length := by omega
      have hj1 : i0 + 1 + (m + 1) = i0 + 1 + m + 1 := by omega
      generalize hj : i0 + 1 + m = j at *
      cases hg : g s
      · rw [hg] at hs
        obtain ⟨hN, hL⟩ := hmv hg
        generalize (keptN g xs j).length = q at *
        have hq : zs[q]? = some (zs[q]'(by omega)) := List.getElem?_eq_getElem (by omega)
        generalize zs[q]'(by omega) = y at hq
        have hset : (rows wav zs).set q (wav s) = rows wav (zs.set q s) := rows_set
        rw [wav_eq] at hset
        have hr := trivial
        try simp -dsimp -implicitDefEqProofs (maxSteps := 1000000) (disch := first | exact dis | fail) only [hc_slices_DeleteFunc_of_watcher_b1, Int.toNat_natCast, rows_get, hI1, hq, hset, wav_eq, h1, h2, go_sem]
        repeat' ((first | ((with_reducible refine ACall.atE (hs) [1, 2] ?_ ?_ ?_ ?_ ?_); (focus decide); (focus rfl); (focus (simp -dsimp -implicitDefEqProofs (maxSteps := 1000000) (disch := first | exact dis | fail) only [standsL, Int.toNat_natCast, rows_get, hI1, hq, hset, wav_eq, h1, h2, go_sem]; done)); (focus (first | rfl | (simp -dsimp -implicitDefEqProofs (maxSteps := 1000000) (disch := first | exact dis | fail) only [Int.toNat_natCast, rows_get, hI1, hq, hset, wav_eq, h1, h2, go_sem]; done)))) | (with_reducible first | refine w_if ?_ ?_ | refine w_gt ?_ ?_ | refine w_gf ?_ ?_ | refine w_io ?_ ?_ | refine w_gdt ?_ ?_ | refine w_gdf ?_ ?_ | refine w_ite ?_ ?_) <;> intro h <;> (try rw [h]) <;> replace hr := And.intro h hr <;> replace h := nrm h <;> try (first | (exfalso; omega) | exact (bx h (by assumption)).elim | exact (bx (by assumption) h).elim) | ((with_reducible refine And.intro ?_ ?_); (focus omega))) <;> try simp -dsimp -implicitDefEqProofs (maxSteps := 1000000) (disch := first | exact dis | fail) only [Int.toNat_natCast, rows_get, hI1, hq, hset, wav_eq, h1, h2, go_sem])
        rw [hj1]
        refine ⟨some [], rfl, zs.set q s, hN, by omega, ?_, ?_⟩
        · simp only [foldR_eq, go_sem, hL]; rfl
        · simp only [foldA_eq, go_sem, h1, h2]
      · rw [hg] at hs
        obtain ⟨hN, hL⟩ := hsk hg
        have hr := trivial
        try simp -dsimp -implicitDefEqProofs (maxSteps := 1000000) (disch := first | exact dis | fail) only [hc_slices_DeleteFunc_of_watcher_b1, Int.toNat_natCast, rows_get, hI1, wav_eq, h1, h2, go_sem]
        repeat' ((first | ((with_reducible refine ACall.atE (hs) [1, 2] ?_ ?_ ?_ ?_ ?_); (focus decide); (focus rfl); (focus (simp -dsimp -implicitDefEqProofs (maxSteps := 1000000) (disch := first | exact dis | fail) only [standsL, Int.toNat_natCast, rows_get, hI1, wav_eq, h1, h2, go_sem]; done)); (focus (first | rfl | (simp -dsimp -implicitDefEqProofs (maxSteps := 1000000) (disch := first | exact dis | fail) only [Int.toNat_natCast, rows_get, hI1, wav_eq, h1, h2, go_sem]; done)))) | (with_reducible first | refine w_if ?_ ?_ | refine w_gt ?_ ?_ | refine w_gf ?_ ?_ | refine w_io ?_ ?_ | refine w_gdt ?_ ?_ | refine w_gdf ?_ ?_ | refine w_ite ?_ ?_) <;> intro h <;> (try rw [h]) <;> replace hr := And.intro h hr <;> replace h := nrm h <;> try (first | (exfalso; omega) | exact (bx h (by assumption)).elim | exact (bx (by assumption) h).elim) | ((with_reducible refine And.intro ?_ ?_); (focus omega))) <;> try simp -dsimp -implicitDefEqProofs (maxSteps := 1000000) (disch := first | exact dis | fail) only [Int.toNat_natCast, rows_get, hI1, wav_eq, h1, h2, go_sem])
        rw [hj1]
        refine ⟨some [], rfl, zs, hN, by rw [hL]; omega, ?_, ?_⟩
        · simp only [foldR_eq, go_sem, hL]; rfl
        · simp only [foldA_eq, go_sem, h1, h2]
    · have hj : i0 + 1 + m = xs.length := by omega
      rw [hj] at I hlt2 ⊢
      have hkl : keptN g xs xs.length = xs.filter fun c => !g c := by unfold keptN; rw [List.take_length]
      have hdn := I.done
      rw [hkl] at hlt2 ⊢
      generalize (xs.filter fun c => !g c) = ys at hlt2 hdn ⊢
      obtain ⟨hs1, hs2⟩ := slcsWa (show ys.length ≤ xs.length by omega)
      have hcl := clrWa (o1 := o1) (o2 := o2) hzl hlt2 hdn
      have hr := trivial
      try simp -dsimp -implicitDefEqProofs (maxSteps := 1000000) (disch := first | exact dis | fail) only [hc_slices_DeleteFunc_of_watcher_b1, h1, h2, hs1, hs2, hcl, go_sem]
      repeat' ((first | (with_reducible first | refine w_if ?_ ?_ | refine w_gt ?_ ?_ | refine w_gf ?_ ?_ | refine w_io ?_ ?_ | refine w_gdt ?_ ?_ | refine w_gdf ?_ ?_ | refine w_ite ?_ ?_) <;> intro h <;> (try rw [h]) <;> replace hr := And.intro h hr <;> replace h := nrm h <;> try (first | (exfalso; omega) | exact (bx h (by assumption)).elim | exact (bx (by assumption) h).elim) | ((with_reducible refine And.intro ?_ ?_); (focus omega))) <;> try simp -dsimp -implicitDefEqProofs (maxSteps := 1000000) (disch := first | exact dis | fail) only [h1, h2, hs1, hs2, hcl, go_sem])
      exact ⟨none, rfl, rfl, _, rfl⟩
theorem CountWa_ok (fid : Nat) (o1 : AO) (h1 : ∀ g, AO.ren g o1 = o1) (g : Wa → Bool) (hP : ∀ s, ACall Try.prog fid [.agg (wav s), .ptr 0 0] [some o1] fun r A => r = .bool (g s) ∧ A = [some o1])
    (xs : List Wa) (n : Nat) (hn : xs.length ≤ 1000) : ACall Try.prog f_bcm_count_of_watcher [.sl 0 5 0 xs.length false, .fn fid [] [.ptr 1 0]] [some (.arr (rows wao (padWa xs n))), some o1] fun r A => r = .int .i64 (cntG g xs xs.length) ∧ A = [some (.arr (rows wao (padWa xs n))), some o1] := by
  refine acallH ok_bcm_count_of_watcher ?_
  have hr := trivial
  try simp -dsimp -implicitDefEqProofs (maxSteps := 1000000) (disch := first | exact dis | fail) only [hc_bcm_count_of_watcher, go_sem]
  repeat' ((first | (with_reducible first | refine w_if ?_ ?_ | refine w_gt ?_ ?_ | refine w_gf ?_ ?_ | refine w_io ?_ ?_ | refine w_gdt ?_ ?_ | refine w_gdf ?_ ?_ | refine w_ite ?_ ?_) <;> intro h <;> (try rw [h]) <;> replace hr := And.intro h hr <;> replace h := nrm h <;> try (first | (exfalso; omega) | exact (bx h (by assumption)).elim | exact (bx (by assumption) h).elim) | ((with_reducible refine And.intro ?_ ?_); (focus omega))) <;> try simp -dsimp -implicitDefEqProofs (maxSteps := 1000000) (disch := first | exact dis | fail) only [go_sem])
  unfold hc_bcm_count_of_watcher_l1
  refine hw_loop xs.length (fun i ρ A => ρ = rg 11 [(1, .fn fid [] [.ptr 1 0]), (3, .int .i64 (cntG g xs i)), (5, .sl 0 5 0 xs.length false), (6, .int .i64 xs.length), (7, .int .i64 i)] ∧ A = [some (.arr (rows wao (padWa xs n))), some o1]) ⟨none, rfl, by simp only [foldRn, go_sem]; rfl, rfl⟩ ?_
  rintro i ρ A hi ⟨rfl, rfl⟩
  have hcl := cntG_le (g := g) (xs := xs) (j := i)
  by_cases hlt : i < xs.length
  · have hx : xs[i]? = some xs[i] := List.getElem?_eq_getElem hlt
    generalize xs[i] = s at hx
    have hy := padWa_get (n := n) hx
    have hst := cntG_step (g := g) hx
    have hs := hP s
    cases hg : g s
    · rw [hg] at hs hst
      have hr := trivial
      try simp -dsimp -implicitDefEqProofs (maxSteps := 1000000) (disch := first | exact dis | fail) only [hc_bcm_count_of_watcher_b1, Int.toNat_natCast, rows_get, hy, wao_some, wav_eq, h1, padWa_len, go_sem]
      repeat' ((first | ((with_reducible refine ACall.atE (hs) [1] ?_ ?_ ?_ ?_ ?_); (focus decide); (focus rfl); (focus (simp -dsimp -implicitDefEqProofs (maxSteps := 1000000) (disch := first | exact dis | fail) only [standsL, Int.toNat_natCast, rows_get, hy, wao_some, wav_eq, h1, padWa_len, go_sem]; done)); (focus (first | rfl | (simp -dsimp -implicitDefEqProofs (maxSteps := 1000000) (disch := first | exact dis | fail) only [Int.toNat_natCast, rows_get, hy, wao_some, wav_eq, h1, padWa_len, go_sem]; done)))) | (with_reducible first | refine w_if ?_ ?_ | refine w_gt ?_ ?_ | refine w_gf ?_ ?_ | refine w_io ?_ ?_ | refine w_gdt ?_ ?_ | refine w_gdf ?_ ?_ | refine w_ite ?_ ?_) <;> intro h <;> (try rw [h]) <;> replace hr := And.intro h hr <;> replace h := nrm h <;> try (first | (exfalso; omega) | exact (bx h (by assumption)).elim | exact (bx (by assumption) h).elim) | ((with_reducible refine And.intro ?_ ?_); (focus omega))) <;> try simp -dsimp -implicitDefEqProofs (maxSteps := 1000000) (disch := first | exact dis | fail) only [Int.toNat_natCast, rows_get, hy, wao_some, wav_eq, h1, padWa_len, go_sem])
      exact ⟨some [], rfl, by simp only [foldR_eq, go_sem, hst]; rfl, by simp only [foldA_eq, go_sem, h1]⟩
    · rw [hg] at hs hst
      have hr := trivial
      try simp -dsimp -implicitDefEqProofs (maxSteps := 1000000) (disch := first | exact dis | fail) only [hc_bcm_count_of_watcher_b1, Int.toNat_natCast, rows_get, hy, wao_some, wav_eq, h1, padWa_len, go_sem]
      repeat' ((first | ((with_reducible refine ACall.atE (hs) [1] ?_ ?_ ?_ ?_ ?_); (focus decide); (focus rfl); (focus (simp -dsimp -implicitDefEqProofs (maxSteps := 1000000) (disch := first | exact dis | fail) only [standsL, Int.toNat_natCast, rows_get, hy, wao_some, wav_eq, h1, padWa_len, go_sem]; done)); (focus (first | rfl | (simp -dsimp -implicitDefEqProofs (maxSteps := 1000000) (disch := first | exact dis | fail) only [Int.toNat_natCast, rows_get, hy, wao_some, wav_eq, h1, padWa_len, go_sem]; done)))) | (with_reducible first | refine w_if ?_ ?_ | refine w_gt ?_ ?_ | refine w_gf ?_ ?_ | refine w_io ?_ ?_ | refine w_gdt ?_ ?_ | refine w_gdf ?_ ?_ | refine w_ite ?_ ?_) <;> intro h <;> (try rw [h]) <;> replace hr := And.intro h hr <;> replace h := nrm h <;> try (first | (exfalso; omega) | exact (bx h (by assumption)).elim | exact (bx (by assumption) h).elim) | ((with_reducible refine And.intro ?_ ?_); (focus omega))) <;> try simp -dsimp -implicitDefEqProofs (maxSteps := 1000000) (disch := first | exact dis | fail) only [Int.toNat_natCast, rows_get, hy, wao_some, wav_eq, h1, padWa_len, go_sem])
      exact ⟨some [], rfl, by simp only [foldR_eq, go_sem, hst]; rfl, by simp only [foldA_eq, go_sem, h1]⟩
  · obtain rfl : i = xs.length := by omega
    have hr := trivial
    try simp -dsimp -implicitDefEqProofs (maxSteps := 1000000) (disch := first | exact dis | fail) only [hc_bcm_count_of_watcher_b1, go_sem]
    repeat' ((first | (with_reducible first | refine w_if ?_ ?_ | refine w_gt ?_ ?_ | refine w_gf ?_ ?_ | refine w_io ?_ ?_ | refine w_gdt ?_ ?_ | refine w_gdf ?_ ?_ | refine w_ite ?_ ?_) <;> intro h <;> (try rw [h]) <;> replace hr := And.intro h hr <;> replace h := nrm h <;> try (first | (exfalso; omega) | exact (bx h (by assumption)).elim | exact (bx (by assumption) h).elim) | ((with_reducible refine And.intro ?_ ?_); (focus omega))) <;> try simp -dsimp -implicitDefEqProofs (maxSteps := 1000000) (disch := first | exact dis | fail) only [go_sem])
    exact ⟨none, rfl, rfl, rfl⟩
end Go.Proofs.Ytapoilcpollmpaa
end
