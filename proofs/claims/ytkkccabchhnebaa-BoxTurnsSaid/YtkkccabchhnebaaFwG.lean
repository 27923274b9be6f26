/- Framework, part G: nstep is right. Conditions: none. -/
import Derived.Test.YtkkccabchhnebaaFwF
set_option linter.unusedVariables false
set_option linter.unusedSimpArgs false
namespace Go.SB
section
variable {P : Program} {M : Mod} {ρ : List AV} {a : Act} (w : World)

/-- What a step that looks into no memory leaves. -/
def Quiet (P : Program) (M : Mod) (a : Act) (w : World) (o : Oper) (v : AV) : Prop := ∃ u, (execOp a.eval o).run P w = .ok (.value u) w ∧ Conc M v u

theorem wrt_conc {us : List Value} : ∀ {z : List AV} {vs : List Value} {off : Nat} {ns : List AV}, ConcL M z vs → ConcL M ns us → off + ns.length ≤ z.length →
    ConcL M (wrt z off ns) ((us.zipIdx.foldl (fun cs (c, j) => cs.setIfInBounds (off + j) c) vs.toArray).toList) := by
  induction us with
  | nil =>
    intro z vs off ns hz hn hl
    cases hn
    simpa [wrt] using hz
  | cons u us ih =>
    intro z vs off ns hz hn hl
    cases hn with
    | @cons n ns' _ _ h t =>
      simp only [List.length_cons] at hl
      have := ih (z := z.set off n) (vs := vs.set off u) (off := off + 1) (ns := ns') (hz.set h off) t (by simp; omega)
      simp only [wrt]
      rw [List.zipIdx_cons, List.foldl_cons]
      simp only [Nat.add_zero, Nat.zero_add]
      have e : ∀ (l : List (Value × Nat)) (acc : Array Value), (l.map fun x => (x.1, x.2 + 1)).foldl (fun cs (c, j) => cs.setIfInBounds (off + j) c) acc = l.foldl (fun cs (c, j) => cs.setIfInBounds (off + 1 + j) c) acc := by
        intro l
        induction l with
        | nil => intro acc; rfl
        | cons x l ih => intro acc; simp only [List.map_cons, List.foldl_cons]; rw [ih]; congr 2; omega
      have e2 : us.zipIdx 1 = (us.zipIdx 0).map fun x => (x.1, x.2 + 1) := by
        rw [List.zipIdx_succ]
      rw [e2, e]
      have e3 : (vs.toArray.setIfInBounds off u) = (vs.set off u).toArray := by simp
      rw [e3]
      exact this

theorem cells_conc {x : AV} {v : Value} (h : Conc M x v) (hn : x.cells ≠ []) : ConcL M x.cells v.cells.toList := by
  have one : x.cells = [x] → v.cells = #[v] → ConcL M x.cells v.cells.toList := by
    intro e1 e2; rw [e1, e2]; exact .cons h .nil
  cases x with
  | agg cs => cases h with | agg hL => exact hL
  | any => exact absurd rfl hn
  | raw v' =>
    cases h with
    | raw v h1 =>
      refine one rfl ?_
      cases v <;> first | rfl | (simp [Value.oneCell'] at h1)
  | _ => cases h <;> exact one rfl rfl

theorem fill_ok {place : Nat → Option (Nat × Nat)} : ∀ {ps : List (Nat × Value)} {qs : List (Nat × Nat × AV)} {z r : List AV} {vs : List Value},
    ps.length = qs.length → (∀ (i : Nat) (p : Nat × Value) (q : Nat × Nat × AV), ps[i]? = some p → qs[i]? = some q → place p.1 = some (q.1, q.2.1) ∧ 0 < q.2.1 ∧ Conc M q.2.2 p.2) → ConcL M z vs → bfill z qs = some r →
    ∃ rs, Instr.fill place vs.toArray ps = some rs ∧ ConcL M r rs.toList
  | [], [], z, r, vs, _, _, hz, h => by
    simp only [bfill] at h; cases h
    exact ⟨vs.toArray, rfl, by simpa using hz⟩
  | [], _ :: _, _, _, _, hl, _, _, _ => by simp at hl
  | _ :: _, [], _, _, _, hl, _, _, _ => by simp at hl
  | (i, v) :: ps, (off, size, x) :: qs, z, r, vs, hl, hp, hz, h => by
    simp only [bfill] at h
    split at h
    · rename_i hc
      obtain ⟨h1, h0, h2⟩ := hp 0 (i, v) (off, size, x) (by simp) (by simp)
      simp only at h0
      have hcells : ConcL M x.cells v.cells.toList := cells_conc h2 (by intro e; rw [e] at hc; have := hc.1; simp at this; omega)
      have hsz : v.cells.size = size := by rw [← hc.1, ← hcells.length]; simp
      have hlz := hz.length
      simp only [Instr.fill, h1]
      rw [if_neg (by simp [hsz]; omega)]
      have w1 := wrt_conc hz hcells (off := off) (by omega)
      obtain ⟨rs, q1, q2⟩ := fill_ok (ps := ps) (qs := qs) (z := wrt z off x.cells) (r := r) (by simpa using hl) (fun k p q e1 e2 => hp (k + 1) p q (by simpa using e1) (by simpa using e2)) w1 h
      refine ⟨rs, ?_, q2⟩
      rw [← q1, ← Array.foldl_toList, Array.toList_zipIdx]
    · cases h

/-- The parts of a struct's literal. -/
theorem cfields_ok {fs : Array Field} (hρ : ConcL M ρ a.tmps.toList) : ∀ {ps : List (Nat × Operand)} {qs : List (Nat × Nat × Opd)}, cfields P fs ps = some qs →
    ps.length = qs.length ∧ ∀ (i : Nat) (p : Nat × Operand) (q : Nat × Nat × Opd), ps[i]? = some p → qs[i]? = some q →
      (∃ f inf, fs[p.1]? = some f ∧ P.info? f.type = some inf ∧ q.1 = f.offset ∧ q.2.1 = inf.size) ∧ 0 < q.2.1 ∧ Conc M (q.2.2.get ρ) (a.eval p.2)
  | [], qs, h => by cases h; exact ⟨rfl, by intro i p q h; simp at h⟩
  | (i, x) :: ps, qs, h => by
    simp only [cfields] at h
    split at h
    · rename_i f hf
      split at h
      · rename_i inf hi
        split at h
        · rename_i h0
          split at h
          · rename_i y hy
            split at h
            · rename_i r hr
              cases h
              obtain ⟨e1, e2⟩ := cfields_ok hρ hr
              refine ⟨by simp [e1], ?_⟩
              intro k p q hp hq
              match k with
              | 0 =>
                simp at hp hq; subst hp; subst hq
                exact ⟨⟨f, inf, hf, hi, rfl, rfl⟩, h0, copd_ok hy hρ⟩
              | k + 1 => exact e2 k p q (by simpa using hp) (by simpa using hq)
            · cases h
          · cases h
        · cases h
      · cases h
    · cases h

theorem celems_ok {size : Nat} (hρ : ConcL M ρ a.tmps.toList) : ∀ {ps : List (Nat × Operand)} {qs : List (Nat × Nat × Opd)}, celems size ps = some qs →
    ps.length = qs.length ∧ ∀ (i : Nat) (p : Nat × Operand) (q : Nat × Nat × Opd), ps[i]? = some p → qs[i]? = some q →
      q.1 = p.1 * size ∧ q.2.1 = size ∧ Conc M (q.2.2.get ρ) (a.eval p.2)
  | [], qs, h => by cases h; exact ⟨rfl, by intro i p q h; simp at h⟩
  | (i, x) :: ps, qs, h => by
    simp only [celems] at h
    split at h
    · rename_i y hy
      split at h
      · rename_i r hr
        cases h
        obtain ⟨e1, e2⟩ := celems_ok hρ hr
        refine ⟨by simp [e1], ?_⟩
        intro k p q hp hq
        match k with
        | 0 =>
          simp at hp hq; subst hp; subst hq
          exact ⟨rfl, rfl, copd_ok hy hρ⟩
        | k + 1 => exact e2 k p q (by simpa using hp) (by simpa using hq)
      · cases h
    · cases h

theorem run_places {fs : Array Field} (h : fsOk P fs = true) :
    (fs.mapM fun (f : Field) => (do pure (f.offset, ← sizeOf f.type) : Sem (Nat × Nat))).run P w = .ok (fs.map fun (f : Field) => (f.offset, P.cellsOf f.type)) w := by
  rw [Array.mapM_eq_mapM_toList]
  have h' : ∀ f ∈ fs.toList, (P.info? f.type).isSome = true := by
    intro f hf
    simp only [fsOk, Array.all_eq_true] at h
    obtain ⟨i, hi, e⟩ := Array.mem_iff_getElem.1 (Array.mem_toList_iff.1 hf)
    have := h i hi
    rw [e] at this; exact this
  have key : ∀ l : List Field, (∀ f ∈ l, (P.info? f.type).isSome = true) → (l.mapM fun (f : Field) => (do pure (f.offset, ← sizeOf f.type) : Sem (Nat × Nat))).run P w = .ok (l.map fun (f : Field) => (f.offset, P.cellsOf f.type)) w := by
    intro l
    induction l with
    | nil => intro _; rfl
    | cons f l ih =>
      intro hl
      obtain ⟨i, hi⟩ := Option.isSome_iff_exists.1 (hl f (by simp))
      rw [List.mapM_cons]
      simp only [Sem.run_bind, run_sizeOf' w hi, Result.andThen_ok, Sem.run_pure, ih fun g hg => hl g (by simp [hg]), List.map_cons, cellsOf_eq hi]
  simp only [Sem.run_map, key fs.toList h', Result.andThen_ok]
  congr 1
  apply Array.ext'
  simp

theorem build_struct_ok {t : TypeId} {fs : Array Field} {z : List AV} {ps : Array (Nat × Operand)} {qs : List (Nat × Nat × Opd)} {v : AV} (hρ : ConcL M ρ a.tmps.toList)
    (hz : zeroCellsOf P t = some z) (hu : P.underlying t = some (.struct fs)) (hf : fsOk P fs = true) (hq : cfields P fs ps.toList = some qs)
    {r : List AV} (h : bfill z (qs.map fun (o, s, x) => (o, s, x.get ρ)) = some r) :
    ∃ u, (Instr.build t (ps.map fun (i, x) => (i, a.eval x))).run P w = .ok u w ∧ Conc M (.agg r) u := by
  obtain ⟨uz, hz1, hz2, i, hi, hiz⟩ := run_zeroCells (P := P) w hz M
  obtain ⟨e1, e2⟩ := cfields_ok hρ hq
  obtain ⟨rs, q1, q2⟩ := fill_ok (M := M) (place := fun i => (fs.map fun f => (f.offset, P.cellsOf f.type))[i]?) (ps := ps.toList.map fun (i, x) => (i, a.eval x)) (qs := qs.map fun (o, s, x) => (o, s, x.get ρ))
    (z := z) (r := r) (vs := uz.cells.toList) (by simp [e1]) (by
      intro k p q hp hq'
      rw [List.getElem?_map] at hp hq'
      cases h1 : ps.toList[k]? with
      | none => simp [h1] at hp
      | some p0 =>
        cases h2 : qs[k]? with
        | none => simp [h2] at hq'
        | some q0 =>
          simp [h1] at hp; simp [h2] at hq'; subst hp; subst hq'
          obtain ⟨⟨f, inf, g1, g2, g3, g4⟩, g5, g6⟩ := e2 k p0 q0 h1 h2
          refine ⟨?_, g5, g6⟩
          simp [g1, g3, g4, cellsOf_eq g2]) hz2 h
  refine ⟨.agg rs, ?_, .agg q2⟩
  have hp := run_places (P := P) w hf
  simp only [Instr.build, Sem.run_bind, hz1, Result.andThen_ok, run_underlying hu, hp]
  have e : (ps.map fun (x : Nat × Operand) => (x.1, a.eval x.2)).toList = ps.toList.map fun (x : Nat × Operand) => (x.1, a.eval x.2) := by simp
  simp only [e]
  simp only [Array.toArray_toList] at q1
  simp only [q1, Sem.run_pure]

theorem build_array_ok {t el : TypeId} {len size : Nat} {z : List AV} {ps : Array (Nat × Operand)} {qs : List (Nat × Nat × Opd)} {v : AV} (hρ : ConcL M ρ a.tmps.toList)
    (hz : zeroCellsOf P t = some z) (hu : P.underlying t = some (.array len el)) (hs : elemSize P el = some size) (h0 : 0 < size) (hq : celems size ps.toList = some qs)
    {r : List AV} (h : bfill z (qs.map fun (o, s, x) => (o, s, x.get ρ)) = some r) :
    ∃ u, (Instr.build t (ps.map fun (i, x) => (i, a.eval x))).run P w = .ok u w ∧ Conc M (.agg r) u := by
  obtain ⟨uz, hz1, hz2, i, hi, hiz⟩ := run_zeroCells (P := P) w hz M
  obtain ⟨e1, e2⟩ := celems_ok hρ hq
  obtain ⟨rs, q1, q2⟩ := fill_ok (M := M) (place := fun i => some (i * size, size)) (ps := ps.toList.map fun (i, x) => (i, a.eval x)) (qs := qs.map fun (o, s, x) => (o, s, x.get ρ))
    (z := z) (r := r) (vs := uz.cells.toList) (by simp [e1]) (by
      intro k p q hp hq'
      rw [List.getElem?_map] at hp hq'
      cases h1 : ps.toList[k]? with
      | none => simp [h1] at hp
      | some p0 =>
        cases h2 : qs[k]? with
        | none => simp [h2] at hq'
        | some q0 =>
          simp [h1] at hp; simp [h2] at hq'; subst hp; subst hq'
          obtain ⟨g3, g4, g6⟩ := e2 k p0 q0 h1 h2
          refine ⟨?_, ?_, g6⟩
          · simp [g3, g4]
          · simp only [g4]; exact h0) hz2 h
  refine ⟨.agg rs, ?_, .agg q2⟩
  simp only [Instr.build, Sem.run_bind, hz1, Result.andThen_ok, run_underlying hu, run_elemSize w hs]
  have e : (ps.map fun (x : Nat × Operand) => (x.1, a.eval x.2)).toList = ps.toList.map fun (x : Nat × Operand) => (x.1, a.eval x.2) := by simp
  simp only [e]
  simp only [Array.toArray_toList] at q1
  simp only [q1, Sem.run_pure]
end
end Go.SB
