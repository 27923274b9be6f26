/- Framework, part K: operations that write or make memory, the plain ones. Conditions: none. -/
import Derived.Test.YtkkccabchhnebaaFwJ
set_option linter.unusedVariables false
set_option linter.unusedSimpArgs false
namespace Go.SB
section
variable {P : Program} {M : Mod} {F : Nat → Nat → Prop} {A : AHeap} {ρ : List AV} {a : Act} {w : World}

/-- What a step that writes leaves. -/
def Wrote (P : Program) (M : Mod) (F : Nat → Nat → Prop) (A : AHeap) (a : Act) (w : World) (o : Oper) (v : AV) (A' : AHeap) : Prop :=
  ∃ nx w' M' F' u, (execOp a.eval o).run P w = .ok nx w' ∧ (nx = .value u ∨ (nx = .skip ∧ u = undef)) ∧ Conc M' v u ∧ Sim w'.heap M' F' A' ∧ Ext w M F A w' M' F' A'

theorem unfrozen0 (c : Array Value) : Unfrozen c (0, 0) := fun i hi h => by have := h.2; simp at this

/-- A new row of cells. -/
theorem new_cells (S : Sim w.heap M F A) {p : Nat} (hp : A[p]? = some none) {cs : List AV} {us : Array Value} (hL : cs ≠ [] → ConcL M cs us.toList) (t : TypeId) :
    ∃ M' F', (newRow t us).run P w = .ok ⟨w.heap.size, 0, none⟩ (w.alloc (.cells us t)) ∧ Conc M' (.ptr p 0) (.pointer (some ⟨w.heap.size, 0, none⟩)) ∧
      Sim (w.alloc (.cells us t)).heap M' F' (A.set p (some (.cells cs))) ∧ Ext w M F A (w.alloc (.cells us t)) M' F' (A.set p (some (.cells cs))) := by
  have hn := S.notD hp
  obtain ⟨S', E'⟩ := S.alloc hp (w' := w.alloc (.cells us t)) (ob := .cells us t) rfl rfl rfl rfl us.size 1 (o := .cells cs) (by
    refine ⟨fun b => by simp [Mod.put], ?_⟩
    by_cases hc : cs = []
    · subst hc
      exact ⟨us, t, (0, 0), [], by simp only [Mod.put, if_true]; exact heap_alloc_new w _, unfrozen0 us, by simp [Mod.put], .nil, by simp⟩
    · refine ⟨us, t, (0, 0), us.toList, by simp only [Mod.put, if_true]; exact heap_alloc_new w _, unfrozen0 us, by simp [Mod.put], (hL hc).mono (Mod.le_put hn _ _ _ _), ?_⟩
      intro j u hu
      rw [Array.getElem?_toList] at hu
      simpa [Mod.put] using hu)
  refine ⟨_, _, ?_, ?_, S', E'⟩
  · simp [newRow]
  · have := Conc.ptr (M := M.put p w.heap.size 0 us.size 1) (l := p) (off := 0) (.inr rfl)
    simpa [Mod.put] using this

/-- One location's object is turned, by a change of its own blocks; the world's other parts as they were. -/
theorem Sim.setObj (S : Sim w.heap M F A) {l : Nat} {es es' : List (AV × AV)} (hA : A[l]? = some (some (.map es))) {ents' : Array MapEntry} {clock' : Nat}
    (h2 : ents'.size = es'.length) (h3 : ∀ (i : Nat) (k v : AV), es'[i]? = some (k, v) → ∃ en : MapEntry, ents'[i]? = some en ∧ Conc M k en.key ∧ Conc M v en.val) (h4 : ∀ (i : Nat) (en : MapEntry), ents'[i]? = some en → en.born < clock') :
    ∃ w', (setObj (M.blk l) (.map ents' clock')).run P w = .ok () w' ∧ Sim w'.heap M F (A.set l (some (.map es'))) ∧ Ext w M F A w' M F (A.set l (some (.map es'))) := by
  obtain ⟨hD, hF, ents, clock, g1, g2, g3, g4⟩ := S.holds l _ hA
  have hb : M.blk l < w.heap.size := by
    rcases Nat.lt_or_ge (M.blk l) w.heap.size with h | h
    · exact h
    · rw [Array.getElem?_eq_none h] at g1; cases g1
  refine ⟨{ w with heap := w.heap.setIfInBounds (M.blk l) (.map ents' clock') }, ?_, ?_⟩
  · simp [Go.setObj, Sem.run, g1]
  · refine S.update (w' := { w with heap := w.heap.setIfInBounds (M.blk l) (.map ents' clock') }) hA rfl rfl rfl (by simp) ?_ ?_
    · intro b hb'
      simp only
      rw [Array.getElem?_setIfInBounds_ne]
      exact fun e => hb' ((hF b).2 e.symm)
    · refine ⟨hF, ents', clock', ?_, h2, h3, h4⟩
      simp [hb]

theorem eqK_key {lk : LK} {x k : AV} {ux uk : Value} (hx : Conc M x ux) (hk : Conc M k uk) (h : AV.eqK lk x k = some true) : ux = uk := by
  unfold AV.eqK at h
  split at h
  · split at h
    · rename_i e; subst e
      simp only [Option.some.injEq, beq_iff_eq] at h
      rw [conc_int hx, conc_int hk, h]
    · cases h
  · simp only [Option.some.injEq, beq_iff_eq] at h
    rw [conc_bool hx, conc_bool hk, h]
  · simp only [Option.some.injEq, beq_iff_eq] at h
    rw [conc_str hx, conc_str hk, h]
  · cases h

theorem sameBits_key {lk : LK} {x k : AV} {ux uk : Value} (hx : Conc M x ux) (hk : Conc M k uk) (h : AV.eqK lk x k = some true) (n : Nat) : Instr.sameBits (n + 1) uk ux = true := by
  have e := eqK_key hx hk h
  subst e
  unfold AV.eqK at h
  split at h
  · rw [conc_int hx]; simp [Instr.sameBits]
  · rw [conc_bool hx]; simp [Instr.sameBits]
  · rw [conc_str hx]; simp [Instr.sameBits, beq_toListBytes]
  · cases h

theorem mset_ok (S : Sim w.heap M F A) {t kt el : TypeId} {lk : LK} (hu : P.underlying t = some (.map kt el)) (hk : keyOk P kt = some lk) {m k v : AV} {um uk uv : Value}
    (hm : Conc M m um) (hkc : Conc M k uk) (hv : Conc M v uv) {A' : AHeap} (h : amset A lk m k v = some A') :
    ∃ w', (Instr.mapUpdate t um uk uv).run P w = .ok () w' ∧ Sim w'.heap M F A' ∧ Ext w M F A w' M F A' := by
  cases m <;> simp only [amset] at h <;> first | (cases h; done) | skip
  rename_i l
  split at h
  · rename_i es hA
    cases hm with
    | mp hD =>
      obtain ⟨-, hF, ents, clock, g1, g2, g3, g4⟩ := S.holds l _ hA
      have hg : (getObj (M.blk l)).run P w = .ok (.map ents clock) w := by simp [getObj, Sem.run, g1]
      have hck := checkKey_ok' (P := P) (w := w) hk false uk
      split at h
      · rename_i i v' hf
        cases h
        rcases findKey_ok (P := P) (w := w) hk hkc g2 g3 hf with ⟨hh, -⟩ | ⟨j', v2, u, hh, q, qc, k', en, q1, q2, q3, q4⟩
        · cases hh
        · cases hh
          obtain ⟨w', r1, r2, r3⟩ := S.setObj (P := P) hA (es' := es.set i (k, v)) (ents' := ents.modify i fun e => { e with key := uk, val := uv }) (clock' := clock) (by simp [g2]) (by
            intro j kj vj hj
            by_cases e : i = j
            · subst e
              have hlt : i < es.length := by
                rcases Nat.lt_or_ge i es.length with h | h
                · exact h
                · rw [List.getElem?_eq_none h] at q1; cases q1
              rw [List.getElem?_set_self hlt] at hj
              cases hj
              exact ⟨{ en with key := uk, val := uv }, by simp [Array.getElem?_modify, q2], hkc, hv⟩
            · rw [List.getElem?_set_ne e] at hj
              obtain ⟨en', z1, z2, z3⟩ := g3 j kj vj hj
              exact ⟨en', by simp [Array.getElem?_modify, e, z1], z2, z3⟩) (by
            intro j e' hj
            rw [Array.getElem?_modify] at hj
            split at hj
            · rw [Option.map_eq_some_iff] at hj
              obtain ⟨e0, z1, rfl⟩ := hj
              exact g4 j e0 z1
            · exact g4 j e' hj)
          refine ⟨w', ?_, r2, r3⟩
          have hst : (Instr.keyThatStays en.key uk).run P w = .ok uk w := by
            have := sameBits_key hkc q4 q3 9999
            simp [Instr.keyThatStays, this]
          simp [Instr.mapUpdate, run_underlying hu, hg, hck, q, q2, hst, r1]
      · rename_i hf
        cases h
        rcases findKey_ok (P := P) (w := w) hk hkc g2 g3 hf with ⟨-, q⟩ | ⟨j', v2, u, hh, -⟩
        · obtain ⟨w', r1, r2, r3⟩ := S.setObj (P := P) hA (es' := es ++ [(k, v)]) (ents' := ents.push { key := uk, val := uv, born := clock }) (clock' := clock + 1) (by simp [g2]) (by
            intro j kj vj hj
            rw [List.getElem?_append] at hj
            split at hj
            · rename_i hlt
              obtain ⟨en', z1, z2, z3⟩ := g3 j kj vj hj
              exact ⟨en', by rw [Array.getElem?_push, if_neg (by omega)]; exact z1, z2, z3⟩
            · rename_i hge
              rw [List.getElem?_singleton] at hj
              split at hj
              · cases hj
                have : j = ents.size := by omega
                subst this
                exact ⟨_, by rw [Array.getElem?_push, if_pos rfl], hkc, hv⟩
              · cases hj) (by
            intro j e' hj
            rw [Array.getElem?_push] at hj
            split at hj
            · cases hj; exact Nat.lt_succ_self _
            · exact Nat.lt_succ_of_lt (g4 j e' hj))
          refine ⟨w', ?_, r2, r3⟩
          simp [Instr.mapUpdate, run_underlying hu, hg, hck, q, r1]
        · cases hh
      · cases h
  · cases h

theorem set_self {l : Nat} {o : Option AO} (h : A[l]? = some o) : A.set l o = A := by
  apply List.ext_getElem?; intro k
  by_cases e : l = k
  · subst e; rw [List.getElem?_set_self', h]; simp
  · rw [List.getElem?_set_ne e]

theorem del_ok (S : Sim w.heap M F A) {t kt el : TypeId} {lk : LK} (hu : P.underlying t = some (.map kt el)) (hk : keyOk P kt = some lk) {m k : AV} {um uk : Value} {ts : Array TypeId} {ty : TypeId}
    (h0 : ts[0]? = some t) (hm : Conc M m um) (hkc : Conc M k uk) {A' : AHeap} (h : amdel A lk m k = some A') :
    ∃ w' , (Builtin.delete_ ts ty #[um, uk]).run P w = .ok (.tuple #[]) w' ∧ Sim w'.heap M F A' ∧ Ext w M F A w' M F A' := by
  cases m <;> simp only [amdel] at h <;> first | (cases h; done) | skip
  case nilm =>
    cases h; cases hm
    have hck := checkKey_ok' (P := P) (w := w) hk true uk
    exact ⟨w, by simp [Builtin.delete_, h0, run_underlying hu, hck], S, .refl _ _ _ _⟩
  case mp l =>
    split at h
    · rename_i es hA
      cases hm with
      | mp hD =>
        obtain ⟨-, hF, ents, clock, g1, g2, g3, g4⟩ := S.holds l _ hA
        have hg : (getObj (M.blk l)).run P w = .ok (.map ents clock) w := by simp [getObj, Sem.run, g1]
        have hck := checkKey_ok' (P := P) (w := w) hk ents.isEmpty uk
        split at h
        · rename_i i v' hf
          cases h
          rcases findKey_ok (P := P) (w := w) hk hkc g2 g3 hf with ⟨hh, -⟩ | ⟨j', v2, u, hh, q, qc, k', en, q1, q2, q3, q4⟩
          · cases hh
          · cases hh
            have hlt : i < es.length := by
              rcases Nat.lt_or_ge i es.length with h | h
              · exact h
              · rw [List.getElem?_eq_none h] at q1; cases q1
            have hlist : (ents.eraseIdxIfInBounds i).toList = ents.toList.eraseIdx i := by simp [Array.eraseIdxIfInBounds, show i < ents.size by omega]
            obtain ⟨w', r1, r2, r3⟩ := S.setObj (P := P) hA (es' := es.eraseIdx i) (ents' := ents.eraseIdxIfInBounds i) (clock' := clock) (by
                have : (ents.eraseIdxIfInBounds i).toList.length = (es.eraseIdx i).length := by
                  rw [hlist, List.length_eraseIdx, List.length_eraseIdx, Array.length_toList, g2]
                rw [← Array.length_toList]; exact this) (by
              intro j kj vj hj
              have get : ∀ j, (ents.eraseIdxIfInBounds i)[j]? = if j < i then ents[j]? else ents[j + 1]? := by
                intro j
                rw [← Array.getElem?_toList, hlist, List.getElem?_eraseIdx]
                simp
              rw [List.getElem?_eraseIdx] at hj
              rw [get]
              split at hj
              · rename_i hji; rw [if_pos hji]; exact g3 j kj vj hj
              · rename_i hji; rw [if_neg hji]; exact g3 (j + 1) kj vj hj) (by
              intro j e' hj
              have get : (ents.eraseIdxIfInBounds i)[j]? = if j < i then ents[j]? else ents[j + 1]? := by
                rw [← Array.getElem?_toList, hlist, List.getElem?_eraseIdx]
                simp
              rw [get] at hj
              split at hj
              · exact g4 _ e' hj
              · exact g4 _ e' hj)
            refine ⟨w', ?_, r2, r3⟩
            simp [Builtin.delete_, h0, run_underlying hu, hg, hck, q, r1]
        · rename_i hf
          cases h
          rcases findKey_ok (P := P) (w := w) hk hkc g2 g3 hf with ⟨-, q⟩ | ⟨j', v2, u, hh, -⟩
          · obtain ⟨w', r1, r2, r3⟩ := S.setObj (P := P) hA (es' := es) (ents' := ents) (clock' := clock) g2 g3 g4
            rw [set_self hA] at r2 r3
            refine ⟨w', ?_, r2, r3⟩
            simp [Builtin.delete_, h0, run_underlying hu, hg, hck, q, r1]
          · cases hh
        · cases h
    · cases h

theorem clr_ok (S : Sim w.heap M F A) {t kt el : TypeId} (hu : P.underlying t = some (.map kt el)) {m : AV} {um : Value} {ts : Array TypeId} {ty : TypeId}
    (h0 : ts[0]? = some t) (hm : Conc M m um) {A' : AHeap} (h : amclr A m = some A') :
    ∃ w' , (Builtin.clear_ ts ty #[um]).run P w = .ok (.tuple #[]) w' ∧ Sim w'.heap M F A' ∧ Ext w M F A w' M F A' := by
  cases m <;> simp only [amclr] at h <;> first | (cases h; done) | skip
  case nilm =>
    cases h; cases hm
    exact ⟨w, by simp [Builtin.clear_, h0, run_underlying hu], S, .refl _ _ _ _⟩
  case mp l =>
    split at h
    · rename_i es hA
      cases h
      cases hm with
      | mp hD =>
        obtain ⟨-, hF, ents, clock, g1, g2, g3, g4⟩ := S.holds l _ hA
        have hg : (getObj (M.blk l)).run P w = .ok (.map ents clock) w := by simp [getObj, Sem.run, g1]
        obtain ⟨w', r1, r2, r3⟩ := S.setObj (P := P) hA (es' := []) (ents' := #[]) (clock' := clock) rfl (by simp) (by simp)
        exact ⟨w', by simp [Builtin.clear_, h0, run_underlying hu, hg, r1], r2, r3⟩
    · cases h
end
end Go.SB
