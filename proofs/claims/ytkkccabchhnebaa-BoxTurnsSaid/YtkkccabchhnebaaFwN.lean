/- Framework, part N: every operation that is no call. Conditions: none. -/
import Derived.Test.YtkkccabchhnebaaFwM
set_option linter.unusedVariables false
set_option linter.unusedSimpArgs false
namespace Go.SB
section
variable {P : Program} {M : Mod} {F : Nat → Nat → Prop} {A : AHeap} {ρ : List AV} {a : Act} {w : World}

theorem acpy_ok (S : Sim w.heap M F A) {t e ty : TypeId} {sz : Nat} (ht : P.underlying t = some (.slice e)) (hi : elemSize P e = some sz) (h0 : 0 < sz) {d x : AV} {us ux : Value} (hd : Conc M d us) (hx : Conc M x ux)
    {xs : List (List AV)} (he : elemsOf A sz x = some xs) (hr : rowsOk sz xs = true) {v : AV} {A' : AHeap} (h : acpy A sz d xs = some (v, A')) :
    ∃ w' M' F' u, (Builtin.copy_ #[t, t] ty #[us, ux]).run P w = .ok u w' ∧ Conc M' v u ∧ Sim w'.heap M' F' A' ∧ Ext w M F A w' M' F' A' := by
  obtain ⟨ad, cap, ns, rfl, hcap, hrows, hfc⟩ := elems_ok (P := P) S hx he hr
  have hlen := hrows.1
  have hones := ones_of_rows hr hrows h0
  have none0 : ∀ (b : Option Addr) (c : Nat), us = .slice b 0 c → v = .int .i64 0 → A' = A → ∃ w' M' F' u, (Builtin.copy_ #[t, t] ty #[us, .slice ad xs.length cap]).run P w = .ok u w' ∧ Conc M' v u ∧ Sim w'.heap M' F' A' ∧ Ext w M F A w' M' F' A' := by
    intro b c h1 h2 h3
    subst h1; subst h2; subst h3
    have hf := hfc w rfl 0 (Nat.zero_le _)
    simp only [Nat.zero_mul, List.take_zero] at hf
    refine ⟨w, M, F, .int .i64 0, ?_, .int _ _, S, .refl _ _ _ _⟩
    have hm : Nat.min xs.length 0 = 0 := by simp [Nat.min_def]
    cases b with
    | none => simp [Builtin.copy_, run_underlying ht, Builtin.lenOf, hm, run_elemSize w hi, hf, goInt]
    | some b => simp [Builtin.copy_, run_underlying ht, Builtin.lenOf, hm, run_elemSize w hi, hf, goInt, storeCells]
  cases d <;> simp only [acpy] at h <;> first | (cases h; done) | skip
  case nils => cases h; cases hd; exact none0 none 0 rfl rfl rfl
  case es =>
    cases h
    cases hd with
    | es a0 => exact none0 (some a0) 0 rfl rfl rfl
  case sl l sz' lo len tt =>
    split at h
    · rename_i es hA
      split at h
      · rename_i hc
        obtain ⟨rfl, hle⟩ := hc
        cases h
        obtain ⟨hD, hF, c, ty', fr, uss, g1, g2, g3, g4, g5⟩ := S.holds l _ hA
        cases hd with
        | @sl _ _ _ _ c' _ hD' hs' hc' htt hrm =>
          have hmn : Nat.min xs.length len = min xs.length len := rfl
          have hn : min xs.length len ≤ xs.length := Nat.min_le_left _ _
          have hn2 : min xs.length len ≤ len := Nat.min_le_right _ _
          have hf := hfc w rfl (min xs.length len) hn
          have htake : xs.take len = xs.take (min xs.length len) := by
            rcases Nat.le_total xs.length len with hh | hh
            · rw [Nat.min_eq_left hh, List.take_of_length_le hh, List.take_length]
            · rw [Nat.min_eq_right hh]
          have hxl : (xs.take (min xs.length len)).length = min xs.length len := by rw [List.length_take]; omega
          have hml : min xs.length len * sz' ≤ xs.length * sz' := Nat.mul_le_mul_right _ hn
          have hnl : (ns.take (min xs.length len * sz')).length = min xs.length len * sz' := by rw [List.length_take, hlen]; omega
          rw [htake]
          generalize hk : min xs.length len = k at *
          have hrows' : Rows M sz' (xs.take k) (ns.take (k * sz')) := by
            refine ⟨by rw [hnl, hxl], ?_⟩
            intro i ev hev
            rw [List.getElem?_take] at hev
            split at hev
            · rename_i hik
              obtain ⟨y1, y2⟩ := hrows.2 i ev hev
              refine ⟨y1, ?_⟩
              have := mul_lt (s := sz') hik
              rw [List.drop_take, List.take_take, Nat.min_eq_left (by omega)]
              exact y2
            · cases hev
          have hfit : M.base l + (lo + k) * sz' ≤ c.size := by
            rw [g3]
            have : (lo + k) * sz' ≤ (lo + c') * sz' := Nat.mul_le_mul_right _ (by omega)
            omega
          have hfit2 : M.base l + lo * sz' + (ns.take (k * sz')).length ≤ c.size := by rw [hnl]; rw [Nat.add_mul] at hfit; omega
          have hst := run_storeCells_cells (P := P) (M.blk l) (M.base l + lo * sz') (ns.take (k * sz')) 0 w (by
              intro j hj
              rw [cell_of_block g1]
              rw [Array.getElem?_eq_getElem (by omega)]; rfl) (by
              intro j hj
              exact frozen_of_block g1 g2 (by omega)) (fun v hv => hones v (List.mem_of_mem_take hv))
          rw [Nat.add_zero] at hst
          obtain ⟨c2, k1, k2, k3⟩ := setCells_block (M.blk l) ty' fr (ns.take (k * sz')) (M.base l + lo * sz') w c g1
          obtain ⟨o1, o2, o3, o4⟩ := setCells_world (M.blk l) (ns.take (k * sz')) (M.base l + lo * sz') w
          obtain ⟨uss', z1, z2⟩ := arr_write (M := M) (c := c) (c' := c2) (base := M.base l) (sz := sz') (i0 := lo) (es := es) (uss := uss) (by rw [← hs']; exact g4) (by rw [← hs']; exact g5) (by omega) hrows' (by rw [hxl]; exact hfit) k3
          rw [hxl] at z1 z2
          obtain ⟨S', E'⟩ := S.update hA (w' := w.setCells (M.blk l) (M.base l + lo * sz') (ns.take (k * sz'))) o1 o2 o3 o4 (fun b hb => setCells_other _ b (fun e => hb ((hF b).2 e)) _ _ _)
            (o' := .arr (es.take lo ++ xs.take k ++ es.drop (lo + k))) (by
              refine ⟨hF, c2, ty', fr, uss', k1, fun i hi => g2 i (by omega), by omega, ?_, ?_⟩
              · intro i ev hev
                rw [hs']; exact z1 i ev hev
              · intro i j u hi hu
                rw [hs']; exact z2 i j u hi hu)
          refine ⟨_, M, F, .int .i64 k, ?_, .int _ _, S', E'⟩
          simp [Builtin.copy_, run_underlying ht, Builtin.lenOf, hmn, hk, run_elemSize w hi, hf, goInt, hst]
        | @sl0 _ _ _ _ a0 hD' hs' =>
          have e0 : xs.take 0 = [] := rfl
          have : (es.take lo ++ xs.take 0 ++ es.drop (lo + min xs.length 0)) = es := by
            rw [e0, List.append_nil, Nat.min_zero, Nat.add_zero, List.take_append_drop]
          exact none0 (some a0) 0 rfl (by simp) (by rw [this, set_self hA])
      · cases h
    · cases h

theorem range0_map {α : Type} (f : Nat → α) : (Array.range 0).map f = #[] := by
  apply Array.ext'; simp

theorem zeros_get {z : Array Value} {n i j : Nat} (hj : j < z.size) (hi : i < n) : ((Array.range (n * z.size)).map (fun k => z[k % z.size]!))[i * z.size + j]? = z[j]? := by
  have := mul_lt (s := z.size) hi
  rw [Array.getElem?_map, Array.getElem?_range]
  rw [if_pos (by omega)]
  simp only [Option.map_some]
  have hm : (i * z.size + j) % z.size = j := by
    rw [Nat.add_comm, Nat.add_mul_mod_self_right, Nat.mod_eq_of_lt hj]
  rw [hm, getElem!_pos z j hj, Array.getElem?_eq_getElem hj]

theorem rows_zeros {z : List AV} {uz : Array Value} {sz n : Nat} (hz : ConcL M z uz.toList) (hzl : z.length = sz) (h0 : 0 < sz) : Rows M sz (List.replicate n z) (Builtin.zeroCells uz n).toList := by
  have hs : uz.size = sz := by have := hz.length; simp at this; omega
  refine ⟨by simp [Builtin.zeroCells, hs], ?_⟩
  intro i ev hev
  have hi := lt_of_get hev
  rw [List.length_replicate] at hi
  rw [List.getElem?_replicate, if_pos hi] at hev
  cases hev
  refine ⟨hzl, ?_⟩
  have e : ((Builtin.zeroCells uz n).toList.drop (i * sz)).take sz = uz.toList := by
    apply List.ext_getElem?
    intro j
    rw [List.getElem?_take]
    split
    · rename_i hj
      rw [List.getElem?_drop, Array.getElem?_toList, Array.getElem?_toList, ← hs]
      exact zeros_get (by omega) hi
    · rename_i hj
      rw [List.getElem?_eq_none (by simp [hs]; omega)]
  rw [e]; exact hz

theorem aclrs_ok (S : Sim w.heap M F A) {t e ty : TypeId} {sz : Nat} {z : List AV} {ts : Array TypeId} (ht0 : ts[0]? = some t) (ht : P.underlying t = some (.slice e)) (hi : elemSize P e = some sz) (hz : zeroCellsOf P e = some z) (h0 : 0 < sz) (hr : rowsOk sz [z] = true)
    {x : AV} {ux : Value} (hx : Conc M x ux) {A' : AHeap} (h : aclrs A sz z x = some A') :
    ∃ w', (Builtin.clear_ ts ty #[ux]).run P w = .ok (.tuple #[]) w' ∧ Sim w'.heap M F A' ∧ Ext w M F A w' M F A' := by
  obtain ⟨uz, hz1, hz2, -⟩ := run_zeroCells (P := P) w hz M
  have hzl : z.length = sz := by simp [rowsOk] at hr; exact hr.1
  cases x <;> simp only [aclrs] at h <;> first | (cases h; done) | skip
  case nils => cases h; cases hx; exact ⟨w, by simp [Builtin.clear_, ht0, run_underlying ht], S, .refl _ _ _ _⟩
  case es => cases h; cases hx; exact ⟨w, by simp [Builtin.clear_, ht0, run_underlying ht], S, .refl _ _ _ _⟩
  case sl l sz' lo len tt =>
    split at h
    · rename_i es hA
      split at h
      · rename_i hc
        obtain ⟨rfl, hle⟩ := hc
        cases h
        obtain ⟨hD, hF, c, ty', fr, uss, g1, g2, g3, g4, g5⟩ := S.holds l _ hA
        have zero : ∀ (a0 : Addr) (cap : Nat), len = 0 → ux = .slice (some a0) 0 cap → ∃ w', (Builtin.clear_ ts ty #[ux]).run P w = .ok (.tuple #[]) w' ∧ Sim w'.heap M F (A.set l (some (.arr (es.take lo ++ List.replicate len z ++ es.drop (lo + len))))) ∧
            Ext w M F A w' M F (A.set l (some (.arr (es.take lo ++ List.replicate len z ++ es.drop (lo + len))))) := by
          intro a0 cap e0 e1
          subst e0; subst e1
          have : (es.take lo ++ List.replicate 0 z ++ es.drop (lo + 0)) = es := by simp
          rw [this, set_self hA]
          exact ⟨w, by simp [Builtin.clear_, ht0, run_underlying ht], S, .refl _ _ _ _⟩
        cases hx with
        | @sl _ _ _ _ c' _ hD' hs' hc' htt hrm =>
          have hrows := rows_zeros (n := len) hz2 hzl h0
          have hrall : rowsOk sz' (List.replicate len z) = true := by
            simp only [rowsOk, List.all_cons, List.all_nil, Bool.and_true] at hr
            simp only [rowsOk, List.all_eq_true]
            intro y hy
            rw [(List.mem_replicate.1 hy).2]; exact hr
          have hones := ones_of_rows hrall hrows h0
          have hxl : (List.replicate len z).length = len := by simp
          generalize hns : (Builtin.zeroCells uz.cells len).toList = ns at *
          have hnl : ns.length = len * sz' := by rw [hrows.1, hxl]
          have hfit : M.base l + (lo + len) * sz' ≤ c.size := by
            rw [g3]
            have : (lo + len) * sz' ≤ (lo + c') * sz' := Nat.mul_le_mul_right _ (by omega)
            omega
          have hfit2 : M.base l + lo * sz' + ns.length ≤ c.size := by rw [hnl]; rw [Nat.add_mul] at hfit; omega
          have hst := run_storeCells_cells (P := P) (M.blk l) (M.base l + lo * sz') ns 0 w (by
              intro j hj
              rw [cell_of_block g1]
              rw [Array.getElem?_eq_getElem (by omega)]; rfl) (by
              intro j hj
              exact frozen_of_block g1 g2 (by omega)) hones
          rw [Nat.add_zero] at hst
          obtain ⟨c2, k1, k2, k3⟩ := setCells_block (M.blk l) ty' fr ns (M.base l + lo * sz') w c g1
          obtain ⟨o1, o2, o3, o4⟩ := setCells_world (M.blk l) ns (M.base l + lo * sz') w
          obtain ⟨uss', z1, z2⟩ := arr_write (M := M) (c := c) (c' := c2) (base := M.base l) (sz := sz') (i0 := lo) (es := es) (uss := uss) (by rw [← hs']; exact g4) (by rw [← hs']; exact g5) (by omega) hrows (by rw [hxl]; exact hfit) k3
          rw [hxl] at z1 z2
          obtain ⟨S', E'⟩ := S.update hA (w' := w.setCells (M.blk l) (M.base l + lo * sz') ns) o1 o2 o3 o4 (fun b hb => setCells_other _ b (fun e => hb ((hF b).2 e)) _ _ _)
            (o' := .arr (es.take lo ++ List.replicate len z ++ es.drop (lo + len))) (by
              refine ⟨hF, c2, ty', fr, uss', k1, fun i hi => g2 i (by omega), by omega, ?_, ?_⟩
              · intro i ev hev
                rw [hs']; exact z1 i ev hev
              · intro i j u hi hu
                rw [hs']; exact z2 i j u hi hu)
          cases len with
          | zero => exact zero _ c' rfl rfl
          | succ len =>
            refine ⟨_, ?_, S', E'⟩
            simp [Builtin.clear_, ht0, run_underlying ht, hz1, hns, hst]
        | @sl0 _ _ _ _ a0 hD' hs' => exact zero a0 0 rfl rfl
      · cases h
    · cases h

theorem amksl_ok (S : Sim w.heap M F A) {t e : TypeId} {i : TypeInfo} {z : List AV} (ht : P.underlying t = some (.slice e)) (hi : P.info? e = some i) (hz : zeroCellsOf P e = some z) (hzl : z.length = i.size) (h0 : 0 < i.size) (hb : 0 < i.bytes)
    {p : Nat} {n c : AV} {un uc : Value} (hn : Conc M n un) (hc : Conc M c uc) {v : AV} {A' : AHeap} (h : amksl A p i.size i.bytes z n c = some (v, A')) :
    ∃ w' M' F' u, (Instr.makeSlice t un uc).run P w = .ok u w' ∧ Conc M' v u ∧ Sim w'.heap M' F' A' ∧ Ext w M F A w' M' F' A' := by
  unfold amksl at h
  split at h
  · rename_i hp
    split at h
    · rename_i k1 n k2 c
      split at h
      · rename_i hcond
        obtain ⟨hn0, rfl, hbytes⟩ := hcond
        cases h
        rw [conc_int hn, conc_int hc]
        obtain ⟨uz, hz1, hz2, i', hi', hiz⟩ := run_zeroCells (P := P) w hz M
        rw [hi] at hi'; cases hi'
        have hzs : uz.cells.size = i.size := by have := hz2.length; simp at this; omega
        have hle : n ≤ n * i.bytes := by
          have : (1 : Int) ≤ i.bytes := by omega
          have := Int.mul_le_mul_of_nonneg_left this hn0
          omega
        obtain ⟨m, rfl⟩ := Int.eq_ofNat_of_zero_le hn0
        simp only [Int.toNat_natCast] at *
        have hmb : (i.bytes : Int) * (m : Int) ≤ 140737488355328 := by rw [Int.mul_comm]; exact hbytes
        have hw : IntKind.i64.wrap (m : Int) = m := by
          rw [IntKind.wrap_i64]; omega
        have hrows : Rows M i.size (List.replicate m z) ((List.replicate m uz.cells.toList).flatten) := by
          have hl : ∀ m, ((List.replicate m uz.cells.toList).flatten).length = m * i.size := by
            intro m
            rw [List.length_flatten, List.map_replicate, List.sum_replicate_nat]
            simp [hzs]
          refine ⟨by rw [hl, List.length_replicate], ?_⟩
          intro k ev hev
          have hk := lt_of_get hev
          rw [List.length_replicate] at hk
          rw [List.getElem?_replicate, if_pos hk] at hev
          cases hev
          refine ⟨hzl, ?_⟩
          have e1 : (List.replicate m uz.cells.toList).flatten = (List.replicate k uz.cells.toList).flatten ++ (uz.cells.toList ++ (List.replicate (m - k - 1) uz.cells.toList).flatten) := by
            rw [show m = k + ((m - k - 1) + 1) by omega, List.replicate_append_replicate.symm, List.flatten_append, List.replicate_succ, List.flatten_cons]
            simp
          rw [e1, List.drop_left' (hl k), List.take_left' (by simpa using hzs)]
          exact hz2
        obtain ⟨M', F', q1, q2, q3⟩ := new_arr S hp hrows (c := (Array.range (m * uz.cells.size)).map (fun k => uz.cells[k % uz.cells.size]!)) (by
            intro j u hu
            have hj := lt_of_get hu
            have hl : ((List.replicate m uz.cells.toList).flatten).length = m * i.size := hrows.1.trans (by rw [List.length_replicate])
            rw [hl] at hj
            have hi2 : j / i.size < m := (Nat.div_lt_iff_lt_mul h0).2 hj
            have hdm := Nat.div_add_mod j i.size
            have hmod : j % i.size < i.size := Nat.mod_lt _ h0
            have hrow := (hrows.2 (j / i.size) z (by rw [List.getElem?_replicate, if_pos hi2])).2
            have e2 : (((List.replicate m uz.cells.toList).flatten).drop (j / i.size * i.size)).take i.size = uz.cells.toList := by
              have e1 : (List.replicate m uz.cells.toList).flatten = (List.replicate (j / i.size) uz.cells.toList).flatten ++ (uz.cells.toList ++ (List.replicate (m - j / i.size - 1) uz.cells.toList).flatten) := by
                rw [← List.flatten_cons, ← List.replicate_succ, ← List.flatten_append, List.replicate_append_replicate]
                congr 2; omega
              rw [e1, List.drop_left' (by rw [List.length_flatten, List.map_replicate, List.sum_replicate_nat]; simp [hzs]), List.take_left' (by simpa using hzs)]
            have hu2 : (((List.replicate m uz.cells.toList).flatten).drop (j / i.size * i.size))[j % i.size]? = some u := by
              rw [List.getElem?_drop, show j / i.size * i.size + j % i.size = j by rw [Nat.mul_comm]; exact hdm]; exact hu
            have hu3 : uz.cells.toList[j % i.size]? = some u := by
              rw [← e2, List.getElem?_take, if_pos hmod]; exact hu2
            have := zeros_get (z := uz.cells) (n := m) (i := j / i.size) (j := j % i.size) (by omega) hi2
            rw [hzs, show j / i.size * i.size + j % i.size = j by rw [Nat.mul_comm]; exact hdm] at this
            rw [hzs, this]
            rw [Array.getElem?_toList] at hu3
            exact hu3) e (w' := w.alloc (.cells ((Array.range (m * uz.cells.size)).map (fun k => uz.cells[k % uz.cells.size]!)) e)) rfl rfl rfl rfl (n := m) (cap := m) (tt := true) (Nat.le_refl _) (fun _ => rfl) (by simp [hzs])
        refine ⟨_, M', F', _, ?_, q1, q2, q3⟩
        have hnl : ¬ ((m : Int) < 0) := by omega
        have hnb : ¬ ((281474976710656 : Int) < (i.bytes : Int) * (m : Int)) := by omega
        by_cases hm0 : m = 0
        · subst hm0
          have hw0 : IntKind.i64.wrap 0 = 0 := by decide
          simp [Instr.makeSlice, run_underlying ht, asInt, asIntOf, run_typeInfo' w hi, hw0, run_sizeOf' w hi, newRow, range0_map]
        · have hms : ¬ (m * i.size = 0) := by
            have := Nat.mul_pos (show 0 < m by omega) h0; omega
          simp [Instr.makeSlice, run_underlying ht, asInt, asIntOf, run_typeInfo' w hi, hw, hnl, hnb, run_sizeOf' w hi, newRow, hz1, hzs]
          exact fun hh => absurd hh hms
      · cases h
    · cases h
  · cases h

/-- A slice's literal: the elements, in order. -/
theorem bfill_seq {size : Nat} (h0 : 0 < size) : ∀ {xs : List AV} {k : Nat} {z r : List AV}, (∀ x ∈ xs, x.cells.length = size) →
    bfill z (xs.zipIdx k |>.map fun (x, i) => (i * size, size, x)) = some r →
    r.length = z.length ∧ (∀ j, j < k * size → r[j]? = z[j]?) ∧ ∀ i x, xs[i]? = some x → (r.drop ((k + i) * size)).take size = x.cells := by
  have wrt_get : ∀ (ns : List AV) (z : List AV) (off : Nat), off + ns.length ≤ z.length → ∀ j, (wrt z off ns)[j]? = if off ≤ j ∧ j < off + ns.length then ns[j - off]? else z[j]? := by
    intro ns
    induction ns with
    | nil => intro z off _ j; rw [if_neg (by simp only [List.length_nil]; omega)]; rfl
    | cons n ns ih =>
      intro z off hl j
      simp only [List.length_cons] at hl ⊢
      simp only [wrt]
      rw [ih (z.set off n) (off + 1) (by simp; omega) j]
      by_cases hj : j = off
      · subst hj
        rw [if_neg (by omega), if_pos (by omega), List.getElem?_set_self (by omega)]
        simp
      · rw [List.getElem?_set_ne (fun e => hj e.symm)]
        by_cases hc : off + 1 ≤ j ∧ j < off + 1 + ns.length
        · rw [if_pos hc, if_pos (by omega), show j - off = (j - (off + 1)) + 1 by omega, List.getElem?_cons_succ]
        · rw [if_neg hc, if_neg (by omega)]
  intro xs
  induction xs with
  | nil =>
    intro k z r _ h
    simp only [List.zipIdx_nil, List.map_nil, bfill] at h
    cases h
    exact ⟨rfl, fun _ _ => rfl, by simp⟩
  | cons x xs ih =>
    intro k z r hall h
    simp only [List.zipIdx_cons, List.map_cons, bfill] at h
    split at h
    · rename_i hc
      obtain ⟨h1, h2, h3⟩ := ih (fun y hy => hall y (by simp [hy])) h
      have hx := hall x (by simp)
      refine ⟨by rw [h1, wrt_length], ?_, ?_⟩
      · intro j hj
        rw [h2 j (by rw [Nat.add_mul]; omega), wrt_get _ _ _ (by rw [hx]; exact hc.2), if_neg (by omega)]
      · intro i y hy
        match i with
        | 0 =>
          simp at hy; subst hy
          apply List.ext_getElem?
          intro j
          rw [List.getElem?_take]
          by_cases hj : j < size
          · rw [if_pos hj, List.getElem?_drop, h2 _ (by rw [Nat.add_zero, Nat.add_mul]; omega), wrt_get _ _ _ (by rw [hx]; exact hc.2), if_pos (by rw [hx, Nat.add_zero]; omega)]
            congr 1; rw [Nat.add_zero]; omega
          · rw [if_neg hj, List.getElem?_eq_none (by omega)]
        | i + 1 =>
          have := h3 i y (by simpa using hy)
          rw [show k + (i + 1) = k + 1 + i by omega]; exact this
    · cases h

theorem cseq_ok (hρ : ConcL M ρ a.tmps.toList) : ∀ {ps : List (Nat × Operand)} {k : Nat} {ys : List Opd}, cseq k ps = some ys →
    ps.length = ys.length ∧ ∀ (i : Nat) (p : Nat × Operand) (y : Opd), ps[i]? = some p → ys[i]? = some y → p.1 = k + i ∧ Conc M (y.get ρ) (a.eval p.2)
  | [], k, ys, h => by cases h; exact ⟨rfl, by simp⟩
  | (i, x) :: ps, k, ys, h => by
    simp only [cseq] at h
    split at h
    · rename_i hik
      split at h
      · rename_i y hy
        split at h
        · rename_i r hr
          cases h
          obtain ⟨h1, h2⟩ := cseq_ok hρ hr
          refine ⟨by simp [h1], ?_⟩
          intro j p y' hp hy'
          match j with
          | 0 => simp at hp hy'; subst hp; subst hy'; exact ⟨by simpa using hik, copd_ok hy hρ⟩
          | j + 1 =>
            obtain ⟨a1, a2⟩ := h2 j p y' (by simpa using hp) (by simpa using hy')
            exact ⟨by omega, a2⟩
        · cases h
      · cases h
    · cases h

theorem abslice_ok (S : Sim w.heap M F A) (hρ : ConcL M ρ a.tmps.toList) {t e : TypeId} {size n : Nat} {z : List AV} (ht : P.underlying t = some (.slice e)) (hs : elemSize P e = some size) (hz : zeroCellsOf P e = some z) (hzl : z.length = size)
    (h0 : 0 < size) (hbig : n * size ≤ 16777216) {ps : Array (Nat × Operand)} {ys : List Opd} (hc : cseq 0 ps.toList = some ys) (hn : ys.length = n) {p : Nat} {v : AV} {A' : AHeap}
    (h : abslice A p size (ys.map fun x => (x.get ρ).cells) = some (v, A')) :
    ∃ w' M' F' u, (Instr.buildSlice t n (ps.map fun (i, x) => (i, a.eval x))).run P w = .ok u w' ∧ Conc M' v u ∧ Sim w'.heap M' F' A' ∧ Ext w M F A w' M' F' A' := by
  unfold abslice at h
  split at h
  · rename_i hp
    split at h
    · rename_i hall
      cases h
      obtain ⟨uz, hz1, hz2, i, hi, hiz⟩ := run_zeroCells (P := P) w hz M
      have hzs : uz.cells.size = size := by have := hz2.length; simp at this; omega
      obtain ⟨l1, l2⟩ := cseq_ok hρ hc
      have hsz : ∀ x ∈ ys.map (·.get ρ), x.cells.length = size := by
        intro x hx
        obtain ⟨y, hy, rfl⟩ := List.mem_map.1 hx
        simp only [List.all_eq_true, List.mem_map, forall_exists_index, and_imp] at hall
        simpa using hall _ y hy rfl
      -- the row before it is filled
      let base : List AV := (List.replicate n z).flatten
      have hbl : base.length = n * size := by
        show ((List.replicate n z).flatten).length = _
        rw [List.length_flatten, List.map_replicate, List.sum_replicate_nat, hzl]
      have hbc : ConcL M base ((Array.range (n * size)).map (fun k => (if n * size = 0 then #[] else uz.cells)[k % (if n * size = 0 then #[] else uz.cells).size]!)).toList := by
        by_cases hn0 : n = 0
        · subst hn0
          show ConcL M [] _
          simp
          exact .nil
        · have hne : ¬ (n * size = 0) := by have := Nat.mul_pos (show 0 < n by omega) h0; omega
          simp only [if_neg hne]
          refine ConcL.of_get (by simp [hbl]) ?_
          intro j x u hx hu
          have hj : j < n * size := by have := lt_of_get hx; omega
          have hi2 : j / size < n := (Nat.div_lt_iff_lt_mul h0).2 hj
          have hmod : j % size < size := Nat.mod_lt _ h0
          have hdm := Nat.div_add_mod j size
          have hg := zeros_get (z := uz.cells) (n := n) (i := j / size) (j := j % size) (by omega) hi2
          rw [hzs, show j / size * size + j % size = j by rw [Nat.mul_comm]; exact hdm] at hg
          rw [Array.getElem?_toList, hzs, hg] at hu
          have hx2 : z[j % size]? = some x := by
            have e1 : base = (List.replicate (j / size) z).flatten ++ (z ++ (List.replicate (n - j / size - 1) z).flatten) := by
              show (List.replicate n z).flatten = _
              rw [← List.flatten_cons, ← List.replicate_succ, ← List.flatten_append, List.replicate_append_replicate]
              congr 2; omega
            rw [e1] at hx
            have hl : ((List.replicate (j / size) z).flatten).length = j / size * size := by
              rw [List.length_flatten, List.map_replicate, List.sum_replicate_nat, hzl]
            rw [List.getElem?_append_right (by rw [hl, Nat.mul_comm]; omega), hl, show j - j / size * size = j % size by rw [Nat.mul_comm]; omega,
              List.getElem?_append_left (by omega)] at hx
            exact hx
          obtain ⟨u2, hu2, hc2⟩ := hz2.get hx2
          rw [Array.getElem?_toList] at hu2
          rw [hu2] at hu; cases hu
          exact hc2
      -- it can be filled
      have hfill : ∀ (xs : List AV) (k : Nat) (b : List AV), (∀ x ∈ xs, x.cells.length = size) → (k + xs.length) * size ≤ b.length → ∃ r, bfill b (xs.zipIdx k |>.map fun (x, i) => (i * size, size, x)) = some r := by
        intro xs
        induction xs with
        | nil => intro k b _ _; exact ⟨b, rfl⟩
        | cons x xs ih =>
          intro k b hx hl
          simp only [List.length_cons] at hl
          have hk : k * size + size ≤ b.length := by
            have : (k + 1) * size ≤ (k + (xs.length + 1)) * size := Nat.mul_le_mul_right _ (by omega)
            rw [Nat.add_mul, Nat.one_mul] at this; omega
          obtain ⟨r, hr⟩ := ih (k + 1) (wrt b (k * size) x.cells) (fun y hy => hx y (by simp [hy])) (by rw [wrt_length, show k + 1 + xs.length = k + (xs.length + 1) by omega]; exact hl)
          refine ⟨r, ?_⟩
          simp only [List.zipIdx_cons, List.map_cons, bfill]
          rw [if_pos ⟨hx x (by simp), hk⟩]
          exact hr
      obtain ⟨r, hr⟩ := hfill (ys.map (·.get ρ)) 0 base hsz (by rw [List.length_map, hbl, hn, Nat.zero_add]; exact Nat.le_refl _)
      obtain ⟨b1, b2, b3⟩ := bfill_seq h0 hsz hr
      obtain ⟨rs, q1, q2⟩ := fill_ok (M := M) (place := fun i => some (i * size, size)) (ps := ps.toList.map fun (i, x) => (i, a.eval x)) (qs := ((ys.map (·.get ρ)).zipIdx 0).map fun (x, i) => (i * size, size, x))
        (z := base) (r := r) (by simp [l1]) (by
          intro k p' q' hp' hq'
          rw [List.getElem?_map] at hp' hq'
          rw [List.getElem?_zipIdx, List.getElem?_map] at hq'
          cases h1 : ps.toList[k]? with
          | none => simp [h1] at hp'
          | some p0 =>
            cases h2 : ys[k]? with
            | none => simp [h2] at hq'
            | some y0 =>
              simp [h1] at hp'; simp [h2] at hq'; subst hp'; subst hq'
              obtain ⟨a1, a2⟩ := l2 k p0 y0 h1 h2
              refine ⟨?_, h0, a2⟩
              simp only [Option.some.injEq, Prod.mk.injEq, and_true]
              rw [a1, Nat.zero_add]) hbc hr
      have hrl := q2.length
      obtain ⟨M', F', k1, k2, k3⟩ := new_arr S hp (sz := size) (xs := ys.map fun x => (x.get ρ).cells) (us := rs.toList) (by
          refine ⟨by rw [hrl, b1, hbl, List.length_map, hn], ?_⟩
          intro j ev hev
          rw [List.getElem?_map] at hev
          cases hy : ys[j]? with
          | none => simp [hy] at hev
          | some y =>
            simp [hy] at hev; subst hev
            have := b3 j (y.get ρ) (by rw [List.getElem?_map, hy]; rfl)
            rw [Nat.zero_add] at this
            refine ⟨hsz _ (List.mem_map.2 ⟨y, List.mem_of_getElem? hy, rfl⟩), ?_⟩
            rw [← this]
            exact (q2.drop _).take _) (c := rs) (by intro j u hu; rw [Array.getElem?_toList] at hu; exact hu) e (w' := w.alloc (.cells rs e)) rfl rfl rfl rfl (n := n) (cap := n) (tt := true) (Nat.le_refl _) (fun _ => rfl) (by
          have : rs.size = rs.toList.length := by simp
          rw [this, hrl, b1, hbl]; exact Nat.le_refl _)
      refine ⟨_, M', F', _, ?_, by rw [List.length_map, hn]; exact k1, k2, k3⟩
      have hnb : ¬ (16777216 < n * size) := by omega
      have e : (ps.map fun (x : Nat × Operand) => (x.1, a.eval x.2)).toList = ps.toList.map fun (x : Nat × Operand) => (x.1, a.eval x.2) := by simp
      simp only [Instr.buildSlice, Sem.run_bind, run_underlying ht, Result.andThen_ok, run_elemSize w hs, e]
      rw [if_neg (by simpa using hnb)]
      by_cases hn0 : n * size = 0
      · simp only [hn0, if_true] at q1 ⊢
        simp only [Array.toArray_toList, range0_map] at q1
        simp only [Sem.run_pure, Result.andThen_ok, range0_map, q1]
        simp [newRow]
      · simp only [hn0, if_false] at q1 ⊢
        simp only [Array.toArray_toList] at q1
        simp [hz1, q1, newRow]
    · cases h
  · cases h
end
end Go.SB
