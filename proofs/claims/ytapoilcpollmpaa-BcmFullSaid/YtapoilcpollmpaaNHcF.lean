/- HcF, put together. Conditions: none. -/
import Derived.Test.YtapoilcpollmpaaNHcU
/- Framework, part HcF: whole functions. -/
section
set_option linter.unusedVariables false
set_option linter.unusedSimpArgs false
namespace Go.SB

/-- A drawn region in its order; behind each effect the reads that do not wait for it. -/
def ordL (ios : List IOper) (anc : Nat → Nat → Bool) : List Nat → List Nat → Option (List (IOper × List IOper))
  | [], _ => some []
  | i :: c, R => match ios[i]? with
    | none => none
    | some x => match x.op.cls with
      | .pure => (ordL ios anc c R).map fun l => (x, []) :: l
      | .read => (match x.dst with | some _ => (ordL ios anc c (i :: R)).map fun l => (x, []) :: l | none => none)
      | .make => (ordL ios anc c R).map fun l => (x, []) :: l
      | .eff => (ordL ios anc c R).map fun l => (x, (R.filter fun r => !anc r i).filterMap fun r => ios[r]?) :: l

def nodupB : List Nat → Bool
  | [] => true
  | x :: xs => !xs.contains x && nodupB xs

theorem nodupB_spec : ∀ {l : List Nat}, nodupB l = true → l.Nodup
  | [], _ => List.nodup_nil
  | x :: xs, h => by
    simp only [nodupB, Bool.and_eq_true, Bool.not_eq_true', List.contains_eq_mem, decide_eq_false_iff_not] at h
    exact List.nodup_cons.2 ⟨h.1, nodupB_spec h.2⟩

def dstL (l : List (IOper × List IOper)) : List Nat := l.filterMap fun x => x.1.dst

def decIC (V : List Nat) (N : Nat) : IC → Option HC
  | .skip => some .skip
  | .region m ops kill => (decOps V N (ops.map fun o => (o, [])) [] []).map fun ss => .reg m ss (kill.filterMap fun k => V.idxOf? k)
  | .regionD m ops ord ms kill => match ordL ops (waits ms) ord [] with
    | some os => bif nodupB (dstL os) && ops.all (fun o => dstOk o N) then (decOps V N os [] []).map fun ss => .reg m ss (kill.filterMap fun k => V.idxOf? k) else none
    | none => none
  | .seq x y => match decIC V N x, decIC V N y with
    | some x, some y => some (.seq x y)
    | _, _ => none
  | .cond c kill x y => match lookE V [] c, decIC V N x, decIC V N y with
    | some c, some x, some y => some (.cond c (kill.filterMap fun k => V.idxOf? k) x y)
    | _, _, _ => none
  | .block id x => (decIC V N x).map (.block id)
  | .loop kill x => (decIC V N x).map (.loop (kill.filterMap fun k => V.idxOf? k))
  | .exit id => some (.exit id)
  | .ret => some .ret
  | .label l => some (.label l)
  | .goto l => some (.goto l)
  | .scope l kill x r => match decIC V N x, decIC V N r with
    | some x, some r => some (.scope l (kill.filterMap fun k => V.idxOf? k) x r)
    | _, _ => none

def decRs (V : List Nat) : List RV → Option (List RV)
  | [] => some []
  | .t i :: rs => match V.idxOf? i, decRs V rs with
    | some j, some r => some (.t j :: r)
    | _, _ => none
  | .cell i n :: rs => match V.idxOf? i, decRs V rs with
    | some j, some r => some (.cell j n :: r)
    | _, _ => none

def decFn (P : Program) (fn : Func) (hs : List (List Nat)) (V : List Nat) : Option (HC × List RV) :=
  bif fn.name == "runtime.NumGoroutine" || !nodupB V then none else match fn.body with
  | none => none
  | some c => match comp P c hs with
    | some (ic, []) => (match compRs P fn.results.toList with
      | some rs => (match decIC V fn.ntmps ic, decRs V rs with
        | some hc, some rs => some (hc, rs)
        | _, _ => none)
      | none => none)
    | _ => none

section
variable {P : Program} {V : List Nat} {N : Nat} {ρ' ρ : List AV} {A : AHeap} {σ : List Ent} {p0 : Nat}

theorem seqL_ops {K : List AV → AHeap → Prop} : ∀ (os : List IOper) (ρ : List AV) (A : AHeap), seqL P p0 (os.map fun o => (o, [])) ρ A K → awpOps P p0 os ρ A K
  | [], ρ, A, h => h
  | o :: os, ρ, A, h => by
    simp only [List.map_cons, seqL] at h
    simp only [awpOps]
    split at h
    · split at h
      · rename_i v hv; exact awpG_yld hv (seqL_ops os _ _ h)
      · exact h.elim
    · exact awpG_mono h fun ρ2 A2 h2 => seqL_ops os _ _ h2.2

theorem cls_pure {op : IOp} (h : op.cls = .pure ∨ op.cls = .read) : pureOp op = true := by
  unfold pureOp; rcases h with h | h <;> rw [h]
theorem cls_eff {op : IOp} (h : op.cls = .make ∨ op.cls = .eff) : pureOp op = false := by
  unfold pureOp; rcases h with h | h <;> rw [h]

/-- What was read earlier stands where it was put. -/
def RdOK (ios : List IOper) (R : Chk) (ds : List Nat) (ρ : List AV) : Prop := ∀ i v, (i, v) ∈ R → ∃ x d, ios[i]? = some x ∧ x.dst = some d ∧ ρ.getD d .any = v ∧ d ∉ ds

theorem RdOK.aput {ios : List IOper} {R : Chk} {ds : List Nat} {d : Option Nat} {v : AV} (h : RdOK ios R (d.toList ++ ds) ρ) : RdOK ios R ds (aput ρ d v) := by
  intro i u hi
  obtain ⟨x, d', h1, h2, h3, h4⟩ := h i u hi
  simp only [List.mem_append, not_or] at h4
  refine ⟨x, d', h1, h2, ?_, h4.2⟩
  rw [getD_aput (fun e => h4.1 (by rw [e]; simp))]; exact h3

theorem seqL_ord {ios : List IOper} {anc : Nat → Nat → Bool} {K : List AV → AHeap → Prop} : ∀ (c : List Nat) (os : List (IOper × List IOper)) (R : Chk) (ρ : List AV) (A : AHeap), ordL ios anc c (R.map (·.1)) = some os → (dstL os).Nodup → (∀ i ∈ c, ∀ x, ios[i]? = some x → ∀ d, x.dst = some d → d < ρ.length) →
    RdOK ios R (dstL os) ρ → seqL P p0 os ρ A K → awpOrd P p0 ios anc K c R ρ A
  | [], os, R, ρ, A, h, hn, hb, hR, hs => by cases h; exact hs
  | i :: c, os, R, ρ, A, h, hn, hb, hR, hs => by
    simp only [ordL] at h
    simp only [awpOrd]
    split at h
    · cases h
    rename_i x hx
    rw [hx]
    simp only []
    have hb' : ∀ v, ∀ j ∈ c, ∀ y, ios[j]? = some y → ∀ d, y.dst = some d → d < (aput ρ x.dst v).length := fun v j hj y hy d hd => by
      rw [aput_length]; exact hb j (List.mem_cons_of_mem _ hj) y hy d hd
    have dsplit : ∀ (l : List (IOper × List IOper)) (k : List IOper), dstL ((x, k) :: l) = x.dst.toList ++ dstL l := fun l k => by
      unfold dstL; cases hd : x.dst <;> simp [hd]
    split at h
    · rename_i hc
      cases ho : ordL ios anc c (R.map (·.1)) with
      | none => rw [ho] at h; cases h
      | some l =>
        rw [ho] at h; cases h
        simp only [seqL, cls_pure (.inl hc)] at hs
        rw [hc]
        simp only []
        rw [dsplit] at hn hR
        split at hs
        · rename_i v hv
          rw [hv]
          exact seqL_ord c l R _ A ho (List.nodup_append.1 hn).2.1 (hb' v) hR.aput hs
        · exact hs.elim
    · rename_i hc
      split at h
      · rename_i d hd
        cases ho : ordL ios anc c (i :: R.map (·.1)) with
        | none => rw [ho] at h; cases h
        | some l =>
          rw [ho] at h; cases h
          simp only [seqL, cls_pure (.inr hc)] at hs
          rw [hc]
          simp only []
          rw [dsplit] at hn hR
          split at hs
          · rename_i v hv
            rw [hv]
            rw [hd] at hn hR hs hb'
            simp only [hd]
            refine seqL_ord c l ((i, v) :: R) _ A ho (List.nodup_append.1 hn).2.1 (hb' v) ?_ hs
            intro j u hj
            rcases List.mem_cons.1 hj with e | e
            · cases e
              refine ⟨x, d, hx, hd, ?_, fun hm => ?_⟩
              · exact getD_set_self (hb i (by simp) x hx d hd)
              · exact (List.nodup_append.1 hn).2.2 d (by simp) d hm rfl
            · exact hR.aput j u e
          · exact hs.elim
      · cases h
    · rename_i hc
      cases ho : ordL ios anc c (R.map (·.1)) with
      | none => rw [ho] at h; cases h
      | some l =>
        rw [ho] at h; cases h
        simp only [seqL, cls_eff (.inl hc)] at hs
        rw [hc]
        simp only []
        rw [dsplit] at hn hR
        exact awpG_mono3 hs fun r A2 h2 => seqL_ord c l R _ A2 ho (List.nodup_append.1 hn).2.1 (hb' r) hR.aput h2.2
    · rename_i hc
      cases ho : ordL ios anc c (R.map (·.1)) with
      | none => rw [ho] at h; cases h
      | some l =>
        rw [ho] at h; cases h
        simp only [seqL, cls_eff (.inr hc)] at hs
        rw [hc]
        simp only []
        rw [dsplit] at hn hR
        refine awpG_mono3 hs fun r A2 h2 => ⟨?_, seqL_ord c l R _ A2 ho (List.nodup_append.1 hn).2.1 (hb' r) hR.aput h2.2⟩
        rw [chks_iff]
        intro j v hj ha
        obtain ⟨y, d, y1, y2, y3, _⟩ := hR.aput (v := r) j v hj
        obtain ⟨d', e1, e2⟩ := h2.1 y (List.mem_filterMap.2 ⟨j, List.mem_filter.2 ⟨List.mem_map.2 ⟨(j, v), hj, rfl⟩, by simp [ha]⟩, y1⟩)
        rw [y2] at e1; cases e1
        exact ⟨y, y1, by rw [e2, y3]⟩

theorem any_ren (g : Nat → Option Nat) : AV.ren g .any = .any := rfl
theorem gather_map {f : AV → AV} (hf : f .any = .any) : gather V (ρ.map f) = (gather V ρ).map f := by
  unfold gather
  rw [List.map_map]
  refine List.map_congr_left fun t _ => ?_
  simp only [Function.comp_apply, List.getD, List.getElem?_map]
  cases ρ[t]? <;> simp [hf]
theorem gather_foldR {n0 : Nat} {ks : Option (List Nat)} : gather V (foldRo n0 ks ρ) = foldRo n0 ks (gather V ρ) := by
  cases ks with
  | none => rfl
  | some ks => exact gather_map rfl
theorem gather_any (hV : V.Nodup) {k : Nat} : gather V (ρ.set k .any) = match V.idxOf? k with | some j => (gather V ρ).set j .any | none => gather V ρ := by
  by_cases hk : k < ρ.length
  · have := gather_aput (ρ := ρ) hV (d := some k) (v := .any) (fun j h => by cases h; exact hk)
    simp only [aput, Option.bind_some] at this
    rw [this]
    cases V.idxOf? k <;> rfl
  · rw [List.set_eq_of_length_le (by omega)]
    cases h : V.idxOf? k with
    | none => rfl
    | some j =>
      refine (list_ext_getD (by simp) fun i hi => ?_)
      by_cases e : i = j
      · subst e
        simp only []
        rw [getD_set_self (by simpa using hi), gather_getD h]
        simp [List.getD, List.getElem?_eq_none (by omega : ρ.length ≤ k)]
      · simp only []
        rw [getD_set_ne e]
theorem gather_mask (hV : V.Nodup) : ∀ {ks : List Nat} {ρ : List AV}, gather V (mask ks ρ) = mask (ks.filterMap fun k => V.idxOf? k) (gather V ρ)
  | [], ρ => rfl
  | k :: ks, ρ => by
    show gather V (mask ks (ρ.set k .any)) = _
    rw [gather_mask hV, gather_any hV, List.filterMap_cons]
    cases V.idxOf? k <;> rfl
theorem nlA_map {f : Nat × Nat → Nat × Nat} : ∀ {nl : List (Nat × Nat)}, nlA (nl.map f) = nlA nl
  | [] => rfl
  | _ :: t => by simp only [List.map_cons, nlA, nlA_map (nl := t)]
theorem gather_nl (hV : V.Nodup) : ∀ {nl : List (Nat × Nat)} {ρ : List AV} {p : Nat}, nlOk nl (gather V ρ) = true → nlOk (nl.map fun q => (V.getD q.1 0, q.2)) ρ = true ∧ gather V (nlR (nl.map fun q => (V.getD q.1 0, q.2)) p ρ) = nlR nl p (gather V ρ)
  | [], _, _, _ => ⟨rfl, rfl⟩
  | (r, z) :: t, ρ, p, h => by
    simp only [nlOk, Bool.and_eq_true] at h
    obtain ⟨⟨h1, h2⟩, h3⟩ := h
    have hr : r < V.length := by
      refine Nat.lt_of_not_le fun hle => ?_
      rw [List.getD, List.getElem?_eq_none (by simpa [gather] using hle)] at h2; cases h2
    have hidx : V.idxOf? (V.getD r 0) = some r := by
      exact getElem_idxOf hV (by rw [List.getD, List.getElem?_eq_getElem hr]; rfl)
    have hg : (gather V ρ).getD r .any = ρ.getD (V.getD r 0) .any := gather_getD hidx
    have hlt : V.getD r 0 < ρ.length := by
      refine Nat.lt_of_not_le fun hle => ?_
      rw [hg] at h2; generalize V.getD r 0 = k at hle h2; rw [List.getD, List.getElem?_eq_none hle] at h2; cases h2
    have hs : ∀ v, gather V (ρ.set (V.getD r 0) v) = (gather V ρ).set r v := fun v => by
      have := gather_aput (ρ := ρ) hV (d := some (V.getD r 0)) (v := v) (fun j h => by cases h; exact hlt)
      simp only [aput, Option.bind_some, hidx] at this
      exact this
    constructor
    · simp only [List.map_cons, nlOk, Bool.and_eq_true]
      refine ⟨⟨h1, by rw [← hg]; exact h2⟩, ?_⟩
      rw [← hs] at h3
      exact (gather_nl hV (p := p) h3).1
    · simp only [List.map_cons, nlR]
      have h4 : nlOk t (gather V (ρ.set (V.getD r 0) (.sl p z 0 0 false))) = true := by
        rw [hs]
        exact nlOk_set h3 rfl
      rw [(gather_nl hV (p := p + 1) h4).2, hs]
theorem mask_len : ∀ {ks : List Nat} {ρ : List AV}, (mask ks ρ).length = ρ.length
  | [], ρ => rfl
  | k :: ks, ρ => by
    show (mask ks (ρ.set k .any)).length = _
    rw [mask_len]; simp
theorem foldRo_len {n0 : Nat} {ks : Option (List Nat)} : (foldRo n0 ks ρ).length = ρ.length := by
  cases ks with
  | none => rfl
  | some ks => simp [foldRo, foldR]

theorem awpOps_len {K : List AV → AHeap → Prop} : ∀ (os : List IOper) (ρ : List AV) (A : AHeap), N ≤ ρ.length → awpOps P p0 os ρ A K → awpOps P p0 os ρ A fun ρ A => N ≤ ρ.length ∧ K ρ A
  | [], ρ, A, hN, h => ⟨hN, h⟩
  | o :: os, ρ, A, hN, h => awpG_mono2 h fun ρ2 A2 hl h2 => awpOps_len os ρ2 A2 (by rw [hl]; exact hN) h2

/-- **What is read out of the IR is sound.** -/
theorem hwp_ok {n0 : Nat} (hV : V.Nodup) : ∀ (ic : IC) (hc : HC) (ρ : List AV) (A : AHeap) (Q Q' : IExit → List AV → AHeap → Prop), decIC V N ic = some hc → N ≤ ρ.length → hwp P n0 hc (gather V ρ) A Q' →
    (∀ e ρ A, N ≤ ρ.length → Q' e (gather V ρ) A → Q e ρ A) → awp P n0 ic ρ A Q
  | .skip, hc, ρ, A, Q, Q', h, hN, hw, hq => by cases h; exact hq _ _ _ hN hw
  | .region m ops kill, hc, ρ, A, Q, Q', h, hN, hw, hq => by
    simp only [decIC] at h
    cases hd : decOps V N (ops.map fun o => (o, [])) [] [] with
    | none => rw [hd] at h; cases h
    | some ss =>
      rw [hd] at h; cases h
      simp only [hwp] at hw
      simp only [awp]
      refine seqL_ops ops ρ _ (dec_ok hV _ [] [] ss _ ρ _ _ _ hd str_nil inv_nil (good_nil hV) (by simp [gather]) hN hw fun ρ2 A2 hl hk => ?_)
      rw [← gather_mask hV] at hk
      exact hq _ _ _ (by rw [mask_len]; exact hl) hk
  | .regionD m ops ord ms kill, hc, ρ, A, Q, Q', h, hN, hw, hq => by
    simp only [decIC] at h
    split at h
    · rename_i os ho
      cases hc : (nodupB (dstL os) && ops.all fun o => dstOk o N) with
      | false => rw [hc] at h; cases h
      | true =>
        rw [hc] at h
        simp only [cond_true] at h
        rw [Bool.and_eq_true] at hc
        cases hd : decOps V N os [] [] with
        | none => rw [hd] at h; cases h
        | some ss =>
          rw [hd] at h; cases h
          simp only [hwp] at hw
          simp only [awp]
          refine seqL_ord ord os [] ρ _ ho (nodupB_spec hc.1) (fun i _ x hx d hxd => ?_) (fun i v h => by cases h)
            (dec_ok hV _ [] [] ss _ ρ _ _ _ hd str_nil inv_nil (good_nil hV) (by simp [gather]) hN hw fun ρ2 A2 hl hk => ?_)
          · have := List.all_eq_true.1 hc.2 x (List.mem_of_getElem? hx)
            unfold dstOk at this
            rw [hxd] at this
            exact Nat.lt_of_lt_of_le (by simpa [Nat.blt_eq] using this) hN
          · rw [← gather_mask hV] at hk
            exact hq _ _ _ (by rw [mask_len]; exact hl) hk
    · cases h
  | .seq x y, hc, ρ, A, Q, Q', h, hN, hw, hq => by
    simp only [decIC] at h
    split at h
    · rename_i x' y' hx hy
      cases h
      simp only [hwp] at hw
      simp only [awp]
      refine hwp_ok hV x x' ρ A _ _ hx hN hw fun e ρ2 A2 hl hk => ?_
      cases e with
      | normal => exact hwp_ok hV y y' ρ2 A2 _ _ hy hl hk hq
      | exit i => exact hq _ _ _ hl hk
      | goto i => exact hq _ _ _ hl hk
      | ret => exact hq _ _ _ hl hk
    · cases h
  | .cond c kill x y, hc, ρ, A, Q, Q', h, hN, hw, hq => by
    simp only [decIC] at h
    split at h
    · rename_i c' x' y' hc hx hy
      cases h
      simp only [hwp] at hw
      simp only [awp]
      obtain ⟨v, hv, hw⟩ := hw
      rw [lookE_ok (good_nil hV) hc] at hv
      cases hv
      unfold awpIf at hw
      split at hw
      · rename_i b hb
        rw [hb]
        refine ⟨fun e => ?_, fun e => ?_⟩
        · have := hw.1 e
          rw [← gather_mask hV] at this
          exact hwp_ok hV x x' _ A _ _ hx (by rw [mask_len]; exact hN) this hq
        · have := hw.2 e
          rw [← gather_mask hV] at this
          exact hwp_ok hV y y' _ A _ _ hy (by rw [mask_len]; exact hN) this hq
      · exact hw.elim
    · cases h
  | .block id x, hc, ρ, A, Q, Q', h, hN, hw, hq => by
    simp only [decIC] at h
    cases hx : decIC V N x with
    | none => rw [hx] at h; cases h
    | some x' =>
      rw [hx] at h; cases h
      simp only [hwp] at hw
      simp only [awp]
      refine hwp_ok hV x x' ρ A _ _ hx hN hw fun e ρ2 A2 hl hk => ?_
      cases e with
      | normal => exact hq _ _ _ hl hk
      | exit i =>
        simp only [blockQ] at hk ⊢
        split
        · rename_i e; rw [if_pos e] at hk; exact hq _ _ _ hl hk
        · rename_i e; rw [if_neg e] at hk; exact hq _ _ _ hl hk
      | goto i => exact hq _ _ _ hl hk
      | ret => exact hq _ _ _ hl hk
  | .loop kill x, hc, ρ, A, Q, Q', h, hN, hw, hq => by
    simp only [decIC] at h
    cases hx : decIC V N x with
    | none => rw [hx] at h; cases h
    | some x' =>
      rw [hx] at h; cases h
      simp only [hwp] at hw
      simp only [awp]
      obtain ⟨I, ⟨i, nl, ks, hn, hk, h0⟩, hs⟩ := hw
      rw [← gather_mask hV] at hn h0
      obtain ⟨n1, n2⟩ := gather_nl hV hn (p := A.length)
      refine ⟨fun i ρ A => N ≤ ρ.length ∧ I i (gather V ρ) A, ⟨i, nl.map fun q => (V.getD q.1 0, q.2), ks, n1, hk, by rw [foldRo_len, nlR_len, mask_len]; exact hN, ?_⟩, ?_⟩
      · rw [gather_foldR, n2, nlA_map]; exact h0
      · rintro i ρ2 A2 ⟨hl, hI⟩
        refine hwp_ok hV x x' ρ2 A2 _ _ hx hl (hs i _ A2 hI) fun e ρ3 A3 hl3 hk => ?_
        cases e with
        | normal =>
          obtain ⟨j, hj, ks, hok, hI⟩ := hk
          refine ⟨j, hj, ks, hok, by rw [foldRo_len, mask_len]; exact hl3, ?_⟩
          rw [gather_foldR, gather_mask hV]; exact hI
        | exit i => exact hq _ _ _ hl3 hk
        | goto i => exact hq _ _ _ hl3 hk
        | ret => exact hq _ _ _ hl3 hk
  | .exit id, hc, ρ, A, Q, Q', h, hN, hw, hq => by cases h; exact hq _ _ _ hN hw
  | .ret, hc, ρ, A, Q, Q', h, hN, hw, hq => by cases h; exact hq _ _ _ hN hw
  | .label l, hc, ρ, A, Q, Q', h, hN, hw, hq => by cases h; exact hq _ _ _ hN hw
  | .goto l, hc, ρ, A, Q, Q', h, hN, hw, hq => by cases h; exact hq _ _ _ hN hw
  | .scope l kill x r, hc, ρ, A, Q, Q', h, hN, hw, hq => by
    simp only [decIC] at h
    split at h
    · rename_i x' r' hx hr
      cases h
      simp only [hwp] at hw
      simp only [awp]
      obtain ⟨J, h0, hs⟩ := hw
      refine ⟨fun i ρ A => N ≤ ρ.length ∧ J i (gather V ρ) A, ?_, ?_⟩
      · refine hwp_ok hV x x' ρ A _ _ hx hN h0 fun e ρ3 A3 hl3 hk => ?_
        cases e with
        | goto i =>
          obtain ⟨e1, i, ks, hok, hI⟩ := hk
          refine ⟨e1, i, ks, hok, by rw [foldRo_len, mask_len]; exact hl3, ?_⟩
          rw [gather_foldR, gather_mask hV]; exact hI
        | exit i => exact hq _ _ _ hl3 hk
        | normal => exact hq _ _ _ hl3 hk
        | ret => exact hq _ _ _ hl3 hk
      · rintro i ρ2 A2 ⟨hl, hI⟩
        refine hwp_ok hV r r' ρ2 A2 _ _ hr hl (hs i _ A2 hI) fun e ρ3 A3 hl3 hk => ?_
        cases e with
        | goto i =>
          obtain ⟨e1, j, hj, ks, hok, hI⟩ := hk
          refine ⟨e1, j, hj, ks, hok, by rw [foldRo_len, mask_len]; exact hl3, ?_⟩
          rw [gather_foldR, gather_mask hV]; exact hI
        | exit i => exact hq _ _ _ hl3 hk
        | normal => exact hq _ _ _ hl3 hk
        | ret => exact hq _ _ _ hl3 hk
    · cases h

theorem decRs_ok : ∀ {rs rs' : List RV}, decRs V rs = some rs' → rvs ρ A rs = rvs (gather V ρ) A rs'
  | [], rs', h => by cases h; rfl
  | .t i :: rs, rs', h => by
    simp only [decRs] at h
    split at h
    · rename_i j r hj hr
      cases h
      simp only [rvs, decRs_ok hr, gather_getD hj]
    · cases h
  | .cell i n :: rs, rs', h => by
    simp only [decRs] at h
    split at h
    · rename_i j r hj hr
      cases h
      simp only [rvs, decRs_ok hr, gather_getD hj]
    · cases h

/-- Function f of P does what hc does. -/
def HFn (P : Program) (f : FuncId) (V : List Nat) (hc : HC) (rs : List RV) : Prop :=
  ∀ (args : List AV) (A A1 : AHeap) (K : AV → AHeap → Prop), Vw A A1 → hwp P A.length hc (V.map fun t => args.getD t .any) A1 (retV A.length rs K) → ACall P f args A K

theorem hfn_of (hm : P.follows .mixedOrders = true) {f : FuncId} {fn : Func} {hs : List (List Nat)} {hc : HC} {rs : List RV} (hf : P.funcs[f]? = some fn) (h : decFn P fn hs V = some (hc, rs)) : HFn P f V hc rs := by
  intro args A A1 K hvw hw
  unfold decFn at h
  cases hb : (fn.name == "runtime.NumGoroutine" || !nodupB V) with
  | true => rw [hb] at h; cases h
  | false =>
    rw [hb] at h
    simp only [cond_false] at h
    rw [Bool.or_eq_false_iff] at hb
    split at h
    · cases h
    · rename_i c hbody
      split at h
      · rename_i ic hcomp
        split at h
        · rename_i rs0 hrs
          split at h
          · rename_i hc' rs' hd hr
            cases h
            have hV := nodupB_spec (by simpa using hb.2 : nodupB V = true)
            refine acall_of_bodyV hm hf hbody hb.1 hcomp hrs rfl hvw ?_
            have hg : gather V (args ++ List.replicate (fn.ntmps - args.length) .any) = V.map fun t => args.getD t .any := by
              unfold gather
              refine List.map_congr_left fun t _ => ?_
              simp only [List.getD]
              by_cases ht : t < args.length
              · rw [List.getElem?_append_left ht]
              · rw [List.getElem?_append_right (by omega), List.getElem?_eq_none (l := args) (by omega)]
                cases h : (List.replicate (fn.ntmps - args.length) AV.any)[t - args.length]? with
                | none => rfl
                | some v => have := List.eq_of_mem_replicate (List.mem_of_getElem? h); rw [this]; rfl
            refine hwp_ok (N := fn.ntmps) hV ic _ _ A1 _ (retV A.length _ K) hd (by simp; omega) (by rw [hg]; exact hw) fun e ρ2 A2 _ hk => ?_
            cases e with
            | normal => simp only [retV] at hk ⊢; rw [decRs_ok hr]; exact hk
            | ret => simp only [retV] at hk ⊢; rw [decRs_ok hr]; exact hk
            | exit i => exact hk
            | goto i => exact hk
          · cases h
        · cases h
      · cases h
end
end Go.SB
end
