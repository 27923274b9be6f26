/- HcM, put together. Conditions: none. -/
import Derived.Test.YtapoilcpollmpaaNHcY
/- Framework, part HcM: a row that is lent to a call that takes what is never written. -/
section
set_option linter.unusedVariables false
set_option linter.unusedSimpArgs false
namespace Go.SB
mutual
/-- Does a value show nothing that is never written? -/
def noI : AV → Bool
  | .pp _ => false
  | .ps _ xs => xs.isEmpty
  | .fn _ a b => noIL a && noIL b
  | .ifc _ x => noI x
  | .agg cs => noIL cs
  | .tup cs => noIL cs
  | _ => true
def noIL : List AV → Bool
  | [] => true
  | a :: as => noI a && noIL as
end
def Mod.reI (M : Mod) (I : Nat → Option (Array Value)) : Mod := { M with I := I }
mutual
theorem Conc.shr {M : Mod} (I : Nat → Option (Array Value)) : ∀ {a : AV} {u : Value}, Conc M a u → noI a = true → Conc (M.reI I) a u
  | _, _, .int k n, _ => .int k n
  | _, _, .bool b, _ => .bool b
  | _, _, .str s, _ => .str s
  | _, _, .nilp, _ => .nilp
  | _, _, .nils, _ => .nils
  | _, _, .nilm, _ => .nilm
  | _, _, .nilf, _ => .nilf
  | _, _, .nili, _ => .nili
  | _, _, .ptr h, _ => .ptr (M := M.reI I) h
  | _, _, .eptr h, _ => .eptr (M := M.reI I) h
  | _, _, .pp hI hr hL, e => by simp [noI] at e
  | _, _, .sl h hs hc ht hr, _ => .sl (M := M.reI I) h hs hc ht hr
  | _, _, .sl0 h hs, _ => .sl0 (M := M.reI I) h hs
  | _, _, .es a, _ => .es a
  | _, _, .ps (elems := es) hI hc hr hL, e => by
    cases es with
    | nil => exact .ps0 fun h => by cases h
    | cons x xs => simp [noI] at e
  | _, _, .ps0 h, _ => .ps0 h
  | _, _, .mp h, _ => .mp (M := M.reI I) h
  | _, _, .fn h₁ h₂, e => by
    simp only [noI, Bool.and_eq_true] at e
    exact .fn (ConcL.shr I h₁ e.1) (ConcL.shr I h₂ e.2)
  | _, _, .ifc h, e => .ifc (Conc.shr I h (by simpa [noI] using e))
  | _, _, .agg h, e => .agg (ConcL.shr I h (by simpa [noI] using e))
  | _, _, .tup h, e => .tup (ConcL.shr I h (by simpa [noI] using e))
  | _, _, .raw v h, _ => .raw v h
  | _, _, .any v, _ => .any v
theorem ConcL.shr {M : Mod} (I : Nat → Option (Array Value)) : ∀ {as : List AV} {us : List Value}, ConcL M as us → noIL as = true → ConcL (M.reI I) as us
  | _, _, .nil, _ => .nil
  | _, _, .cons h t, e => by
    simp only [noIL, Bool.and_eq_true] at e
    exact .cons (Conc.shr I h e.1) (ConcL.shr I t e.2)
end
/-- What stands without what is never written. -/
def Assn.Shr (R : Assn) : Prop := ∀ (h : Array Obj) (I I' : Nat → Option (Array Value)) (b o : Nat) (F : Nat → Prop), R.holds h I b o F → R.holds h I' b o F
def AO.Shr : AO → Prop
  | .cells vs => noIL vs = true
  | .arr es => ∀ e, e ∈ es → noIL e = true
  | .map es => ∀ kv, kv ∈ es → noI kv.1 = true ∧ noI kv.2 = true
  | .opq R => R.Shr
  | .dead => True
theorem AO.shr {h : Array Obj} {M : Mod} {F : Nat → Prop} {l : Nat} {o : AO} (I : Nat → Option (Array Value)) (hh : o.holds h M F l) (hs : o.Shr) : o.holds h (M.reI I) F l := by
  cases o with
  | cells vs =>
    obtain ⟨hF, c, e, fr, us, h1, h2, h3, h4, h5⟩ := hh
    exact ⟨hF, c, e, fr, us, h1, h2, h3, h4.shr I hs, h5⟩
  | arr es =>
    rcases hh with hh | ⟨hF, c, e, fr, uss, h1, h2, h3, h4, h5⟩
    · exact .inl hh
    · exact .inr ⟨hF, c, e, fr, uss, h1, h2, h3, fun i ev he => ⟨(h4 i ev he).1.shr I (hs ev (List.mem_of_getElem? he)), (h4 i ev he).2⟩, h5⟩
  | map es =>
    obtain ⟨hF, ents, clock, h1, h2, h3, h4⟩ := hh
    refine ⟨hF, ents, clock, h1, h2, fun i k v he => ?_, h4⟩
    obtain ⟨en, a, b, c⟩ := h3 i k v he
    obtain ⟨q1, q2⟩ := hs (k, v) (List.mem_of_getElem? he)
    exact ⟨en, a, b.shr I q1, c.shr I q2⟩
  | opq R => exact ⟨hs _ _ _ _ _ _ hh.1, hh.2⟩
  | dead => exact hh
def ShrH (A : AHeap) : Prop := ∀ (l : Nat) (o : AO), A[l]? = some (some o) → o.Shr
theorem sub_shr {A : AHeap} (hA : ShrH A) : (Assn.sub A).Shr := by
  rintro h I I' b o G ⟨M, F, rfl, P, h0, h1, h2, hg, h3⟩
  exact ⟨M.reI I', F, rfl, ⟨fun l x hx => ⟨(P.holds l x hx).1, AO.shr I' (P.holds l x hx).2 (hA l x hx)⟩, P.fresh, P.disj⟩, h0, h1, h2, hg, h3⟩
theorem pool_shr {xs : List Item} (hx : ∀ it, it ∈ xs → ShrH it.2) : (Assn.pool xs).Shr := by
  rintro h I I' b o G ⟨Gs, h1, h2, h3⟩
  exact ⟨Gs, h1, fun i it hi => sub_shr (hx it (List.mem_of_getElem? hi)) _ _ _ _ _ _ (h2 i it hi), h3⟩
def OV.Shr : OV → Prop
  | .v a => noI a = true
  | .s _ rows => ∀ e, e ∈ rows → noIL e = true
  | .m es => ∀ kv, kv ∈ es → noI kv.1 = true ∧ noI kv.2 = true
theorem modI_reI {I I' : Nat → Option (Array Value)} : (modI I).reI I' = modI I' := rfl
theorem OVL.shr {h : Array Obj} {I : Nat → Option (Array Value)} (I' : Nat → Option (Array Value)) {F : Nat → Prop} {ovs : List OV} {us : List Value} (t : OVL h I F ovs us) : (∀ o, o ∈ ovs → o.Shr) → OVL h I' F ovs us := by
  induction t with
  | nil => exact fun _ => .nil
  | v ha t ih => exact fun hs => .v (by have := ha.shr I' (show OV.Shr (.v _) from hs _ List.mem_cons_self); rwa [modI_reI] at this) (ih fun o ho => hs o (List.mem_cons_of_mem _ ho))
  | s0 h0 t ih => exact fun hs => .s0 h0 (ih fun o ho => hs o (List.mem_cons_of_mem _ ho))
  | s hb hu hc hr h1 h2 hn t ih =>
    exact fun hs => .s hb hu hc hr (fun i ev he => ⟨by have := (h1 i ev he).1.shr I' ((show OV.Shr (.s _ _) from hs _ List.mem_cons_self) ev (List.mem_of_getElem? he)); rwa [modI_reI] at this, (h1 i ev he).2⟩) h2 hn (ih fun o ho => hs o (List.mem_cons_of_mem _ ho))
  | m hb hsz h1 h2 hn t ih =>
    intro hs
    refine .m hb hsz (fun i k v he => ?_) h2 hn (ih fun o ho => hs o (List.mem_cons_of_mem _ ho))
    obtain ⟨en, a, b, c⟩ := h1 i k v he
    obtain ⟨q1, q2⟩ := (show OV.Shr (.m _) from hs _ List.mem_cons_self) (k, v) (List.mem_of_getElem? he)
    have b2 := b.shr I' q1
    have c2 := c.shr I' q2
    rw [modI_reI] at b2 c2
    exact ⟨en, a, b2, c2⟩
theorem own_shr {ovs : List OV} (hs : ∀ o, o ∈ ovs → o.Shr) : (Assn.own ovs).Shr := by
  rintro h I I' b o F ⟨F', c, e, fr, us, h1, h2, h3, h4, h5, h6⟩
  exact ⟨F', c, e, fr, us, h1, h2, h3, h4, h5.shr I' hs, h6⟩

/-- A row behind the heap is lent to a call. -/
theorem ACall.lend {P : Program} {f : FuncId} {args args2 : List AV} {A : AHeap} {K : AV → AHeap → Prop} {rows : List (List AV)} (h : ACall P f args A K) (hne : rows ≠ []) (hrf : AV.flatLL rows = true) (hop : ∀ (l : Nat) (o : AO), A[l]? = some (some o) → ∃ R, o = .opq R)
    (hargs : ∀ (M M0 : Mod) (us : List Value) (c : Array Value) (e : TypeId) (fr : Nat × Nat) (uss : Nat → List Value), ConcL M args2 us → M.D A.length → M0.I (M.blk A.length) = some c →
      (∀ l, l < A.length → (M.D l → M0.D l) ∧ M0.blk l = M.blk l ∧ M0.base l = M.base l) → (∀ i ev, rows[i]? = some ev → ConcL M0 ev (uss i) ∧ ev.length = M.sz A.length) →
      (∀ i j u, i < rows.length → (uss i)[j]? = some u → c[M.base A.length + i * M.sz A.length + j]? = some u) → ConcL M0 args us)
    (hK : ∀ r A', K r A' → AV.flat r = true ∧ noI r = true ∧ A'.length = A.length ∧ ∀ (l : Nat) (o : AO), A'[l]? = some (some o) → ∃ R, o = .opq R ∧ R.Shr) :
    ACall P f args2 (A ++ [some (.arr rows)]) fun r B => ∃ A', K r A' ∧ B = A' ++ [some (.arr rows)] := by
  refine ⟨h.1, fun w M F us S hL => ?_⟩
  have hn0 : (A ++ [some (.arr rows)])[A.length]? = some (some (.arr rows)) := by rw [List.getElem?_append_right (Nat.le_refl _), Nat.sub_self]; rfl
  have hlA : ∀ {l : Nat} {o : AO}, A[l]? = some (some o) → (A ++ [some (.arr rows)])[l]? = some (some o) := fun {l o} ho => by rw [List.getElem?_append_left (List.getElem?_eq_some_iff.1 ho).1]; exact ho
  obtain ⟨hDn, hhn⟩ := S.holds _ _ hn0
  obtain ⟨hF, c, e, fr, uss, g1, g2, g3, g4, g5⟩ := AO.arr_live hhn (.inl hne)
  have hIn : ∀ c', M.I (M.blk A.length) ≠ some c' := fun c' hc' => S.immNot _ c' _ _ hc' hn0 ((hF _).2 rfl)
  have hFn : ∀ {l : Nat} {o : AO}, A[l]? = some (some o) → ¬ F l (M.blk A.length) := fun {l o} ho hb => by
    have := S.disj l A.length _ _ _ (hlA ho) hn0 hb ((hF _).2 rfl)
    have := (List.getElem?_eq_some_iff.1 ho).1
    omega
  let M0 : Mod := { D := fun l => l < A.length ∧ M.D l, blk := M.blk, base := M.base, room := M.room, sz := M.sz, I := fun b => if b = M.blk A.length then some c else M.I b }
  have hI0 : ∀ b c', M.I b = some c' → M0.I b = some c' := fun b c' hc' => by
    show (if b = M.blk A.length then some c else M.I b) = some c'
    by_cases e : b = M.blk A.length
    · subst e; exact absurd hc' (hIn c')
    · rw [if_neg e]; exact hc'
  have S0 : Sim w.heap M0 F A := by
    refine ⟨fun l o ho => ?_, fun l hD => ?_, fun l o b ho hb => S.lt l o b (hlA ho) hb, fun l l' o o' b h1 h2 hb hb' => S.disj l l' o o' b (hlA h1) (hlA h2) hb hb', fun b c' hc' => ?_, fun b c' l o hc' ho hb => ?_⟩
    · obtain ⟨R, rfl⟩ := hop l o ho
      obtain ⟨q1, q2⟩ := S.holds l _ (hlA ho)
      exact ⟨⟨(List.getElem?_eq_some_iff.1 ho).1, q1⟩, R.keep q2.1 (fun _ _ => rfl) hI0, q2.2⟩
    · obtain ⟨o, ho⟩ := S.fresh l hD.2
      rw [List.getElem?_append_left hD.1] at ho
      exact ⟨o, ho⟩
    · have hc2 : (if b = M.blk A.length then some c else M.I b) = some c' := hc'
      by_cases e2 : b = M.blk A.length
      · subst e2; rw [if_pos rfl] at hc2; cases hc2; exact ⟨e, fr, g1⟩
      · rw [if_neg e2] at hc2; exact S.imm b c' hc2
    · have hc2 : (if b = M.blk A.length then some c else M.I b) = some c' := hc'
      by_cases e2 : b = M.blk A.length
      · subst e2; exact hFn ho hb
      · rw [if_neg e2] at hc2; exact S.immNot b c' l o hc2 (hlA ho) hb
  have hrow : ∀ i ev, rows[i]? = some ev → ConcL M0 ev (uss i) ∧ ev.length = M.sz A.length := fun i ev he => ⟨(g4 i ev he).1.flatM (flatLL_get hrf he) hI0, (g4 i ev he).2⟩
  have hL0 := hargs M M0 us c e fr uss hL hDn (by show (if _ = _ then _ else _) = _; rw [if_pos rfl]) (fun l hl => ⟨fun hD => ⟨hl, hD⟩, rfl, rfl⟩) hrow g5
  refine (h.2 w M0 F us S0 hL0).mono ?_
  rintro e2 w' ⟨r, A', M1, F1, u, hKr, rfl, hc, S1, E1, hf⟩
  obtain ⟨k1, k2, k3, k4⟩ := hK r A' hKr
  have hI1 : M1.I (M.blk A.length) = some c := E1.le.I _ _ (by show (if _ = _ then _ else _) = _; rw [if_pos rfl])
  have hblk : w'.heap[M.blk A.length]? = w.heap[M.blk A.length]? := E1.keep _ (S.lt _ _ _ hn0 ((hF _).2 rfl)) fun l o ho => hFn ho
  let M2 : Mod := { D := fun l => M1.D l ∨ l = A.length, blk := fun l => if l = A.length then M.blk l else M1.blk l, base := fun l => if l = A.length then M.base l else M1.base l, room := fun l => if l = A.length then M.room l else M1.room l,
                    sz := fun l => if l = A.length then M.sz l else M1.sz l, I := fun b => if b = M.blk A.length then none else M1.I b }
  have hI2 : ∀ b c', M.I b = some c' → M2.I b = some c' := fun b c' hc' => by
    show (if b = M.blk A.length then none else M1.I b) = some c'
    by_cases e3 : b = M.blk A.length
    · subst e3; exact absurd hc' (hIn c')
    · rw [if_neg e3]; exact E1.le.I b c' (hI0 b c' hc')
  have hDl : ∀ {l : Nat}, M.D l → l ≠ A.length → M0.D l := fun {l} hD hne2 => by
    obtain ⟨o, ho⟩ := S.fresh l hD
    have := (List.getElem?_eq_some_iff.1 ho).1
    simp at this
    exact ⟨by omega, hD⟩
  have hle : M.Le M2 := by
    refine ⟨fun l hD => ?_, fun l hD => ?_, fun l hD => ?_, fun l hD => ?_, fun l hD => ?_, hI2⟩
    · by_cases e3 : l = A.length
      · exact .inr e3
      · exact .inl (E1.le.D l (hDl hD e3))
    · show (if l = A.length then M.blk l else M1.blk l) = M.blk l
      by_cases e3 : l = A.length
      · rw [if_pos e3]
      · rw [if_neg e3]; exact E1.le.blk l (hDl hD e3)
    · show (if l = A.length then M.base l else M1.base l) = M.base l
      by_cases e3 : l = A.length
      · rw [if_pos e3]
      · rw [if_neg e3]; exact E1.le.base l (hDl hD e3)
    · show (if l = A.length then M.room l else M1.room l) = M.room l
      by_cases e3 : l = A.length
      · rw [if_pos e3]
      · rw [if_neg e3]; exact E1.le.room l (hDl hD e3)
    · show (if l = A.length then M.sz l else M1.sz l) = M.sz l
      by_cases e3 : l = A.length
      · rw [if_pos e3]
      · rw [if_neg e3]; exact E1.le.sz l (hDl hD e3)
  let F2 : Nat → Nat → Prop := fun l x => if l = A.length then F l x else F1 l x
  have get : ∀ {l : Nat} {o : AO}, (A' ++ [some (.arr rows)])[l]? = some (some o) → (l = A.length ∧ o = .arr rows) ∨ (l ≠ A.length ∧ A'[l]? = some (some o)) := fun {l o} ho => by
    rcases ext_get ho with ⟨e3, e4⟩ | ⟨e3, e4⟩
    · cases e4; exact .inl ⟨by omega, rfl⟩
    · exact .inr ⟨by omega, e4⟩
  have fF1 : ∀ {l x : Nat}, l ≠ A.length → F2 l x → F1 l x := fun {l x} hl hx => by simpa [F2, hl] using hx
  have fFn : ∀ {x : Nat}, F2 A.length x → x = M.blk A.length := fun {x} hx => (hF x).1 (by simpa [F2] using hx)
  have hn1 : ∀ {l : Nat} {o : AO}, A'[l]? = some (some o) → ¬ F1 l (M.blk A.length) := fun {l o} ho => S1.immNot _ c l o hI1 ho
  have S2 : Sim w'.heap M2 F2 (A' ++ [some (.arr rows)]) := by
    refine ⟨fun l o ho => ?_, fun l hD => ?_, fun l o b ho hb => ?_, fun l l' o o' b h1 h2 hb hb' => ?_, fun b c' hc' => ?_, fun b c' l o hc' ho hb => ?_⟩
    · rcases get ho with ⟨rfl, rfl⟩ | ⟨hl, ho⟩
      · refine ⟨.inr rfl, .inr ⟨fun b => ?_, c, e, fr, uss, ?_, g2, ?_, fun i ev he => ⟨(g4 i ev he).1.flatM (flatLL_get hrf he) hI2, ?_⟩, fun i j u hi hj => ?_⟩⟩
        · show (if _ = _ then _ else _) ↔ b = (if _ = _ then _ else _)
          rw [if_pos rfl, if_pos rfl]; exact hF b
        · show w'.heap[(if _ = _ then _ else _)]? = _
          rw [if_pos rfl, hblk]; exact g1
        · show c.size = (if _ = _ then _ else _)
          rw [if_pos rfl]; exact g3
        · show ev.length = (if _ = _ then _ else _)
          rw [if_pos rfl]; exact (g4 i ev he).2
        · show c[(if _ = _ then _ else _) + i * (if _ = _ then _ else _) + j]? = _
          rw [if_pos rfl, if_pos rfl]; exact g5 i j u hi hj
      · obtain ⟨R, rfl, hR⟩ := k4 l o ho
        obtain ⟨q1, q2, q3⟩ := S1.holds l _ ho
        refine ⟨.inl q1, ?_⟩
        show R.holds w'.heap M2.I (if l = A.length then M.blk l else M1.blk l) (if l = A.length then M.base l else M1.base l) (fun x => F2 l x) ∧ (R.root = true → ∃ (c : Array Value) (e : TypeId) (fr : Nat × Nat), F2 l (if l = A.length then M.blk l else M1.blk l) ∧ w'.heap[(if l = A.length then M.blk l else M1.blk l)]? = some (.cells c e fr) ∧ c.size = (if l = A.length then M.room l else M1.room l))
        have eF : (fun x => F2 l x) = F1 l := funext fun x => by simp [F2, hl]
        rw [eF, show F2 l = F1 l from eF, if_neg hl, if_neg hl, if_neg hl]
        exact ⟨hR _ _ _ _ _ _ q2, q3⟩
    · rcases hD with hD | rfl
      · obtain ⟨o, ho⟩ := S1.fresh l hD
        exact ⟨o, by rw [List.getElem?_append_left (List.getElem?_eq_some_iff.1 ho).1]; exact ho⟩
      · exact ⟨_, by rw [← k3, List.getElem?_append_right (Nat.le_refl _), Nat.sub_self]; rfl⟩
    · rcases get ho with ⟨rfl, rfl⟩ | ⟨hl, ho⟩
      · rw [fFn hb]; exact Nat.lt_of_lt_of_le (S.lt _ _ _ hn0 ((hF _).2 rfl)) E1.size
      · exact S1.lt l o b ho (fF1 hl hb)
    · rcases get h1 with ⟨rfl, rfl⟩ | ⟨hl, h1⟩ <;> rcases get h2 with ⟨rfl, rfl⟩ | ⟨hl', h2⟩
      · rfl
      · rw [fFn hb] at hb'; exact absurd (fF1 hl' hb') (hn1 h2)
      · rw [fFn hb'] at hb; exact absurd (fF1 hl hb) (hn1 h1)
      · exact S1.disj l l' o o' b h1 h2 (fF1 hl hb) (fF1 hl' hb')
    · have hc2 : (if b = M.blk A.length then none else M1.I b) = some c' := hc'
      by_cases e3 : b = M.blk A.length
      · rw [if_pos e3] at hc2; cases hc2
      · rw [if_neg e3] at hc2; exact S1.imm b c' hc2
    · have hc2 : (if b = M.blk A.length then none else M1.I b) = some c' := hc'
      by_cases e3 : b = M.blk A.length
      · rw [if_pos e3] at hc2; cases hc2
      · rw [if_neg e3] at hc2
        rcases get ho with ⟨rfl, rfl⟩ | ⟨hl, ho⟩
        · exact e3 (fFn hb)
        · exact S1.immNot b c' l o hc2 ho (fF1 hl hb)
  have hcr : Conc M2 r u := by
    have q := (hc.flatI k1).shr M2.I k2
    rw [modI_reI] at q
    exact q.mono modI_le
  refine ⟨r, _, M2, F2, u, ⟨A', hKr, rfl⟩, rfl, hcr, S2, ⟨E1.os, E1.tape, E1.output, E1.size, hle, by simp [k3], fun b hb hn => ?_, fun l o b ho hx hb => ?_, fun b c' hc' hb => ?_⟩, fun l hl => ?_⟩
  · exact E1.keep b hb fun l o ho => hn l o (hlA ho)
  · rcases get ho with ⟨rfl, rfl⟩ | ⟨hl, ho⟩
    · rw [fFn hx]; exact ⟨_, _, hn0, (hF _).2 rfl⟩
    · obtain ⟨l0, o0, q1, q2⟩ := E1.foot l o b ho (fF1 hl hx) hb
      exact ⟨l0, o0, hlA q1, q2⟩
  · have hc2 : (if b = M.blk A.length then none else M1.I b) = some c' := hc'
    by_cases e3 : b = M.blk A.length
    · rw [if_pos e3] at hc2; cases hc2
    · rw [if_neg e3] at hc2
      rcases E1.immFoot b c' hc2 hb with q | ⟨l0, o0, q1, q2⟩
      · have q' : (if b = M.blk A.length then some c else M.I b) = some c' := q
        rw [if_neg e3] at q'
        exact .inl q'
      · exact .inr ⟨l0, o0, hlA q1, q2⟩
  · rcases Nat.lt_or_ge l A.length with hl2 | hl2
    · rw [List.getElem?_append_left hl2] at hl
      rw [List.getElem?_append_left (by rw [k3]; exact hl2)]
      exact hf l hl
    · rw [List.getElem?_append_right hl2] at hl
      cases hz : l - A.length with
      | zero => rw [hz] at hl; cases hl
      | succ n => rw [hz] at hl; simp at hl
end Go.SB
end
