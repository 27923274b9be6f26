/- Framework, part H: nstep is right, all together. Conditions: none. -/
import Derived.Test.YtkkccabchhnebaaFwG
set_option linter.unusedVariables false
set_option linter.unusedSimpArgs false
namespace Go.SB
section
variable {P : Program} {M : Mod} {ρ : List AV} {a : Act} (w : World)

theorem bnd_run {y n : Nat} {x : AV} {u : Value} (c : BoundsCode) (hx : Conc M x u) (h : bnd y x = some n) : (Instr.sliceBound u y c).run P w = .ok n w ∧ n ≤ y := by
  unfold bnd at h
  split at h
  · rename_i k i
    split at h
    · rename_i hc
      cases h
      rw [conc_int hx]
      refine ⟨?_, by omega⟩
      simp [Instr.sliceBound, asIntOf, hc]
    · cases h
  · cases h

/-- The three bounds. 'cap' may be more than 'len' says. -/
theorem bnds_run {isS : Bool} {len cap : Nat} {lo hi mx : Option AV} {ulo uhi umx : Option Value} {l h : Nat} {m : Option Nat} (hlo : (lo = none ∧ ulo = none) ∨ ∃ x u, lo = some x ∧ ulo = some u ∧ Conc M x u)
    (hhi : (hi = none ∧ uhi = none) ∨ ∃ x u, hi = some x ∧ uhi = some u ∧ Conc M x u) (hmx : (mx = none ∧ umx = none) ∨ ∃ x u, mx = some x ∧ umx = some u ∧ Conc M x u)
    (hcap : len ≤ cap) (hb : bnds len len lo hi mx = some (l, h, m)) :
    (Instr.sliceBounds isS len cap ulo uhi umx).run P w = .ok (l, h, m.getD cap) w ∧ l ≤ h ∧ h ≤ len ∧ (∀ k, m = some k → h ≤ k ∧ k ≤ len) ∧ (m = none ↔ mx = none) := by
  unfold bnds at hb
  rcases hmx with ⟨rfl, rfl⟩ | ⟨xm, um, rfl, rfl, cm⟩
  · simp only at hb
    have hh : ∃ h', hiOr len hi = some h' ∧ (match uhi with
        | some v => Instr.sliceBound v cap (if isS then .sliceAcap else .sliceAlen)
        | none => pure len).run P w = .ok h' w ∧ h' ≤ len := by
      rcases hhi with ⟨rfl, rfl⟩ | ⟨xh, uh, rfl, rfl, ch⟩
      · exact ⟨len, rfl, rfl, Nat.le_refl _⟩
      · simp only [hiOr] at hb ⊢
        cases hbh : bnd len xh with
        | none => rw [hbh] at hb; cases hb
        | some h' =>
          have h2 : bnd cap xh = some h' ∧ h' ≤ len := by
            unfold bnd at hbh ⊢
            split at hbh
            · rename_i k i
              split at hbh
              · rename_i hc
                cases hbh
                exact ⟨by simp; omega, by omega⟩
              · cases hbh
            · cases hbh
          exact ⟨h', rfl, (bnd_run w _ ch h2.1).1, h2.2⟩
    obtain ⟨h', e1, e2, e3⟩ := hh
    rw [e1] at hb
    simp only at hb
    rcases hlo with ⟨rfl, rfl⟩ | ⟨xl, ul, rfl, rfl, cl⟩
    · simp only at hb
      cases hb
      refine ⟨?_, Nat.zero_le _, e3, by simp, by simp⟩
      cases uhi with
      | none => simp at e2; simp [Instr.sliceBounds, e2]
      | some v => simp only at e2; simp [Instr.sliceBounds, e2]
    · simp only at hb
      cases hbl : bnd h' xl with
      | none => rw [hbl] at hb; cases hb
      | some l' =>
        rw [hbl] at hb
        cases hb
        obtain ⟨r1, r2⟩ := bnd_run (P := P) w .sliceB cl hbl
        refine ⟨?_, r2, e3, by simp, by simp⟩
        cases uhi with
        | none => simp at e2; subst e2; simp [Instr.sliceBounds, r1]
        | some v => simp only at e2; simp [Instr.sliceBounds, e2, r1]
  · simp only at hb
    cases hbm : bnd len xm with
    | none => rw [hbm] at hb; cases hb
    | some m' =>
      rw [hbm] at hb
      simp only at hb
      have hm2 : bnd cap xm = some m' ∧ m' ≤ len := by
        unfold bnd at hbm ⊢
        split at hbm
        · rename_i k i
          split at hbm
          · rename_i hc
            cases hbm
            exact ⟨by simp; omega, by omega⟩
          · cases hbm
        · cases hbm
      obtain ⟨rm, _⟩ := bnd_run (P := P) w (if isS then .slice3Acap else .slice3Alen) cm hm2.1
      rcases hhi with ⟨rfl, rfl⟩ | ⟨xh, uh, rfl, rfl, ch⟩
      · cases hb
      · simp only at hb
        cases hbh : bnd m' xh with
        | none => rw [hbh] at hb; cases hb
        | some h' =>
          rw [hbh] at hb
          simp only at hb
          obtain ⟨rh, rh2⟩ := bnd_run (P := P) w .slice3B ch hbh
          rcases hlo with ⟨rfl, rfl⟩ | ⟨xl, ul, rfl, rfl, cl⟩
          · simp only at hb
            cases hb
            refine ⟨?_, Nat.zero_le _, by omega, by intro k hk; cases hk; omega, by simp⟩
            simp [Instr.sliceBounds, rm, rh]
          · simp only at hb
            cases hbl : bnd h' xl with
            | none => rw [hbl] at hb; cases hb
            | some l' =>
              rw [hbl] at hb
              cases hb
              obtain ⟨r1, r2⟩ := bnd_run (P := P) w .slice3C cl hbl
              refine ⟨?_, r2, by omega, by intro k hk; cases hk; omega, by simp⟩
              simp [Instr.sliceBounds, rm, rh, r1]

theorem opd3 (hρ : ConcL M ρ a.tmps.toList) {x : Option Operand} {y : Option Opd} (h : copdo x = some y) :
    (y.map (·.get ρ) = none ∧ x.map a.eval = none) ∨ ∃ v u, y.map (·.get ρ) = some v ∧ x.map a.eval = some u ∧ Conc M v u := by
  rcases copdo_ok hρ h with ⟨rfl, rfl⟩ | ⟨x', y', rfl, rfl, hc⟩
  · exact .inl ⟨rfl, rfl⟩
  · exact .inr ⟨_, _, rfl, rfl, hc⟩

theorem slc_str_ok {t : TypeId} (hu : P.underlying t = some .string) {s : List UInt8} {lo hi : Option AV} {ulo uhi : Option Value} {v : AV}
    (hlo : (lo = none ∧ ulo = none) ∨ ∃ x u, lo = some x ∧ ulo = some u ∧ Conc M x u) (hhi : (hi = none ∧ uhi = none) ∨ ∃ x u, hi = some x ∧ uhi = some u ∧ Conc M x u)
    (h : AV.slcs (.str s) lo hi = some v) : ∃ u, (Instr.sliceAt t (.string ⟨s.toArray⟩) ulo uhi none).run P w = .ok u w ∧ Conc M v u := by
  simp only [AV.slcs] at h
  split at h
  · rename_i l hh m hb
    cases h
    obtain ⟨h1, h2, h3, h4, h5⟩ := bnds_run (P := P) (isS := false) w hlo hhi (.inl ⟨rfl, rfl⟩) (Nat.le_refl _) hb
    have hm : m = none := h5.2 rfl
    subst hm
    refine ⟨.string ⟨((s.drop l).take (hh - l)).toArray⟩, ?_, .str _⟩
    have e1 : (ByteArray.mk s.toArray).size = s.length := rfl
    simp only [Instr.sliceAt, Sem.run_bind, run_underlying hu, Result.andThen_ok]
    simp only [Instr.slice, Sem.run_bind, run_underlying hu, Result.andThen_ok, Option.isSome_none, Bool.false_eq_true, if_false, Sem.run_pure, e1, h1]
    congr 2
    apply ByteArray.ext
    apply Array.ext'
    have := Lib.extract_toList ⟨s.toArray⟩ l hh
    rw [ByteArray.toList_eq] at this
    simp at this ⊢
  · cases h

theorem slc_slice_ok {t el : TypeId} {size : Nat} (hu : P.underlying t = some (.slice el)) (hs : elemSize P el = some size) {x : AV} {ux : Value} (hx : Conc M x ux) {lo hi mx : Option AV} {ulo uhi umx : Option Value} {v : AV}
    (hlo : (lo = none ∧ ulo = none) ∨ ∃ x u, lo = some x ∧ ulo = some u ∧ Conc M x u) (hhi : (hi = none ∧ uhi = none) ∨ ∃ x u, hi = some x ∧ uhi = some u ∧ Conc M x u)
    (hmx : (mx = none ∧ umx = none) ∨ ∃ x u, mx = some x ∧ umx = some u ∧ Conc M x u)
    (h : AV.slc size x lo hi mx = some v) : ∃ u, (Instr.sliceAt t ux ulo uhi umx).run P w = .ok u w ∧ Conc M v u := by
  have go : ∀ (ad : Option Addr) (len cap l hh : Nat) (m : Option Nat), ux = .slice ad len cap → len ≤ cap → bnds len len lo hi mx = some (l, hh, m) →
      (l ≤ hh → hh ≤ len → (∀ k, m = some k → hh ≤ k ∧ k ≤ len) → (m = none ↔ mx = none) → Conc M v (.slice (if m.getD cap = l then ad else ad.map (·.add (l * size))) (hh - l) (m.getD cap - l))) →
      ∃ u, (Instr.sliceAt t ux ulo uhi umx).run P w = .ok u w ∧ Conc M v u := by
    intro ad len cap l hh m e hc hb hv
    obtain ⟨h1, h2, h3, h4, h5⟩ := bnds_run (P := P) (isS := true) w hlo hhi hmx hc hb
    refine ⟨_, ?_, hv h2 h3 h4 h5⟩
    subst e
    simp only [Instr.sliceAt, Sem.run_bind, run_underlying hu, Result.andThen_ok]
    simp only [Instr.slice, Sem.run_bind, run_underlying hu, Result.andThen_ok, h1, run_elemSize w hs, Sem.run_pure]
  cases x with
  | sl p sz b len tt =>
    simp only [AV.slc] at h
    split at h
    rotate_left
    · cases h
    rename_i hsz
    subst hsz
    split at h
    · rename_i l hh m hb
      cases h
      cases hx with
      | @sl _ _ _ _ cap _ hD hs' hc ht hr =>
        refine go _ len cap l hh m rfl hc hb ?_
        intro q1 q2 q3 q4
        by_cases hz : m.getD cap = l
        · rw [if_pos hz]
          have e1 : hh - l = 0 := by
            cases m with
            | none => simp at hz; omega
            | some k => simp at hz; have := q3 k rfl; omega
          rw [e1, hz, Nat.sub_self]
          exact .sl0 hD hs'
        · rw [if_neg hz]
          simp only [Option.map_some, addr_add]
          rw [show M.base p + b * sz + l * sz = M.base p + (b + l) * sz by rw [Nat.add_mul, Nat.add_assoc]]
          refine .sl hD hs' ?_ ?_ ?_
          · cases m with
            | none => simp; omega
            | some k => simp; have := q3 k rfl; omega
          · intro hT
            cases m with
            | none =>
              simp only [Bool.and_eq_true, decide_eq_true_eq] at hT
              simp only [Option.getD_none]
              rw [ht hT.1, hT.2]
            | some k => simp only [decide_eq_true_eq] at hT; simp only [Option.getD_some]; rw [hT]
          · have : (b + l + (m.getD cap - l)) * sz ≤ (b + cap) * sz := Nat.mul_le_mul_right _ (by
              cases m with
              | none => simp at hz ⊢; omega
              | some k => simp at hz ⊢; have := q3 k rfl; omega)
            omega
      | @sl0 _ _ _ _ ad hD hs' =>
        refine go (some ad) 0 0 l hh m rfl (Nat.le_refl _) hb ?_
        intro q1 q2 q3 q4
        have e1 : hh = 0 := by omega
        have e2 : l = 0 := by omega
        subst e1; subst e2
        have e3 : m.getD 0 = 0 := by
          cases m with
          | none => rfl
          | some k => simp; have := q3 k rfl; omega
        rw [e3]
        simp only [if_true, Nat.sub_self]
        exact .sl0 hD hs'
    · cases h
  | nils =>
    simp only [AV.slc] at h
    split at h
    · rename_i r hb
      obtain ⟨l, hh, m⟩ := r
      cases h
      cases hx
      refine go none 0 0 l hh m rfl (Nat.le_refl _) hb ?_
      intro q1 q2 q3 q4
      have e1 : hh = 0 := by omega
      have e2 : l = 0 := by omega
      subst e1; subst e2
      have e3 : m.getD 0 = 0 := by
        cases m with
        | none => rfl
        | some k => simp; have := q3 k rfl; omega
      rw [e3]
      exact .nils
    · cases h
  | es =>
    simp only [AV.slc] at h
    split at h
    · rename_i r hb
      obtain ⟨l, hh, m⟩ := r
      cases h
      cases hx with
      | es ad =>
        refine go (some ad) 0 0 l hh m rfl (Nat.le_refl _) hb ?_
        intro q1 q2 q3 q4
        have e1 : hh = 0 := by omega
        have e2 : l = 0 := by omega
        subst e1; subst e2
        have e3 : m.getD 0 = 0 := by
          cases m with
          | none => rfl
          | some k => simp; have := q3 k rfl; omega
        rw [e3]
        exact .es _
    · cases h
  | ps sz xs =>
    simp only [AV.slc] at h
    split at h
    rotate_left
    · cases h
    rename_i hsz
    subst hsz
    split at h
    · cases h
    · rename_i hmn
      split at h
      · rename_i l hh m hb
        cases h
        cases hx with
        | @ps _ _ uss c b o cap hI hc hr hL =>
          refine go (some ⟨b, o, none⟩) xs.length cap l hh m rfl hc hb ?_
          intro q1 q2 q3 q4
          have e3 : m = none := by
            cases m with
            | none => rfl
            | some k => have := q4.2 rfl; cases this
          subst e3
          simp only [Option.getD_none]
          have elen : ((xs.drop l).take (hh - l)).length = hh - l := by simp; omega
          by_cases hz : cap = l
          · have e0 : hh - l = 0 := by omega
            rw [e0, List.take_zero]
            exact .ps0
          · rw [if_neg hz]
            simp only [Option.map_some, addr_add]
            have : Conc M (.ps sz ((xs.drop l).take (hh - l))) (.slice (some ⟨b, o + l * sz, none⟩) ((xs.drop l).take (hh - l)).length (cap - l)) := by
              refine .ps (uss := fun i => uss (l + i)) hI (by rw [elen]; omega) ?_ ?_
              · intro i j u hi hu
                rw [elen] at hi
                rw [← hr (l + i) j u (by omega) hu]
                congr 1
                rw [Nat.add_mul]; omega
              · intro i e he
                rw [List.getElem?_take] at he
                split at he
                · rw [List.getElem?_drop] at he
                  exact hL _ _ he
                · cases he
            rw [elen] at this
            exact this
        | @ps0 _ ad cap =>
          refine go ad 0 cap l hh m rfl (Nat.zero_le _) hb ?_
          intro q1 q2 q3 q4
          have e1 : hh = 0 := by omega
          have e2 : l = 0 := by omega
          subst e1; subst e2
          simp only [List.drop_nil, List.take_nil, Nat.sub_self]
          exact .ps0
      · cases h
  | _ => simp [AV.slc] at h

theorem iaddr_ok {t el : TypeId} {size : Nat} (hu : P.underlying t = some (.slice el)) (hs : elemSize P el = some size) {x i v : AV} {ux ui : Value} (hx : Conc M x ux) (hi : Conc M i ui)
    (h : AV.iaddr size x i = some v) : ∃ u, (Instr.indexAt t ux ui).run P w = .ok u w ∧ Conc M v u := by
  unfold AV.iaddr at h
  split at h
  · rename_i k n
    rw [conc_int hi]
    have go : ∀ (ad : Addr) (len cap : Nat), ux = .slice (some ad) len cap → 0 ≤ n → n < len → Conc M v (.pointer (some (ad.add (n.toNat * size)))) →
        ∃ u, (Instr.indexAt t ux (.int k n)).run P w = .ok u w ∧ Conc M v u := by
      intro ad len cap e h0 h1 hc
      refine ⟨_, ?_, hc⟩
      subst e
      simp [Instr.indexAt, asIntOf, run_underlying hu, h0, h1, run_elemSize w hs]
    split at h
    · rename_i l sz lo len tt
      split at h
      · subst sz
        split at h
        · rename_i hb
          cases h
          cases hx with
          | sl hD hs' hc ht hr =>
            refine go _ _ _ rfl hb.1 hb.2 ?_
            rw [addr_add]
            have := Conc.eptr (M := M) (l := l) (i := lo + n.toNat) (off := 0) hD
            rw [hs', Nat.add_zero, Nat.add_mul, ← Nat.add_assoc] at this
            exact this
          | sl0 hD hs' => have := hb.2; omega
        · cases h
      · cases h
    · rename_i sz xs
      split at h
      · subst sz
        split at h
        · rename_i hb
          cases h
          cases hx with
          | @ps _ _ uss c b o cap hI hc hr hL =>
            refine go _ _ _ rfl hb.1 hb.2 ?_
            rw [addr_add]
            have hlt : n.toNat < xs.length := by omega
            have e : xs[n.toNat]? = some (xs.getD n.toNat []) := by simp [List.getD, hlt]
            exact .pp hI (fun j u hu => hr n.toNat j u hlt hu) (hL _ _ e)
          | ps0 => have := hb.2; simp at this; omega
        · cases h
      · cases h
    · cases h
  · cases h

theorem iaddra_ok {t el : TypeId} {size len : Nat} (hu : P.underlying t = some (.array len el)) (hs : elemSize P el = some size) {x i v : AV} {ux ui : Value} (hx : Conc M x ux) (hi : Conc M i ui)
    (h : AV.iaddra len size x i = some v) : ∃ u, (Instr.indexAt t ux ui).run P w = .ok u w ∧ Conc M v u := by
  unfold AV.iaddra at h
  split at h
  · rename_i k n
    rw [conc_int hi]
    split at h
    · rename_i hb
      obtain ⟨ad, rfl, hsp, hc⟩ := faddr_conc hx h
      refine ⟨_, ?_, hc⟩
      simp [Instr.indexAt, asIntOf, run_underlying hu, hb.1, hb.2, Instr.sureAddr, run_elemSize w hs]
    · cases h
  · cases h

theorem idxs_ok {t : TypeId} (hu : P.underlying t = some .string) {x i v : AV} {ux ui : Value} (hx : Conc M x ux) (hi : Conc M i ui)
    (h : AV.idxs x i = some v) : ∃ u, (Instr.index t ux ui).run P w = .ok u w ∧ Conc M v u := by
  unfold AV.idxs at h
  split at h
  · rename_i s k n
    rw [conc_int hi, conc_str hx]
    split at h
    · rename_i hb
      cases h
      have hlt : n.toNat < s.length := by omega
      have e : (ByteArray.mk s.toArray)[n.toNat]? = some (s.getD n.toNat 0) := by
        have e1 : (ByteArray.mk s.toArray).size = s.length := rfl
        rw [getElem?_pos (ByteArray.mk s.toArray) n.toNat (by rw [e1]; exact hlt)]
        simp only [List.getD, List.getElem?_eq_getElem hlt, Option.getD_some, Option.some.injEq]
        rfl
      refine ⟨.int .u8 (s.getD n.toNat 0).toNat, ?_, .int _ _⟩
      simp [Instr.index, asIntOf, run_underlying hu, hb.1, e]
    · cases h
  · cases h

theorem idxa_ok {t el : TypeId} {len size : Nat} {n : Option Nat} (hu : P.underlying t = some (.array len el)) (hs : elemSize P el = some size) (hg : aggOf P el = some n) {x i v : AV} {ux ui : Value} (hx : Conc M x ux) (hi : Conc M i ui)
    (h : AV.idxa len size n x i = some v) : ∃ u, (Instr.index t ux ui).run P w = .ok u w ∧ Conc M v u := by
  unfold AV.idxa at h
  split at h
  · rename_i cs k m
    rw [conc_int hi]
    split at h
    · rename_i hb
      cases hx with
      | @agg _ us hL =>
        obtain ⟨u, h1, h2⟩ := run_part w hg hL h
        refine ⟨u, ?_, h2⟩
        simp [Instr.index, asIntOf, run_underlying hu, hb.1, hb.2, run_elemSize w hs, h1]
    · cases h
  · cases h

theorem fold_ok {f : AV → AV → Option AV} {g : Value → Value → Sem Value} (hfg : ∀ x y v ux uy, Conc M x ux → Conc M y uy → f x y = some v → ∃ u, (g ux uy).run P w = .ok u w ∧ Conc M v u) :
    ∀ {xs : List AV} {us : List Value} {x : AV} {ux : Value} {v : AV}, ConcL M xs us → Conc M x ux → foldO f x xs = some v → ∃ u, (us.foldlM g ux).run P w = .ok u w ∧ Conc M v u
  | [], _, x, ux, v, .nil, hx, h => by simp only [foldO] at h; cases h; exact ⟨ux, rfl, hx⟩
  | y :: ys, _, x, ux, v, .cons (u := uy) hy t, hx, h => by
    simp only [foldO] at h
    split at h
    · rename_i z hz
      obtain ⟨uz, h1, h2⟩ := hfg _ _ _ _ _ hx hy hz
      obtain ⟨u, h3, h4⟩ := fold_ok hfg t h2 h
      exact ⟨u, by rw [List.foldlM_cons]; simp [h1, h3], h4⟩
    · cases h

theorem mn2_ok (x y v : AV) (ux uy : Value) (hx : Conc M x ux) (hy : Conc M y uy) (h : AV.mn2 x y = some v) : ∃ u, (Builtin.min2 ux uy).run P w = .ok u w ∧ Conc M v u := by
  unfold AV.mn2 at h
  split at h
  · cases h
    rw [conc_int hx, conc_int hy]
    exact ⟨_, rfl, .int _ _⟩
  · cases h
theorem mx2_ok (x y v : AV) (ux uy : Value) (hx : Conc M x ux) (hy : Conc M y uy) (h : AV.mx2 x y = some v) : ∃ u, (Builtin.max2 ux uy).run P w = .ok u w ∧ Conc M v u := by
  unfold AV.mx2 at h
  split at h
  · cases h
    rw [conc_int hx, conc_int hy]
    exact ⟨_, rfl, .int _ _⟩
  · cases h
end
end Go.SB
