/- Framework, part E: operations that look into no memory: the loaded program does what the IR says. Conditions: none. -/
import Derived.Test.YtkkccabchhnebaaFwD
import Derived.Laws.StructEq
import Derived.Laws.Slices
import Derived.WalkSpells
set_option linter.unusedVariables false
set_option linter.unusedSimpArgs false
namespace Go.SB
section
variable {P : Program} {M : Mod} {ρ : List AV} {a : Act} (w : World)

theorem opt_map {α β : Type} {f : α → β} {x : Option α} {y : β} (h : x.map f = some y) : ∃ z, x = some z ∧ f z = y := by
  cases x with
  | none => cases h
  | some z => exact ⟨z, rfl, by simpa using h⟩

theorem run_typeInfo' {t : TypeId} {i : TypeInfo} (h : P.info? t = some i) : (typeInfo t).run P w = .ok i w := by
  simp [typeInfo, h]
theorem run_sizeOf' {t : TypeId} {i : TypeInfo} (h : P.info? t = some i) : (sizeOf t).run P w = .ok i.size w := by
  simp [sizeOf, run_typeInfo' w h]
theorem run_elemSize {t : TypeId} {n : Nat} (h : elemSize P t = some n) : (sizeOf t).run P w = .ok n w := by
  unfold elemSize at h
  split at h
  · rename_i i hi
    cases h
    exact run_sizeOf' w hi
  · cases h
theorem run_zeroCells {t : TypeId} {z : List AV} (h : zeroCellsOf P t = some z) (M : Mod) : ∃ u, (zeroValue t).run P w = .ok u w ∧ ConcL M z u.cells.toList ∧ ∃ i, P.info? t = some i ∧ i.zero = some u := by
  unfold zeroCellsOf at h
  split at h
  · rename_i i hi
    split at h
    · rename_i z' hz
      refine ⟨z', ?_, cvalL_ok h M, i, hi, hz⟩
      simp [zeroValue, run_typeInfo' w hi, hz]
    · cases h
  · cases h
theorem run_zeroOf {t : TypeId} {z : AV} (h : zeroOf P t = some z) (M : Mod) : ∃ u, (zeroValue t).run P w = .ok u w ∧ Conc M z u := by
  unfold zeroOf at h
  split at h
  · rename_i i hi
    split at h
    · rename_i z' hz
      refine ⟨z', ?_, cval_ok h M⟩
      simp [zeroValue, run_typeInfo' w hi, hz]
    · cases h
  · cases h
theorem run_aggOf {t : TypeId} {n : Option Nat} (h : aggOf P t = some n) : (isAgg t).run P w = .ok n.isSome w ∧ ∀ k, n = some k → (sizeOf t).run P w = .ok k w := by
  unfold aggOf at h
  split at h
  · cases h
  · rename_i i hi
    split at h
    · rename_i hu
      cases h
      exact ⟨by simp [isAgg, run_underlying hu], fun k hk => by cases hk; exact run_sizeOf' w hi⟩
    · rename_i hu
      cases h
      exact ⟨by simp [isAgg, run_underlying hu], fun k hk => by cases hk; exact run_sizeOf' w hi⟩
    · rename_i d hn1 hn2 hu
      cases h
      refine ⟨?_, fun k hk => by cases hk⟩
      simp only [isAgg, Sem.run_bind, run_underlying hu, Result.andThen_ok]
      cases d <;> first | rfl | (exact absurd rfl (hn1 _)) | (exact absurd rfl (hn2 _ _))
    · cases h

theorem run_part {t : TypeId} {n : Option Nat} (h : aggOf P t = some n) {cs : List AV} {us : Array Value} (hL : ConcL M cs us.toList) {off : Nat} {v : AV} (hv : AV.part off n cs = some v) :
    ∃ u, (part t us off).run P w = .ok u w ∧ Conc M v u := by
  obtain ⟨h1, h2⟩ := run_aggOf w h
  cases n with
  | none =>
    simp only [AV.part] at hv
    obtain ⟨u, hu, hc⟩ := hL.get hv
    refine ⟨u, ?_, hc⟩
    rw [Array.getElem?_toList] at hu
    simp [part, h1, hu]
  | some k =>
    simp only [AV.part] at hv
    split at hv
    · rename_i hle
      cases hv
      refine ⟨.agg (us.extract off (off + k)), ?_, .agg ?_⟩
      · simp [part, h1, h2 k rfl]
      · rw [Array.toList_extract]
        simp only [List.extract, Nat.add_sub_cancel_left]
        exact (hL.drop off).take k
    · cases hv

theorem conc_int {k : IntKind} {n : Int} {u : Value} (h : Conc M (.int k n) u) : u = .int k n := by cases h; rfl
theorem conc_str {s : List UInt8} {u : Value} (h : Conc M (.str s) u) : u = .string ⟨s.toArray⟩ := by cases h; rfl
theorem conc_bool {b : Bool} {u : Value} (h : Conc M (.bool b) u) : u = .bool b := by cases h; rfl

theorem binI_ok {op : BinOp} {t : TypeId} {k k' : IntKind} {x y : Int} {v : AV} (h : binI op k x k' y = some v) :
    ∃ u, (binOp op t (.int k x) (.int k' y)).run P w = .ok u w ∧ Conc M v u := by
  cases op <;> simp only [binI] at h
  case shl | shr =>
    split at h
    · cases h
    · rename_i hb
      cases h
      refine ⟨_, ?_, .int _ _⟩
      simp [binOp, Op.shift, hb]
  case quo | rem =>
    split at h
    · subst k'
      split at h
      · cases h
      · rename_i hb
        cases h
        refine ⟨_, ?_, .int _ _⟩
        simp [binOp, Op.intDiv, hb]
    · cases h
  case add | sub | mul =>
    split at h
    · subst k'; cases h
      refine ⟨_, ?_, .int _ _⟩
      simp [binOp, Op.intArith]
    · cases h
  case and | or | xor | andNot =>
    split at h
    · subst k'; cases h
      refine ⟨_, ?_, .int _ _⟩
      simp [binOp, Op.intBits, ibits]
    · cases h
  all_goals
    split at h
    · subst k'; cases h
      refine ⟨_, ?_, .bool _⟩
      simp [binOp, Op.intCmp]
    · cases h

theorem binS_ok {op : BinOp} {t : TypeId} {x y : List UInt8} {v : AV} (h : binS op x y = some v) :
    ∃ u, (binOp op t (.string ⟨x.toArray⟩) (.string ⟨y.toArray⟩)).run P w = .ok u w ∧ Conc M v u := by
  cases op <;> simp only [binS] at h <;> (repeat' split at h) <;> (try cases h)
  case add.isTrue.refl hle =>
    refine ⟨.string ⟨(x ++ y).toArray⟩, ?_, .str _⟩
    have h63 : ¬ (9223372036854775807 < ((x.length : Int) + (y.length : Int))) := by omega
    have hmax : IntKind.i64.max = 9223372036854775807 := rfl
    have e1 : (ByteArray.mk x.toArray).size = x.length := rfl
    have e2 : (ByteArray.mk y.toArray).size = y.length := rfl
    simp [binOp, Op.stringOp, hmax, e1, e2, h63]
    apply ByteArray.ext
    simp
  all_goals
    refine ⟨_, ?_, .bool _⟩
    simp [binOp, Op.stringOp]

theorem bin_ok {op : BinOp} {t : TypeId} {x y v : AV} {ux uy : Value} (hx : Conc M x ux) (hy : Conc M y uy) (h : AV.bin op x y = some v) :
    ∃ u, (binOp op t ux uy).run P w = .ok u w ∧ Conc M v u := by
  unfold AV.bin at h
  split at h
  · rw [conc_int hx, conc_int hy]; exact binI_ok w h
  · rw [conc_str hx, conc_str hy]; exact binS_ok w h
  · cases h

theorem guard_ok {op : BinOp} {t : TypeId} {x y : Operand} {ax ay : AV} {ux uy : Value} {av : AV} (hx : Conc M ax ux) (h : AV.bin op ax ay = some av) :
    (eqGuard op t x y ux uy).run P w = .ok () w := by
  unfold AV.bin at h
  split at h
  · rw [conc_int hx]; cases op <;> simp [eqGuard]
  · rw [conc_str hx]; cases op <;> simp [eqGuard]
  · cases h

/-- One cell of each kind. -/
def LK.fits (P : Program) (t : TypeId) : LK → Prop
  | .int => ∃ k, P.underlying t = some (.int k)
  | .bool => P.underlying t = some .bool
  | .str => P.underlying t = some .string

theorem eqK_ok {d : Nat} {t : TypeId} {lk : LK} {x y : AV} {ux uy : Value} {r : Bool} (hx : Conc M x ux) (hy : Conc M y uy) (h : AV.eqK lk x y = some r) (ht : lk.fits P t) :
    (Op.equalIn (d + 1) t ux uy).run P w = .ok r w := by
  unfold AV.eqK at h
  split at h
  · split at h
    · rename_i hkk
      subst hkk
      cases h
      rw [conc_int hx, conc_int hy]
      obtain ⟨k', hu⟩ := ht
      exact run_equalIn_int (P := P) w d t _ _ _ _ hu
    · cases h
  · cases h
    rw [conc_bool hx, conc_bool hy]
    exact run_equalIn_bool (P := P) w d t _ _ ht
  · cases h
    rw [conc_str hx, conc_str hy]
    rw [run_equalIn_string (P := P) w d t _ _ ht]; simp
  · cases h

theorem eqL_length : ∀ {ks : List LK} {as bs : List AV} {r : Bool}, AV.eqL ks as bs = some r → as.length = ks.length ∧ bs.length = ks.length
  | [], [], [], _, _ => ⟨rfl, rfl⟩
  | [], _ :: _, _, _, h => by simp [AV.eqL] at h
  | [], [], _ :: _, _, h => by simp [AV.eqL] at h
  | _ :: _, [], _, _, h => by simp [AV.eqL] at h
  | _ :: _, _ :: _, [], _, h => by simp [AV.eqL] at h
  | k :: ks, a :: as, b :: bs, r, h => by
    simp only [AV.eqL] at h
    split at h
    · split at h
      · rename_i s hs
        have := eqL_length hs
        simp [this]
      · cases h
    · cases h

theorem eqL_append : ∀ {ks ls : List LK} {as bs : List AV} {r : Bool}, AV.eqL (ks ++ ls) as bs = some r →
    ∃ r1 r2, AV.eqL ks (as.take ks.length) (bs.take ks.length) = some r1 ∧ AV.eqL ls (as.drop ks.length) (bs.drop ks.length) = some r2 ∧ r = (r1 && r2)
  | [], ls, as, bs, r, h => ⟨true, r, by simp [AV.eqL], by simpa using h, by simp⟩
  | k :: ks, ls, [], bs, r, h => by simp [AV.eqL] at h
  | k :: ks, ls, a :: as, [], r, h => by simp [AV.eqL] at h
  | k :: ks, ls, a :: as, b :: bs, r, h => by
    simp only [List.cons_append, AV.eqL] at h
    split at h
    · rename_i r0 h0
      split at h
      · rename_i s hs
        cases h
        obtain ⟨r1, r2, e1, e2, e3⟩ := eqL_append hs
        refine ⟨r0 && r1, r2, ?_, by simpa using e2, by rw [e3, Bool.and_assoc]⟩
        simp [AV.eqL, h0, e1]
      · cases h
    · cases h

theorem cellsOf_eq {t : TypeId} {i : TypeInfo} (h : P.info? t = some i) : P.cellsOf t = i.size := by simp [Program.cellsOf, h]

/-- A value of the type, out of a row of cells. -/
theorem eqLeaves : ∀ (d : Nat) {t : TypeId} {ks : List LK}, leaves P d t = some ks →
    ∀ (as bs : List AV) (us vs : Array Value) (r : Bool) (off d' : Nat), d ≤ d' → ConcL M as us.toList → ConcL M bs vs.toList → off + ks.length ≤ as.length → off + ks.length ≤ bs.length →
      P.cellsOf t = ks.length →
      AV.eqL ks ((as.drop off).take ks.length) ((bs.drop off).take ks.length) = some r →
      ∃ u v, (part t us off).run P w = .ok u w ∧ (part t vs off).run P w = .ok v w ∧ (Op.equalIn d' t u v).run P w = .ok r w
  | 0, t, ks, h => by simp [leaves] at h
  | d + 1, t, ks, h => by
    intro as bs us vs r off d' hd ha hb hla hlb hsz he
    obtain ⟨d', rfl⟩ : ∃ e, d' = e + 1 := ⟨d' - 1, by omega⟩
    have one : ∀ (lk : LK), ks = [lk] → lk.fits P t → (isAgg t).run P w = .ok false w →
        ∃ u v, (part t us off).run P w = .ok u w ∧ (part t vs off).run P w = .ok v w ∧ (Op.equalIn (d' + 1) t u v).run P w = .ok r w := by
      intro lk hk hf hagg
      subst hk
      simp only [List.length_singleton] at hla hlb he
      obtain ⟨x, hx⟩ : ∃ x, as[off]? = some x := ⟨_, List.getElem?_eq_getElem (by omega)⟩
      obtain ⟨y, hy⟩ : ∃ y, bs[off]? = some y := ⟨_, List.getElem?_eq_getElem (by omega)⟩
      have ex : (as.drop off).take 1 = [x] := by
        rw [List.drop_eq_getElem_cons (show off < as.length by omega), List.take_succ_cons, List.take_zero]
        rw [List.getElem?_eq_getElem (show off < as.length by omega)] at hx
        cases hx; rfl
      have ey : (bs.drop off).take 1 = [y] := by
        rw [List.drop_eq_getElem_cons (show off < bs.length by omega), List.take_succ_cons, List.take_zero]
        rw [List.getElem?_eq_getElem (show off < bs.length by omega)] at hy
        cases hy; rfl
      rw [ex, ey] at he
      simp only [AV.eqL] at he
      split at he
      · rename_i r0 h0
        cases he
        obtain ⟨ux, hux, hcx⟩ := ha.get hx
        obtain ⟨uy, huy, hcy⟩ := hb.get hy
        rw [Array.getElem?_toList] at hux huy
        refine ⟨ux, uy, by simp [part, hagg, hux], by simp [part, hagg, huy], ?_⟩
        rw [Bool.and_true]
        exact eqK_ok w hcx hcy h0 hf
      · cases he
    simp only [leaves] at h
    split at h
    · cases h
    · rename_i i hi
      split at h
      · rename_i k hu
        split at h
        · cases h; exact one .int rfl ⟨k, hu⟩ (by simp [isAgg, run_underlying hu])
        · cases h
      · rename_i hu
        split at h
        · cases h; exact one .bool rfl hu (by simp [isAgg, run_underlying hu])
        · cases h
      · rename_i hu
        split at h
        · cases h; exact one .str rfl hu (by simp [isAgg, run_underlying hu])
        · cases h
      · rename_i fs hu
        split at h
        · cases h
        · rename_i hst
          have hst : P.stoodInHeld t = false := by simpa using hst
          have hagg : (isAgg t).run P w = .ok true w := by simp [isAgg, run_underlying hu]
          have hks : i.size = ks.length := by rw [← cellsOf_eq hi]; exact hsz
          refine ⟨.agg (us.extract off (off + ks.length)), .agg (vs.extract off (off + ks.length)), ?_, ?_, ?_⟩
          · simp [part, hagg, run_sizeOf' w hi, hks]
          · simp [part, hagg, run_sizeOf' w hi, hks]
          · have hF : P.fieldsOf t = fs := by simp [Program.fieldsOf, hu]
            rw [run_equalIn_struct (P := P) w d' t _ _ (by rw [hF]; exact hu) hst, hF]
            have hau : ConcL M ((as.drop off).take ks.length) (us.extract off (off + ks.length)).toList := by
              rw [Array.toList_extract]; simp only [List.extract, Nat.add_sub_cancel_left]; exact (ha.drop off).take _
            have hbu : ConcL M ((bs.drop off).take ks.length) (vs.extract off (off + ks.length)).toList := by
              rw [Array.toList_extract]; simp only [List.extract, Nat.add_sub_cancel_left]; exact (hb.drop off).take _
            have hl1 := (eqL_length he).1
            have hl2 := (eqL_length he).2
            generalize (as.drop off).take ks.length = as' at *
            generalize (bs.drop off).take ks.length = bs' at *
            generalize us.extract off (off + ks.length) = us' at *
            generalize vs.extract off (off + ks.length) = vs' at *
            clear ha hb hla hlb
            have key : ∀ (fs : List Field) (o : Nat) (ls : List LK) (r : Bool), leaves.leavesF (leaves P d) P fs o = some ls → o + ls.length = ks.length →
                AV.eqL ls (as'.drop o) (bs'.drop o) = some r → (Op.eqFields d' us' vs' fs).run P w = .ok r w := by
              intro fs
              induction fs with
              | nil =>
                intro o ls r hl ho hr
                simp only [leaves.leavesF] at hl
                cases hl
                have e1 : as'.drop o = [] := List.drop_eq_nil_of_le (by simp at ho; omega)
                have e2 : bs'.drop o = [] := List.drop_eq_nil_of_le (by simp at ho; omega)
                rw [e1, e2] at hr
                simp [AV.eqL] at hr
                subst hr
                simp [Op.eqFields]
              | cons f fs ih =>
                intro o ls r hl ho hr
                simp only [leaves.leavesF] at hl
                split at hl
                · cases hl
                · rename_i hnm
                  have hn1 : f.name ≠ "_" := fun e => hnm (.inl e)
                  have hn2 : f.offset = o := Decidable.byContradiction fun e => hnm (.inr e)
                  split at hl
                  · cases hl
                  · rename_i ks1 hk1
                    split at hl
                    · rename_i hlen
                      split at hl
                      · cases hl
                      · rename_i ls2 hl2'
                        cases hl
                        obtain ⟨r1, r2, q1, q2, q3⟩ := eqL_append hr
                        rw [List.length_append] at ho
                        obtain ⟨u, v, p1, p2, p3⟩ := eqLeaves d hk1 as' bs' us' vs' r1 o d' (by omega) hau hbu (by omega) (by omega) hlen.symm q1
                        have h2 := ih (o + P.cellsOf f.type) ls2 r2 hl2' (by omega) (by rw [List.drop_drop, List.drop_drop] at q2; rw [← hlen]; exact q2)
                        subst hn2
                        rw [Op.eqFields]
                        simp only [if_pos hn1, Sem.run_bind, p1, p2, p3, Result.andThen_ok]
                        subst q3
                        cases r1
                        · simp
                        · simpa using h2
                    · cases hl
            exact key fs.toList 0 ks r h (by omega) (by simpa using he)
      · cases h
end
end Go.SB
