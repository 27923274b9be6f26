/- Framework, part F: operations that look into no memory, all of them. Conditions: none. -/
import Derived.Test.YtkkccabchhnebaaFwE
set_option linter.unusedVariables false
set_option linter.unusedSimpArgs false
namespace Go.SB
section
variable {P : Program} {M : Mod} {ρ : List AV} {a : Act} (w : World)

/-- Neither a number nor a string nor a struct nor a nil interface. -/
def odd : Value → Bool
  | .int _ _ | .float _ _ | .complex _ _ _ | .string _ | .agg _ | .nilIface => false
  | _ => true

theorem guard_odd {op : BinOp} {t : TypeId} {ox oy : Operand} {ux uy : Value} (h : odd ux = true) : (eqGuard op t ox oy ux uy).run P w = .ok () w := by
  cases ux <;> simp only [odd] at h <;> first | (cases h; done) | (cases op <;> rfl)

theorem binOp_odd {op : BinOp} {neg : Bool} {t : TypeId} {ux uy : Value} {r : Bool} (hop : isEq op = some neg) (h : odd ux = true) (he : (Op.equal t ux uy).run P w = .ok r w) :
    (binOp op t ux uy).run P w = .ok (.bool (r != neg)) w := by
  cases op <;> simp only [isEq] at hop <;> cases hop <;> cases ux <;> simp only [odd] at h <;> first | (cases h; done) | (simp [binOp, he])

theorem nilP_ok {x : AV} {u : Value} {b : Bool} (hx : Conc M x u) (h : x.nilP = some b) : if b then u = .pointer none else ∃ a, u = .pointer (some a) := by
  cases hx <;> simp only [AV.nilP] at h <;> cases h <;> simp
theorem nilS_ok {x : AV} {u : Value} {b : Bool} (hx : Conc M x u) (h : x.nilS = some b) : if b then u = .slice none 0 0 else ∃ a n c, u = .slice (some a) n c := by
  cases x with
  | ps sz es =>
    cases es with
    | nil => simp [AV.nilS] at h
    | cons e es => simp only [AV.nilS] at h; cases h; cases hx; simp
  | nils => simp only [AV.nilS] at h; cases h; cases hx; simp
  | sl => simp only [AV.nilS] at h; cases h; cases hx <;> simp
  | es => simp only [AV.nilS] at h; cases h; cases hx; simp
  | _ => simp [AV.nilS] at h
theorem nilM_ok {x : AV} {u : Value} {b : Bool} (hx : Conc M x u) (h : x.nilM = some b) : if b then u = .map none else ∃ a, u = .map (some a) := by
  cases hx <;> simp only [AV.nilM] at h <;> cases h <;> simp
theorem nilF_ok {x : AV} {u : Value} {b : Bool} (hx : Conc M x u) (h : x.nilF = some b) : if b then u = .nilFunc else ∃ f c d, u = .func f c d := by
  cases hx <;> simp only [AV.nilF] at h <;> cases h <;> simp

theorem eqNil_some {x y : Option Bool} {r : Bool} (h : eqNil x y = some r) : (x = some true ∧ y = some r) ∨ (x = some false ∧ y = some true ∧ r = false) := by
  unfold eqNil at h
  split at h
  · cases h; exact .inl ⟨rfl, rfl⟩
  · cases h; exact .inr ⟨rfl, rfl, rfl⟩
  · cases h

theorem equal_ptr {d : Nat} {t el : TypeId} (hu : P.underlying t = some (.pointer el)) (x y : Option Addr) (h : x = none ∨ y = none) :
    (Op.equalIn (d + 1) t (.pointer x) (.pointer y)).run P w = .ok (x.isNone && y.isNone) w := by
  rcases h with rfl | rfl
  · simp [Op.equalIn, run_underlying hu]
  · cases x <;> simp [Op.equalIn, run_underlying hu]
theorem equal_slice {d : Nat} {t el : TypeId} (hu : P.underlying t = some (.slice el)) (x y : Option Addr) (n c n' c' : Nat) (h : x = none ∨ y = none) :
    (Op.equalIn (d + 1) t (.slice x n c) (.slice y n' c')).run P w = .ok (x.isNone && y.isNone) w := by
  rcases h with rfl | rfl
  · simp [Op.equalIn, run_underlying hu]
  · cases x <;> simp [Op.equalIn, run_underlying hu]
theorem equal_map {d : Nat} {t k el : TypeId} (hu : P.underlying t = some (.map k el)) (x y : Option Nat) (h : x = none ∨ y = none) :
    (Op.equalIn (d + 1) t (.map x) (.map y)).run P w = .ok (x.isNone && y.isNone) w := by
  rcases h with rfl | rfl
  · simp [Op.equalIn, run_underlying hu]
  · cases x <;> simp [Op.equalIn, run_underlying hu]

theorem eqv_ok {neg : Bool} {op : BinOp} {t : TypeId} {e : EK} {x y : AV} {ux uy : Value} {r : Bool} {ox oy : Operand} (hop : isEq op = some neg) (hk : eqOk P t = some e)
    (hx : Conc M x ux) (hy : Conc M y uy) (h : AV.eqv e x y = some r) :
    (eqGuard op t ox oy ux uy).run P w = .ok () w ∧ (binOp op t ux uy).run P w = .ok (.bool (r != neg)) w := by
  have fin : odd ux = true → (Op.equalIn (9999 + 1) t ux uy).run P w = .ok r w → (eqGuard op t ox oy ux uy).run P w = .ok () w ∧ (binOp op t ux uy).run P w = .ok (.bool (r != neg)) w :=
    fun h1 h2 => ⟨guard_odd w h1, binOp_odd w hop h1 h2⟩
  cases e with
  | bool =>
    have hu : P.underlying t = some .bool := by
      unfold eqOk at hk; (repeat' split at hk) <;> first | assumption | (cases hk; done)
    simp only [AV.eqv, AV.eqB] at h
    split at h
    · cases h; cases hx; cases hy
      exact fin rfl (run_equalIn_bool (P := P) w 9999 t _ _ hu)
    · cases h
  | ptr =>
    obtain ⟨el, hu⟩ : ∃ el, P.underlying t = some (.pointer el) := by
      unfold eqOk at hk; (repeat' split at hk) <;> first | exact ⟨_, by assumption⟩ | (cases hk; done)
    simp only [AV.eqv] at h
    rcases eqNil_some h with ⟨h1, h2⟩ | ⟨h1, h2, rfl⟩
    · have e1 := nilP_ok hx h1
      have e2 := nilP_ok hy h2
      simp at e1; subst e1
      cases r
      · obtain ⟨a, rfl⟩ := by simpa using e2
        exact fin rfl (equal_ptr w hu _ _ (.inl rfl))
      · simp at e2; subst e2
        exact fin rfl (equal_ptr w hu _ _ (.inl rfl))
    · have e1 := nilP_ok hx h1
      have e2 := nilP_ok hy h2
      simp at e2; subst e2
      obtain ⟨a, rfl⟩ := by simpa using e1
      exact fin rfl (equal_ptr w hu _ _ (.inr rfl))
  | slice =>
    obtain ⟨el, hu⟩ : ∃ el, P.underlying t = some (.slice el) := by
      unfold eqOk at hk; (repeat' split at hk) <;> first | exact ⟨_, by assumption⟩ | (cases hk; done)
    simp only [AV.eqv] at h
    rcases eqNil_some h with ⟨h1, h2⟩ | ⟨h1, h2, rfl⟩
    · have e1 := nilS_ok hx h1
      have e2 := nilS_ok hy h2
      simp at e1; subst e1
      cases r
      · obtain ⟨a, n, c, rfl⟩ := by simpa using e2
        exact fin rfl (equal_slice w hu _ _ _ _ _ _ (.inl rfl))
      · simp at e2; subst e2
        exact fin rfl (equal_slice w hu _ _ _ _ _ _ (.inl rfl))
    · have e1 := nilS_ok hx h1
      have e2 := nilS_ok hy h2
      simp at e2; subst e2
      obtain ⟨a, n, c, rfl⟩ := by simpa using e1
      exact fin rfl (equal_slice w hu _ _ _ _ _ _ (.inr rfl))
  | map =>
    obtain ⟨k, el, hu⟩ : ∃ k el, P.underlying t = some (.map k el) := by
      unfold eqOk at hk; (repeat' split at hk) <;> first | exact ⟨_, _, by assumption⟩ | (cases hk; done)
    simp only [AV.eqv] at h
    rcases eqNil_some h with ⟨h1, h2⟩ | ⟨h1, h2, rfl⟩
    · have e1 := nilM_ok hx h1
      have e2 := nilM_ok hy h2
      simp at e1; subst e1
      cases r
      · obtain ⟨a, rfl⟩ := by simpa using e2
        exact fin rfl (equal_map w hu _ _ (.inl rfl))
      · simp at e2; subst e2
        exact fin rfl (equal_map w hu _ _ (.inl rfl))
    · have e1 := nilM_ok hx h1
      have e2 := nilM_ok hy h2
      simp at e2; subst e2
      obtain ⟨a, rfl⟩ := by simpa using e1
      exact fin rfl (equal_map w hu _ _ (.inr rfl))
  | func =>
    obtain ⟨p1, p2, p3, hu⟩ : ∃ p1 p2 p3, P.underlying t = some (.func p1 p2 p3) := by
      unfold eqOk at hk; (repeat' split at hk) <;> first | exact ⟨_, _, _, by assumption⟩ | (cases hk; done)
    simp only [AV.eqv] at h
    rcases eqNil_some h with ⟨h1, h2⟩ | ⟨h1, h2, rfl⟩
    · have e1 := nilF_ok hx h1
      have e2 := nilF_ok hy h2
      simp at e1; subst e1
      cases r
      · obtain ⟨f, c, d, rfl⟩ := by simpa using e2
        exact fin rfl (by rw [Op.equalIn]; simp [run_underlying hu])
      · simp at e2; subst e2
        exact fin rfl (by rw [Op.equalIn]; simp [run_underlying hu])
    · have e1 := nilF_ok hx h1
      have e2 := nilF_ok hy h2
      simp at e2; subst e2
      obtain ⟨f, c, d, rfl⟩ := by simpa using e1
      exact fin rfl (by rw [Op.equalIn]; simp [run_underlying hu])
  | struct ks =>
    obtain ⟨fs, hu, hg, hl, hlen⟩ : ∃ fs, P.underlying t = some (.struct fs) ∧ P.eqGuardType P.depth t = false ∧ leaves P 100 t = some ks ∧ ks.length = P.cellsOf t := by
      unfold eqOk at hk
      split at hk <;> first | (cases hk; done) | skip
      rename_i fs hu
      split at hk
      · cases hk
      · rename_i hg
        split at hk
        · rename_i ks' hl
          split at hk
          · rename_i hlen
            cases hk
            exact ⟨fs, hu, by simpa using hg, hl, hlen⟩
          · cases hk
        · cases hk
    simp only [AV.eqv, AV.eqS] at h
    split at h <;> first | (cases h; done) | skip
    rename_i as bs
    cases hx with
    | @agg _ us hL =>
      cases hy with
      | @agg _ vs hL' =>
        obtain ⟨l1, l2⟩ := eqL_length h
        obtain ⟨u, v, p1, p2, p3⟩ := eqLeaves (P := P) w 100 hl as bs us vs r 0 10000 (by omega) hL hL' (by omega) (by omega) hlen.symm
          (by rw [List.drop_zero, List.drop_zero, List.take_of_length_le (by omega), List.take_of_length_le (by omega)]; exact h)
        have hsz1 : us.size = ks.length := by have := hL.length; simp at this; omega
        have hsz2 : vs.size = ks.length := by have := hL'.length; simp at this; omega
        have q : ∃ i, P.info? t = some i ∧ i.size = ks.length := by
          cases hi : P.info? t with
          | none => simp [Program.underlying, hi] at hu
          | some i => exact ⟨i, rfl, by rw [← cellsOf_eq hi]; exact hlen.symm⟩
        obtain ⟨i, hi, his⟩ := q
        have hagg : (isAgg t).run P w = .ok true w := by simp [isAgg, run_underlying hu]
        have e1 : u = .agg us := by
          have : (part t us 0).run P w = .ok (.agg us) w := by
            simp [part, hagg, run_sizeOf' w hi, his, ← hsz1]
          rw [this] at p1; cases p1; rfl
        have e2 : v = .agg vs := by
          have : (part t vs 0).run P w = .ok (.agg vs) w := by
            simp [part, hagg, run_sizeOf' w hi, his, ← hsz2]
          rw [this] at p2; cases p2; rfl
        subst e1; subst e2
        refine ⟨run_eqGuard_agg (P := P) w op t ox oy us vs hg, ?_⟩
        cases op <;> simp only [isEq] at hop <;> cases hop
        · simp [run_eql_struct, p3]
        · simp [run_neq_struct, p3]

theorem faddr_conc {off : Nat} {x v : AV} {u : Value} (hx : Conc M x u) (h : AV.faddr off x = some v) : ∃ ad, u = .pointer (some ad) ∧ ad.spot = none ∧ Conc M v (.pointer (some (ad.add off))) := by
  cases hx <;> simp only [AV.faddr] at h <;> first | (cases h; done) | skip
  · cases h
    refine ⟨_, rfl, rfl, ?_⟩
    rw [addr_add, Nat.add_assoc]
    exact .ptr ‹_›
  · cases h
    refine ⟨_, rfl, rfl, ?_⟩
    rw [addr_add, Nat.add_assoc]
    exact .eptr ‹_›
  · rename_i cs us c b o hI hr hL
    cases h
    refine ⟨_, rfl, rfl, ?_⟩
    rw [addr_add]
    refine .pp hI (us := us.drop off) ?_ (hL.drop off)
    intro j u hu
    rw [List.getElem?_drop] at hu
    rw [← hr _ _ hu, Nat.add_assoc]
end
end Go.SB
