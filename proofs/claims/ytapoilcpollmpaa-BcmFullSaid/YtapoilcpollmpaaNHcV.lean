/- HcV, put together. Conditions: none. -/
import Derived.Test.YtapoilcpollmpaaNHcT
/- Framework, part HcV: a struct that owns its slices: opened into its cells and its rows, and closed again. -/
section
set_option linter.unusedVariables false
set_option linter.unusedSimpArgs false
namespace Go.SB

/-- What stands in a cell: a value without addresses, or a slice or a map that is owned, with what it shows. -/
inductive OV where
  | v (a : AV)
  | s (sz : Nat) (rows : List (List AV))
  | m (es : List (AV × AV))

/-- The module that knows what is never written, and no place. -/
def modI (I : Nat → Option (Array Value)) : Mod := { D := fun _ => False, blk := fun _ => 0, base := fun _ => 0, room := fun _ => 0, sz := fun _ => 0, I := I }
theorem modI_le {M : Mod} : (modI M.I).Le M := ⟨fun _ h => h.elim, fun _ h => h.elim, fun _ h => h.elim, fun _ h => h.elim, fun _ h => h.elim, fun _ _ h => h⟩
theorem modI_mono {I I' : Nat → Option (Array Value)} (h : ∀ x c, I x = some c → I' x = some c) : (modI I).Le (modI I') := ⟨fun _ h => h.elim, fun _ h => h.elim, fun _ h => h.elim, fun _ h => h.elim, fun _ h => h.elim, h⟩

mutual
theorem Conc.flatI {M : Mod} : ∀ {a : AV} {u : Value}, Conc M a u → AV.flat a = true → Conc (modI M.I) a u
  | _, _, .int k n, _ => .int k n
  | _, _, .bool b, _ => .bool b
  | _, _, .str s, _ => .str s
  | _, _, .nilp, _ => .nilp
  | _, _, .nils, _ => .nils
  | _, _, .nilm, _ => .nilm
  | _, _, .nilf, _ => .nilf
  | _, _, .nili, _ => .nili
  | _, _, .ptr h, e => by simp [AV.flat] at e
  | _, _, .eptr h, e => by simp [AV.flat] at e
  | _, _, .pp hI hr hL, e => .pp (M := modI M.I) hI hr (ConcL.flatI hL (by simpa [AV.flat] using e))
  | _, _, .sl h hs hc ht hr, e => by simp [AV.flat] at e
  | _, _, .sl0 h hs, e => by simp [AV.flat] at e
  | _, _, .es a, _ => .es a
  | _, _, .ps hI hc hr hL, e => .ps (M := modI M.I) hI hc hr (fun i x hx => ConcL.flatI (hL i x hx) (flatLL_get (by simpa [AV.flat] using e) hx))
  | _, _, .ps0 h, _ => .ps0 h
  | _, _, .mp h, e => by simp [AV.flat] at e
  | _, _, .fn h₁ h₂, e => by
    simp only [AV.flat, Bool.and_eq_true] at e
    exact .fn (ConcL.flatI h₁ e.1) (ConcL.flatI h₂ e.2)
  | _, _, .ifc h, e => .ifc (Conc.flatI h (by simpa [AV.flat] using e))
  | _, _, .agg h, e => .agg (ConcL.flatI h (by simpa [AV.flat] using e))
  | _, _, .tup h, e => .tup (ConcL.flatI h (by simpa [AV.flat] using e))
  | _, _, .raw v h, _ => .raw v h
  | _, _, .any v, _ => .any v
theorem ConcL.flatI {M : Mod} : ∀ {as : List AV} {us : List Value}, ConcL M as us → AV.flatL as = true → ConcL (modI M.I) as us
  | _, _, .nil, _ => .nil
  | _, _, .cons h t, e => by
    simp only [AV.flatL, Bool.and_eq_true] at e
    exact .cons (Conc.flatI h e.1) (ConcL.flatI t e.2)
end

/-- The cells u bear what is told; F: the blocks of the slices. -/
inductive OVL (h : Array Obj) (I : Nat → Option (Array Value)) : (Nat → Prop) → List OV → List Value → Prop
  | nil : OVL h I (fun _ => False) [] []
  | v {F : Nat → Prop} {a : AV} {u : Value} {ovs : List OV} {us : List Value} (ha : Conc (modI I) a u) (t : OVL h I F ovs us) : OVL h I F (.v a :: ovs) (u :: us)
  | s0 {F : Nat → Prop} {sz : Nat} {ad : Option Addr} {ovs : List OV} {us : List Value} (h0 : 0 < sz) (t : OVL h I F ovs us) : OVL h I F (.s sz [] :: ovs) (.slice ad 0 0 :: us)
  | s {F : Nat → Prop} {sz b o cap : Nat} {rows : List (List AV)} {c : Array Value} {e : TypeId} {fr : Nat × Nat} {uss : Nat → List Value} {ovs : List OV} {us : List Value} (hb : h[b]? = some (.cells c e fr)) (hu : Unfrozen c fr)
      (hc : rows.length ≤ cap) (hr : o + cap * sz ≤ c.size) (h1 : ∀ i ev, rows[i]? = some ev → ConcL (modI I) ev (uss i) ∧ ev.length = sz)
      (h2 : ∀ i j u, i < rows.length → (uss i)[j]? = some u → c[o + i * sz + j]? = some u) (hn : ¬ F b) (t : OVL h I F ovs us) :
      OVL h I (fun x => F x ∨ x = b) (.s sz rows :: ovs) (.slice (some ⟨b, o, none⟩) rows.length cap :: us)
  | m {F : Nat → Prop} {b clock : Nat} {es : List (AV × AV)} {ents : Array MapEntry} {ovs : List OV} {us : List Value} (hb : h[b]? = some (.map ents clock)) (hs : ents.size = es.length)
      (h1 : ∀ (i : Nat) (k v : AV), es[i]? = some (k, v) → ∃ en : MapEntry, ents[i]? = some en ∧ Conc (modI I) k en.key ∧ Conc (modI I) v en.val) (h2 : ∀ (i : Nat) (en : MapEntry), ents[i]? = some en → en.born < clock)
      (hn : ¬ F b) (t : OVL h I F ovs us) : OVL h I (fun x => F x ∨ x = b) (.m es :: ovs) (.map (some b) :: us)

theorem OVL.keep {h h' : Array Obj} {I I' : Nat → Option (Array Value)} {F : Nat → Prop} {ovs : List OV} {us : List Value} (t : OVL h I F ovs us) (hI : ∀ x c, I x = some c → I' x = some c) : (∀ x, F x → h'[x]? = h[x]?) → OVL h' I' F ovs us := by
  induction t with
  | nil => exact fun _ => .nil
  | v ha t ih => exact fun hk => .v (ha.mono (modI_mono hI)) (ih hk)
  | s0 h0 t ih => exact fun hk => .s0 h0 (ih hk)
  | s hb hu hc hr h1 h2 hn t ih =>
    exact fun hk => .s (by rw [hk _ (.inr rfl)]; exact hb) hu hc hr (fun i ev he => ⟨(h1 i ev he).1.mono (modI_mono hI), (h1 i ev he).2⟩) h2 hn (ih fun x hx => hk x (.inl hx))
  | m hb hs h1 h2 hn t ih =>
    exact fun hk => .m (by rw [hk _ (.inr rfl)]; exact hb) hs (fun i k v he => by obtain ⟨en, a, b, c⟩ := h1 i k v he; exact ⟨en, a, b.mono (modI_mono hI), c.mono (modI_mono hI)⟩) h2 hn (ih fun x hx => hk x (.inl hx))

def Assn.own (ovs : List OV) : Assn where
  root := true
  holds h I b o F := ∃ (F' : Nat → Prop) (c : Array Value) (e : TypeId) (fr : Nat × Nat) (us : List Value), (∀ x, F x ↔ x = b ∨ F' x) ∧ ¬ F' b ∧ h[b]? = some (.cells c e fr) ∧ Unfrozen c fr ∧ OVL h I F' ovs us ∧ ∀ j u, us[j]? = some u → c[o + j]? = some u
  keep := by
    rintro h h' I I' b o F ⟨F', c, e, fr, us, h1, h2, h3, h4, h5, h6⟩ hk hI
    exact ⟨F', c, e, fr, us, h1, h2, by rw [hk _ ((h1 b).2 (.inl rfl))]; exact h3, h4, h5.keep hI fun x hx => hk x ((h1 x).2 (.inr hx)), h6⟩

/-- An object that owns its slices. -/
abbrev AO.own (ovs : List OV) : AO := .opq (Assn.own ovs)

section
variable {h : Array Obj} {M : Mod} {F : Nat → Nat → Prop} {A : AHeap}

theorem set_get {A : AHeap} {o : Option AO} {l k : Nat} {x : AO} (hl : l < A.length) (hx : (A.set l o)[k]? = some (some x)) : (k = l ∧ o = some x) ∨ (k ≠ l ∧ A[k]? = some (some x)) := by
  by_cases e : l = k
  · subst e; rw [List.getElem?_set_self hl] at hx; exact .inl ⟨rfl, by simpa using hx⟩
  · rw [List.getElem?_set_ne e] at hx; exact .inr ⟨fun e' => e e'.symm, hx⟩

/-- A place holds something else. -/
theorem Sim.refill (S : Sim h M F A) {l : Nat} {o0 o1 : AO} (hA : A[l]? = some (some o0)) {G : Nat → Prop} (ho : o1.holds h M G l) (h1 : ∀ x, G x → x < h.size) (h2 : ∀ x k o, k ≠ l → G x → A[k]? = some (some o) → ¬ F k x) (h3 : ∀ x c, G x → M.I x ≠ some c) :
    Sim h M (fun k x => if k = l then G x else F k x) (A.set l (some o1)) := by
  have hl := (List.getElem?_eq_some_iff.1 hA).1
  refine ⟨fun k x hx => ?_, fun k hD => ?_, fun k x y hx hy => ?_, fun k k' x x' y hx hx' hy hy' => ?_, S.imm, fun y c k x hI hx hy => ?_⟩
  · rcases set_get hl hx with ⟨rfl, e⟩ | ⟨hk, hx⟩
    · cases e; exact ⟨(S.holds k _ hA).1, by simpa using ho⟩
    · rw [show (fun x => if k = l then G x else F k x) = F k from funext fun y => by rw [if_neg hk]]
      exact S.holds k x hx
  · obtain ⟨x, hx⟩ := S.fresh k hD
    by_cases e : l = k
    · subst e; exact ⟨o1, by rw [List.getElem?_set_self hl]⟩
    · exact ⟨x, by rw [List.getElem?_set_ne e]; exact hx⟩
  · rcases set_get hl hx with ⟨rfl, e⟩ | ⟨hk, hx⟩
    · rw [if_pos rfl] at hy; exact h1 y hy
    · rw [if_neg hk] at hy; exact S.lt k x y hx hy
  · rcases set_get hl hx with ⟨e0, e⟩ | ⟨hk, gx⟩ <;> rcases set_get hl hx' with ⟨e0', e'⟩ | ⟨hk', gx'⟩
    · rw [e0, e0']
    · rw [if_pos e0] at hy; rw [if_neg hk'] at hy'; exact absurd hy' (h2 y k' x' hk' hy gx')
    · rw [if_pos e0'] at hy'; rw [if_neg hk] at hy; exact absurd hy (h2 y k x hk hy' gx)
    · rw [if_neg hk] at hy; rw [if_neg hk'] at hy'; exact S.disj k k' x x' y gx gx' hy hy'
  · rcases set_get hl hx with ⟨rfl, e⟩ | ⟨hk, hx⟩
    · rw [if_pos rfl] at hy; exact h3 y c hy hI
    · rw [if_neg hk] at hy; exact S.immNot y c k x hI hx hy

/-! ### Opened -/
def opC : Nat → List OV → List AV
  | _, [] => []
  | n, .v a :: r => a :: opC n r
  | n, .s sz rows :: r => .sl n sz 0 rows.length false :: opC (n + 1) r
  | n, .m _ :: r => .mp n :: opC (n + 1) r
def opA : List OV → AHeap
  | [] => []
  | .v _ :: r => opA r
  | .s _ rows :: r => some (.arr rows) :: opA r
  | .m es :: r => some (.map es) :: opA r

theorem open_list {I : Nat → Option (Array Value)} {F0 : Nat → Prop} {ovs : List OV} {us : List Value} (t : OVL h I F0 ovs us) : ∀ (M : Mod) (F : Nat → Nat → Prop) (A : AHeap), Sim h M F A → M.I = I →
    (∀ x, F0 x → x < h.size ∧ (∀ l o, A[l]? = some (some o) → ¬ F l x) ∧ ∀ c, I x ≠ some c) →
    ∃ M' F', Sim h M' F' (A ++ opA ovs) ∧ M.Le M' ∧ M'.I = I ∧ ConcL M' (opC A.length ovs) us ∧ (∀ l, l < A.length → F' l = F l) ∧ ∀ l x o, A.length ≤ l → (A ++ opA ovs)[l]? = some (some o) → F' l x → F0 x := by
  induction t with
  | nil =>
    intro M F A S hI _
    refine ⟨M, F, by simpa [opA] using S, .refl M, hI, .nil, fun _ _ => rfl, fun l x o hl ho => ?_⟩
    simp only [opA, List.append_nil] at ho
    rw [List.getElem?_eq_none hl] at ho; cases ho
  | v ha t ih =>
    intro M F A S hI hF
    obtain ⟨M', F', S', hle, hI', hL, q1, q2⟩ := ih M F A S hI hF
    exact ⟨M', F', S', hle, hI', .cons (ha.mono (by rw [← hI']; exact modI_le)) hL, q1, q2⟩
  | @s0 F1 sz ad ovs us h0 t ih =>
    intro M F A S hI hF
    obtain ⟨S1, hle1⟩ := S.add (b := 0) (bs := 0) (rm := 0) (sz := sz) (G := fun _ => False) (o := .arr []) (.inl ⟨rfl, by simp [Mod.put], by simpa [Mod.put] using h0, fun _ h => h⟩) (fun _ h => h.elim) (fun _ _ _ h => h.elim) (fun _ _ h => h.elim)
    obtain ⟨M', F', S', hle, hI', hL, q1, q2⟩ := ih _ _ _ S1 hI (fun x hx => by
      obtain ⟨a, b, c⟩ := hF x hx
      refine ⟨a, fun l o ho hf => ?_, c⟩
      rcases ext_get ho with ⟨rfl, e⟩ | ⟨hk, ho⟩
      · rw [if_pos rfl] at hf; exact hf
      · rw [if_neg (by omega)] at hf; exact b l o ho hf)
    have e1 : (A ++ [some (.arr [])]) ++ opA ovs = A ++ opA (.s sz [] :: ovs) := by simp [opA]
    rw [e1] at S' q2
    refine ⟨M', F', S', hle1.trans hle, hI', ?_, fun l hl => ?_, fun l x o hl ho hx => ?_⟩
    · refine .cons (.sl0 (hle.D _ (.inr rfl)) ?_) (by simpa using hL)
      rw [hle.sz _ (.inr rfl)]; simp [Mod.put]
    · rw [q1 l (by simp; omega)]; exact funext fun x => by rw [if_neg (by omega)]
    · rcases Nat.lt_or_ge A.length l with hl' | hl'
      · exact q2 l x o (by simp; omega) ho hx
      · obtain rfl : l = A.length := by omega
        rw [q1 _ (by simp)] at hx
        rw [if_pos rfl] at hx; exact hx.elim
  | @s F1 sz b o cap rows c e fr uss ovs us hb hu hc hr h1 h2 hn t ih =>
    intro M F A S hI hF
    obtain ⟨a, bb, cc⟩ := hF b (.inr rfl)
    have hnD : ¬ M.D A.length := fun hD => by
      obtain ⟨o, ho⟩ := S.fresh _ hD
      rw [List.getElem?_eq_none (Nat.le_refl _)] at ho; cases ho
    obtain ⟨S1, hle1⟩ := S.add (b := b) (bs := o) (rm := c.size) (sz := sz) (G := fun x => x = b) (o := .arr rows) (by
        refine .inr ⟨fun x => by simp [Mod.put], c, e, fr, uss, by simpa [Mod.put] using hb, hu, by simp [Mod.put], fun i ev he => ?_, fun i j u hi hj => by simpa [Mod.put] using h2 i j u hi hj⟩
        obtain ⟨y1, y2⟩ := h1 i ev he
        refine ⟨y1.mono ?_, by simpa [Mod.put] using y2⟩
        have : (M.put A.length b o c.size sz).I = I := hI
        rw [← this]; exact modI_le) (fun x hx => by rw [hx]; exact a) (fun x l o hx ho => by rw [hx]; exact bb l o ho) (fun x c hx => by rw [hx, hI]; exact cc c)
    obtain ⟨M', F', S', hle, hI', hL, q1, q2⟩ := ih _ _ _ S1 hI (fun x hx => by
      obtain ⟨a, b', c⟩ := hF x (.inl hx)
      refine ⟨a, fun l o ho hf => ?_, c⟩
      rcases ext_get ho with ⟨rfl, e⟩ | ⟨hk, ho⟩
      · rw [if_pos rfl] at hf; subst hf; exact hn hx
      · rw [if_neg (by omega)] at hf; exact b' l o ho hf)
    have e1 : (A ++ [some (.arr rows)]) ++ opA ovs = A ++ opA (.s sz rows :: ovs) := by simp [opA]
    rw [e1] at S' q2
    have hDp : (M.put A.length b o c.size sz).D A.length := .inr rfl
    refine ⟨M', F', S', hle1.trans hle, hI', ?_, fun l hl => ?_, fun l x o' hl ho hx => ?_⟩
    · refine .cons ?_ (by simpa using hL)
      have hcc := Conc.sl (M := M') (l := A.length) (sz := sz) (lo := 0) (len := rows.length) (cap := cap) (tight := false) (hle.D _ hDp) (by rw [hle.sz _ hDp]; simp [Mod.put]) hc (fun h => by cases h) (by
        rw [hle.base _ hDp, hle.room _ hDp]; simp [Mod.put]; omega)
      rw [hle.blk _ hDp, hle.base _ hDp] at hcc
      simpa [Mod.put] using hcc
    · rw [q1 l (by simp; omega)]; exact funext fun x => by rw [if_neg (by omega)]
    · rcases Nat.lt_or_ge A.length l with hl' | hl'
      · exact .inl (q2 l x o' (by simp; omega) ho hx)
      · obtain rfl : l = A.length := by omega
        rw [q1 _ (by simp)] at hx
        rw [if_pos rfl] at hx; exact .inr hx
  | @m F1 b clock es ents ovs us hb hs h1 h2 hn t ih =>
    intro M F A S hI hF
    obtain ⟨a, bb, cc⟩ := hF b (.inr rfl)
    obtain ⟨S1, hle1⟩ := S.add (b := b) (bs := 0) (rm := 0) (sz := 1) (G := fun x => x = b) (o := .map es) (by
        refine ⟨fun x => by simp [Mod.put], ents, clock, by simpa [Mod.put] using hb, hs, fun i k v he => ?_, h2⟩
        obtain ⟨en, y1, y2, y3⟩ := h1 i k v he
        have hm : (modI I).Le (M.put A.length b 0 0 1) := by
          have : (M.put A.length b 0 0 1).I = I := hI
          rw [← this]; exact modI_le
        exact ⟨en, y1, y2.mono hm, y3.mono hm⟩) (fun x hx => by rw [hx]; exact a) (fun x l o hx ho => by rw [hx]; exact bb l o ho) (fun x c hx => by rw [hx, hI]; exact cc c)
    obtain ⟨M', F', S', hle, hI', hL, q1, q2⟩ := ih _ _ _ S1 hI (fun x hx => by
      obtain ⟨a, b', c⟩ := hF x (.inl hx)
      refine ⟨a, fun l o ho hf => ?_, c⟩
      rcases ext_get ho with ⟨rfl, e⟩ | ⟨hk, ho⟩
      · rw [if_pos rfl] at hf; subst hf; exact hn hx
      · rw [if_neg (by omega)] at hf; exact b' l o ho hf)
    have e1 : (A ++ [some (.map es)]) ++ opA ovs = A ++ opA (.m es :: ovs) := by simp [opA]
    rw [e1] at S' q2
    have hDp : (M.put A.length b 0 0 1).D A.length := .inr rfl
    refine ⟨M', F', S', hle1.trans hle, hI', ?_, fun l hl => ?_, fun l x o' hl ho hx => ?_⟩
    · refine .cons ?_ (by simpa using hL)
      have hcc := Conc.mp (M := M') (l := A.length) (hle.D _ hDp)
      rw [hle.blk _ hDp] at hcc
      simpa [Mod.put] using hcc
    · rw [q1 l (by simp; omega)]; exact funext fun x => by rw [if_neg (by omega)]
    · rcases Nat.lt_or_ge A.length l with hl' | hl'
      · exact .inl (q2 l x o' (by simp; omega) ho hx)
      · obtain rfl : l = A.length := by omega
        rw [q1 _ (by simp)] at hx
        rw [if_pos rfl] at hx; exact .inr hx

/-- The heap, the object at l opened. -/
def opn (l : Nat) (ovs : List OV) (A : AHeap) : AHeap := A.set l (some (.cells (opC A.length ovs))) ++ opA ovs

theorem vw_open {l : Nat} {ovs : List OV} (hA : A[l]? = some (some (.own ovs))) : Vw A (opn l ovs A) := by
  have hl := (List.getElem?_eq_some_iff.1 hA).1
  refine ⟨by simp [opn], fun k hk => ?_, fun h M F S => ?_⟩
  · have hne : l ≠ k := fun e => by subst e; rw [hA] at hk; cases hk
    unfold opn
    rw [List.getElem?_append_left (by simpa using (List.getElem?_eq_some_iff.1 hk).1), List.getElem?_set_ne hne]; exact hk
  · obtain ⟨hD, ⟨F', c, e, fr, us, h1, h2, h3, h4, h5, h6⟩, hroot⟩ := S.holds l _ hA
    obtain ⟨c2, e2, fr2, hb2, hc2, hs2⟩ := hroot rfl
    rw [h3] at hc2; cases hc2
    have hown : ∀ x, F' x → F l x := fun x hx => (h1 x).2 (.inr hx)
    have S0 := S.refill hA (o1 := .dead) (G := fun _ => False) (fun _ h => h) (fun _ h => h.elim) (fun _ _ _ _ h => h.elim) (fun _ _ h => h.elim)
    obtain ⟨M1, F1, S1, hle, hI, hL, q1, q2⟩ := open_list h5 M _ _ S0 rfl (fun x hx => by
      refine ⟨S.lt l _ x hA (hown x hx), fun k o ho hf => ?_, fun c hc => S.immNot x c l _ hc hA (hown x hx)⟩
      rcases set_get hl ho with ⟨rfl, _⟩ | ⟨hk, ho⟩
      · rw [if_pos rfl] at hf; exact hf
      · rw [if_neg hk] at hf; exact hk (S.disj k l o _ x ho hA hf (hown x hx)))
    have hlen : (A.set l (some AO.dead)).length = A.length := by simp
    rw [hlen] at hL q1 q2
    have hl2 : l < (A.set l (some AO.dead)).length := by simpa using hl
    have hcur : (A.set l (some AO.dead) ++ opA ovs)[l]? = some (some .dead) := by
      rw [List.getElem?_append_left hl2, List.getElem?_set_self hl]
    have hG : ∀ x, x = M1.blk l → F l x := fun x hx => by rw [hx, hle.blk _ hD]; exact (h1 _).2 (.inl rfl)
    have old : ∀ (k : Nat) (x : Nat) (o : AO), k ≠ l → (A.set l (some AO.dead) ++ opA ovs)[k]? = some (some o) → F1 k x → ∃ l0 o0, A[l0]? = some (some o0) ∧ F l0 x ∧ (l0 = l → F' x) := by
      intro k x o hk ho hf
      rcases Nat.lt_or_ge k A.length with hlt | hge
      · rw [q1 k hlt] at hf
        rw [if_neg hk] at hf
        rw [List.getElem?_append_left (by simpa using hlt), List.getElem?_set_ne (fun e => hk e.symm)] at ho
        exact ⟨k, o, ho, hf, fun e => absurd e hk⟩
      · exact ⟨l, _, hA, hown x (q2 k x o hge ho hf), fun _ => q2 k x o hge ho hf⟩
    have S2 := S1.refill hcur (o1 := .cells (opC A.length ovs)) (G := fun x => x = M1.blk l) (by
        refine ⟨fun x => Iff.rfl, c, e, fr, us, by rw [hle.blk _ hD]; exact h3, h4, by rw [hle.room _ hD]; exact hs2, hL, ?_⟩
        rw [hle.base _ hD]; exact h6) (fun x hx => S.lt l _ x hA (hG x hx)) (fun x k o hk hx ho hf => by
        obtain ⟨l0, o0, a1, a2, a3⟩ := old k x o hk ho hf
        have e0 := S.disj l0 l o0 _ x a1 hA a2 (hG x hx)
        have := a3 e0
        rw [hx, hle.blk _ hD] at this
        exact h2 this) (fun x c hx hc => by rw [hI] at hc; exact S.immNot x c l _ hc hA (hG x hx))
    have e1 : (A.set l (some AO.dead) ++ opA ovs).set l (some (.cells (opC A.length ovs))) = opn l ovs A := by
      unfold opn
      rw [List.set_append_left _ _ hl2, List.set_set]
    rw [e1] at S2
    refine ⟨M1, _, S2, hle, hI, fun k o x ho hf => ?_⟩
    rw [← e1] at ho
    rcases set_get (by simp; omega) ho with ⟨rfl, _⟩ | ⟨hk, ho⟩
    · rw [if_pos rfl] at hf; exact ⟨k, _, hA, hG x hf⟩
    · rw [if_neg hk] at hf
      obtain ⟨l0, o0, a1, a2, _⟩ := old k x o hk ho hf
      exact ⟨l0, o0, a1, a2⟩

/-! ### Closed -/
/-- What the cells show, and the places of the rows. -/
inductive Clo (A : AHeap) : List Nat → List AV → List OV → Prop
  | nil : Clo A [] [] []
  | v {ps : List Nat} {a : AV} {avs : List AV} {ovs : List OV} (ha : AV.flat a = true) (t : Clo A ps avs ovs) : Clo A ps (a :: avs) (.v a :: ovs)
  | nils {ps : List Nat} {sz : Nat} {avs : List AV} {ovs : List OV} (h0 : 0 < sz) (t : Clo A ps avs ovs) : Clo A ps (.nils :: avs) (.s sz [] :: ovs)
  | es {ps : List Nat} {sz : Nat} {avs : List AV} {ovs : List OV} (h0 : 0 < sz) (t : Clo A ps avs ovs) : Clo A ps (.es :: avs) (.s sz [] :: ovs)
  | sl {ps : List Nat} {p sz lo len : Nat} {tt : Bool} {es rows : List (List AV)} {avs : List AV} {ovs : List OV} (hA : A[p]? = some (some (.arr es))) (hl : lo + len ≤ es.length) (h0 : 0 < sz) (hr : rows = (es.drop lo).take len)
      (hf : AV.flatLL rows = true) (hn : ps.contains p = false) (t : Clo A ps avs ovs) : Clo A (p :: ps) (.sl p sz lo len tt :: avs) (.s sz rows :: ovs)
  | m {ps : List Nat} {p : Nat} {es : List (AV × AV)} {avs : List AV} {ovs : List OV} (hA : A[p]? = some (some (.map es))) (hf : es.all (fun kv => AV.flat kv.1 && AV.flat kv.2) = true) (hn : ps.contains p = false) (t : Clo A ps avs ovs) :
      Clo A (p :: ps) (.mp p :: avs) (.m es :: ovs)

theorem clo_ok (S : Sim h M F A) {ps : List Nat} {avs : List AV} {ovs : List OV} (hc : Clo A ps avs ovs) : ∀ {us : List Value}, ConcL M avs us → ∃ F', OVL h M.I F' ovs us ∧ ∀ x, F' x → ∃ p ∈ ps, ∃ o, A[p]? = some (some o) ∧ F p x := by
  induction hc with
  | nil => intro us hL; cases hL; exact ⟨_, .nil, fun _ h => h.elim⟩
  | v ha t ih =>
    intro us hL
    cases hL with
    | cons hu hL =>
      obtain ⟨F', h1, h2⟩ := ih hL
      exact ⟨F', .v (hu.flatI ha) h1, h2⟩
  | nils h0 t ih =>
    intro us hL
    cases hL with
    | cons hu hL =>
      cases hu
      obtain ⟨F', h1, h2⟩ := ih hL
      exact ⟨F', .s0 h0 h1, h2⟩
  | es h0 t ih =>
    intro us hL
    cases hL with
    | cons hu hL =>
      cases hu
      obtain ⟨F', h1, h2⟩ := ih hL
      exact ⟨F', .s0 h0 h1, h2⟩
  | @sl ps p sz lo len tt es rows avs ovs hA hl h0 hr hf hn t ih =>
    intro us hL
    cases hL with
    | cons hu hL =>
      obtain ⟨F', h1, h2⟩ := ih hL
      have h2' : ∀ x, F' x → ∃ q ∈ p :: ps, ∃ o, A[q]? = some (some o) ∧ F q x := fun x hx => by
        obtain ⟨q, hq, z⟩ := h2 x hx; exact ⟨q, List.mem_cons_of_mem _ hq, z⟩
      have hlen : rows.length = len := by rw [hr]; simp; omega
      cases hu with
      | @sl _ _ _ _ cap _ hD hs hcc ht hrm =>
        rcases (S.holds p _ hA).2 with ⟨he, hr0, hz0, hF⟩ | ⟨hF, c, e, fr, uss, g1, g2, g3, g4, g5⟩
        · have : (lo + cap) * sz = 0 := by omega
          have hc0 : cap = 0 := by rcases Nat.mul_eq_zero.1 this with h | h <;> omega
          subst hc0
          obtain rfl : len = 0 := by omega
          rw [List.eq_nil_of_length_eq_zero hlen]
          exact ⟨F', .s0 h0 h1, h2'⟩
        · refine ⟨fun x => F' x ∨ x = M.blk p, ?_, fun x hx => ?_⟩
          · have hnb : ¬ F' (M.blk p) := fun hx => by
              obtain ⟨q, hq, o, z1, z2⟩ := h2 _ hx
              have := S.disj q p o _ _ z1 hA z2 ((hF _).2 rfl)
              subst this
              rw [List.contains_eq_mem] at hn
              simp [hq] at hn
            have := OVL.s (h := h) (I := M.I) (sz := sz) (b := M.blk p) (o := M.base p + lo * sz) (cap := cap) (rows := rows) (uss := fun i => uss (lo + i)) g1 g2 (by omega) (by rw [g3]; rw [Nat.add_mul] at hrm; omega) (fun i ev he => by
                have hfe := flatLL_get hf he
                rw [hr, List.getElem?_take] at he
                split at he
                · rw [List.getElem?_drop] at he
                  obtain ⟨y1, y2⟩ := g4 _ _ he
                  exact ⟨y1.flatI hfe, y2.trans hs⟩
                · cases he) (fun i j u hi hj => by
                have := g5 (lo + i) j u (by omega) hj
                rw [hs, Nat.add_mul] at this
                rw [← this]; congr 1; omega) hnb h1
            rw [hlen] at this
            exact this
          · rcases hx with hx | rfl
            · exact h2' x hx
            · exact ⟨p, by simp, _, hA, (hF _).2 rfl⟩
      | @sl0 _ _ _ _ ad hD hs =>
        rw [List.eq_nil_of_length_eq_zero hlen]
        exact ⟨F', .s0 h0 h1, h2'⟩
  | @m ps p es avs ovs hA hf hn t ih =>
    intro us hL
    cases hL with
    | cons hu hL =>
      obtain ⟨F', h1, h2⟩ := ih hL
      cases hu
      obtain ⟨hF, ents, clock, g1, g2, g3, g4⟩ := (S.holds p _ hA).2
      have hnb : ¬ F' (M.blk p) := fun hx => by
        obtain ⟨q, hq, o, z1, z2⟩ := h2 _ hx
        have := S.disj q p o _ _ z1 hA z2 ((hF _).2 rfl)
        subst this
        rw [List.contains_eq_mem] at hn
        simp [hq] at hn
      refine ⟨fun x => F' x ∨ x = M.blk p, .m g1 g2 (fun i k v he => ?_) g4 hnb h1, fun x hx => ?_⟩
      · obtain ⟨en, a, b, c⟩ := g3 i k v he
        have hfe := List.all_eq_true.1 hf (k, v) (List.mem_of_getElem? he)
        simp only [Bool.and_eq_true] at hfe
        exact ⟨en, a, b.flatI hfe.1, c.flatI hfe.2⟩
      · rcases hx with hx | rfl
        · obtain ⟨q, hq, z⟩ := h2 x hx; exact ⟨q, List.mem_cons_of_mem _ hq, z⟩
        · exact ⟨p, by simp, _, hA, (hF _).2 rfl⟩

def kills : List Nat → AHeap → AHeap
  | [], A => A
  | p :: ps, A => (kills ps A).set p (some .dead)
theorem kills_length : ∀ {ps : List Nat}, (kills ps A).length = A.length
  | [] => rfl
  | p :: ps => by simp [kills, kills_length]
theorem kills_get : ∀ {ps : List Nat} {k : Nat} {x : AO}, (kills ps A)[k]? = some (some x) → (k ∈ ps ∧ x = .dead) ∨ (k ∉ ps ∧ A[k]? = some (some x))
  | [], k, x, h => .inr ⟨by simp, h⟩
  | p :: ps, k, x, h => by
    by_cases e : p = k
    · subst e
      have hlt : p < (kills ps A).length := by have := (List.getElem?_eq_some_iff.1 h).1; simpa [kills] using this
      simp only [kills] at h
      rw [List.getElem?_set_self hlt] at h; cases h; exact .inl ⟨by simp, rfl⟩
    · simp only [kills] at h
      rw [List.getElem?_set_ne e] at h
      rcases kills_get h with ⟨h1, h2⟩ | ⟨h1, h2⟩
      · exact .inl ⟨by simp [h1], h2⟩
      · exact .inr ⟨by simp [h1]; exact fun e' => e e'.symm, h2⟩
theorem kills_live : ∀ {ps : List Nat} {k : Nat} {x : AO}, A[k]? = some (some x) → ∃ y, (kills ps A)[k]? = some (some y)
  | [], k, x, h => ⟨x, h⟩
  | p :: ps, k, x, h => by
    obtain ⟨y, hy⟩ := kills_live (ps := ps) h
    by_cases e : p = k
    · subst e; exact ⟨.dead, by simp only [kills]; rw [List.getElem?_set_self (List.getElem?_eq_some_iff.1 hy).1]⟩
    · exact ⟨y, by simp only [kills]; rw [List.getElem?_set_ne e]; exact hy⟩
theorem kills_none : ∀ {ps : List Nat} {k : Nat}, A[k]? = some none → k ∉ ps → (kills ps A)[k]? = some none
  | [], k, h, _ => h
  | p :: ps, k, h, hn => by
    simp only [List.mem_cons, not_or] at hn
    simp only [kills]
    rw [List.getElem?_set_ne (fun e => hn.1 e.symm)]; exact kills_none h hn.2

/-- The heap, the object at l closed. -/
def clo (l : Nat) (ps : List Nat) (ovs : List OV) (A : AHeap) : AHeap := (kills ps A).set l (some (.own ovs))

theorem clo_mem {ps : List Nat} {avs : List AV} {ovs : List OV} (hc : Clo A ps avs ovs) : ∀ p ∈ ps, ∃ o, A[p]? = some (some o) ∧ ∀ cs, o ≠ .cells cs := by
  induction hc with
  | nil => simp
  | v _ _ ih => exact ih
  | nils _ _ ih => exact ih
  | es _ _ ih => exact ih
  | sl hA _ _ _ _ _ _ ih =>
    intro q hq
    rcases List.mem_cons.1 hq with rfl | hq
    · exact ⟨_, hA, fun _ h => by cases h⟩
    · exact ih q hq
  | m hA _ _ _ ih =>
    intro q hq
    rcases List.mem_cons.1 hq with rfl | hq
    · exact ⟨_, hA, fun _ h => by cases h⟩
    · exact ih q hq

theorem vw_close {l : Nat} {ps : List Nat} {avs : List AV} {ovs : List OV} (hA : A[l]? = some (some (.cells avs))) (hc : Clo A ps avs ovs) : Vw A (clo l ps ovs A) := by
  have hl := (List.getElem?_eq_some_iff.1 hA).1
  have hlp : l ∉ ps := fun hm => by obtain ⟨o, he, hne⟩ := clo_mem hc l hm; rw [hA] at he; cases he; exact hne _ rfl
  have hlk : l < (kills ps A).length := by rw [kills_length]; exact hl
  have get : ∀ {k : Nat} {x : AO}, (clo l ps ovs A)[k]? = some (some x) → (k = l ∧ x = .own ovs) ∨ (k ≠ l ∧ k ∈ ps ∧ x = .dead) ∨ (k ≠ l ∧ k ∉ ps ∧ A[k]? = some (some x)) := by
    intro k x hx
    rcases set_get hlk hx with ⟨h1, h2⟩ | ⟨h1, h2⟩
    · cases h2; exact .inl ⟨h1, rfl⟩
    · rcases kills_get h2 with ⟨h3, h4⟩ | ⟨h3, h4⟩
      · exact .inr (.inl ⟨h1, h3, h4⟩)
      · exact .inr (.inr ⟨h1, h3, h4⟩)
  refine ⟨by simp [clo, kills_length], fun k hk => ?_, fun h M F S => ?_⟩
  · have hne : l ≠ k := fun e => by subst e; rw [hA] at hk; cases hk
    have hnp : k ∉ ps := fun hm => by obtain ⟨es, he, _⟩ := clo_mem hc k hm; rw [hk] at he; cases he
    unfold clo
    rw [List.getElem?_set_ne hne]; exact kills_none hk hnp
  · obtain ⟨hD, hF, c, e, fr, us, h1, h2, h3, h4, h5⟩ := S.holds l _ hA
    obtain ⟨F', hO, hF'⟩ := clo_ok S hc h4
    have hnb : ¬ F' (M.blk l) := fun hx => by
      obtain ⟨p, hp, o, z1, z2⟩ := hF' _ hx
      have := S.disj p l o _ _ z1 hA z2 ((hF _).2 rfl)
      subst this; exact hlp hp
    let G : Nat → Prop := fun x => x = M.blk l ∨ F' x
    have hG : ∀ x, G x → ∃ l0 o0, A[l0]? = some (some o0) ∧ F l0 x ∧ (l0 = l ∨ l0 ∈ ps) := fun x hx => by
      rcases hx with rfl | hx
      · exact ⟨l, _, hA, (hF _).2 rfl, .inl rfl⟩
      · obtain ⟨p, hp, o, z1, z2⟩ := hF' x hx; exact ⟨p, o, z1, z2, .inr hp⟩
    refine ⟨M, fun k x => if k = l then G x else if k ∈ ps then False else F k x, ⟨fun k x hx => ?_, fun k hk => ?_, fun k x y hx hy => ?_, fun k k' x x' y hx hx' hy hy' => ?_, S.imm, fun y c k x hI hx hy => ?_⟩, .refl M, rfl, fun k o x ho hx => ?_⟩
    · rcases get hx with ⟨rfl, rfl⟩ | ⟨e1, e2, rfl⟩ | ⟨e1, e2, hx⟩
      · refine ⟨hD, ?_⟩
        simp only [if_true]
        exact ⟨⟨F', c, e, fr, us, fun x => Iff.rfl, hnb, h1, h2, hO, h5⟩, fun _ => ⟨c, e, fr, .inl rfl, h1, h3⟩⟩
      · obtain ⟨es, he, _⟩ := clo_mem hc k e2
        refine ⟨(S.holds k _ he).1, fun y hy => ?_⟩
        simp only [if_neg e1, if_pos e2] at hy
      · refine ⟨(S.holds k x hx).1, ?_⟩
        rw [show (fun x => if k = l then G x else if k ∈ ps then False else F k x) = F k from funext fun y => by rw [if_neg e1, if_neg e2]]
        exact (S.holds k x hx).2
    · obtain ⟨x, hx⟩ := S.fresh k hk
      by_cases e : l = k
      · subst e; exact ⟨_, by unfold clo; rw [List.getElem?_set_self hlk]⟩
      · obtain ⟨y, hy⟩ := kills_live (ps := ps) hx
        exact ⟨y, by unfold clo; rw [List.getElem?_set_ne e]; exact hy⟩
    · rcases get hx with ⟨rfl, rfl⟩ | ⟨e1, e2, rfl⟩ | ⟨e1, e2, hx⟩
      · rw [if_pos rfl] at hy
        obtain ⟨l0, o0, a1, a2, _⟩ := hG y hy
        exact S.lt l0 o0 y a1 a2
      · rw [if_neg e1, if_pos e2] at hy; exact hy.elim
      · rw [if_neg e1, if_neg e2] at hy; exact S.lt k x y hx hy
    · have key : ∀ {k : Nat} {x : AO}, (clo l ps ovs A)[k]? = some (some x) → (if k = l then G y else if k ∈ ps then False else F k y) → ∃ l0 o0, A[l0]? = some (some o0) ∧ F l0 y ∧ ((k = l ∧ (l0 = l ∨ l0 ∈ ps)) ∨ (k ≠ l ∧ k ∉ ps ∧ l0 = k)) := by
        intro k x hx hy
        rcases get hx with ⟨rfl, rfl⟩ | ⟨e1, e2, rfl⟩ | ⟨e1, e2, hx⟩
        · rw [if_pos rfl] at hy
          obtain ⟨l0, o0, a1, a2, a3⟩ := hG y hy
          exact ⟨l0, o0, a1, a2, .inl ⟨rfl, a3⟩⟩
        · rw [if_neg e1, if_pos e2] at hy; exact hy.elim
        · rw [if_neg e1, if_neg e2] at hy; exact ⟨k, x, hx, hy, .inr ⟨e1, e2, rfl⟩⟩
      obtain ⟨l0, o0, a1, a2, a3⟩ := key hx hy
      obtain ⟨l1, o1, b1, b2, b3⟩ := key hx' hy'
      have := S.disj l0 l1 o0 o1 y a1 b1 a2 b2
      subst this
      rcases a3 with ⟨rfl, a3⟩ | ⟨a4, a5, rfl⟩ <;> rcases b3 with ⟨rfl, b3⟩ | ⟨b4, b5, rfl⟩
      · rfl
      · rcases a3 with rfl | a3
        · exact absurd rfl b4
        · exact absurd a3 b5
      · rcases b3 with rfl | b3
        · exact absurd rfl a4
        · exact absurd b3 a5
      · rfl
    · rcases get hx with ⟨rfl, rfl⟩ | ⟨e1, e2, rfl⟩ | ⟨e1, e2, hx⟩
      · simp only [if_true] at hy
        obtain ⟨l0, o0, a1, a2, _⟩ := hG y hy
        exact S.immNot y c l0 o0 hI a1 a2
      · simp only [if_neg e1, if_pos e2] at hy
      · simp only [if_neg e1, if_neg e2] at hy; exact S.immNot y c k x hI hx hy
    · rcases get ho with ⟨rfl, rfl⟩ | ⟨e1, e2, rfl⟩ | ⟨e1, e2, ho⟩
      · simp only [if_true] at hx
        obtain ⟨l0, o0, a1, a2, _⟩ := hG x hx
        exact ⟨l0, o0, a1, a2⟩
      · simp only [if_neg e1, if_pos e2] at hx
      · simp only [if_neg e1, if_neg e2] at hx; exact ⟨k, o, ho, hx⟩
end
end Go.SB
end
