/- FwA, FwB, FwC, FwD, FwE, FwF, FwG, FwH, FwI, FwJ, FwK, put together. Conditions: none. -/
import Derived.Calls
import Derived.Orders
import Derived.WalkKit
import Derived.Laws.IdiomCopy
import Derived.Laws.Strings
import Derived.Lib.Strings
import Derived.Laws.StructEq
import Derived.Laws.Slices
import Derived.WalkSpells
import Derived.Laws.Cells
/- Framework, part A: abstract values, abstract heaps, their meaning in a real heap. -/
section
set_option linter.unusedVariables false
namespace Go.SB

/-- Abstract values: scalars as they are; addresses by small location numbers. -/
inductive AV where
  | int (k : IntKind) (n : Int)
  | bool (b : Bool)
  | str (s : List UInt8)
  | nilp | nils | nilm | nilf | nili
  | ptr (l off : Nat)
  | eptr (l i off : Nat)
  | pp (cs : List AV)
  | sl (l sz lo len : Nat) (tight : Bool)
  | es
  | ps (sz : Nat) (elems : List (List AV))
  | mp (l : Nat)
  | fn (f : FuncId) (first captured : List AV)
  | ifc (t : TypeId) (x : AV)
  | agg (cs : List AV)
  | tup (vs : List AV)
  | raw (v : Value)
  | any
  deriving Inhabited

/-- What location numbers stand for: block, first cell, number of cells of the block, cells of an element; D: which are laid; I: blocks that are never written. -/
structure Mod where
  D : Nat → Prop
  blk : Nat → Nat
  base : Nat → Nat
  room : Nat → Nat
  sz : Nat → Nat
  I : Nat → Option (Array Value)

structure Mod.Le (M M' : Mod) : Prop where
  D : ∀ l, M.D l → M'.D l
  blk : ∀ l, M.D l → M'.blk l = M.blk l
  base : ∀ l, M.D l → M'.base l = M.base l
  room : ∀ l, M.D l → M'.room l = M.room l
  sz : ∀ l, M.D l → M'.sz l = M.sz l
  I : ∀ b c, M.I b = some c → M'.I b = some c

theorem Mod.Le.refl (M : Mod) : M.Le M := ⟨fun _ h => h, fun _ _ => rfl, fun _ _ => rfl, fun _ _ => rfl, fun _ _ => rfl, fun _ _ h => h⟩
theorem Mod.Le.trans {A B C : Mod} (h : A.Le B) (k : B.Le C) : A.Le C :=
  ⟨fun l d => k.D l (h.D l d), fun l d => (k.blk l (h.D l d)).trans (h.blk l d), fun l d => (k.base l (h.D l d)).trans (h.base l d),
   fun l d => (k.room l (h.D l d)).trans (h.room l d), fun l d => (k.sz l (h.D l d)).trans (h.sz l d), fun b c e => k.I b c (h.I b c e)⟩

mutual
/-- 'u is what v stands for'. -/
inductive Conc (M : Mod) : AV → Value → Prop
  | int (k : IntKind) (n : Int) : Conc M (.int k n) (.int k n)
  | bool (b : Bool) : Conc M (.bool b) (.bool b)
  | str (s : List UInt8) : Conc M (.str s) (.string ⟨s.toArray⟩)
  | nilp : Conc M .nilp (.pointer none)
  | nils : Conc M .nils (.slice none 0 0)
  | nilm : Conc M .nilm (.map none)
  | nilf : Conc M .nilf .nilFunc
  | nili : Conc M .nili .nilIface
  | ptr {l off : Nat} (h : M.D l) : Conc M (.ptr l off) (.pointer (some ⟨M.blk l, M.base l + off, none⟩))
  | eptr {l i off : Nat} (h : M.D l) : Conc M (.eptr l i off) (.pointer (some ⟨M.blk l, M.base l + i * M.sz l + off, none⟩))
  | pp {cs : List AV} {us : List Value} {c : Array Value} {b o : Nat} (hI : M.I b = some c) (hr : ∀ j u, us[j]? = some u → c[o + j]? = some u)
      (hL : ConcL M cs us) : Conc M (.pp cs) (.pointer (some ⟨b, o, none⟩))
  | sl {l sz lo len cap : Nat} {tight : Bool} (h : M.D l) (hs : M.sz l = sz) (hc : len ≤ cap) (ht : tight = true → cap = len) (hr : M.base l + (lo + cap) * sz ≤ M.room l) :
      Conc M (.sl l sz lo len tight) (.slice (some ⟨M.blk l, M.base l + lo * sz, none⟩) len cap)
  | sl0 {l sz lo : Nat} {tight : Bool} {a : Option Addr} (h : M.D l) (hs : M.sz l = sz) : Conc M (.sl l sz lo 0 tight) (.slice a 0 0)
  | es (a : Addr) : Conc M .es (.slice (some a) 0 0)
  | ps {sz : Nat} {elems : List (List AV)} {uss : Nat → List Value} {c : Array Value} {b o cap : Nat} (hI : M.I b = some c) (hc : elems.length ≤ cap)
      (hr : ∀ i j u, i < elems.length → (uss i)[j]? = some u → c[o + i * sz + j]? = some u)
      (hL : ∀ i e, elems[i]? = some e → ConcL M e (uss i)) : Conc M (.ps sz elems) (.slice (some ⟨b, o, none⟩) elems.length cap)
  | ps0 {sz : Nat} {a : Option Addr} {cap : Nat} (h : a = none → cap = 0) : Conc M (.ps sz []) (.slice a 0 cap)
  | mp {l : Nat} (h : M.D l) : Conc M (.mp l) (.map (some (M.blk l)))
  | fn {f : FuncId} {first captured : List AV} {us vs : Array Value} (h₁ : ConcL M first us.toList) (h₂ : ConcL M captured vs.toList) :
      Conc M (.fn f first captured) (.func (.func f) us vs)
  | ifc {t : TypeId} {x : AV} {v : Value} (h : Conc M x v) : Conc M (.ifc t x) (.iface t v)
  | agg {cs : List AV} {us : Array Value} (h : ConcL M cs us.toList) : Conc M (.agg cs) (.agg us)
  | tup {cs : List AV} {us : Array Value} (h : ConcL M cs us.toList) : Conc M (.tup cs) (.tuple us)
  | raw (v : Value) (h : v.oneCell' = true) : Conc M (.raw v) v
  | any (v : Value) : Conc M .any v
inductive ConcL (M : Mod) : List AV → List Value → Prop
  | nil : ConcL M [] []
  | cons {a : AV} {as : List AV} {u : Value} {us : List Value} (h : Conc M a u) (t : ConcL M as us) : ConcL M (a :: as) (u :: us)
end

mutual
theorem Conc.mono {M M' : Mod} (hm : M.Le M') : ∀ {a : AV} {u : Value}, Conc M a u → Conc M' a u
  | _, _, .int k n => .int k n
  | _, _, .bool b => .bool b
  | _, _, .str s => .str s
  | _, _, .nilp => .nilp
  | _, _, .nils => .nils
  | _, _, .nilm => .nilm
  | _, _, .nilf => .nilf
  | _, _, .nili => .nili
  | _, _, .ptr h => by rw [← hm.blk _ h, ← hm.base _ h]; exact .ptr (hm.D _ h)
  | _, _, .eptr h => by rw [← hm.blk _ h, ← hm.base _ h, ← hm.sz _ h]; exact .eptr (hm.D _ h)
  | _, _, .pp hI hr hL => .pp (hm.I _ _ hI) hr (ConcL.mono hm hL)
  | _, _, .sl h hs hc ht hr => by
    rw [← hm.blk _ h, ← hm.base _ h]
    exact .sl (hm.D _ h) ((hm.sz _ h).trans hs) hc ht (by rw [hm.base _ h, hm.room _ h]; exact hr)
  | _, _, .sl0 h hs => .sl0 (hm.D _ h) ((hm.sz _ h).trans hs)
  | _, _, .es a => .es a
  | _, _, .ps hI hc hr hL => .ps (hm.I _ _ hI) hc hr (fun i e he => ConcL.mono hm (hL i e he))
  | _, _, .ps0 h => .ps0 h
  | _, _, .mp h => by rw [← hm.blk _ h]; exact .mp (hm.D _ h)
  | _, _, .fn h₁ h₂ => .fn (ConcL.mono hm h₁) (ConcL.mono hm h₂)
  | _, _, .ifc h => .ifc (Conc.mono hm h)
  | _, _, .agg h => .agg (ConcL.mono hm h)
  | _, _, .tup h => .tup (ConcL.mono hm h)
  | _, _, .raw v h => .raw v h
  | _, _, .any v => .any v
theorem ConcL.mono {M M' : Mod} (hm : M.Le M') : ∀ {as : List AV} {us : List Value}, ConcL M as us → ConcL M' as us
  | _, _, .nil => .nil
  | _, _, .cons h t => .cons (Conc.mono hm h) (ConcL.mono hm t)
end

theorem ConcL.length {M : Mod} : ∀ {as : List AV} {us : List Value}, ConcL M as us → us.length = as.length
  | _, _, .nil => rfl
  | _, _, .cons _ t => by simp [ConcL.length t]

theorem ConcL.get {M : Mod} : ∀ {as : List AV} {us : List Value}, ConcL M as us → ∀ {i : Nat} {a : AV}, as[i]? = some a → ∃ u, us[i]? = some u ∧ Conc M a u
  | _, _, .nil, i, a, h => by simp at h
  | _, _, .cons (u := u) h t, 0, a, e => by simp at e; subst e; exact ⟨u, by simp, h⟩
  | _, _, .cons h t, i + 1, a, e => by simp at e; simpa using ConcL.get t e

theorem ConcL.of_get {M : Mod} : ∀ {as : List AV} {us : List Value}, us.length = as.length → (∀ (i : Nat) (a : AV) (u : Value), as[i]? = some a → us[i]? = some u → Conc M a u) → ConcL M as us
  | [], [], _, _ => .nil
  | [], _ :: _, h, _ => by simp at h
  | _ :: _, [], h, _ => by simp at h
  | a :: as, u :: us, hl, h => .cons (h 0 a u (by simp) (by simp)) (ConcL.of_get (by simpa using hl) fun i a' u' ha hu => h (i + 1) a' u' (by simpa using ha) (by simpa using hu))

theorem ConcL.set {M : Mod} {as : List AV} {us : List Value} (h : ConcL M as us) {a : AV} {u : Value} (hu : Conc M a u) (i : Nat) : ConcL M (as.set i a) (us.set i u) := by
  refine ConcL.of_get (by simp [h.length]) ?_
  intro j a' u' ha hu'
  by_cases e : i = j
  · subst e
    rw [List.getElem?_set_self'] at ha hu'
    cases h1 : as[i]? with
    | none => simp [h1] at ha
    | some a0 =>
      cases h2 : us[i]? with
      | none => simp [h2] at hu'
      | some u0 => simp [h1] at ha; simp [h2] at hu'; subst ha; subst hu'; exact hu
  · rw [List.getElem?_set_ne e] at ha hu'
    obtain ⟨u0, h0, hc⟩ := h.get ha
    rw [h0] at hu'; cases hu'; exact hc

theorem ConcL.append {M : Mod} : ∀ {as : List AV} {us : List Value}, ConcL M as us → ∀ {bs : List AV} {vs : List Value}, ConcL M bs vs → ConcL M (as ++ bs) (us ++ vs)
  | _, _, .nil, _, _, k => k
  | _, _, .cons h t, _, _, k => .cons h (t.append k)

theorem ConcL.take {M : Mod} : ∀ {as : List AV} {us : List Value}, ConcL M as us → ∀ n, ConcL M (as.take n) (us.take n)
  | _, _, .nil, n => by simpa using ConcL.nil
  | _, _, .cons h t, 0 => by simpa using ConcL.nil
  | _, _, .cons h t, n + 1 => by simpa using .cons h (t.take n)

theorem ConcL.drop {M : Mod} : ∀ {as : List AV} {us : List Value}, ConcL M as us → ∀ n, ConcL M (as.drop n) (us.drop n)
  | _, _, .nil, n => by simpa using ConcL.nil
  | _, _, .cons h t, 0 => by simpa using .cons h t
  | _, _, .cons h t, n + 1 => by simpa using t.drop n

theorem ConcL.replicate {M : Mod} {a : AV} {u : Value} (h : Conc M a u) : ∀ n, ConcL M (List.replicate n a) (List.replicate n u)
  | 0 => .nil
  | n + 1 => .cons h (ConcL.replicate h n)

/-- An assertion on a piece of the heap: of the blocks of F alone (and of blocks that are never written). -/
structure Assn where
  root : Bool
  holds : Array Obj → (Nat → Option (Array Value)) → Nat → Nat → (Nat → Prop) → Prop
  keep : ∀ {h h' : Array Obj} {I I' : Nat → Option (Array Value)} {b o : Nat} {F : Nat → Prop}, holds h I b o F →
    (∀ x, F x → h'[x]? = h[x]?) → (∀ x c, I x = some c → I' x = some c) → holds h' I' b o F

/-- What a location holds. -/
inductive AO where
  | cells (vs : List AV)
  | arr (elems : List (List AV))
  | map (es : List (AV × AV))
  | opq (R : Assn)
  | dead

abbrev AHeap := List (Option AO)

def Unfrozen (c : Array Value) (fr : Nat × Nat) : Prop := ∀ i, i < c.size → ¬ (fr.1 ≤ i ∧ i < fr.2)

def AO.holds (h : Array Obj) (M : Mod) (F : Nat → Prop) (l : Nat) : AO → Prop
  | .cells vs => (∀ b, F b ↔ b = M.blk l) ∧ ∃ (c : Array Value) (e : TypeId) (fr : Nat × Nat) (us : List Value), h[M.blk l]? = some (.cells c e fr) ∧ Unfrozen c fr ∧ c.size = M.room l ∧ ConcL M vs us ∧
      ∀ j u, us[j]? = some u → c[M.base l + j]? = some u
  | .arr elems => (elems = [] ∧ M.room l = 0 ∧ 0 < M.sz l ∧ ∀ b, ¬ F b) ∨ (∀ b, F b ↔ b = M.blk l) ∧ ∃ (c : Array Value) (e : TypeId) (fr : Nat × Nat) (uss : Nat → List Value), h[M.blk l]? = some (.cells c e fr) ∧ Unfrozen c fr ∧ c.size = M.room l ∧
      (∀ i ev, elems[i]? = some ev → ConcL M ev (uss i) ∧ ev.length = M.sz l) ∧
      ∀ i j u, i < elems.length → (uss i)[j]? = some u → c[M.base l + i * M.sz l + j]? = some u
  | .map es => (∀ b, F b ↔ b = M.blk l) ∧ ∃ (ents : Array MapEntry) (clock : Nat), h[M.blk l]? = some (.map ents clock) ∧ ents.size = es.length ∧
      (∀ (i : Nat) (k v : AV), es[i]? = some (k, v) → ∃ en : MapEntry, ents[i]? = some en ∧ Conc M k en.key ∧ Conc M v en.val) ∧
      ∀ (i : Nat) (en : MapEntry), ents[i]? = some en → en.born < clock
  | .opq R => R.holds h M.I (M.blk l) (M.base l) F ∧ (R.root = true → ∃ (c : Array Value) (e : TypeId) (fr : Nat × Nat), F (M.blk l) ∧ h[M.blk l]? = some (.cells c e fr) ∧ c.size = M.room l)
  | .dead => ∀ b, ¬ F b

/-- A row that holds something has its block. -/
theorem AO.arr_live {h : Array Obj} {M : Mod} {F : Nat → Prop} {l : Nat} {elems : List (List AV)} (hh : (AO.arr elems).holds h M F l) (hr : elems ≠ [] ∨ M.room l ≠ 0) :
    (∀ b, F b ↔ b = M.blk l) ∧ ∃ (c : Array Value) (e : TypeId) (fr : Nat × Nat) (uss : Nat → List Value), h[M.blk l]? = some (.cells c e fr) ∧ Unfrozen c fr ∧ c.size = M.room l ∧
      (∀ i ev, elems[i]? = some ev → ConcL M ev (uss i) ∧ ev.length = M.sz l) ∧
      ∀ i j u, i < elems.length → (uss i)[j]? = some u → c[M.base l + i * M.sz l + j]? = some u := by
  rcases hh with ⟨he, h0, _⟩ | hh
  · rcases hr with hr | hr
    · exact absurd he hr
    · exact absurd h0 hr
  · exact hh
theorem AO.arr_liveAt {h : Array Obj} {M : Mod} {F : Nat → Prop} {l : Nat} {elems : List (List AV)} (hh : (AO.arr elems).holds h M F l) {i : Nat} {ev : List AV} (he : elems[i]? = some ev) :
    (∀ b, F b ↔ b = M.blk l) ∧ ∃ (c : Array Value) (e : TypeId) (fr : Nat × Nat) (uss : Nat → List Value), h[M.blk l]? = some (.cells c e fr) ∧ Unfrozen c fr ∧ c.size = M.room l ∧
      (∀ i ev, elems[i]? = some ev → ConcL M ev (uss i) ∧ ev.length = M.sz l) ∧
      ∀ i j u, i < elems.length → (uss i)[j]? = some u → c[M.base l + i * M.sz l + j]? = some u :=
  AO.arr_live hh (.inl fun h0 => by rw [h0] at he; cases he)

theorem AO.keep {h h' : Array Obj} {M M' : Mod} {F : Nat → Prop} {l : Nat} {o : AO} (hh : o.holds h M F l) (hd : M.D l) (hm : M.Le M')
    (hk : ∀ b, F b → h'[b]? = h[b]?) : o.holds h' M' F l := by
  cases o with
  | cells vs =>
    obtain ⟨hF, c, e, fr, us, h1, h2, h3, h4, h5⟩ := hh
    refine ⟨by rw [hm.blk _ hd]; exact hF, c, e, fr, us, ?_, h2, by rw [hm.room _ hd]; exact h3, h4.mono hm, by rw [hm.base _ hd]; exact h5⟩
    rw [hm.blk _ hd, hk _ ((hF _).2 rfl)]; exact h1
  | arr elems =>
    rcases hh with ⟨he, hr, hz, hF⟩ | ⟨hF, c, e, fr, uss, h1, h2, h3, h4, h5⟩
    · exact .inl ⟨he, by rw [hm.room _ hd]; exact hr, by rw [hm.sz _ hd]; exact hz, hF⟩
    refine .inr ⟨by rw [hm.blk _ hd]; exact hF, c, e, fr, uss, ?_, h2, by rw [hm.room _ hd]; exact h3, fun i ev he => ⟨(h4 i ev he).1.mono hm, by rw [hm.sz _ hd]; exact (h4 i ev he).2⟩, by rw [hm.base _ hd, hm.sz _ hd]; exact h5⟩
    rw [hm.blk _ hd, hk _ ((hF _).2 rfl)]; exact h1
  | map es =>
    obtain ⟨hF, ents, clock, h1, h2, h3, h4⟩ := hh
    refine ⟨by rw [hm.blk _ hd]; exact hF, ents, clock, ?_, h2, ?_, h4⟩
    · rw [hm.blk _ hd, hk _ ((hF _).2 rfl)]; exact h1
    · intro i k v he
      obtain ⟨en, a, b, c⟩ := h3 i k v he
      exact ⟨en, a, b.mono hm, c.mono hm⟩
  | opq R =>
    obtain ⟨hR, hr⟩ := hh
    show R.holds h' M'.I (M'.blk l) (M'.base l) F ∧ (R.root = true → ∃ (c : Array Value) (e : TypeId) (fr : Nat × Nat), F (M'.blk l) ∧ h'[M'.blk l]? = some (.cells c e fr) ∧ c.size = M'.room l)
    rw [hm.blk _ hd, hm.base _ hd, hm.room _ hd]
    refine ⟨R.keep hR hk hm.I, fun h0 => ?_⟩
    obtain ⟨c, e, fr, hF, hb, hs⟩ := hr h0
    exact ⟨c, e, fr, hF, by rw [hk _ hF]; exact hb, hs⟩
  | dead => exact hh

/-- 'The real heap h bears the abstract heap A': F l: the blocks that location l owns. -/
structure Sim (h : Array Obj) (M : Mod) (F : Nat → Nat → Prop) (A : AHeap) : Prop where
  holds : ∀ l o, A[l]? = some (some o) → M.D l ∧ o.holds h M (F l) l
  fresh : ∀ l, M.D l → ∃ o, A[l]? = some (some o)
  lt : ∀ l o b, A[l]? = some (some o) → F l b → b < h.size
  disj : ∀ l l' o o' b, A[l]? = some (some o) → A[l']? = some (some o') → F l b → F l' b → l = l'
  imm : ∀ b c, M.I b = some c → ∃ e fr, h[b]? = some (.cells c e fr)
  immNot : ∀ b c l o, M.I b = some c → A[l]? = some (some o) → ¬ F l b

/-- What a step leaves: everything that no location owns is as it was. -/
structure Ext (w : World) (M : Mod) (F : Nat → Nat → Prop) (A : AHeap) (w' : World) (M' : Mod) (F' : Nat → Nat → Prop) (A' : AHeap) : Prop where
  os : w'.os = w.os
  tape : w'.tape = w.tape
  output : w'.output = w.output
  size : w.heap.size ≤ w'.heap.size
  le : M.Le M'
  len : A.length ≤ A'.length
  keep : ∀ b, b < w.heap.size → (∀ l o, A[l]? = some (some o) → ¬ F l b) → w'.heap[b]? = w.heap[b]?
  foot : ∀ l o b, A'[l]? = some (some o) → F' l b → b < w.heap.size → ∃ l0 o0, A[l0]? = some (some o0) ∧ F l0 b
  immFoot : ∀ b c, M'.I b = some c → b < w.heap.size → M.I b = some c ∨ ∃ l0 o0, A[l0]? = some (some o0) ∧ F l0 b

theorem Ext.refl (w : World) (M : Mod) (F : Nat → Nat → Prop) (A : AHeap) : Ext w M F A w M F A :=
  ⟨rfl, rfl, rfl, Nat.le_refl _, .refl M, Nat.le_refl _, fun _ _ _ => rfl, fun l o b h hf _ => ⟨l, o, h, hf⟩, fun _ _ h _ => .inl h⟩

theorem Ext.trans {w w1 w2 : World} {M M1 M2 : Mod} {F F1 F2 : Nat → Nat → Prop} {A A1 A2 : AHeap}
    (h : Ext w M F A w1 M1 F1 A1) (k : Ext w1 M1 F1 A1 w2 M2 F2 A2) : Ext w M F A w2 M2 F2 A2 where
  os := k.os.trans h.os
  tape := k.tape.trans h.tape
  output := k.output.trans h.output
  size := Nat.le_trans h.size k.size
  le := h.le.trans k.le
  len := Nat.le_trans h.len k.len
  keep b hb hn := by
    rw [k.keep b (Nat.lt_of_lt_of_le hb h.size) (fun l o ho hf => ?_), h.keep b hb hn]
    obtain ⟨l0, o0, h0, hf0⟩ := h.foot l o b ho hf hb
    exact hn l0 o0 h0 hf0
  foot l o b ho hf hb := by
    obtain ⟨l1, o1, h1, hf1⟩ := k.foot l o b ho hf (Nat.lt_of_lt_of_le hb h.size)
    exact h.foot l1 o1 b h1 hf1 hb
  immFoot b c hI hb := by
    rcases k.immFoot b c hI (Nat.lt_of_lt_of_le hb h.size) with h1 | ⟨l1, o1, h1, hf1⟩
    · exact h.immFoot b c h1 hb
    · exact .inr (h.foot l1 o1 b h1 hf1 hb)

end Go.SB
end

/- Framework, part B: reading, writing and making cells of an abstract heap, and that the real heap follows. -/
section
set_option linter.unusedVariables false
set_option linter.unusedSimpArgs false
namespace Go.SB

def AV.one : AV → Bool
  | .agg _ | .tup _ | .any => false
  | _ => true

theorem Conc.oneCell {M : Mod} {a : AV} {u : Value} (h : Conc M a u) (h1 : a.one = true) : u.oneCell' = true := by
  cases h <;> first | rfl | (simp [AV.one] at h1; done) | assumption

/-- 'cs' written over 'vs' from place off on. -/
def wrt (vs : List AV) (off : Nat) : List AV → List AV
  | [] => vs
  | n :: ns => wrt (vs.set off n) (off + 1) ns

theorem wrt_length (vs : List AV) (off : Nat) (ns : List AV) : (wrt vs off ns).length = vs.length := by
  induction ns generalizing vs off with
  | nil => rfl
  | cons n ns ih => simp [wrt, ih]

/-- n cells from an address on. -/
def rdN (A : AHeap) (a : AV) (n : Nat) : Option (List AV) :=
  match a with
  | .ptr l off => match A[l]? with
    | some (some (.cells vs)) => if off + n ≤ vs.length then some ((vs.drop off).take n) else none
    | _ => none
  | .eptr l i off => match A[l]? with
    | some (some (.arr es)) => match es[i]? with
      | some e => if off + n ≤ e.length then some ((e.drop off).take n) else none
      | none => none
    | _ => none
  | .pp cs => if n ≤ cs.length then some (cs.take n) else none
  | _ => none

/-- Cells written from an address on. -/
def wrN (A : AHeap) (a : AV) (ns : List AV) : Option AHeap :=
  match a with
  | .ptr l off => match A[l]? with
    | some (some (.cells vs)) => if off + ns.length ≤ vs.length then (if ns.all AV.one then some (A.set l (some (.cells (wrt vs off ns)))) else none) else none
    | _ => none
  | .eptr l i off => match A[l]? with
    | some (some (.arr es)) => match es[i]? with
      | some e => if off + ns.length ≤ e.length then (if ns.all AV.one then some (A.set l (some (.arr (es.set i (wrt e off ns))))) else none) else none
      | none => none
    | _ => none
  | _ => none

section
variable {P : Program} {w : World} {M : Mod} {F : Nat → Nat → Prop} {A : AHeap}

theorem addr_add (b o n : Nat) : (⟨b, o, none⟩ : Addr).add n = ⟨b, o + n, none⟩ := by
  unfold Addr.add; split <;> simp_all

theorem cell_of_block {b o : Nat} {c : Array Value} {e : TypeId} {fr : Nat × Nat} (h : w.heap[b]? = some (.cells c e fr)) : w.cell? ⟨b, o, none⟩ = c[o]? := by
  simp [World.cell?, h]

theorem frozen_of_block {b o : Nat} {c : Array Value} {e : TypeId} {fr : Nat × Nat} (h : w.heap[b]? = some (.cells c e fr)) (hu : Unfrozen c fr) (ho : o < c.size) :
    w.frozen? ⟨b, o, none⟩ = false := by
  obtain ⟨lo, hi⟩ := fr
  have := hu o ho
  simp only [World.frozen?, h]
  simpa using this

/-- What is read stands in memory. -/
theorem Sim.rd (S : Sim w.heap M F A) {a : AV} {ad : Addr} (ha : Conc M a (.pointer (some ad))) (hn1 : ∀ v, a ≠ .raw v) (hn2 : a ≠ .any) {n : Nat} {r : List AV} (h : rdN A a n = some r) :
    ∃ us, ConcL M r us ∧ us.length = n ∧ ad.spot = none ∧ ∀ j u, us[j]? = some u → w.cell? (ad.add j) = some u := by
  cases ha with
  | @ptr l off hD =>
    simp only [rdN] at h
    split at h
    · rename_i vs hA
      split at h
      · rename_i hle
        cases h
        obtain ⟨-, hF, c, e, fr, us, h1, h2, h3, h4, h5⟩ := S.holds l _ hA
        refine ⟨(us.drop off).take n, (h4.drop off).take n, by have := h4.length; simp; omega, rfl, ?_⟩
        intro j u hu
        rw [addr_add, cell_of_block h1]
        rw [List.getElem?_take] at hu
        split at hu
        · rw [List.getElem?_drop] at hu
          rw [← h5 _ _ hu]; congr 1; omega
        · cases hu
      · cases h
    · cases h
  | @eptr l i off hD =>
    simp only [rdN] at h
    split at h
    · rename_i es hA
      split at h
      · rename_i e he
        split at h
        · rename_i hle
          cases h
          obtain ⟨hF, c, ty, fr, uss, h1, h2, h3, h4, h5⟩ := AO.arr_liveAt (S.holds l _ hA).2 he
          have hi : i < es.length := by
            rcases Nat.lt_or_ge i es.length with h' | h'
            · exact h'
            · rw [List.getElem?_eq_none h'] at he; cases he
          obtain ⟨hL, hl⟩ := h4 i e he
          refine ⟨((uss i).drop off).take n, (hL.drop off).take n, by have := hL.length; simp; omega, rfl, ?_⟩
          intro j u hu
          rw [addr_add, cell_of_block h1]
          rw [List.getElem?_take] at hu
          split at hu
          · rw [List.getElem?_drop] at hu
            rw [← h5 i _ _ hi hu]; congr 1; omega
          · cases hu
        · cases h
      · cases h
    · cases h
  | @pp cs us c b o hI hr hL =>
    simp only [rdN] at h
    split at h
    · cases h
      obtain ⟨e, fr, hb⟩ := S.imm _ _ hI
      refine ⟨us.take n, hL.take n, by have := hL.length; simp; omega, rfl, ?_⟩
      intro j u hu
      rw [addr_add, cell_of_block hb]
      rw [List.getElem?_take] at hu
      split at hu
      · exact hr _ _ hu
      · cases hu
    · cases h
  | raw => exact absurd rfl (hn1 _)
  | any => exact absurd rfl hn2

/-- One location's object is turned; only blocks that it owns have changed. -/
theorem Sim.update (S : Sim w.heap M F A) {l : Nat} {o o' : AO} (hA : A[l]? = some (some o)) {w' : World} (hos : w'.os = w.os) (htp : w'.tape = w.tape) (hout : w'.output = w.output)
    (hsize : w'.heap.size = w.heap.size)
    (hkeep : ∀ b, ¬ F l b → w'.heap[b]? = w.heap[b]?) (ho : o'.holds w'.heap M (F l) l) :
    Sim w'.heap M F (A.set l (some o')) ∧ Ext w M F A w' M F (A.set l (some o')) := by
  have hlt : l < A.length := by
    rcases Nat.lt_or_ge l A.length with h | h
    · exact h
    · rw [List.getElem?_eq_none h] at hA; cases hA
  have get : ∀ {k : Nat} {x : AO}, (A.set l (some o'))[k]? = some (some x) → (k = l ∧ x = o') ∨ (k ≠ l ∧ A[k]? = some (some x)) := by
    intro k x hx
    by_cases e : l = k
    · subst e; rw [List.getElem?_set_self hlt] at hx; cases hx; exact .inl ⟨rfl, rfl⟩
    · rw [List.getElem?_set_ne e] at hx; exact .inr ⟨fun e' => e e'.symm, hx⟩
  have old : ∀ {k : Nat} {x : AO}, (A.set l (some o'))[k]? = some (some x) → ∃ y, A[k]? = some (some y) := by
    intro k x hx
    rcases get hx with ⟨rfl, _⟩ | ⟨_, h⟩
    · exact ⟨_, hA⟩
    · exact ⟨_, h⟩
  refine ⟨⟨?_, ?_, ?_, ?_, ?_, ?_⟩, ⟨hos, htp, hout, by omega, .refl M, by simp, ?_, ?_, ?_⟩⟩
  · intro k x hx
    rcases get hx with ⟨rfl, rfl⟩ | ⟨hk, h⟩
    · exact ⟨(S.holds _ _ hA).1, ho⟩
    · obtain ⟨hD, hh⟩ := S.holds k x h
      exact ⟨hD, AO.keep hh hD (.refl M) fun b hb => hkeep b fun hl => hk (S.disj k l x o b h hA hb hl)⟩
  · intro k hD
    obtain ⟨x, hx⟩ := S.fresh k hD
    by_cases e : l = k
    · subst e; exact ⟨o', by rw [List.getElem?_set_self hlt]⟩
    · exact ⟨x, by rw [List.getElem?_set_ne e]; exact hx⟩
  · intro k x b hx hb
    obtain ⟨y, hy⟩ := old hx
    rw [hsize]
    exact S.lt k y b hy hb
  · intro k k' x x' b hx hx' hb hb'
    obtain ⟨y, hy⟩ := old hx
    obtain ⟨y', hy'⟩ := old hx'
    exact S.disj k k' y y' b hy hy' hb hb'
  · intro b c hI
    obtain ⟨e, fr, hb⟩ := S.imm b c hI
    exact ⟨e, fr, by rw [hkeep b (S.immNot b c l o hI hA)]; exact hb⟩
  · intro b c k x hI hx
    obtain ⟨y, hy⟩ := old hx
    exact S.immNot b c k y hI hy
  · intro b hb hn
    exact hkeep b (hn l o hA)
  · intro k x b hx hb hlt'
    obtain ⟨y, hy⟩ := old hx
    exact ⟨k, y, hy, hb⟩
  · intro b c hI _
    exact .inl hI

theorem setCell_heap (w : World) (b o : Nat) (v : Value) (k : Nat) (hk : k ≠ b) : (w.setCell ⟨b, o, none⟩ v).heap[k]? = w.heap[k]? := by
  simp only [World.setCell, Array.getElem?_modify]
  rw [if_neg (by simpa using fun e => hk e.symm)]

theorem setCell_block {w : World} {b o : Nat} {c : Array Value} {e : TypeId} {fr : Nat × Nat} (v : Value) (h : w.heap[b]? = some (.cells c e fr)) :
    (w.setCell ⟨b, o, none⟩ v).heap[b]? = some (.cells (c.setIfInBounds o v) e fr) := by
  simp [World.setCell, Array.getElem?_modify, h]

/-- One cell of a struct is set. -/
theorem Sim.setCell (S : Sim w.heap M F A) {l off : Nat} {vs : List AV} (hA : A[l]? = some (some (.cells vs))) (ho : off < vs.length) {v : AV} {u : Value} (hv : Conc M v u) :
    (∃ u0, w.cell? ⟨M.blk l, M.base l + off, none⟩ = some u0) ∧ w.frozen? ⟨M.blk l, M.base l + off, none⟩ = false ∧
    Sim (w.setCell ⟨M.blk l, M.base l + off, none⟩ u).heap M F (A.set l (some (.cells (vs.set off v)))) ∧
    Ext w M F A (w.setCell ⟨M.blk l, M.base l + off, none⟩ u) M F (A.set l (some (.cells (vs.set off v)))) := by
  obtain ⟨hD, hF, c, e, fr, us, h1, h2, h3, h4, h5⟩ := S.holds l _ hA
  have hl := h4.length
  have hin : ∃ u0, us[off]? = some u0 := ⟨_, List.getElem?_eq_getElem (by omega)⟩
  obtain ⟨u0, hu0⟩ := hin
  have hc0 := h5 off u0 hu0
  have hlt : M.base l + off < c.size := by
    rcases Nat.lt_or_ge (M.base l + off) c.size with h | h
    · exact h
    · rw [Array.getElem?_eq_none h] at hc0; cases hc0
  refine ⟨⟨u0, by rw [cell_of_block h1]; exact hc0⟩, frozen_of_block h1 h2 hlt, ?_⟩
  refine S.update hA rfl rfl rfl (by simp) ?_ ?_
  · intro b hb
    exact setCell_heap w _ _ u b (fun h => hb ((hF b).2 h))
  · refine ⟨hF, c.setIfInBounds (M.base l + off) u, e, fr, us.set off u, setCell_block u h1, ?_, by simpa using h3, h4.set hv off, ?_⟩
    · intro i hi; exact h2 i (by simpa using hi)
    · intro j x hx
      by_cases e : off = j
      · subst e
        rw [List.getElem?_set_self (by omega)] at hx; cases hx
        simp [hlt]
      · rw [List.getElem?_set_ne e] at hx
        rw [Array.getElem?_setIfInBounds_ne (by omega)]
        exact h5 j x hx

/-- One cell of an element is set. -/
theorem Sim.setElem (S : Sim w.heap M F A) {l i off : Nat} {es : List (List AV)} {ev : List AV} (hA : A[l]? = some (some (.arr es))) (he : es[i]? = some ev) (ho : off < ev.length) {v : AV} {u : Value} (hv : Conc M v u) :
    (∃ u0, w.cell? ⟨M.blk l, M.base l + i * M.sz l + off, none⟩ = some u0) ∧ w.frozen? ⟨M.blk l, M.base l + i * M.sz l + off, none⟩ = false ∧
    Sim (w.setCell ⟨M.blk l, M.base l + i * M.sz l + off, none⟩ u).heap M F (A.set l (some (.arr (es.set i (ev.set off v))))) ∧
    Ext w M F A (w.setCell ⟨M.blk l, M.base l + i * M.sz l + off, none⟩ u) M F (A.set l (some (.arr (es.set i (ev.set off v))))) := by
  obtain ⟨hF, c, ty, fr, uss, h1, h2, h3, h4, h5⟩ := AO.arr_liveAt (S.holds l _ hA).2 he
  have hi : i < es.length := by
    rcases Nat.lt_or_ge i es.length with h' | h'
    · exact h'
    · rw [List.getElem?_eq_none h'] at he; cases he
  obtain ⟨hL, hsz⟩ := h4 i ev he
  have hl := hL.length
  obtain ⟨u0, hu0⟩ : ∃ u0, (uss i)[off]? = some u0 := ⟨_, List.getElem?_eq_getElem (by omega)⟩
  have hc0 := h5 i off u0 hi hu0
  have hlt : M.base l + i * M.sz l + off < c.size := by
    rcases Nat.lt_or_ge (M.base l + i * M.sz l + off) c.size with h | h
    · exact h
    · rw [Array.getElem?_eq_none h] at hc0; cases hc0
  refine ⟨⟨u0, by rw [cell_of_block h1]; exact hc0⟩, frozen_of_block h1 h2 hlt, ?_⟩
  refine S.update hA rfl rfl rfl (by simp) ?_ ?_
  · intro b hb
    exact setCell_heap w _ _ u b (fun h => hb ((hF b).2 h))
  · refine .inr ⟨hF, c.setIfInBounds (M.base l + i * M.sz l + off) u, ty, fr, fun k => if k = i then (uss i).set off u else uss k, setCell_block u h1, ?_, by simpa using h3, ?_, ?_⟩
    · intro k hk; exact h2 k (by simpa using hk)
    · intro k e' hk
      by_cases e : i = k
      · subst e
        rw [List.getElem?_set_self hi] at hk; cases hk
        simp only [if_true, List.length_set]
        exact ⟨hL.set hv off, hsz⟩
      · rw [List.getElem?_set_ne e] at hk
        simp only [if_neg (show ¬ k = i from fun h => e h.symm)]
        exact h4 k e' hk
    · intro k j x hk hx
      rw [List.length_set] at hk
      by_cases e : k = i
      · subst e
        simp only [if_true] at hx
        by_cases ej : off = j
        · subst ej
          rw [List.getElem?_set_self (by omega)] at hx; cases hx
          simp [hlt]
        · rw [List.getElem?_set_ne ej] at hx
          rw [Array.getElem?_setIfInBounds_ne (by omega)]
          exact h5 k j x hk hx
      · simp only [if_neg e] at hx
        obtain ⟨ek, hek⟩ : ∃ ek, es[k]? = some ek := ⟨_, List.getElem?_eq_getElem hk⟩
        obtain ⟨hLk, hszk⟩ := h4 k ek hek
        have hj : j < M.sz l := by
          have := hLk.length
          rcases Nat.lt_or_ge j (uss k).length with h | h
          · omega
          · rw [List.getElem?_eq_none h] at hx; cases hx
        rw [Array.getElem?_setIfInBounds_ne ?_]
        · exact h5 k j x hk hx
        · intro heq
          have ho' : off < M.sz l := by omega
          rcases Nat.lt_or_gt_of_ne e with h | h
          · have : (k + 1) * M.sz l ≤ i * M.sz l := Nat.mul_le_mul_right _ h
            rw [Nat.add_mul] at this; omega
          · have : (i + 1) * M.sz l ≤ k * M.sz l := Nat.mul_le_mul_right _ h
            rw [Nat.add_mul] at this; omega

theorem wr_ptr (us : List Value) : ∀ {w : World} {A : AHeap} (S : Sim w.heap M F A) {l off : Nat} {vs ns : List AV} (hA : A[l]? = some (some (.cells vs))) (ho : off + ns.length ≤ vs.length)
    (hL : ConcL M ns us) (h1 : ns.all AV.one = true),
    (∀ j, j < us.length → (w.cell? ⟨M.blk l, M.base l + off + j, none⟩).isSome = true) ∧ (∀ j, j < us.length → w.frozen? ⟨M.blk l, M.base l + off + j, none⟩ = false) ∧
    Sim (w.setCells (M.blk l) (M.base l + off) us).heap M F (A.set l (some (.cells (wrt vs off ns)))) ∧
    Ext w M F A (w.setCells (M.blk l) (M.base l + off) us) M F (A.set l (some (.cells (wrt vs off ns)))) := by
  induction us with
  | nil =>
    intro w A S l off vs ns hA ho hL h1
    cases hL
    have : A.set l (some (.cells vs)) = A := by
      apply List.ext_getElem?; intro k
      by_cases e : l = k
      · subst e; rw [List.getElem?_set_self', hA]; simp
      · rw [List.getElem?_set_ne e]
    refine ⟨by simp, by simp, ?_⟩
    simp only [wrt, World.setCells, this]
    exact ⟨S, .refl _ _ _ _⟩
  | cons u us ih =>
    intro w A S l off vs ns hA ho hL h1
    cases hL with
    | @cons n ns' _ _ hn hL' =>
      simp only [List.length_cons, List.all_cons, Bool.and_eq_true] at ho h1
      obtain ⟨⟨u0, hu0⟩, hfz, S1, E1⟩ := S.setCell hA (off := off) (by omega) hn
      have hlt : l < A.length := by
        rcases Nat.lt_or_ge l A.length with h | h
        · exact h
        · rw [List.getElem?_eq_none h] at hA; cases hA
      obtain ⟨c1, c2, S2, E2⟩ := ih S1 (l := l) (off := off + 1) (vs := vs.set off n) (ns := ns') (by rw [List.getElem?_set_self hlt]) (by simp; omega) hL' h1.2
      rw [show M.base l + (off + 1) = M.base l + off + 1 by omega] at S2 E2 c1 c2
      rw [List.set_set] at S2 E2
      refine ⟨?_, ?_, S2, E1.trans E2⟩
      · intro j hj
        match j with
        | 0 => simp [hu0]
        | j + 1 =>
          have := c1 j (by simpa using hj)
          rw [World.cell?_setCell_other _ _ _ _ (by simp <;> omega)] at this
          rwa [show M.base l + off + 1 + j = M.base l + off + (j + 1) by omega] at this
      · intro j hj
        match j with
        | 0 => simpa using hfz
        | j + 1 =>
          have := c2 j (by simpa using hj)
          rw [World.frozen?_setCell] at this
          rwa [show M.base l + off + 1 + j = M.base l + off + (j + 1) by omega] at this

theorem wr_eptr (us : List Value) : ∀ {w : World} {A : AHeap} (S : Sim w.heap M F A) {l i off : Nat} {es : List (List AV)} {ev ns : List AV} (hA : A[l]? = some (some (.arr es))) (he : es[i]? = some ev) (ho : off + ns.length ≤ ev.length)
    (hL : ConcL M ns us) (h1 : ns.all AV.one = true),
    (∀ j, j < us.length → (w.cell? ⟨M.blk l, M.base l + i * M.sz l + off + j, none⟩).isSome = true) ∧ (∀ j, j < us.length → w.frozen? ⟨M.blk l, M.base l + i * M.sz l + off + j, none⟩ = false) ∧
    Sim (w.setCells (M.blk l) (M.base l + i * M.sz l + off) us).heap M F (A.set l (some (.arr (es.set i (wrt ev off ns))))) ∧
    Ext w M F A (w.setCells (M.blk l) (M.base l + i * M.sz l + off) us) M F (A.set l (some (.arr (es.set i (wrt ev off ns))))) := by
  induction us with
  | nil =>
    intro w A S l i off es ev ns hA he ho hL h1
    cases hL
    have e1 : es.set i ev = es := by
      apply List.ext_getElem?; intro k
      by_cases e : i = k
      · subst e; rw [List.getElem?_set_self', he]; simp
      · rw [List.getElem?_set_ne e]
    have : A.set l (some (.arr es)) = A := by
      apply List.ext_getElem?; intro k
      by_cases e : l = k
      · subst e; rw [List.getElem?_set_self', hA]; simp
      · rw [List.getElem?_set_ne e]
    refine ⟨by simp, by simp, ?_⟩
    simp only [wrt, World.setCells, e1, this]
    exact ⟨S, .refl _ _ _ _⟩
  | cons u us ih =>
    intro w A S l i off es ev ns hA he ho hL h1
    cases hL with
    | @cons n ns' _ _ hn hL' =>
      simp only [List.length_cons, List.all_cons, Bool.and_eq_true] at ho h1
      obtain ⟨⟨u0, hu0⟩, hfz, S1, E1⟩ := S.setElem hA he (off := off) (by omega) hn
      have hlt : l < A.length := by
        rcases Nat.lt_or_ge l A.length with h | h
        · exact h
        · rw [List.getElem?_eq_none h] at hA; cases hA
      have hi : i < es.length := by
        rcases Nat.lt_or_ge i es.length with h | h
        · exact h
        · rw [List.getElem?_eq_none h] at he; cases he
      obtain ⟨c1, c2, S2, E2⟩ := ih S1 (l := l) (i := i) (off := off + 1) (es := es.set i (ev.set off n)) (ev := ev.set off n) (ns := ns') (by rw [List.getElem?_set_self hlt]) (by rw [List.getElem?_set_self hi]) (by simp; omega) hL' h1.2
      rw [show M.base l + i * M.sz l + (off + 1) = M.base l + i * M.sz l + off + 1 by omega] at S2 E2 c1 c2
      rw [List.set_set, List.set_set] at S2 E2
      refine ⟨?_, ?_, S2, E1.trans E2⟩
      · intro j hj
        match j with
        | 0 => simp [hu0]
        | j + 1 =>
          have := c1 j (by simpa using hj)
          rw [World.cell?_setCell_other _ _ _ _ (by simp <;> omega)] at this
          rwa [show M.base l + i * M.sz l + off + 1 + j = M.base l + i * M.sz l + off + (j + 1) by omega] at this
      · intro j hj
        match j with
        | 0 => simpa using hfz
        | j + 1 =>
          have := c2 j (by simpa using hj)
          rw [World.frozen?_setCell] at this
          rwa [show M.base l + i * M.sz l + off + 1 + j = M.base l + i * M.sz l + off + (j + 1) by omega] at this

/-- Writing: the real stores go through. -/
theorem Sim.wr (S : Sim w.heap M F A) {a : AV} {ad : Addr} (ha : Conc M a (.pointer (some ad))) {ns : List AV} {us : List Value} (hL : ConcL M ns us) {A' : AHeap} (h : wrN A a ns = some A') :
    ad.spot = none ∧ ∃ w', (storeCells ad us).run P w = .ok () w' ∧ Sim w'.heap M F A' ∧ Ext w M F A w' M F A' := by
  have ones : ns.all AV.one = true → ∀ v ∈ us, v.oneCell' = true := by
    intro h1 v hv
    obtain ⟨i, hi, hiv⟩ := List.mem_iff_getElem.1 hv
    have hlen := hL.length
    obtain ⟨u, hu, hc⟩ := hL.get (List.getElem?_eq_getElem (show i < ns.length by omega))
    rw [List.getElem?_eq_getElem hi, hiv] at hu
    cases hu
    exact hc.oneCell (List.all_eq_true.1 h1 _ (List.getElem_mem _))
  unfold wrN at h
  split at h
  · rename_i l off
    split at h
    · rename_i vs hA
      split at h
      · rename_i hle
        split at h
        · rename_i h1
          cases h
          cases ha with
          | ptr hD =>
            obtain ⟨c1, c2, S', E'⟩ := wr_ptr us S hA hle hL h1
            refine ⟨rfl, _, run_storeCells_cells (P := P) (M.blk l) (M.base l + off) us 0 w (by simpa using c1) (by simpa using c2) (ones h1), ?_, ?_⟩
            · simpa using S'
            · simpa using E'
        · cases h
      · cases h
    · cases h
  · rename_i l i off
    split at h
    · rename_i es hA
      split at h
      · rename_i e he
        split at h
        · rename_i hle
          split at h
          · rename_i h1
            cases h
            cases ha with
            | eptr hD =>
              obtain ⟨c1, c2, S', E'⟩ := wr_eptr us S hA he hle hL h1
              refine ⟨rfl, _, run_storeCells_cells (P := P) (M.blk l) (M.base l + i * M.sz l + off) us 0 w (by simpa using c1) (by simpa using c2) (ones h1), ?_, ?_⟩
              · simpa using S'
              · simpa using E'
          · cases h
        · cases h
      · cases h
    · cases h
  · cases h

/-- The locations, one more laid. -/
def Mod.put (M : Mod) (p b bs rm s : Nat) : Mod where
  D l := M.D l ∨ l = p
  blk l := if l = p then b else M.blk l
  base l := if l = p then bs else M.base l
  room l := if l = p then rm else M.room l
  sz l := if l = p then s else M.sz l
  I := M.I

theorem Mod.le_put {p : Nat} (hp : ¬ M.D p) (b bs rm s : Nat) : M.Le (M.put p b bs rm s) where
  D l h := .inl h
  blk l h := by simp only [Mod.put]; rw [if_neg (show ¬ l = p from fun e => hp (by rw [← e]; exact h))]
  base l h := by simp only [Mod.put]; rw [if_neg (show ¬ l = p from fun e => hp (by rw [← e]; exact h))]
  room l h := by simp only [Mod.put]; rw [if_neg (show ¬ l = p from fun e => hp (by rw [← e]; exact h))]
  sz l h := by simp only [Mod.put]; rw [if_neg (show ¬ l = p from fun e => hp (by rw [← e]; exact h))]
  I b c h := h

/-- A place that is kept free is not laid. -/
theorem Sim.notD (S : Sim w.heap M F A) {p : Nat} (hp : A[p]? = some none) : ¬ M.D p := fun h => by
  obtain ⟨o, ho⟩ := S.fresh p h
  rw [hp] at ho; cases ho

/-- A new block at a place that was kept free. The count of draws may have moved. -/
theorem Sim.alloc (S : Sim w.heap M F A) {p : Nat} (hp : A[p]? = some none) {w' : World} {ob : Obj} (hos : w'.os = w.os) (htp : w'.tape = w.tape) (hout : w'.output = w.output)
    (hheap : w'.heap = w.heap.push ob) (rm s : Nat) {o : AO}
    (ho : o.holds w'.heap (M.put p w.heap.size 0 rm s) (fun b => b = w.heap.size) p) :
    Sim w'.heap (M.put p w.heap.size 0 rm s) (fun l b => if l = p then b = w.heap.size else F l b) (A.set p (some o)) ∧
    Ext w M F A w' (M.put p w.heap.size 0 rm s) (fun l b => if l = p then b = w.heap.size else F l b) (A.set p (some o)) := by
  have hnD := S.notD hp
  have hle := Mod.le_put hnD w.heap.size 0 rm s
  have hlt : p < A.length := by
    rcases Nat.lt_or_ge p A.length with h | h
    · exact h
    · rw [List.getElem?_eq_none h] at hp; cases hp
  have hsz : w'.heap.size = w.heap.size + 1 := by rw [hheap]; simp
  have hold : ∀ b, b < w.heap.size → w'.heap[b]? = w.heap[b]? := by
    intro b hb; rw [hheap, Array.getElem?_push, if_neg (by omega)]
  have get : ∀ {k : Nat} {x : AO}, (A.set p (some o))[k]? = some (some x) → (k = p ∧ x = o) ∨ (k ≠ p ∧ A[k]? = some (some x)) := by
    intro k x hx
    by_cases e : p = k
    · subst e; rw [List.getElem?_set_self hlt] at hx; cases hx; exact .inl ⟨rfl, rfl⟩
    · rw [List.getElem?_set_ne e] at hx; exact .inr ⟨fun e' => e e'.symm, hx⟩
  refine ⟨⟨?_, ?_, ?_, ?_, ?_, ?_⟩, ⟨hos, htp, hout, by omega, hle, by simp, ?_, ?_, ?_⟩⟩
  · intro k x hx
    rcases get hx with ⟨rfl, rfl⟩ | ⟨hk, h⟩
    · refine ⟨.inr rfl, ?_⟩
      simpa using ho
    · obtain ⟨hD, hh⟩ := S.holds k x h
      refine ⟨.inl hD, ?_⟩
      rw [show (fun b => if k = p then b = w.heap.size else F k b) = F k from funext fun b => by rw [if_neg hk]]
      exact AO.keep hh hD hle fun b hb => hold b (S.lt k x b h hb)
  · intro k hD
    rcases hD with hD | rfl
    · obtain ⟨x, hx⟩ := S.fresh k hD
      by_cases e : p = k
      · subst e; exact absurd hD hnD
      · exact ⟨x, by rw [List.getElem?_set_ne e]; exact hx⟩
    · exact ⟨o, by rw [List.getElem?_set_self hlt]⟩
  · intro k x b hx hb
    rw [hsz]
    rcases get hx with ⟨rfl, rfl⟩ | ⟨hk, h⟩
    · rw [if_pos rfl] at hb; omega
    · rw [if_neg hk] at hb; have := S.lt k x b h hb; omega
  · intro k k' x x' b hx hx' hb hb'
    rcases get hx with ⟨rfl, rfl⟩ | ⟨hk, h⟩ <;> rcases get hx' with ⟨rfl, rfl⟩ | ⟨hk', h'⟩
    · rfl
    · rw [if_pos rfl] at hb; rw [if_neg hk'] at hb'; have := S.lt k' x' b h' hb'; omega
    · rw [if_pos rfl] at hb'; rw [if_neg hk] at hb; have := S.lt k x b h hb; omega
    · rw [if_neg hk] at hb; rw [if_neg hk'] at hb'; exact S.disj k k' x x' b h h' hb hb'
  · intro b c hI
    obtain ⟨e, fr, hb⟩ := S.imm b c hI
    refine ⟨e, fr, ?_⟩
    rw [hold b ?_]
    · exact hb
    · rcases Nat.lt_or_ge b w.heap.size with h | h
      · exact h
      · rw [Array.getElem?_eq_none h] at hb; cases hb
  · intro b c k x hI hx hb
    rcases get hx with ⟨rfl, rfl⟩ | ⟨hk, h⟩
    · rw [if_pos rfl] at hb
      obtain ⟨e, fr, hbb⟩ := S.imm b c hI
      rw [hb, Array.getElem?_eq_none (Nat.le_refl _)] at hbb; cases hbb
    · rw [if_neg hk] at hb
      exact S.immNot b c k x hI h hb
  · intro b hb _
    exact hold b hb
  · intro k x b hx hb hlt'
    rcases get hx with ⟨rfl, rfl⟩ | ⟨hk, h⟩
    · rw [if_pos rfl] at hb; omega
    · rw [if_neg hk] at hb; exact ⟨k, x, h, hb⟩
  · intro b c hI _
    exact .inl hI

/-- The world's count of draws does not matter. -/
theorem Sim.drew {n : Nat} (E : Ext w M F A w M F A) : Ext w M F A { w with drawn := n } M F A :=
  ⟨rfl, rfl, rfl, Nat.le_refl _, .refl M, Nat.le_refl _, fun _ _ _ => rfl, fun l o b h hf _ => ⟨l, o, h, hf⟩, fun _ _ h _ => .inl h⟩
end
end Go.SB
end

/- Framework, part C: the operations of the IR on abstract values. -/
section
set_option linter.unusedVariables false
set_option linter.unusedSimpArgs false
namespace Go.SB

inductive Opd where
  | t (i : Nat)
  | c (v : AV)
  deriving Inhabited

def Opd.get (ρ : List AV) : Opd → AV
  | .t i => ρ.getD i .any
  | .c v => v

/-- The kinds of cells that '==' of a struct compares. -/
inductive LK where
  | int | bool | str
  deriving Inhabited, DecidableEq

/-- The kinds of values that are held against each other. -/
inductive EK where
  | bool | ptr | slice | map | func
  | struct (ks : List LK)
  deriving Inhabited

/-- The IR's operations: the loaded program's, with all that hangs on types written out. -/
inductive IOp where
  | mv (x : Opd)
  | pick (c a b : Opd)
  | alloc (z : List AV)
  | box (x : Opd)
  | build (z : List AV) (parts : List (Nat × Nat × Opd))
  | bslice (sz : Nat) (elems : List Opd)
  | load (n : Option Nat) (x : Opd)
  | store (n : Nat) (a x : Opd)
  | nilck (x : Opd)
  | bin (op : BinOp) (x y : Opd)
  | eqv (neg : Bool) (e : EK) (x y : Opd)
  | un (op : UnOp) (x : Opd)
  | cvi (k : IntKind) (x : Opd)
  | cvs (x : Opd)
  | mkfn (f : FuncId) (first captured : List Opd)
  | mkmap
  | mksl (sz bytes : Nat) (z : List AV) (n c : Opd)
  | slcs (x : Opd) (lo hi : Option Opd)
  | slc (sz : Nat) (x : Opd) (lo hi mx : Option Opd)
  | faddr (off : Nat) (x : Opd)
  | fld (off : Nat) (n : Option Nat) (x : Opd)
  | iaddr (sz : Nat) (x i : Opd)
  | iaddra (len sz : Nat) (x i : Opd)
  | idxs (x i : Opd)
  | idxa (len sz : Nat) (n : Option Nat) (x i : Opd)
  | lookup (lk : LK) (z : AV) (ok : Bool) (m k : Opd)
  | mset (lk : LK) (m k v : Opd)
  | ext (i : Nat) (x : Opd)
  | lenst (x : Opd)
  | lens (x : Opd)
  | lenc (n : Nat)
  | lenm (x : Opd)
  | app (sz bytes : Nat) (s x : Opd)
  | cpy (sz : Nat) (d s : Opd)
  | mn (xs : List Opd)
  | mx (xs : List Opd)
  | del (lk : LK) (m k : Opd)
  | clr (m : Opd)
  | clrs (sz : Nat) (z : List AV) (x : Opd)
  | mkif (t : TypeId) (x : Opd)
  | call (f : Opd) (args : List Opd)
  deriving Inhabited

/-- Integers: 'and', 'or', 'xor', 'and not' as the model has them. -/
def ibits (op : BinOp) (k : IntKind) (x y : Int) : Int :=
  match op with
  | .and => k.wrap (BitVec.ofInt k.bits x &&& BitVec.ofInt k.bits y).toNat
  | .or => k.wrap (BitVec.ofInt k.bits x ||| BitVec.ofInt k.bits y).toNat
  | .xor => k.wrap (BitVec.ofInt k.bits x ^^^ BitVec.ofInt k.bits y).toNat
  | _ => k.wrap (BitVec.ofInt k.bits x &&& ~~~ (BitVec.ofInt k.bits y)).toNat

def binI (op : BinOp) (k : IntKind) (a : Int) (k' : IntKind) (b : Int) : Option AV :=
  match op with
  | .shl => if b < 0 then none else some (.int k (k.wrap (a * 2 ^ min b.toNat k.bits)))
  | .shr => if b < 0 then none else some (.int k (a.fdiv (2 ^ min b.toNat k.bits)))
  | .add => if k = k' then some (.int k (k.wrap (a + b))) else none
  | .sub => if k = k' then some (.int k (k.wrap (a - b))) else none
  | .mul => if k = k' then some (.int k (k.wrap (a * b))) else none
  | .quo => if k = k' then (if b = 0 then none else some (.int k (k.wrap (a.tdiv b)))) else none
  | .rem => if k = k' then (if b = 0 then none else some (.int k (a.tmod b))) else none
  | .and => if k = k' then some (.int k (ibits .and k a b)) else none
  | .or => if k = k' then some (.int k (ibits .or k a b)) else none
  | .xor => if k = k' then some (.int k (ibits .xor k a b)) else none
  | .andNot => if k = k' then some (.int k (ibits .andNot k a b)) else none
  | .eql => if k = k' then some (.bool (a == b)) else none
  | .neq => if k = k' then some (.bool (a != b)) else none
  | .lss => if k = k' then some (.bool (decide (a < b))) else none
  | .leq => if k = k' then some (.bool (decide (a ≤ b))) else none
  | .gtr => if k = k' then some (.bool (decide (a > b))) else none
  | .geq => if k = k' then some (.bool (decide (a ≥ b))) else none

def binS (op : BinOp) (a b : List UInt8) : Option AV :=
  match op with
  | .add => if a.length + b.length ≤ 4611686018427387904 then some (.str (a ++ b)) else none
  | .eql => some (.bool (a == b))
  | .neq => some (.bool (!(a == b)))
  | .lss => some (.bool (Op.bytesLess a b))
  | .leq => some (.bool (Op.bytesLess a b || a == b))
  | .gtr => some (.bool (!(Op.bytesLess a b || a == b)))
  | .geq => some (.bool (!(Op.bytesLess a b)))
  | _ => none

def AV.bin (op : BinOp) : AV → AV → Option AV
  | .int k a, .int k' b => binI op k a k' b
  | .str a, .str b => binS op a b
  | _, _ => none

/-- '==' of one cell. -/
def AV.eqK : LK → AV → AV → Option Bool
  | .int, .int k a, .int k' b => if k = k' then some (a == b) else none
  | .bool, .bool a, .bool b => some (a == b)
  | .str, .str a, .str b => some (a == b)
  | _, _, _ => none

def AV.eqL : List LK → List AV → List AV → Option Bool
  | [], [], [] => some true
  | k :: ks, a :: as, b :: bs => match AV.eqK k a b with
    | some r => match AV.eqL ks as bs with
      | some s => some (r && s)
      | none => none
    | none => none
  | _, _, _ => none

/-- Is it nil? -/
def AV.nilP : AV → Option Bool
  | .nilp => some true
  | .ptr _ _ | .eptr _ _ _ | .pp _ => some false
  | _ => none
def AV.nilS : AV → Option Bool
  | .nils => some true
  | .sl _ _ _ (_ + 1) _ | .es | .ps _ (_ :: _) => some false
  | .raw (.slice (some _) _ _) => some false
  | _ => none
def AV.nilM : AV → Option Bool
  | .nilm => some true
  | .mp _ => some false
  | _ => none
def AV.nilF : AV → Option Bool
  | .nilf => some true
  | .fn _ _ _ => some false
  | _ => none

/-- Two of which one at least is nil. -/
def eqNil : Option Bool → Option Bool → Option Bool
  | some true, some b => some b
  | some false, some true => some false
  | _, _ => none

def AV.eqB : AV → AV → Option Bool
  | .bool a, .bool b => some (a == b)
  | _, _ => none

def AV.eqS (ks : List LK) : AV → AV → Option Bool
  | .agg as, .agg bs => AV.eqL ks as bs
  | _, _ => none

/-- '==' of values that are no numbers and no strings. -/
def AV.eqv (e : EK) (x y : AV) : Option Bool :=
  match e with
  | .bool => AV.eqB x y
  | .ptr => eqNil x.nilP y.nilP
  | .slice => eqNil x.nilS y.nilS
  | .map => eqNil x.nilM y.nilM
  | .func => eqNil x.nilF y.nilF
  | .struct ks => AV.eqS ks x y

def AV.cells : AV → List AV
  | .agg cs => cs
  | .any => []
  | v => [v]

def bfill (z : List AV) : List (Nat × Nat × AV) → Option (List AV)
  | [] => some z
  | (off, size, v) :: ps => if v.cells.length = size ∧ off + size ≤ z.length then bfill (wrt z off v.cells) ps else none

def AV.unop : UnOp → AV → Option AV
  | .neg, .int k n => some (.int k (k.wrap (0 - n)))
  | .xor, .int k n => some (.int k (ibits .xor k (if k.signed then -1 else k.max) n))
  | .not, .bool b => some (.bool (!b))
  | _, _ => none

/-- A bound of a slice expression: a number from 0 to y. -/
def bnd (y : Nat) : AV → Option Nat
  | .int _ n => if 0 ≤ n ∧ n ≤ y then some n.toNat else none
  | _ => none

def hiOr (len : Nat) : Option AV → Option Nat
  | some h => bnd len h
  | none => some len

/-- low, high and max of a slice expression; 'cap': what max may be at most. -/
def bnds (len cap : Nat) (lo hi mx : Option AV) : Option (Nat × Nat × Option Nat) :=
  match mx with
  | some m => match bnd cap m with
    | some m => match hi with
      | some h => match bnd m h with
        | some h => match lo with
          | some l => match bnd h l with
            | some l => some (l, h, some m)
            | none => none
          | none => some (0, h, some m)
        | none => none
      | none => none
    | none => none
  | none =>
    match hiOr len hi with
    | some h => match lo with
      | some l => match bnd h l with
        | some l => some (l, h, none)
        | none => none
      | none => some (0, h, none)
    | none => none

def AV.slcs (x : AV) (lo hi : Option AV) : Option AV :=
  match x with
  | .str s => match bnds s.length s.length lo hi none with
    | some (l, h, _) => some (.str ((s.drop l).take (h - l)))
    | none => none
  | _ => none

def AV.slc (size : Nat) (x : AV) (lo hi mx : Option AV) : Option AV :=
  match x with
  | .sl p sz b len t => if sz = size then (match bnds len len lo hi mx with
    | some (l, h, m) => some (.sl p sz (b + l) (h - l) (match m with | some m => decide (m = h) | none => t && decide (h = len)))
    | none => none) else none
  | .nils => match bnds 0 0 lo hi mx with
    | some _ => some .nils
    | none => none
  | .es => match bnds 0 0 lo hi mx with
    | some _ => some .es
    | none => none
  | .ps sz xs => if sz = size then (match mx with
    | some _ => none
    | none => match bnds xs.length xs.length lo hi none with
      | some (l, h, _) => some (.ps sz ((xs.drop l).take (h - l)))
      | none => none) else none
  | _ => none

def AV.faddr (off : Nat) : AV → Option AV
  | .ptr l o => some (.ptr l (o + off))
  | .eptr l i o => some (.eptr l i (o + off))
  | .pp cs => some (.pp (cs.drop off))
  | _ => none

def AV.part (off : Nat) (n : Option Nat) (cs : List AV) : Option AV :=
  match n with
  | none => cs[off]?
  | some n => if off + n ≤ cs.length then some (.agg ((cs.drop off).take n)) else none

def AV.fld (off : Nat) (n : Option Nat) : AV → Option AV
  | .agg cs => AV.part off n cs
  | _ => none

def AV.iaddr (sz : Nat) (x i : AV) : Option AV :=
  match i with
  | .int _ i => match x with
    | .sl l sz' lo len _ => if sz' = sz then (if 0 ≤ i ∧ i < len then some (.eptr l (lo + i.toNat) 0) else none) else none
    | .ps sz' xs => if sz' = sz then (if 0 ≤ i ∧ i < xs.length then some (.pp (xs.getD i.toNat [])) else none) else none
    | _ => none
  | _ => none

def AV.iaddra (len sz : Nat) (x i : AV) : Option AV :=
  match i with
  | .int _ i => if 0 ≤ i ∧ i < len then AV.faddr (i.toNat * sz) x else none
  | _ => none

def AV.idxs (x i : AV) : Option AV :=
  match x, i with
  | .str s, .int _ i => if 0 ≤ i ∧ i < s.length then some (.int .u8 (s.getD i.toNat 0).toNat) else none
  | _, _ => none

def AV.idxa (len sz : Nat) (n : Option Nat) (x i : AV) : Option AV :=
  match x, i with
  | .agg cs, .int _ i => if 0 ≤ i ∧ i < len then AV.part (i.toNat * sz) n cs else none
  | _, _ => none

def AV.lenst : AV → Option AV
  | .str s => some (.int .i64 s.length)
  | _ => none

def AV.lens : AV → Option AV
  | .sl _ _ _ len _ => some (.int .i64 len)
  | .es | .nils => some (.int .i64 0)
  | .ps _ xs => some (.int .i64 xs.length)
  | _ => none

def AV.mn2 : AV → AV → Option AV
  | .int k x, .int _ y => some (.int k (if y < x then y else x))
  | _, _ => none
def AV.mx2 : AV → AV → Option AV
  | .int k x, .int _ y => some (.int k (if y > x then y else x))
  | _, _ => none

def foldO (f : AV → AV → Option AV) : AV → List AV → Option AV
  | x, [] => some x
  | x, y :: ys => match f x y with
    | some z => foldO f z ys
    | none => none

/-- A key in a map: where it stands. -/
def mfind (lk : LK) (k : AV) : List (AV × AV) → Nat → Option (Option (Nat × AV))
  | [], _ => some none
  | (k', v) :: es, i => match AV.eqK lk k k' with
    | some true => some (some (i, v))
    | some false => mfind lk k es (i + 1)
    | none => none

/-- Operations that look into no memory. -/
def nstep (ρ : List AV) : IOp → Option AV
  | .mv x => some (x.get ρ)
  | .pick c a b => match c.get ρ with
    | .bool c => some (bif c then a.get ρ else b.get ρ)
    | _ => none
  | .build z ps => match bfill z (ps.map fun (o, s, x) => (o, s, x.get ρ)) with
    | some cs => some (.agg cs)
    | none => none
  | .nilck x => match x.get ρ with
    | .ptr l o => some (.ptr l o)
    | .eptr l i o => some (.eptr l i o)
    | .pp cs => some (.pp cs)
    | .fn f a b => some (.fn f a b)
    | _ => none
  | .bin op x y => AV.bin op (x.get ρ) (y.get ρ)
  | .eqv neg e x y => match AV.eqv e (x.get ρ) (y.get ρ) with
    | some r => some (.bool (r != neg))
    | none => none
  | .un op x => AV.unop op (x.get ρ)
  | .cvi k x => match x.get ρ with
    | .int _ n => some (.int k (k.wrap n))
    | _ => none
  | .cvs x => match x.get ρ with
    | .str s => some (.str s)
    | _ => none
  | .mkfn f a b => some (.fn f (a.map (·.get ρ)) (b.map (·.get ρ)))
  | .slcs x lo hi => AV.slcs (x.get ρ) (lo.map (·.get ρ)) (hi.map (·.get ρ))
  | .slc sz x lo hi mx => AV.slc sz (x.get ρ) (lo.map (·.get ρ)) (hi.map (·.get ρ)) (mx.map (·.get ρ))
  | .faddr off x => AV.faddr off (x.get ρ)
  | .fld off n x => AV.fld off n (x.get ρ)
  | .iaddr sz x i => AV.iaddr sz (x.get ρ) (i.get ρ)
  | .iaddra len sz x i => AV.iaddra len sz (x.get ρ) (i.get ρ)
  | .idxs x i => AV.idxs (x.get ρ) (i.get ρ)
  | .idxa len sz n x i => AV.idxa len sz n (x.get ρ) (i.get ρ)
  | .ext i x => match x.get ρ with
    | .tup vs => vs[i]?
    | _ => none
  | .lenst x => AV.lenst (x.get ρ)
  | .lens x => AV.lens (x.get ρ)
  | .lenc n => some (.int .i64 n)
  | .mn xs => match xs.map (·.get ρ) with
    | [] => none
    | x :: r => foldO AV.mn2 x r
  | .mx xs => match xs.map (·.get ρ) with
    | [] => none
    | x :: r => foldO AV.mx2 x r
  | .mkif t x => some (.ifc t (x.get ρ))
  | _ => none

def aload (A : AHeap) (n : Option Nat) (x : AV) : Option AV :=
  match n with
  | none => match rdN A x 1 with
    | some [v] => some v
    | _ => none
  | some n => match rdN A x n with
    | some vs => some (.agg vs)
    | none => none

def alookup (A : AHeap) (lk : LK) (z : AV) (ok : Bool) (m k : AV) : Option AV :=
  match m with
  | .nilm => some (bif ok then .tup [z, .bool false] else z)
  | .mp l => match A[l]? with
    | some (some (.map es)) => match mfind lk k es 0 with
      | some (some (_, v)) => some (bif ok then .tup [v, .bool true] else v)
      | some none => some (bif ok then .tup [z, .bool false] else z)
      | none => none
    | _ => none
  | _ => none

def alenm (A : AHeap) : AV → Option AV
  | .nilm => some (.int .i64 0)
  | .mp l => match A[l]? with
    | some (some (.map es)) => some (.int .i64 es.length)
    | _ => none
  | _ => none

/-- Operations that read memory. -/
def rstep (ρ : List AV) (A : AHeap) : IOp → Option AV
  | .load n x => aload A n (x.get ρ)
  | .lookup lk z ok m k => alookup A lk z ok (m.get ρ) (k.get ρ)
  | .lenm x => alenm A (x.get ρ)
  | _ => none

/-- The elements that a slice shows. -/
def elemsOf (A : AHeap) (sz : Nat) : AV → Option (List (List AV))
  | .sl l sz' lo len _ => match A[l]? with
    | some (some (.arr es)) => if sz' = sz ∧ lo + len ≤ es.length then some ((es.drop lo).take len) else none
    | _ => none
  | .nils | .es => some []
  | .raw (.slice (some _) 0 _) => some []
  | .ps sz' es => if sz' = sz then some es else none
  | _ => none

def amset (A : AHeap) (lk : LK) (m k v : AV) : Option AHeap :=
  match m with
  | .mp l => match A[l]? with
    | some (some (.map es)) => match mfind lk k es 0 with
      | some (some (i, _)) => some (A.set l (some (.map (es.set i (k, v)))))
      | some none => some (A.set l (some (.map (es ++ [(k, v)]))))
      | none => none
    | _ => none
  | _ => none

def amdel (A : AHeap) (lk : LK) (m k : AV) : Option AHeap :=
  match m with
  | .nilm => some A
  | .mp l => match A[l]? with
    | some (some (.map es)) => match mfind lk k es 0 with
      | some (some (i, _)) => some (A.set l (some (.map (es.eraseIdx i))))
      | some none => some A
      | none => none
    | _ => none
  | _ => none

def amclr (A : AHeap) (m : AV) : Option AHeap :=
  match m with
  | .nilm => some A
  | .mp l => match A[l]? with
    | some (some (.map _)) => some (A.set l (some (.map [])))
    | _ => none
  | _ => none

def aapp (A : AHeap) (p sz bytes : Nat) (s : AV) (xs : List (List AV)) : Option (AV × AHeap) :=
  match s with
  | .nils => match xs with
    | [] => some (.nils, A)
    | x0 :: xr => match A[p]? with
      | some none => if (x0 :: xr).length * bytes ≤ 140737488355328 then some (.sl p sz 0 (x0 :: xr).length false, A.set p (some (.arr (x0 :: xr)))) else none
      | _ => none
  | .es => match xs with
    | [] => some (.es, A)
    | x0 :: xr => match A[p]? with
      | some none => if (x0 :: xr).length * bytes ≤ 140737488355328 then some (.sl p sz 0 (x0 :: xr).length false, A.set p (some (.arr (x0 :: xr)))) else none
      | _ => none
  | .sl l sz' lo len tight => match A[l]? with
    | some (some (.arr es)) => match A[p]? with
      | some none => if sz' = sz ∧ lo + len ≤ es.length ∧ (len + xs.length) * bytes ≤ 140737488355328 then
          (bif tight && !xs.isEmpty then some (.sl p sz 0 (len + xs.length) false, A.set p (some (.arr ((es.drop lo).take len ++ xs))))
           else some (.sl p sz 0 (len + xs.length) false, (A.set l (some .dead)).set p (some (.arr ((es.drop lo).take len ++ xs)))))
        else none
      | _ => none
    | _ => none
  | _ => none

def acpy (A : AHeap) (sz : Nat) (d : AV) (xs : List (List AV)) : Option (AV × AHeap) :=
  match d with
  | .sl l sz' lo len _ => match A[l]? with
    | some (some (.arr es)) => if sz' = sz ∧ lo + len ≤ es.length then
        some (.int .i64 (min xs.length len : Nat), A.set l (some (.arr (es.take lo ++ xs.take len ++ es.drop (lo + min xs.length len)))))
      else none
    | _ => none
  | .nils | .es => some (.int .i64 0, A)
  | _ => none

/-- All that a slice shows is made z. -/
def aclrs (A : AHeap) (sz : Nat) (z : List AV) (x : AV) : Option AHeap :=
  match x with
  | .nils | .es => some A
  | .sl l sz' lo len _ => match A[l]? with
    | some (some (.arr es)) => if sz' = sz ∧ lo + len ≤ es.length then some (A.set l (some (.arr (es.take lo ++ List.replicate len z ++ es.drop (lo + len))))) else none
    | _ => none
  | _ => none

/-- The elements are of that many cells, each storable. -/
def rowsOk (sz : Nat) (xs : List (List AV)) : Bool := xs.all fun e => e.length == sz && e.all AV.one

def amksl (A : AHeap) (p sz bytes : Nat) (z : List AV) (n c : AV) : Option (AV × AHeap) :=
  match A[p]? with
  | some none => match n, c with
    | .int _ n, .int _ c => if 0 ≤ n ∧ n = c ∧ n * bytes ≤ 140737488355328 then some (.sl p sz 0 n.toNat true, A.set p (some (.arr (List.replicate n.toNat z)))) else none
    | _, _ => none
  | _ => none

def abslice (A : AHeap) (p sz : Nat) (vs : List (List AV)) : Option (AV × AHeap) :=
  match A[p]? with
  | some none => if vs.all (fun e => e.length == sz) then some (.sl p sz 0 vs.length true, A.set p (some (.arr vs))) else none
  | _ => none

def anew (A : AHeap) (p : Nat) (v : AV) (o : AO) : Option (AV × AHeap) :=
  match A[p]? with
  | some none => some (v, A.set p (some o))
  | _ => none

def withAny (o : Option AHeap) : Option (AV × AHeap) :=
  match o with
  | some A => some (.any, A)
  | none => none

/-- Operations that write or make memory. p: a place kept free for what is made. -/
def wstep (ρ : List AV) (A : AHeap) (p : Nat) : IOp → Option (AV × AHeap)
  | .alloc z => anew A p (.ptr p 0) (.cells z)
  | .box x => anew A p (.ptr p 0) (.cells (x.get ρ).cells)
  | .bslice sz es => abslice A p sz (es.map fun x => (x.get ρ).cells)
  | .mkmap => anew A p (.mp p) (.map [])
  | .mksl sz bytes z n c => amksl A p sz bytes z (n.get ρ) (c.get ρ)
  | .store n a x => if (x.get ρ).cells.length = n then withAny (wrN A (a.get ρ) (x.get ρ).cells) else none
  | .mset lk m k v => withAny (amset A lk (m.get ρ) (k.get ρ) (v.get ρ))
  | .del lk m k => withAny (amdel A lk (m.get ρ) (k.get ρ))
  | .clr m => withAny (amclr A (m.get ρ))
  | .clrs sz z x => withAny (aclrs A sz z (x.get ρ))
  | .app sz bytes s x => match elemsOf A sz (x.get ρ) with
    | none => none
    | some xs => if rowsOk sz xs then aapp A p sz bytes (s.get ρ) xs else none
  | .cpy sz d s => match elemsOf A sz (s.get ρ) with
    | none => none
    | some xs => if rowsOk sz xs then acpy A sz (d.get ρ) xs else none
  | _ => none

/-- One operation that is no call. -/
def astep (ρ : List AV) (A : AHeap) (p : Nat) (o : IOp) : Option (AV × AHeap) :=
  match nstep ρ o with
  | some v => some (v, A)
  | none => match rstep ρ A o with
    | some v => some (v, A)
    | none => wstep ρ A p o

end Go.SB
end

/- Framework, part D: the loaded program's operations are the IR's (those that write no memory). -/
section
set_option linter.unusedVariables false
set_option linter.unusedSimpArgs false
namespace Go.SB

def cval1 : Value → Option AV
  | .bool b => some (.bool b)
  | .int k n => some (.int k n)
  | .string s => some (.str s.data.toList)
  | .pointer none => some .nilp
  | .slice none 0 0 => some .nils
  | .map none => some .nilm
  | .nilFunc => some .nilf
  | .nilIface => some .nili
  | _ => none

def cvalL : List Value → Option (List AV)
  | [] => some []
  | v :: vs => match cval1 v with
    | some a => match cvalL vs with
      | some as => some (a :: as)
      | none => none
    | none => none

def cval : Value → Option AV
  | .agg cs => match cvalL cs.toList with
    | some as => some (.agg as)
    | none => none
  | v => cval1 v

theorem cval1_ok {v : Value} {a : AV} (h : cval1 v = some a) (M : Mod) : Conc M a v := by
  unfold cval1 at h
  split at h <;> cases h
  · exact .bool _
  · exact .int _ _
  · rename_i s
    have := Conc.str (M := M) s.data.toList
    simpa using this
  · exact .nilp
  · exact .nils
  · exact .nilm
  · exact .nilf
  · exact .nili

theorem cvalL_ok : ∀ {vs : List Value} {as : List AV} (h : cvalL vs = some as) (M : Mod), ConcL M as vs
  | [], as, h, M => by cases h; exact .nil
  | v :: vs, as, h, M => by
    unfold cvalL at h
    split at h
    · rename_i a ha
      split at h
      · rename_i as' has
        cases h
        exact .cons (cval1_ok ha M) (cvalL_ok has M)
      · cases h
    · cases h

theorem cval_ok {v : Value} {a : AV} (h : cval v = some a) (M : Mod) : Conc M a v := by
  unfold cval at h
  split at h
  · split at h
    · rename_i as has
      cases h
      exact .agg (cvalL_ok has M)
    · cases h
  · exact cval1_ok h M

def copd : Operand → Option Opd
  | .tmp t => some (.t t)
  | .const v => match cval v with
    | some a => some (.c a)
    | none => none
  | .func f => some (.c (.fn f [] []))
  | .global _ => none

theorem copd_ok {x : Operand} {y : Opd} (h : copd x = some y) {M : Mod} {ρ : List AV} {a : Act} (hρ : ConcL M ρ a.tmps.toList) : Conc M (y.get ρ) (a.eval x) := by
  unfold copd at h
  split at h
  · rename_i t
    cases h
    simp only [Opd.get, Act.eval]
    cases ht : ρ[t]? with
    | none => simp only [List.getD, ht, Option.getD_none]; exact .any _
    | some v =>
      obtain ⟨u, hu, hc⟩ := hρ.get ht
      simp only [List.getD, ht, Option.getD_some]
      have : a.tmps.getD t undef = u := by
        rw [Array.getD_eq_getD_getElem?]
        rw [Array.getElem?_toList] at hu
        simp [hu]
      rw [this]; exact hc
  · split at h
    · rename_i v a' ha
      cases h
      exact cval_ok ha M
    · cases h
  · cases h
    exact .fn (by simpa using ConcL.nil) (by simpa using ConcL.nil)
  · cases h

def copds : List Operand → Option (List Opd)
  | [] => some []
  | x :: xs => match copd x with
    | some y => match copds xs with
      | some ys => some (y :: ys)
      | none => none
    | none => none

theorem copds_ok {M : Mod} {ρ : List AV} {a : Act} (hρ : ConcL M ρ a.tmps.toList) : ∀ {xs : List Operand} {ys : List Opd}, copds xs = some ys →
    ConcL M (ys.map (·.get ρ)) (xs.map a.eval)
  | [], ys, h => by cases h; exact .nil
  | x :: xs, ys, h => by
    unfold copds at h
    split at h
    · rename_i y hy
      split at h
      · rename_i ys' hys
        cases h
        exact .cons (copd_ok hy hρ) (copds_ok hρ hys)
      · cases h
    · cases h

def copdo : Option Operand → Option (Option Opd)
  | none => some none
  | some x => match copd x with
    | some y => some (some y)
    | none => none

theorem copdo_ok {M : Mod} {ρ : List AV} {a : Act} (hρ : ConcL M ρ a.tmps.toList) {x : Option Operand} {y : Option Opd} (h : copdo x = some y) :
    (x = none ∧ y = none) ∨ ∃ x' y', x = some x' ∧ y = some y' ∧ Conc M (y'.get ρ) (a.eval x') := by
  cases x with
  | none => cases h; exact .inl ⟨rfl, rfl⟩
  | some x =>
    simp only [copdo] at h
    split at h
    · rename_i y' hy
      cases h
      exact .inr ⟨_, _, rfl, rfl, copd_ok hy hρ⟩
    · cases h

/-- The cells of a type's zero value. -/
def zeroCellsOf (P : Program) (t : TypeId) : Option (List AV) :=
  match P.info? t with
  | some i => match i.zero with
    | some z => cvalL z.cells.toList
    | none => none
  | none => none

def zeroOf (P : Program) (t : TypeId) : Option AV :=
  match P.info? t with
  | some i => match i.zero with
    | some z => cval z
    | none => none
  | none => none

/-- How many cells a value of the type is loaded as: none: one, by itself. -/
def aggOf (P : Program) (t : TypeId) : Option (Option Nat) :=
  match P.info? t with
  | none => none
  | some i => match P.underlying t with
    | some (.struct _) | some (.array _ _) => some (some i.size)
    | some _ => some none
    | none => none

/-- The type's values are held against each other cell by cell: whole numbers, bools, strings, and structs of these: their kinds, in order. -/
def leaves (P : Program) : Nat → TypeId → Option (List LK)
  | 0, _ => none
  | d + 1, t =>
    match P.info? t with
    | none => none
    | some i => match P.underlying t with
      | some (.int _) => if i.size = 1 then some [.int] else none
      | some .bool => if i.size = 1 then some [.bool] else none
      | some .string => if i.size = 1 then some [.str] else none
      | some (.struct fs) => if P.stoodInHeld t then none else leavesF (leaves P d) P fs.toList 0
      | _ => none
where
  leavesF (rec : TypeId → Option (List LK)) (P : Program) : List Field → Nat → Option (List LK)
    | [], _ => some []
    | f :: fs, off => if f.name = "_" ∨ f.offset ≠ off then none else
      match rec f.type with
      | none => none
      | some ks => if ks.length = P.cellsOf f.type then (match leavesF rec P fs (off + P.cellsOf f.type) with
          | none => none
          | some r => some (ks ++ r)) else none

def cfields (P : Program) (fs : Array Field) : List (Nat × Operand) → Option (List (Nat × Nat × Opd))
  | [] => some []
  | (i, x) :: ps => match fs[i]? with
    | some f => match P.info? f.type with
      | some inf => if 0 < inf.size then (match copd x with
        | some y => match cfields P fs ps with
          | some r => some ((f.offset, inf.size, y) :: r)
          | none => none
        | none => none) else none
      | none => none
    | none => none

def celems (size : Nat) : List (Nat × Operand) → Option (List (Nat × Nat × Opd))
  | [] => some []
  | (i, x) :: ps => match copd x with
    | some y => match celems size ps with
      | some r => some ((i * size, size, y) :: r)
      | none => none
    | none => none

/-- The parts are the elements from k on, in order. -/
def cseq : Nat → List (Nat × Operand) → Option (List Opd)
  | _, [] => some []
  | k, (i, x) :: ps => if i = k then (match copd x with
    | some y => match cseq (k + 1) ps with
      | some r => some (y :: r)
      | none => none
    | none => none) else none

def fsOk (P : Program) (fs : Array Field) : Bool := fs.all fun f => (P.info? f.type).isSome

def isEq : BinOp → Option Bool
  | .eql => some false
  | .neq => some true
  | _ => none

def eqOk (P : Program) (t : TypeId) : Option EK :=
  match P.underlying t with
  | some .bool => some .bool
  | some (.pointer _) => some .ptr
  | some (.slice _) => some .slice
  | some (.map _ _) => some .map
  | some (.func _ _ _) => some .func
  | some (.struct _) => if P.eqGuardType P.depth t then none else (match leaves P 100 t with
    | some ks => if ks.length = P.cellsOf t then some (.struct ks) else none
    | none => none)
  | _ => none

def elemSize (P : Program) (t : TypeId) : Option Nat :=
  match P.info? t with
  | some i => some i.size
  | none => none

def keyOk (P : Program) (t : TypeId) : Option LK :=
  match P.underlying t with
  | some (.int _) => some .int
  | some .string => some .str
  | _ => none

def cop (P : Program) (o : Oper) : Option IOp :=
  match o.op with
  | .move x | .assign x => (copd x).map .mv
  | .pick c a b => match copd c, copd a, copd b with
    | some c, some a, some b => some (.pick c a b)
    | _, _, _ => none
  | .alloc t => (zeroCellsOf P t).map .alloc
  | .box _ x => (copd x).map .box
  | .build t ps => match zeroCellsOf P t with
    | none => none
    | some z => match P.underlying t with
      | some (.struct fs) => if fsOk P fs then (cfields P fs ps.toList).map (.build z) else none
      | some (.array _ e) => match elemSize P e with
        | some size => if 0 < size then (celems size ps.toList).map (.build z) else none
        | none => none
      | _ => none
  | .buildSlice t n ps => match P.underlying t with
    | some (.slice e) => match elemSize P e, zeroCellsOf P e with
      | some size, some z => if z.length = size ∧ 0 < size ∧ n * size ≤ 16777216 then (match cseq 0 ps.toList with
          | some xs => if xs.length = n then some (.bslice size xs) else none
          | none => none) else none
      | _, _ => none
    | _ => none
  | .load t x => match aggOf P t, copd x with
    | some n, some x => some (.load n x)
    | _, _ => none
  | .store t a x => match elemSize P t, copd a, copd x with
    | some n, some a, some x => if 0 < n then some (.store n a x) else none
    | _, _, _ => none
  | .nilCheck x => (copd x).map .nilck
  | .binOp op t x y _ => match copd x, copd y with
    | some x, some y => match P.underlying t with
      | some (.int _) | some .string => some (.bin op x y)
      | _ => match isEq op with
        | some neg => (eqOk P t).map fun e => .eqv neg e x y
        | none => none
    | _, _ => none
  | .unOp op _ x => (copd x).map (.un op)
  | .convert s d x => match P.underlying s, P.underlying d, copd x with
    | some (.int _), some (.int k), some x => some (.cvi k x)
    | some .string, some .string, some x => some (.cvs x)
    | _, _, _ => none
  | .makeFunc (.func f) a b => match copds a.toList, copds b.toList with
    | some a, some b => some (.mkfn f a b)
    | _, _ => none
  | .makeMap t r => match P.underlying t with
    | some (.map k e) => match r with
      | none => some .mkmap
      | some _ => none
    | _ => none
  | .makeSlice t n c => match P.underlying t with
    | some (.slice e) => match P.info? e, zeroCellsOf P e, copd n, copd c with
      | some i, some z, some n, some c => if z.length = i.size ∧ 0 < i.size ∧ 0 < i.bytes then some (.mksl i.size i.bytes z n c) else none
      | _, _, _, _ => none
    | _ => none
  | .slice t x lo hi mx => match P.underlying t with
    | some .string => match copd x, copdo lo, copdo hi, mx with
      | some x, some lo, some hi, none => some (.slcs x lo hi)
      | _, _, _, _ => none
    | some (.slice e) => match copd x, copdo lo, copdo hi, copdo mx, elemSize P e with
      | some x, some lo, some hi, some mx, some sz => some (.slc sz x lo hi mx)
      | _, _, _, _, _ => none
    | _ => none
  | .fieldAddr t x i => match P.underlying t with
    | some (.struct fs) => match fs[i]? with
      | some f => match elemSize P f.type, copd x with
        | some n, some x => if 0 < n then some (.faddr f.offset x) else none
        | _, _ => none
      | none => none
    | _ => none
  | .field t x i => match P.underlying t with
    | some (.struct fs) => match fs[i]? with
      | some f => match aggOf P f.type, copd x with
        | some n, some x => some (.fld f.offset n x)
        | _, _ => none
      | none => none
    | _ => none
  | .indexAddr t x i => match P.underlying t with
    | some (.slice e) => match elemSize P e, copd x, copd i with
      | some n, some x, some i => some (.iaddr n x i)
      | _, _, _ => none
    | some (.array len e) => match elemSize P e, copd x, copd i with
      | some n, some x, some i => some (.iaddra len n x i)
      | _, _, _ => none
    | _ => none
  | .index t x i => match P.underlying t with
    | some .string => match copd x, copd i with
      | some x, some i => some (.idxs x i)
      | _, _ => none
    | some (.array len e) => match elemSize P e, aggOf P e, copd x, copd i with
      | some n, some g, some x, some i => some (.idxa len n g x i)
      | _, _, _, _ => none
    | _ => none
  | .lookup t m k ok => match P.underlying t with
    | some (.map kt e) => match keyOk P kt, zeroOf P e, copd m, copd k with
      | some lk, some z, some m, some k => some (.lookup lk z ok m k)
      | _, _, _, _ => none
    | _ => none
  | .mapUpdate t m k v => match P.underlying t with
    | some (.map kt _) => match keyOk P kt, copd m, copd k, copd v with
      | some lk, some m, some k, some v => some (.mset lk m k v)
      | _, _, _, _ => none
    | _ => none
  | .makeInterface t x => match P.underlying t, copd x with
    | some (.interface _), _ => none
    | some _, some x => some (.mkif t x)
    | _, _ => none
  | .extract x i => (copd x).map (.ext i)
  | .call c => match c.callee with
    | .value f => match copd f, copds c.args.toList with
      | some f, some xs => some (.call f xs)
      | _, _ => none
    | .builtin b => match b with
      | .len => match c.argTypes[0]? with
        | some t => match P.underlying t, c.args.toList with
          | some .string, [x] => (copd x).map .lenst
          | some (.slice _), [x] => (copd x).map .lens
          | some (.array n _), [x] => some (.lenc n)
          | some (.map _ _), [x] => (copd x).map .lenm
          | _, _ => none
        | none => none
      | .append => match c.argTypes.toList, c.args.toList with
        | [t, t'], [s, x] => if t' = t then (match P.underlying t with
          | some (.slice e) => match P.info? e, zeroCellsOf P e, copd s, copd x with
            | some i, some z, some s, some x => if z.length = i.size ∧ 0 < i.size ∧ 0 < i.bytes then some (.app i.size i.bytes s x) else none
            | _, _, _, _ => none
          | _ => none) else none
        | _, _ => none
      | .copy => match c.argTypes.toList, c.args.toList with
        | [t, t'], [s, x] => if t' = t then (match P.underlying t with
          | some (.slice e) => match elemSize P e, copd s, copd x with
            | some n, some s, some x => if 0 < n then some (.cpy n s x) else none
            | _, _, _ => none
          | _ => none) else none
        | _, _ => none
      | .min => (copds c.args.toList).map .mn
      | .max => (copds c.args.toList).map .mx
      | .delete => match c.argTypes[0]?, c.args.toList with
        | some t, [m, k] => match P.underlying t with
          | some (.map kt _) => match keyOk P kt, copd m, copd k with
            | some lk, some m, some k => some (.del lk m k)
            | _, _, _ => none
          | _ => none
        | _, _ => none
      | .clear => match c.argTypes[0]?, c.args.toList with
        | some t, [m] => match P.underlying t, copd m with
          | some (.map _ _), some m => some (.clr m)
          | some (.slice e), some m => (match elemSize P e, zeroCellsOf P e with
            | some sz, some z => if 0 < sz ∧ rowsOk sz [z] = true then some (.clrs sz z m) else none
            | _, _ => none)
          | _, _ => none
        | _, _ => none
      | _ => none
    | _ => none
  | _ => none

end Go.SB
end

/- Framework, part E: operations that look into no memory: the loaded program does what the IR says. -/
section
set_option linter.unusedVariables false
set_option linter.unusedSimpArgs false
namespace Go.SB
section
variable {P : Program} {M : Mod} {ρ : List AV} {a : Act} (w : World)

theorem opt_map {α β : Type} {f : α → β} {x : Option α} {y : β} (h : x.map f = some y) : ∃ z, x = some z ∧ f z = y := by
  cases x with
  | none => cases h
  | some z => exact ⟨z, rfl, by simpa using h⟩

theorem run_typeInfo' {t : TypeId} {i : TypeInfo} (h : P.info? t = some i) : (typeInfo t).run P w = .ok i w := by
  simp [typeInfo, h]
theorem run_sizeOf' {t : TypeId} {i : TypeInfo} (h : P.info? t = some i) : (sizeOf t).run P w = .ok i.size w := by
  simp [sizeOf, run_typeInfo' w h]
theorem run_elemSize {t : TypeId} {n : Nat} (h : elemSize P t = some n) : (sizeOf t).run P w = .ok n w := by
  unfold elemSize at h
  split at h
  · rename_i i hi
    cases h
    exact run_sizeOf' w hi
  · cases h
theorem run_zeroCells {t : TypeId} {z : List AV} (h : zeroCellsOf P t = some z) (M : Mod) : ∃ u, (zeroValue t).run P w = .ok u w ∧ ConcL M z u.cells.toList ∧ ∃ i, P.info? t = some i ∧ i.zero = some u := by
  unfold zeroCellsOf at h
  split at h
  · rename_i i hi
    split at h
    · rename_i z' hz
      refine ⟨z', ?_, cvalL_ok h M, i, hi, hz⟩
      simp [zeroValue, run_typeInfo' w hi, hz]
    · cases h
  · cases h
theorem run_zeroOf {t : TypeId} {z : AV} (h : zeroOf P t = some z) (M : Mod) : ∃ u, (zeroValue t).run P w = .ok u w ∧ Conc M z u := by
  unfold zeroOf at h
  split at h
  · rename_i i hi
    split at h
    · rename_i z' hz
      refine ⟨z', ?_, cval_ok h M⟩
      simp [zeroValue, run_typeInfo' w hi, hz]
    · cases h
  · cases h
theorem run_aggOf {t : TypeId} {n : Option Nat} (h : aggOf P t = some n) : (isAgg t).run P w = .ok n.isSome w ∧ ∀ k, n = some k → (sizeOf t).run P w = .ok k w := by
  unfold aggOf at h
  split at h
  · cases h
  · rename_i i hi
    split at h
    · rename_i hu
      cases h
      exact ⟨by simp [isAgg, run_underlying hu], fun k hk => by cases hk; exact run_sizeOf' w hi⟩
    · rename_i hu
      cases h
      exact ⟨by simp [isAgg, run_underlying hu], fun k hk => by cases hk; exact run_sizeOf' w hi⟩
    · rename_i d hn1 hn2 hu
      cases h
      refine ⟨?_, fun k hk => by cases hk⟩
      simp only [isAgg, Sem.run_bind, run_underlying hu, Result.andThen_ok]
      cases d <;> first | rfl | (exact absurd rfl (hn1 _)) | (exact absurd rfl (hn2 _ _))
    · cases h

theorem run_part {t : TypeId} {n : Option Nat} (h : aggOf P t = some n) {cs : List AV} {us : Array Value} (hL : ConcL M cs us.toList) {off : Nat} {v : AV} (hv : AV.part off n cs = some v) :
    ∃ u, (part t us off).run P w = .ok u w ∧ Conc M v u := by
  obtain ⟨h1, h2⟩ := run_aggOf w h
  cases n with
  | none =>
    simp only [AV.part] at hv
    obtain ⟨u, hu, hc⟩ := hL.get hv
    refine ⟨u, ?_, hc⟩
    rw [Array.getElem?_toList] at hu
    simp [part, h1, hu]
  | some k =>
    simp only [AV.part] at hv
    split at hv
    · rename_i hle
      cases hv
      refine ⟨.agg (us.extract off (off + k)), ?_, .agg ?_⟩
      · simp [part, h1, h2 k rfl]
      · rw [Array.toList_extract]
        simp only [List.extract, Nat.add_sub_cancel_left]
        exact (hL.drop off).take k
    · cases hv

theorem conc_int {k : IntKind} {n : Int} {u : Value} (h : Conc M (.int k n) u) : u = .int k n := by cases h; rfl
theorem conc_str {s : List UInt8} {u : Value} (h : Conc M (.str s) u) : u = .string ⟨s.toArray⟩ := by cases h; rfl
theorem conc_bool {b : Bool} {u : Value} (h : Conc M (.bool b) u) : u = .bool b := by cases h; rfl

theorem binI_ok {op : BinOp} {t : TypeId} {k k' : IntKind} {x y : Int} {v : AV} (h : binI op k x k' y = some v) :
    ∃ u, (binOp op t (.int k x) (.int k' y)).run P w = .ok u w ∧ Conc M v u := by
  cases op <;> simp only [binI] at h
  case shl | shr =>
    split at h
    · cases h
    · rename_i hb
      cases h
      refine ⟨_, ?_, .int _ _⟩
      simp [binOp, Op.shift, hb]
  case quo | rem =>
    split at h
    · subst k'
      split at h
      · cases h
      · rename_i hb
        cases h
        refine ⟨_, ?_, .int _ _⟩
        simp [binOp, Op.intDiv, hb]
    · cases h
  case add | sub | mul =>
    split at h
    · subst k'; cases h
      refine ⟨_, ?_, .int _ _⟩
      simp [binOp, Op.intArith]
    · cases h
  case and | or | xor | andNot =>
    split at h
    · subst k'; cases h
      refine ⟨_, ?_, .int _ _⟩
      simp [binOp, Op.intBits, ibits]
    · cases h
  all_goals
    split at h
    · subst k'; cases h
      refine ⟨_, ?_, .bool _⟩
      simp [binOp, Op.intCmp]
    · cases h

theorem binS_ok {op : BinOp} {t : TypeId} {x y : List UInt8} {v : AV} (h : binS op x y = some v) :
    ∃ u, (binOp op t (.string ⟨x.toArray⟩) (.string ⟨y.toArray⟩)).run P w = .ok u w ∧ Conc M v u := by
  cases op <;> simp only [binS] at h <;> (repeat' split at h) <;> (try cases h)
  case add.isTrue.refl hle =>
    refine ⟨.string ⟨(x ++ y).toArray⟩, ?_, .str _⟩
    have h63 : ¬ (9223372036854775807 < ((x.length : Int) + (y.length : Int))) := by omega
    have hmax : IntKind.i64.max = 9223372036854775807 := rfl
    have e1 : (ByteArray.mk x.toArray).size = x.length := rfl
    have e2 : (ByteArray.mk y.toArray).size = y.length := rfl
    simp [binOp, Op.stringOp, hmax, e1, e2, h63]
    apply ByteArray.ext
    simp
  all_goals
    refine ⟨_, ?_, .bool _⟩
    simp [binOp, Op.stringOp]

theorem bin_ok {op : BinOp} {t : TypeId} {x y v : AV} {ux uy : Value} (hx : Conc M x ux) (hy : Conc M y uy) (h : AV.bin op x y = some v) :
    ∃ u, (binOp op t ux uy).run P w = .ok u w ∧ Conc M v u := by
  unfold AV.bin at h
  split at h
  · rw [conc_int hx, conc_int hy]; exact binI_ok w h
  · rw [conc_str hx, conc_str hy]; exact binS_ok w h
  · cases h

theorem guard_ok {op : BinOp} {t : TypeId} {x y : Operand} {ax ay : AV} {ux uy : Value} {av : AV} (hx : Conc M ax ux) (h : AV.bin op ax ay = some av) :
    (eqGuard op t x y ux uy).run P w = .ok () w := by
  unfold AV.bin at h
  split at h
  · rw [conc_int hx]; cases op <;> simp [eqGuard]
  · rw [conc_str hx]; cases op <;> simp [eqGuard]
  · cases h

/-- One cell of each kind. -/
def LK.fits (P : Program) (t : TypeId) : LK → Prop
  | .int => ∃ k, P.underlying t = some (.int k)
  | .bool => P.underlying t = some .bool
  | .str => P.underlying t = some .string

theorem eqK_ok {d : Nat} {t : TypeId} {lk : LK} {x y : AV} {ux uy : Value} {r : Bool} (hx : Conc M x ux) (hy : Conc M y uy) (h : AV.eqK lk x y = some r) (ht : lk.fits P t) :
    (Op.equalIn (d + 1) t ux uy).run P w = .ok r w := by
  unfold AV.eqK at h
  split at h
  · split at h
    · rename_i hkk
      subst hkk
      cases h
      rw [conc_int hx, conc_int hy]
      obtain ⟨k', hu⟩ := ht
      exact run_equalIn_int (P := P) w d t _ _ _ _ hu
    · cases h
  · cases h
    rw [conc_bool hx, conc_bool hy]
    exact run_equalIn_bool (P := P) w d t _ _ ht
  · cases h
    rw [conc_str hx, conc_str hy]
    rw [run_equalIn_string (P := P) w d t _ _ ht]; simp
  · cases h

theorem eqL_length : ∀ {ks : List LK} {as bs : List AV} {r : Bool}, AV.eqL ks as bs = some r → as.length = ks.length ∧ bs.length = ks.length
  | [], [], [], _, _ => ⟨rfl, rfl⟩
  | [], _ :: _, _, _, h => by simp [AV.eqL] at h
  | [], [], _ :: _, _, h => by simp [AV.eqL] at h
  | _ :: _, [], _, _, h => by simp [AV.eqL] at h
  | _ :: _, _ :: _, [], _, h => by simp [AV.eqL] at h
  | k :: ks, a :: as, b :: bs, r, h => by
    simp only [AV.eqL] at h
    split at h
    · split at h
      · rename_i s hs
        have := eqL_length hs
        simp [this]
      · cases h
    · cases h

theorem eqL_append : ∀ {ks ls : List LK} {as bs : List AV} {r : Bool}, AV.eqL (ks ++ ls) as bs = some r →
    ∃ r1 r2, AV.eqL ks (as.take ks.length) (bs.take ks.length) = some r1 ∧ AV.eqL ls (as.drop ks.length) (bs.drop ks.length) = some r2 ∧ r = (r1 && r2)
  | [], ls, as, bs, r, h => ⟨true, r, by simp [AV.eqL], by simpa using h, by simp⟩
  | k :: ks, ls, [], bs, r, h => by simp [AV.eqL] at h
  | k :: ks, ls, a :: as, [], r, h => by simp [AV.eqL] at h
  | k :: ks, ls, a :: as, b :: bs, r, h => by
    simp only [List.cons_append, AV.eqL] at h
    split at h
    · rename_i r0 h0
      split at h
      · rename_i s hs
        cases h
        obtain ⟨r1, r2, e1, e2, e3⟩ := eqL_append hs
        refine ⟨r0 && r1, r2, ?_, by simpa using e2, by rw [e3, Bool.and_assoc]⟩
        simp [AV.eqL, h0, e1]
      · cases h
    · cases h

theorem cellsOf_eq {t : TypeId} {i : TypeInfo} (h : P.info? t = some i) : P.cellsOf t = i.size := by simp [Program.cellsOf, h]

/-- A value of the type, out of a row of cells. -/
theorem eqLeaves : ∀ (d : Nat) {t : TypeId} {ks : List LK}, leaves P d t = some ks →
    ∀ (as bs : List AV) (us vs : Array Value) (r : Bool) (off d' : Nat), d ≤ d' → ConcL M as us.toList → ConcL M bs vs.toList → off + ks.length ≤ as.length → off + ks.length ≤ bs.length →
      P.cellsOf t = ks.length →
      AV.eqL ks ((as.drop off).take ks.length) ((bs.drop off).take ks.length) = some r →
      ∃ u v, (part t us off).run P w = .ok u w ∧ (part t vs off).run P w = .ok v w ∧ (Op.equalIn d' t u v).run P w = .ok r w
  | 0, t, ks, h => by simp [leaves] at h
  | d + 1, t, ks, h => by
    intro as bs us vs r off d' hd ha hb hla hlb hsz he
    obtain ⟨d', rfl⟩ : ∃ e, d' = e + 1 := ⟨d' - 1, by omega⟩
    have one : ∀ (lk : LK), ks = [lk] → lk.fits P t → (isAgg t).run P w = .ok false w →
        ∃ u v, (part t us off).run P w = .ok u w ∧ (part t vs off).run P w = .ok v w ∧ (Op.equalIn (d' + 1) t u v).run P w = .ok r w := by
      intro lk hk hf hagg
      subst hk
      simp only [List.length_singleton] at hla hlb he
      obtain ⟨x, hx⟩ : ∃ x, as[off]? = some x := ⟨_, List.getElem?_eq_getElem (by omega)⟩
      obtain ⟨y, hy⟩ : ∃ y, bs[off]? = some y := ⟨_, List.getElem?_eq_getElem (by omega)⟩
      have ex : (as.drop off).take 1 = [x] := by
        rw [List.drop_eq_getElem_cons (show off < as.length by omega), List.take_succ_cons, List.take_zero]
        rw [List.getElem?_eq_getElem (show off < as.length by omega)] at hx
        cases hx; rfl
      have ey : (bs.drop off).take 1 = [y] := by
        rw [List.drop_eq_getElem_cons (show off < bs.length by omega), List.take_succ_cons, List.take_zero]
        rw [List.getElem?_eq_getElem (show off < bs.length by omega)] at hy
        cases hy; rfl
      rw [ex, ey] at he
      simp only [AV.eqL] at he
      split at he
      · rename_i r0 h0
        cases he
        obtain ⟨ux, hux, hcx⟩ := ha.get hx
        obtain ⟨uy, huy, hcy⟩ := hb.get hy
        rw [Array.getElem?_toList] at hux huy
        refine ⟨ux, uy, by simp [part, hagg, hux], by simp [part, hagg, huy], ?_⟩
        rw [Bool.and_true]
        exact eqK_ok w hcx hcy h0 hf
      · cases he
    simp only [leaves] at h
    split at h
    · cases h
    · rename_i i hi
      split at h
      · rename_i k hu
        split at h
        · cases h; exact one .int rfl ⟨k, hu⟩ (by simp [isAgg, run_underlying hu])
        · cases h
      · rename_i hu
        split at h
        · cases h; exact one .bool rfl hu (by simp [isAgg, run_underlying hu])
        · cases h
      · rename_i hu
        split at h
        · cases h; exact one .str rfl hu (by simp [isAgg, run_underlying hu])
        · cases h
      · rename_i fs hu
        split at h
        · cases h
        · rename_i hst
          have hst : P.stoodInHeld t = false := by simpa using hst
          have hagg : (isAgg t).run P w = .ok true w := by simp [isAgg, run_underlying hu]
          have hks : i.size = ks.length := by rw [← cellsOf_eq hi]; exact hsz
          refine ⟨.agg (us.extract off (off + ks.length)), .agg (vs.extract off (off + ks.length)), ?_, ?_, ?_⟩
          · simp [part, hagg, run_sizeOf' w hi, hks]
          · simp [part, hagg, run_sizeOf' w hi, hks]
          · have hF : P.fieldsOf t = fs := by simp [Program.fieldsOf, hu]
            rw [run_equalIn_struct (P := P) w d' t _ _ (by rw [hF]; exact hu) hst, hF]
            have hau : ConcL M ((as.drop off).take ks.length) (us.extract off (off + ks.length)).toList := by
              rw [Array.toList_extract]; simp only [List.extract, Nat.add_sub_cancel_left]; exact (ha.drop off).take _
            have hbu : ConcL M ((bs.drop off).take ks.length) (vs.extract off (off + ks.length)).toList := by
              rw [Array.toList_extract]; simp only [List.extract, Nat.add_sub_cancel_left]; exact (hb.drop off).take _
            have hl1 := (eqL_length he).1
            have hl2 := (eqL_length he).2
            generalize (as.drop off).take ks.length = as' at *
            generalize (bs.drop off).take ks.length = bs' at *
            generalize us.extract off (off + ks.length) = us' at *
            generalize vs.extract off (off + ks.length) = vs' at *
            clear ha hb hla hlb
            have key : ∀ (fs : List Field) (o : Nat) (ls : List LK) (r : Bool), leaves.leavesF (leaves P d) P fs o = some ls → o + ls.length = ks.length →
                AV.eqL ls (as'.drop o) (bs'.drop o) = some r → (Op.eqFields d' us' vs' fs).run P w = .ok r w := by
              intro fs
              induction fs with
              | nil =>
                intro o ls r hl ho hr
                simp only [leaves.leavesF] at hl
                cases hl
                have e1 : as'.drop o = [] := List.drop_eq_nil_of_le (by simp at ho; omega)
                have e2 : bs'.drop o = [] := List.drop_eq_nil_of_le (by simp at ho; omega)
                rw [e1, e2] at hr
                simp [AV.eqL] at hr
                subst hr
                simp [Op.eqFields]
              | cons f fs ih =>
                intro o ls r hl ho hr
                simp only [leaves.leavesF] at hl
                split at hl
                · cases hl
                · rename_i hnm
                  have hn1 : f.name ≠ "_" := fun e => hnm (.inl e)
                  have hn2 : f.offset = o := Decidable.byContradiction fun e => hnm (.inr e)
                  split at hl
                  · cases hl
                  · rename_i ks1 hk1
                    split at hl
                    · rename_i hlen
                      split at hl
                      · cases hl
                      · rename_i ls2 hl2'
                        cases hl
                        obtain ⟨r1, r2, q1, q2, q3⟩ := eqL_append hr
                        rw [List.length_append] at ho
                        obtain ⟨u, v, p1, p2, p3⟩ := eqLeaves d hk1 as' bs' us' vs' r1 o d' (by omega) hau hbu (by omega) (by omega) hlen.symm q1
                        have h2 := ih (o + P.cellsOf f.type) ls2 r2 hl2' (by omega) (by rw [List.drop_drop, List.drop_drop] at q2; rw [← hlen]; exact q2)
                        subst hn2
                        rw [Op.eqFields]
                        simp only [if_pos hn1, Sem.run_bind, p1, p2, p3, Result.andThen_ok]
                        subst q3
                        cases r1
                        · simp
                        · simpa using h2
                    · cases hl
            exact key fs.toList 0 ks r h (by omega) (by simpa using he)
      · cases h
end
end Go.SB
end

/- Framework, part F: operations that look into no memory, all of them. -/
section
set_option linter.unusedVariables false
set_option linter.unusedSimpArgs false
namespace Go.SB
section
variable {P : Program} {M : Mod} {ρ : List AV} {a : Act} (w : World)

/-- Neither a number nor a string nor a struct nor a nil interface. -/
def odd : Value → Bool
  | .int _ _ | .float _ _ | .complex _ _ _ | .string _ | .agg _ | .nilIface => false
  | _ => true

theorem guard_odd {op : BinOp} {t : TypeId} {ox oy : Operand} {ux uy : Value} (h : odd ux = true) : (eqGuard op t ox oy ux uy).run P w = .ok () w := by
  cases ux <;> simp only [odd] at h <;> first | (cases h; done) | (cases op <;> rfl)

theorem binOp_odd {op : BinOp} {neg : Bool} {t : TypeId} {ux uy : Value} {r : Bool} (hop : isEq op = some neg) (h : odd ux = true) (he : (Op.equal t ux uy).run P w = .ok r w) :
    (binOp op t ux uy).run P w = .ok (.bool (r != neg)) w := by
  cases op <;> simp only [isEq] at hop <;> cases hop <;> cases ux <;> simp only [odd] at h <;> first | (cases h; done) | (simp [binOp, he])

theorem nilP_ok {x : AV} {u : Value} {b : Bool} (hx : Conc M x u) (h : x.nilP = some b) : if b then u = .pointer none else ∃ a, u = .pointer (some a) := by
  cases hx <;> simp only [AV.nilP] at h <;> cases h <;> simp
theorem nilS_ok {x : AV} {u : Value} {b : Bool} (hx : Conc M x u) (h : x.nilS = some b) : if b then u = .slice none 0 0 else ∃ a n c, u = .slice (some a) n c := by
  cases x with
  | ps sz es =>
    cases es with
    | nil => simp [AV.nilS] at h
    | cons e es => simp only [AV.nilS] at h; cases h; cases hx; simp
  | nils => simp only [AV.nilS] at h; cases h; cases hx; simp
  | sl l sz lo len tight =>
    cases len with
    | zero => simp [AV.nilS] at h
    | succ n => simp only [AV.nilS] at h; cases h; cases hx; simp
  | es => simp only [AV.nilS] at h; cases h; cases hx; simp
  | raw v =>
    cases hx
    cases u with
    | slice a n c =>
      cases a with
      | none => simp [AV.nilS] at h
      | some a => simp only [AV.nilS] at h; cases h; simp
    | _ => simp [AV.nilS] at h
  | _ => simp [AV.nilS] at h
theorem nilM_ok {x : AV} {u : Value} {b : Bool} (hx : Conc M x u) (h : x.nilM = some b) : if b then u = .map none else ∃ a, u = .map (some a) := by
  cases hx <;> simp only [AV.nilM] at h <;> cases h <;> simp
theorem nilF_ok {x : AV} {u : Value} {b : Bool} (hx : Conc M x u) (h : x.nilF = some b) : if b then u = .nilFunc else ∃ f c d, u = .func f c d := by
  cases hx <;> simp only [AV.nilF] at h <;> cases h <;> simp

theorem eqNil_some {x y : Option Bool} {r : Bool} (h : eqNil x y = some r) : (x = some true ∧ y = some r) ∨ (x = some false ∧ y = some true ∧ r = false) := by
  unfold eqNil at h
  split at h
  · cases h; exact .inl ⟨rfl, rfl⟩
  · cases h; exact .inr ⟨rfl, rfl, rfl⟩
  · cases h

theorem equal_ptr {d : Nat} {t el : TypeId} (hu : P.underlying t = some (.pointer el)) (x y : Option Addr) (h : x = none ∨ y = none) :
    (Op.equalIn (d + 1) t (.pointer x) (.pointer y)).run P w = .ok (x.isNone && y.isNone) w := by
  rcases h with rfl | rfl
  · simp [Op.equalIn, run_underlying hu]
  · cases x <;> simp [Op.equalIn, run_underlying hu]
theorem equal_slice {d : Nat} {t el : TypeId} (hu : P.underlying t = some (.slice el)) (x y : Option Addr) (n c n' c' : Nat) (h : x = none ∨ y = none) :
    (Op.equalIn (d + 1) t (.slice x n c) (.slice y n' c')).run P w = .ok (x.isNone && y.isNone) w := by
  rcases h with rfl | rfl
  · simp [Op.equalIn, run_underlying hu]
  · cases x <;> simp [Op.equalIn, run_underlying hu]
theorem equal_map {d : Nat} {t k el : TypeId} (hu : P.underlying t = some (.map k el)) (x y : Option Nat) (h : x = none ∨ y = none) :
    (Op.equalIn (d + 1) t (.map x) (.map y)).run P w = .ok (x.isNone && y.isNone) w := by
  rcases h with rfl | rfl
  · simp [Op.equalIn, run_underlying hu]
  · cases x <;> simp [Op.equalIn, run_underlying hu]

theorem eqv_ok {neg : Bool} {op : BinOp} {t : TypeId} {e : EK} {x y : AV} {ux uy : Value} {r : Bool} {ox oy : Operand} (hop : isEq op = some neg) (hk : eqOk P t = some e)
    (hx : Conc M x ux) (hy : Conc M y uy) (h : AV.eqv e x y = some r) :
    (eqGuard op t ox oy ux uy).run P w = .ok () w ∧ (binOp op t ux uy).run P w = .ok (.bool (r != neg)) w := by
  have fin : odd ux = true → (Op.equalIn (9999 + 1) t ux uy).run P w = .ok r w → (eqGuard op t ox oy ux uy).run P w = .ok () w ∧ (binOp op t ux uy).run P w = .ok (.bool (r != neg)) w :=
    fun h1 h2 => ⟨guard_odd w h1, binOp_odd w hop h1 h2⟩
  cases e with
  | bool =>
    have hu : P.underlying t = some .bool := by
      unfold eqOk at hk; (repeat' split at hk) <;> first | assumption | (cases hk; done)
    simp only [AV.eqv, AV.eqB] at h
    split at h
    · cases h; cases hx; cases hy
      exact fin rfl (run_equalIn_bool (P := P) w 9999 t _ _ hu)
    · cases h
  | ptr =>
    obtain ⟨el, hu⟩ : ∃ el, P.underlying t = some (.pointer el) := by
      unfold eqOk at hk; (repeat' split at hk) <;> first | exact ⟨_, by assumption⟩ | (cases hk; done)
    simp only [AV.eqv] at h
    rcases eqNil_some h with ⟨h1, h2⟩ | ⟨h1, h2, rfl⟩
    · have e1 := nilP_ok hx h1
      have e2 := nilP_ok hy h2
      simp at e1; subst e1
      cases r
      · obtain ⟨a, rfl⟩ := by simpa using e2
        exact fin rfl (equal_ptr w hu _ _ (.inl rfl))
      · simp at e2; subst e2
        exact fin rfl (equal_ptr w hu _ _ (.inl rfl))
    · have e1 := nilP_ok hx h1
      have e2 := nilP_ok hy h2
      simp at e2; subst e2
      obtain ⟨a, rfl⟩ := by simpa using e1
      exact fin rfl (equal_ptr w hu _ _ (.inr rfl))
  | slice =>
    obtain ⟨el, hu⟩ : ∃ el, P.underlying t = some (.slice el) := by
      unfold eqOk at hk; (repeat' split at hk) <;> first | exact ⟨_, by assumption⟩ | (cases hk; done)
    simp only [AV.eqv] at h
    rcases eqNil_some h with ⟨h1, h2⟩ | ⟨h1, h2, rfl⟩
    · have e1 := nilS_ok hx h1
      have e2 := nilS_ok hy h2
      simp at e1; subst e1
      cases r
      · obtain ⟨a, n, c, rfl⟩ := by simpa using e2
        exact fin rfl (equal_slice w hu _ _ _ _ _ _ (.inl rfl))
      · simp at e2; subst e2
        exact fin rfl (equal_slice w hu _ _ _ _ _ _ (.inl rfl))
    · have e1 := nilS_ok hx h1
      have e2 := nilS_ok hy h2
      simp at e2; subst e2
      obtain ⟨a, n, c, rfl⟩ := by simpa using e1
      exact fin rfl (equal_slice w hu _ _ _ _ _ _ (.inr rfl))
  | map =>
    obtain ⟨k, el, hu⟩ : ∃ k el, P.underlying t = some (.map k el) := by
      unfold eqOk at hk; (repeat' split at hk) <;> first | exact ⟨_, _, by assumption⟩ | (cases hk; done)
    simp only [AV.eqv] at h
    rcases eqNil_some h with ⟨h1, h2⟩ | ⟨h1, h2, rfl⟩
    · have e1 := nilM_ok hx h1
      have e2 := nilM_ok hy h2
      simp at e1; subst e1
      cases r
      · obtain ⟨a, rfl⟩ := by simpa using e2
        exact fin rfl (equal_map w hu _ _ (.inl rfl))
      · simp at e2; subst e2
        exact fin rfl (equal_map w hu _ _ (.inl rfl))
    · have e1 := nilM_ok hx h1
      have e2 := nilM_ok hy h2
      simp at e2; subst e2
      obtain ⟨a, rfl⟩ := by simpa using e1
      exact fin rfl (equal_map w hu _ _ (.inr rfl))
  | func =>
    obtain ⟨p1, p2, p3, hu⟩ : ∃ p1 p2 p3, P.underlying t = some (.func p1 p2 p3) := by
      unfold eqOk at hk; (repeat' split at hk) <;> first | exact ⟨_, _, _, by assumption⟩ | (cases hk; done)
    simp only [AV.eqv] at h
    rcases eqNil_some h with ⟨h1, h2⟩ | ⟨h1, h2, rfl⟩
    · have e1 := nilF_ok hx h1
      have e2 := nilF_ok hy h2
      simp at e1; subst e1
      cases r
      · obtain ⟨f, c, d, rfl⟩ := by simpa using e2
        exact fin rfl (by rw [Op.equalIn]; simp [run_underlying hu])
      · simp at e2; subst e2
        exact fin rfl (by rw [Op.equalIn]; simp [run_underlying hu])
    · have e1 := nilF_ok hx h1
      have e2 := nilF_ok hy h2
      simp at e2; subst e2
      obtain ⟨f, c, d, rfl⟩ := by simpa using e1
      exact fin rfl (by rw [Op.equalIn]; simp [run_underlying hu])
  | struct ks =>
    obtain ⟨fs, hu, hg, hl, hlen⟩ : ∃ fs, P.underlying t = some (.struct fs) ∧ P.eqGuardType P.depth t = false ∧ leaves P 100 t = some ks ∧ ks.length = P.cellsOf t := by
      unfold eqOk at hk
      split at hk <;> first | (cases hk; done) | skip
      rename_i fs hu
      split at hk
      · cases hk
      · rename_i hg
        split at hk
        · rename_i ks' hl
          split at hk
          · rename_i hlen
            cases hk
            exact ⟨fs, hu, by simpa using hg, hl, hlen⟩
          · cases hk
        · cases hk
    simp only [AV.eqv, AV.eqS] at h
    split at h <;> first | (cases h; done) | skip
    rename_i as bs
    cases hx with
    | @agg _ us hL =>
      cases hy with
      | @agg _ vs hL' =>
        obtain ⟨l1, l2⟩ := eqL_length h
        obtain ⟨u, v, p1, p2, p3⟩ := eqLeaves (P := P) w 100 hl as bs us vs r 0 10000 (by omega) hL hL' (by omega) (by omega) hlen.symm
          (by rw [List.drop_zero, List.drop_zero, List.take_of_length_le (by omega), List.take_of_length_le (by omega)]; exact h)
        have hsz1 : us.size = ks.length := by have := hL.length; simp at this; omega
        have hsz2 : vs.size = ks.length := by have := hL'.length; simp at this; omega
        have q : ∃ i, P.info? t = some i ∧ i.size = ks.length := by
          cases hi : P.info? t with
          | none => simp [Program.underlying, hi] at hu
          | some i => exact ⟨i, rfl, by rw [← cellsOf_eq hi]; exact hlen.symm⟩
        obtain ⟨i, hi, his⟩ := q
        have hagg : (isAgg t).run P w = .ok true w := by simp [isAgg, run_underlying hu]
        have e1 : u = .agg us := by
          have : (part t us 0).run P w = .ok (.agg us) w := by
            simp [part, hagg, run_sizeOf' w hi, his, ← hsz1]
          rw [this] at p1; cases p1; rfl
        have e2 : v = .agg vs := by
          have : (part t vs 0).run P w = .ok (.agg vs) w := by
            simp [part, hagg, run_sizeOf' w hi, his, ← hsz2]
          rw [this] at p2; cases p2; rfl
        subst e1; subst e2
        refine ⟨run_eqGuard_agg (P := P) w op t ox oy us vs hg, ?_⟩
        cases op <;> simp only [isEq] at hop <;> cases hop
        · simp [run_eql_struct, p3]
        · simp [run_neq_struct, p3]

theorem faddr_conc {off : Nat} {x v : AV} {u : Value} (hx : Conc M x u) (h : AV.faddr off x = some v) : ∃ ad, u = .pointer (some ad) ∧ ad.spot = none ∧ Conc M v (.pointer (some (ad.add off))) := by
  cases hx <;> simp only [AV.faddr] at h <;> first | (cases h; done) | skip
  · cases h
    refine ⟨_, rfl, rfl, ?_⟩
    rw [addr_add, Nat.add_assoc]
    exact .ptr ‹_›
  · cases h
    refine ⟨_, rfl, rfl, ?_⟩
    rw [addr_add, Nat.add_assoc]
    exact .eptr ‹_›
  · rename_i cs us c b o hI hr hL
    cases h
    refine ⟨_, rfl, rfl, ?_⟩
    rw [addr_add]
    refine .pp hI (us := us.drop off) ?_ (hL.drop off)
    intro j u hu
    rw [List.getElem?_drop] at hu
    rw [← hr _ _ hu, Nat.add_assoc]
end
end Go.SB
end

/- Framework, part G: nstep is right. -/
section
set_option linter.unusedVariables false
set_option linter.unusedSimpArgs false
namespace Go.SB
section
variable {P : Program} {M : Mod} {ρ : List AV} {a : Act} (w : World)

/-- What a step that looks into no memory leaves. -/
def Quiet (P : Program) (M : Mod) (a : Act) (w : World) (o : Oper) (v : AV) : Prop := ∃ u, (execOp a.eval o).run P w = .ok (.value u) w ∧ Conc M v u

theorem wrt_conc {us : List Value} : ∀ {z : List AV} {vs : List Value} {off : Nat} {ns : List AV}, ConcL M z vs → ConcL M ns us → off + ns.length ≤ z.length →
    ConcL M (wrt z off ns) ((us.zipIdx.foldl (fun cs (c, j) => cs.setIfInBounds (off + j) c) vs.toArray).toList) := by
  induction us with
  | nil =>
    intro z vs off ns hz hn hl
    cases hn
    simpa [wrt] using hz
  | cons u us ih =>
    intro z vs off ns hz hn hl
    cases hn with
    | @cons n ns' _ _ h t =>
      simp only [List.length_cons] at hl
      have := ih (z := z.set off n) (vs := vs.set off u) (off := off + 1) (ns := ns') (hz.set h off) t (by simp; omega)
      simp only [wrt]
      rw [List.zipIdx_cons, List.foldl_cons]
      simp only [Nat.add_zero, Nat.zero_add]
      have e : ∀ (l : List (Value × Nat)) (acc : Array Value), (l.map fun x => (x.1, x.2 + 1)).foldl (fun cs (c, j) => cs.setIfInBounds (off + j) c) acc = l.foldl (fun cs (c, j) => cs.setIfInBounds (off + 1 + j) c) acc := by
        intro l
        induction l with
        | nil => intro acc; rfl
        | cons x l ih => intro acc; simp only [List.map_cons, List.foldl_cons]; rw [ih]; congr 2; omega
      have e2 : us.zipIdx 1 = (us.zipIdx 0).map fun x => (x.1, x.2 + 1) := by
        rw [List.zipIdx_succ]
      rw [e2, e]
      have e3 : (vs.toArray.setIfInBounds off u) = (vs.set off u).toArray := by simp
      rw [e3]
      exact this

theorem cells_conc {x : AV} {v : Value} (h : Conc M x v) (hn : x.cells ≠ []) : ConcL M x.cells v.cells.toList := by
  have one : x.cells = [x] → v.cells = #[v] → ConcL M x.cells v.cells.toList := by
    intro e1 e2; rw [e1, e2]; exact .cons h .nil
  cases x with
  | agg cs => cases h with | agg hL => exact hL
  | any => exact absurd rfl hn
  | raw v' =>
    cases h with
    | raw v h1 =>
      refine one rfl ?_
      cases v <;> first | rfl | (simp [Value.oneCell'] at h1)
  | _ => cases h <;> exact one rfl rfl

theorem fill_ok {place : Nat → Option (Nat × Nat)} : ∀ {ps : List (Nat × Value)} {qs : List (Nat × Nat × AV)} {z r : List AV} {vs : List Value},
    ps.length = qs.length → (∀ (i : Nat) (p : Nat × Value) (q : Nat × Nat × AV), ps[i]? = some p → qs[i]? = some q → place p.1 = some (q.1, q.2.1) ∧ 0 < q.2.1 ∧ Conc M q.2.2 p.2) → ConcL M z vs → bfill z qs = some r →
    ∃ rs, Instr.fill place vs.toArray ps = some rs ∧ ConcL M r rs.toList
  | [], [], z, r, vs, _, _, hz, h => by
    simp only [bfill] at h; cases h
    exact ⟨vs.toArray, rfl, by simpa using hz⟩
  | [], _ :: _, _, _, _, hl, _, _, _ => by simp at hl
  | _ :: _, [], _, _, _, hl, _, _, _ => by simp at hl
  | (i, v) :: ps, (off, size, x) :: qs, z, r, vs, hl, hp, hz, h => by
    simp only [bfill] at h
    split at h
    · rename_i hc
      obtain ⟨h1, h0, h2⟩ := hp 0 (i, v) (off, size, x) (by simp) (by simp)
      simp only at h0
      have hcells : ConcL M x.cells v.cells.toList := cells_conc h2 (by intro e; rw [e] at hc; have := hc.1; simp at this; omega)
      have hsz : v.cells.size = size := by rw [← hc.1, ← hcells.length]; simp
      have hlz := hz.length
      simp only [Instr.fill, h1]
      rw [if_neg (by simp [hsz]; omega)]
      have w1 := wrt_conc hz hcells (off := off) (by omega)
      obtain ⟨rs, q1, q2⟩ := fill_ok (ps := ps) (qs := qs) (z := wrt z off x.cells) (r := r) (by simpa using hl) (fun k p q e1 e2 => hp (k + 1) p q (by simpa using e1) (by simpa using e2)) w1 h
      refine ⟨rs, ?_, q2⟩
      rw [← q1, ← Array.foldl_toList, Array.toList_zipIdx]
    · cases h

/-- The parts of a struct's literal. -/
theorem cfields_ok {fs : Array Field} (hρ : ConcL M ρ a.tmps.toList) : ∀ {ps : List (Nat × Operand)} {qs : List (Nat × Nat × Opd)}, cfields P fs ps = some qs →
    ps.length = qs.length ∧ ∀ (i : Nat) (p : Nat × Operand) (q : Nat × Nat × Opd), ps[i]? = some p → qs[i]? = some q →
      (∃ f inf, fs[p.1]? = some f ∧ P.info? f.type = some inf ∧ q.1 = f.offset ∧ q.2.1 = inf.size) ∧ 0 < q.2.1 ∧ Conc M (q.2.2.get ρ) (a.eval p.2)
  | [], qs, h => by cases h; exact ⟨rfl, by intro i p q h; simp at h⟩
  | (i, x) :: ps, qs, h => by
    simp only [cfields] at h
    split at h
    · rename_i f hf
      split at h
      · rename_i inf hi
        split at h
        · rename_i h0
          split at h
          · rename_i y hy
            split at h
            · rename_i r hr
              cases h
              obtain ⟨e1, e2⟩ := cfields_ok hρ hr
              refine ⟨by simp [e1], ?_⟩
              intro k p q hp hq
              match k with
              | 0 =>
                simp at hp hq; subst hp; subst hq
                exact ⟨⟨f, inf, hf, hi, rfl, rfl⟩, h0, copd_ok hy hρ⟩
              | k + 1 => exact e2 k p q (by simpa using hp) (by simpa using hq)
            · cases h
          · cases h
        · cases h
      · cases h
    · cases h

theorem celems_ok {size : Nat} (hρ : ConcL M ρ a.tmps.toList) : ∀ {ps : List (Nat × Operand)} {qs : List (Nat × Nat × Opd)}, celems size ps = some qs →
    ps.length = qs.length ∧ ∀ (i : Nat) (p : Nat × Operand) (q : Nat × Nat × Opd), ps[i]? = some p → qs[i]? = some q →
      q.1 = p.1 * size ∧ q.2.1 = size ∧ Conc M (q.2.2.get ρ) (a.eval p.2)
  | [], qs, h => by cases h; exact ⟨rfl, by intro i p q h; simp at h⟩
  | (i, x) :: ps, qs, h => by
    simp only [celems] at h
    split at h
    · rename_i y hy
      split at h
      · rename_i r hr
        cases h
        obtain ⟨e1, e2⟩ := celems_ok hρ hr
        refine ⟨by simp [e1], ?_⟩
        intro k p q hp hq
        match k with
        | 0 =>
          simp at hp hq; subst hp; subst hq
          exact ⟨rfl, rfl, copd_ok hy hρ⟩
        | k + 1 => exact e2 k p q (by simpa using hp) (by simpa using hq)
      · cases h
    · cases h

theorem run_places {fs : Array Field} (h : fsOk P fs = true) :
    (fs.mapM fun (f : Field) => (do pure (f.offset, ← sizeOf f.type) : Sem (Nat × Nat))).run P w = .ok (fs.map fun (f : Field) => (f.offset, P.cellsOf f.type)) w := by
  rw [Array.mapM_eq_mapM_toList]
  have h' : ∀ f ∈ fs.toList, (P.info? f.type).isSome = true := by
    intro f hf
    simp only [fsOk, Array.all_eq_true] at h
    obtain ⟨i, hi, e⟩ := Array.mem_iff_getElem.1 (Array.mem_toList_iff.1 hf)
    have := h i hi
    rw [e] at this; exact this
  have key : ∀ l : List Field, (∀ f ∈ l, (P.info? f.type).isSome = true) → (l.mapM fun (f : Field) => (do pure (f.offset, ← sizeOf f.type) : Sem (Nat × Nat))).run P w = .ok (l.map fun (f : Field) => (f.offset, P.cellsOf f.type)) w := by
    intro l
    induction l with
    | nil => intro _; rfl
    | cons f l ih =>
      intro hl
      obtain ⟨i, hi⟩ := Option.isSome_iff_exists.1 (hl f (by simp))
      rw [List.mapM_cons]
      simp only [Sem.run_bind, run_sizeOf' w hi, Result.andThen_ok, Sem.run_pure, ih fun g hg => hl g (by simp [hg]), List.map_cons, cellsOf_eq hi]
  simp only [Sem.run_map, key fs.toList h', Result.andThen_ok]
  congr 1
  apply Array.ext'
  simp

theorem build_struct_ok {t : TypeId} {fs : Array Field} {z : List AV} {ps : Array (Nat × Operand)} {qs : List (Nat × Nat × Opd)} {v : AV} (hρ : ConcL M ρ a.tmps.toList)
    (hz : zeroCellsOf P t = some z) (hu : P.underlying t = some (.struct fs)) (hf : fsOk P fs = true) (hq : cfields P fs ps.toList = some qs)
    {r : List AV} (h : bfill z (qs.map fun (o, s, x) => (o, s, x.get ρ)) = some r) :
    ∃ u, (Instr.build t (ps.map fun (i, x) => (i, a.eval x))).run P w = .ok u w ∧ Conc M (.agg r) u := by
  obtain ⟨uz, hz1, hz2, i, hi, hiz⟩ := run_zeroCells (P := P) w hz M
  obtain ⟨e1, e2⟩ := cfields_ok hρ hq
  obtain ⟨rs, q1, q2⟩ := fill_ok (M := M) (place := fun i => (fs.map fun f => (f.offset, P.cellsOf f.type))[i]?) (ps := ps.toList.map fun (i, x) => (i, a.eval x)) (qs := qs.map fun (o, s, x) => (o, s, x.get ρ))
    (z := z) (r := r) (vs := uz.cells.toList) (by simp [e1]) (by
      intro k p q hp hq'
      rw [List.getElem?_map] at hp hq'
      cases h1 : ps.toList[k]? with
      | none => simp [h1] at hp
      | some p0 =>
        cases h2 : qs[k]? with
        | none => simp [h2] at hq'
        | some q0 =>
          simp [h1] at hp; simp [h2] at hq'; subst hp; subst hq'
          obtain ⟨⟨f, inf, g1, g2, g3, g4⟩, g5, g6⟩ := e2 k p0 q0 h1 h2
          refine ⟨?_, g5, g6⟩
          simp [g1, g3, g4, cellsOf_eq g2]) hz2 h
  refine ⟨.agg rs, ?_, .agg q2⟩
  have hp := run_places (P := P) w hf
  simp only [Instr.build, Sem.run_bind, hz1, Result.andThen_ok, run_underlying hu, hp]
  have e : (ps.map fun (x : Nat × Operand) => (x.1, a.eval x.2)).toList = ps.toList.map fun (x : Nat × Operand) => (x.1, a.eval x.2) := by simp
  simp only [e]
  simp only [Array.toArray_toList] at q1
  simp only [q1, Sem.run_pure]

theorem build_array_ok {t el : TypeId} {len size : Nat} {z : List AV} {ps : Array (Nat × Operand)} {qs : List (Nat × Nat × Opd)} {v : AV} (hρ : ConcL M ρ a.tmps.toList)
    (hz : zeroCellsOf P t = some z) (hu : P.underlying t = some (.array len el)) (hs : elemSize P el = some size) (h0 : 0 < size) (hq : celems size ps.toList = some qs)
    {r : List AV} (h : bfill z (qs.map fun (o, s, x) => (o, s, x.get ρ)) = some r) :
    ∃ u, (Instr.build t (ps.map fun (i, x) => (i, a.eval x))).run P w = .ok u w ∧ Conc M (.agg r) u := by
  obtain ⟨uz, hz1, hz2, i, hi, hiz⟩ := run_zeroCells (P := P) w hz M
  obtain ⟨e1, e2⟩ := celems_ok hρ hq
  obtain ⟨rs, q1, q2⟩ := fill_ok (M := M) (place := fun i => some (i * size, size)) (ps := ps.toList.map fun (i, x) => (i, a.eval x)) (qs := qs.map fun (o, s, x) => (o, s, x.get ρ))
    (z := z) (r := r) (vs := uz.cells.toList) (by simp [e1]) (by
      intro k p q hp hq'
      rw [List.getElem?_map] at hp hq'
      cases h1 : ps.toList[k]? with
      | none => simp [h1] at hp
      | some p0 =>
        cases h2 : qs[k]? with
        | none => simp [h2] at hq'
        | some q0 =>
          simp [h1] at hp; simp [h2] at hq'; subst hp; subst hq'
          obtain ⟨g3, g4, g6⟩ := e2 k p0 q0 h1 h2
          refine ⟨?_, ?_, g6⟩
          · simp [g3, g4]
          · simp only [g4]; exact h0) hz2 h
  refine ⟨.agg rs, ?_, .agg q2⟩
  simp only [Instr.build, Sem.run_bind, hz1, Result.andThen_ok, run_underlying hu, run_elemSize w hs]
  have e : (ps.map fun (x : Nat × Operand) => (x.1, a.eval x.2)).toList = ps.toList.map fun (x : Nat × Operand) => (x.1, a.eval x.2) := by simp
  simp only [e]
  simp only [Array.toArray_toList] at q1
  simp only [q1, Sem.run_pure]
end
end Go.SB
end

/- Framework, part H: nstep is right, all together. -/
section
set_option linter.unusedVariables false
set_option linter.unusedSimpArgs false
namespace Go.SB
section
variable {P : Program} {M : Mod} {ρ : List AV} {a : Act} (w : World)

theorem bnd_run {y n : Nat} {x : AV} {u : Value} (c : BoundsCode) (hx : Conc M x u) (h : bnd y x = some n) : (Instr.sliceBound u y c).run P w = .ok n w ∧ n ≤ y := by
  unfold bnd at h
  split at h
  · rename_i k i
    split at h
    · rename_i hc
      cases h
      rw [conc_int hx]
      refine ⟨?_, by omega⟩
      simp [Instr.sliceBound, asIntOf, hc]
    · cases h
  · cases h

/-- The three bounds. 'cap' may be more than 'len' says. -/
theorem bnds_run {isS : Bool} {len cap : Nat} {lo hi mx : Option AV} {ulo uhi umx : Option Value} {l h : Nat} {m : Option Nat} (hlo : (lo = none ∧ ulo = none) ∨ ∃ x u, lo = some x ∧ ulo = some u ∧ Conc M x u)
    (hhi : (hi = none ∧ uhi = none) ∨ ∃ x u, hi = some x ∧ uhi = some u ∧ Conc M x u) (hmx : (mx = none ∧ umx = none) ∨ ∃ x u, mx = some x ∧ umx = some u ∧ Conc M x u)
    (hcap : len ≤ cap) (hb : bnds len len lo hi mx = some (l, h, m)) :
    (Instr.sliceBounds isS len cap ulo uhi umx).run P w = .ok (l, h, m.getD cap) w ∧ l ≤ h ∧ h ≤ len ∧ (∀ k, m = some k → h ≤ k ∧ k ≤ len) ∧ (m = none ↔ mx = none) := by
  unfold bnds at hb
  rcases hmx with ⟨rfl, rfl⟩ | ⟨xm, um, rfl, rfl, cm⟩
  · simp only at hb
    have hh : ∃ h', hiOr len hi = some h' ∧ (match uhi with
        | some v => Instr.sliceBound v cap (if isS then .sliceAcap else .sliceAlen)
        | none => pure len).run P w = .ok h' w ∧ h' ≤ len := by
      rcases hhi with ⟨rfl, rfl⟩ | ⟨xh, uh, rfl, rfl, ch⟩
      · exact ⟨len, rfl, rfl, Nat.le_refl _⟩
      · simp only [hiOr] at hb ⊢
        cases hbh : bnd len xh with
        | none => rw [hbh] at hb; cases hb
        | some h' =>
          have h2 : bnd cap xh = some h' ∧ h' ≤ len := by
            unfold bnd at hbh ⊢
            split at hbh
            · rename_i k i
              split at hbh
              · rename_i hc
                cases hbh
                exact ⟨by simp; omega, by omega⟩
              · cases hbh
            · cases hbh
          exact ⟨h', rfl, (bnd_run w _ ch h2.1).1, h2.2⟩
    obtain ⟨h', e1, e2, e3⟩ := hh
    rw [e1] at hb
    simp only at hb
    rcases hlo with ⟨rfl, rfl⟩ | ⟨xl, ul, rfl, rfl, cl⟩
    · simp only at hb
      cases hb
      refine ⟨?_, Nat.zero_le _, e3, by simp, by simp⟩
      cases uhi with
      | none => simp at e2; simp [Instr.sliceBounds, e2]
      | some v => simp only at e2; simp [Instr.sliceBounds, e2]
    · simp only at hb
      cases hbl : bnd h' xl with
      | none => rw [hbl] at hb; cases hb
      | some l' =>
        rw [hbl] at hb
        cases hb
        obtain ⟨r1, r2⟩ := bnd_run (P := P) w .sliceB cl hbl
        refine ⟨?_, r2, e3, by simp, by simp⟩
        cases uhi with
        | none => simp at e2; subst e2; simp [Instr.sliceBounds, r1]
        | some v => simp only at e2; simp [Instr.sliceBounds, e2, r1]
  · simp only at hb
    cases hbm : bnd len xm with
    | none => rw [hbm] at hb; cases hb
    | some m' =>
      rw [hbm] at hb
      simp only at hb
      have hm2 : bnd cap xm = some m' ∧ m' ≤ len := by
        unfold bnd at hbm ⊢
        split at hbm
        · rename_i k i
          split at hbm
          · rename_i hc
            cases hbm
            exact ⟨by simp; omega, by omega⟩
          · cases hbm
        · cases hbm
      obtain ⟨rm, _⟩ := bnd_run (P := P) w (if isS then .slice3Acap else .slice3Alen) cm hm2.1
      rcases hhi with ⟨rfl, rfl⟩ | ⟨xh, uh, rfl, rfl, ch⟩
      · cases hb
      · simp only at hb
        cases hbh : bnd m' xh with
        | none => rw [hbh] at hb; cases hb
        | some h' =>
          rw [hbh] at hb
          simp only at hb
          obtain ⟨rh, rh2⟩ := bnd_run (P := P) w .slice3B ch hbh
          rcases hlo with ⟨rfl, rfl⟩ | ⟨xl, ul, rfl, rfl, cl⟩
          · simp only at hb
            cases hb
            refine ⟨?_, Nat.zero_le _, by omega, by intro k hk; cases hk; omega, by simp⟩
            simp [Instr.sliceBounds, rm, rh]
          · simp only at hb
            cases hbl : bnd h' xl with
            | none => rw [hbl] at hb; cases hb
            | some l' =>
              rw [hbl] at hb
              cases hb
              obtain ⟨r1, r2⟩ := bnd_run (P := P) w .slice3C cl hbl
              refine ⟨?_, r2, by omega, by intro k hk; cases hk; omega, by simp⟩
              simp [Instr.sliceBounds, rm, rh, r1]

theorem opd3 (hρ : ConcL M ρ a.tmps.toList) {x : Option Operand} {y : Option Opd} (h : copdo x = some y) :
    (y.map (·.get ρ) = none ∧ x.map a.eval = none) ∨ ∃ v u, y.map (·.get ρ) = some v ∧ x.map a.eval = some u ∧ Conc M v u := by
  rcases copdo_ok hρ h with ⟨rfl, rfl⟩ | ⟨x', y', rfl, rfl, hc⟩
  · exact .inl ⟨rfl, rfl⟩
  · exact .inr ⟨_, _, rfl, rfl, hc⟩

theorem slc_str_ok {t : TypeId} (hu : P.underlying t = some .string) {s : List UInt8} {lo hi : Option AV} {ulo uhi : Option Value} {v : AV}
    (hlo : (lo = none ∧ ulo = none) ∨ ∃ x u, lo = some x ∧ ulo = some u ∧ Conc M x u) (hhi : (hi = none ∧ uhi = none) ∨ ∃ x u, hi = some x ∧ uhi = some u ∧ Conc M x u)
    (h : AV.slcs (.str s) lo hi = some v) : ∃ u, (Instr.sliceAt t (.string ⟨s.toArray⟩) ulo uhi none).run P w = .ok u w ∧ Conc M v u := by
  simp only [AV.slcs] at h
  split at h
  · rename_i l hh m hb
    cases h
    obtain ⟨h1, h2, h3, h4, h5⟩ := bnds_run (P := P) (isS := false) w hlo hhi (.inl ⟨rfl, rfl⟩) (Nat.le_refl _) hb
    have hm : m = none := h5.2 rfl
    subst hm
    refine ⟨.string ⟨((s.drop l).take (hh - l)).toArray⟩, ?_, .str _⟩
    have e1 : (ByteArray.mk s.toArray).size = s.length := rfl
    simp only [Instr.sliceAt, Sem.run_bind, run_underlying hu, Result.andThen_ok]
    simp only [Instr.slice, Sem.run_bind, run_underlying hu, Result.andThen_ok, Option.isSome_none, Bool.false_eq_true, if_false, Sem.run_pure, e1, h1]
    congr 2
    apply ByteArray.ext
    apply Array.ext'
    have := Lib.extract_toList ⟨s.toArray⟩ l hh
    rw [ByteArray.toList_eq] at this
    simp at this ⊢
  · cases h

theorem slc_slice_ok {t el : TypeId} {size : Nat} (hu : P.underlying t = some (.slice el)) (hs : elemSize P el = some size) {x : AV} {ux : Value} (hx : Conc M x ux) {lo hi mx : Option AV} {ulo uhi umx : Option Value} {v : AV}
    (hlo : (lo = none ∧ ulo = none) ∨ ∃ x u, lo = some x ∧ ulo = some u ∧ Conc M x u) (hhi : (hi = none ∧ uhi = none) ∨ ∃ x u, hi = some x ∧ uhi = some u ∧ Conc M x u)
    (hmx : (mx = none ∧ umx = none) ∨ ∃ x u, mx = some x ∧ umx = some u ∧ Conc M x u)
    (h : AV.slc size x lo hi mx = some v) : ∃ u, (Instr.sliceAt t ux ulo uhi umx).run P w = .ok u w ∧ Conc M v u := by
  have go : ∀ (ad : Option Addr) (len cap l hh : Nat) (m : Option Nat), ux = .slice ad len cap → len ≤ cap → bnds len len lo hi mx = some (l, hh, m) →
      (l ≤ hh → hh ≤ len → (∀ k, m = some k → hh ≤ k ∧ k ≤ len) → (m = none ↔ mx = none) → Conc M v (.slice (if m.getD cap = l then ad else ad.map (·.add (l * size))) (hh - l) (m.getD cap - l))) →
      ∃ u, (Instr.sliceAt t ux ulo uhi umx).run P w = .ok u w ∧ Conc M v u := by
    intro ad len cap l hh m e hc hb hv
    obtain ⟨h1, h2, h3, h4, h5⟩ := bnds_run (P := P) (isS := true) w hlo hhi hmx hc hb
    refine ⟨_, ?_, hv h2 h3 h4 h5⟩
    subst e
    simp only [Instr.sliceAt, Sem.run_bind, run_underlying hu, Result.andThen_ok]
    simp only [Instr.slice, Sem.run_bind, run_underlying hu, Result.andThen_ok, h1, run_elemSize w hs, Sem.run_pure]
  cases x with
  | sl p sz b len tt =>
    simp only [AV.slc] at h
    split at h
    rotate_left
    · cases h
    rename_i hsz
    subst hsz
    split at h
    · rename_i l hh m hb
      cases h
      cases hx with
      | @sl _ _ _ _ cap _ hD hs' hc ht hr =>
        refine go _ len cap l hh m rfl hc hb ?_
        intro q1 q2 q3 q4
        by_cases hz : m.getD cap = l
        · rw [if_pos hz]
          have e1 : hh - l = 0 := by
            cases m with
            | none => simp at hz; omega
            | some k => simp at hz; have := q3 k rfl; omega
          rw [e1, hz, Nat.sub_self]
          exact .sl0 hD hs'
        · rw [if_neg hz]
          simp only [Option.map_some, addr_add]
          rw [show M.base p + b * sz + l * sz = M.base p + (b + l) * sz by rw [Nat.add_mul, Nat.add_assoc]]
          refine .sl hD hs' ?_ ?_ ?_
          · cases m with
            | none => simp; omega
            | some k => simp; have := q3 k rfl; omega
          · intro hT
            cases m with
            | none =>
              simp only [Bool.and_eq_true, decide_eq_true_eq] at hT
              simp only [Option.getD_none]
              rw [ht hT.1, hT.2]
            | some k => simp only [decide_eq_true_eq] at hT; simp only [Option.getD_some]; rw [hT]
          · have : (b + l + (m.getD cap - l)) * sz ≤ (b + cap) * sz := Nat.mul_le_mul_right _ (by
              cases m with
              | none => simp at hz ⊢; omega
              | some k => simp at hz ⊢; have := q3 k rfl; omega)
            omega
      | @sl0 _ _ _ _ ad hD hs' =>
        refine go ad 0 0 l hh m rfl (Nat.le_refl _) hb ?_
        intro q1 q2 q3 q4
        have e1 : hh = 0 := by omega
        have e2 : l = 0 := by omega
        subst e1; subst e2
        have e3 : m.getD 0 = 0 := by
          cases m with
          | none => rfl
          | some k => simp; have := q3 k rfl; omega
        rw [e3]
        simp only [if_true, Nat.sub_self]
        exact .sl0 hD hs'
    · cases h
  | nils =>
    simp only [AV.slc] at h
    split at h
    · rename_i r hb
      obtain ⟨l, hh, m⟩ := r
      cases h
      cases hx
      refine go none 0 0 l hh m rfl (Nat.le_refl _) hb ?_
      intro q1 q2 q3 q4
      have e1 : hh = 0 := by omega
      have e2 : l = 0 := by omega
      subst e1; subst e2
      have e3 : m.getD 0 = 0 := by
        cases m with
        | none => rfl
        | some k => simp; have := q3 k rfl; omega
      rw [e3]
      exact .nils
    · cases h
  | es =>
    simp only [AV.slc] at h
    split at h
    · rename_i r hb
      obtain ⟨l, hh, m⟩ := r
      cases h
      cases hx with
      | es ad =>
        refine go ad 0 0 l hh m rfl (Nat.le_refl _) hb ?_
        intro q1 q2 q3 q4
        have e1 : hh = 0 := by omega
        have e2 : l = 0 := by omega
        subst e1; subst e2
        have e3 : m.getD 0 = 0 := by
          cases m with
          | none => rfl
          | some k => simp; have := q3 k rfl; omega
        rw [e3]
        exact .es _
    · cases h
  | ps sz xs =>
    simp only [AV.slc] at h
    split at h
    rotate_left
    · cases h
    rename_i hsz
    subst hsz
    split at h
    · cases h
    · rename_i hmn
      split at h
      · rename_i l hh m hb
        cases h
        cases hx with
        | @ps _ _ uss c b o cap hI hc hr hL =>
          refine go (some ⟨b, o, none⟩) xs.length cap l hh m rfl hc hb ?_
          intro q1 q2 q3 q4
          have e3 : m = none := by
            cases m with
            | none => rfl
            | some k => have := q4.2 rfl; cases this
          subst e3
          simp only [Option.getD_none]
          have elen : ((xs.drop l).take (hh - l)).length = hh - l := by simp; omega
          by_cases hz : cap = l
          · have e0 : hh - l = 0 := by omega
            rw [e0, List.take_zero]
            exact .ps0 fun h => by simp [hz] at h ⊢
          · rw [if_neg hz]
            simp only [Option.map_some, addr_add]
            have : Conc M (.ps sz ((xs.drop l).take (hh - l))) (.slice (some ⟨b, o + l * sz, none⟩) ((xs.drop l).take (hh - l)).length (cap - l)) := by
              refine .ps (uss := fun i => uss (l + i)) hI (by rw [elen]; omega) ?_ ?_
              · intro i j u hi hu
                rw [elen] at hi
                rw [← hr (l + i) j u (by omega) hu]
                congr 1
                rw [Nat.add_mul]; omega
              · intro i e he
                rw [List.getElem?_take] at he
                split at he
                · rw [List.getElem?_drop] at he
                  exact hL _ _ he
                · cases he
            rw [elen] at this
            exact this
        | @ps0 _ ad cap hnc =>
          refine go ad 0 cap l hh m rfl (Nat.zero_le _) hb ?_
          intro q1 q2 q3 q4
          have e1 : hh = 0 := by omega
          have e2 : l = 0 := by omega
          subst e1; subst e2
          simp only [List.drop_nil, List.take_nil, Nat.sub_self]
          exact .ps0 fun h => by cases ad with
            | none => have := hnc rfl; simp_all
            | some a => split at h <;> cases h
      · cases h
  | _ => simp [AV.slc] at h

theorem iaddr_ok {t el : TypeId} {size : Nat} (hu : P.underlying t = some (.slice el)) (hs : elemSize P el = some size) {x i v : AV} {ux ui : Value} (hx : Conc M x ux) (hi : Conc M i ui)
    (h : AV.iaddr size x i = some v) : ∃ u, (Instr.indexAt t ux ui).run P w = .ok u w ∧ Conc M v u := by
  unfold AV.iaddr at h
  split at h
  · rename_i k n
    rw [conc_int hi]
    have go : ∀ (ad : Addr) (len cap : Nat), ux = .slice (some ad) len cap → 0 ≤ n → n < len → Conc M v (.pointer (some (ad.add (n.toNat * size)))) →
        ∃ u, (Instr.indexAt t ux (.int k n)).run P w = .ok u w ∧ Conc M v u := by
      intro ad len cap e h0 h1 hc
      refine ⟨_, ?_, hc⟩
      subst e
      simp [Instr.indexAt, asIntOf, run_underlying hu, h0, h1, run_elemSize w hs]
    split at h
    · rename_i l sz lo len tt
      split at h
      · subst sz
        split at h
        · rename_i hb
          cases h
          cases hx with
          | sl hD hs' hc ht hr =>
            refine go _ _ _ rfl hb.1 hb.2 ?_
            rw [addr_add]
            have := Conc.eptr (M := M) (l := l) (i := lo + n.toNat) (off := 0) hD
            rw [hs', Nat.add_zero, Nat.add_mul, ← Nat.add_assoc] at this
            exact this
          | sl0 hD hs' => have := hb.2; omega
        · cases h
      · cases h
    · rename_i sz xs
      split at h
      · subst sz
        split at h
        · rename_i hb
          cases h
          cases hx with
          | @ps _ _ uss c b o cap hI hc hr hL =>
            refine go _ _ _ rfl hb.1 hb.2 ?_
            rw [addr_add]
            have hlt : n.toNat < xs.length := by omega
            have e : xs[n.toNat]? = some (xs.getD n.toNat []) := by simp [List.getD, hlt]
            exact .pp hI (fun j u hu => hr n.toNat j u hlt hu) (hL _ _ e)
          | ps0 => have := hb.2; simp at this; omega
        · cases h
      · cases h
    · cases h
  · cases h

theorem iaddra_ok {t el : TypeId} {size len : Nat} (hu : P.underlying t = some (.array len el)) (hs : elemSize P el = some size) {x i v : AV} {ux ui : Value} (hx : Conc M x ux) (hi : Conc M i ui)
    (h : AV.iaddra len size x i = some v) : ∃ u, (Instr.indexAt t ux ui).run P w = .ok u w ∧ Conc M v u := by
  unfold AV.iaddra at h
  split at h
  · rename_i k n
    rw [conc_int hi]
    split at h
    · rename_i hb
      obtain ⟨ad, rfl, hsp, hc⟩ := faddr_conc hx h
      refine ⟨_, ?_, hc⟩
      simp [Instr.indexAt, asIntOf, run_underlying hu, hb.1, hb.2, Instr.sureAddr, run_elemSize w hs]
    · cases h
  · cases h

theorem idxs_ok {t : TypeId} (hu : P.underlying t = some .string) {x i v : AV} {ux ui : Value} (hx : Conc M x ux) (hi : Conc M i ui)
    (h : AV.idxs x i = some v) : ∃ u, (Instr.index t ux ui).run P w = .ok u w ∧ Conc M v u := by
  unfold AV.idxs at h
  split at h
  · rename_i s k n
    rw [conc_int hi, conc_str hx]
    split at h
    · rename_i hb
      cases h
      have hlt : n.toNat < s.length := by omega
      have e : (ByteArray.mk s.toArray)[n.toNat]? = some (s.getD n.toNat 0) := by
        have e1 : (ByteArray.mk s.toArray).size = s.length := rfl
        rw [getElem?_pos (ByteArray.mk s.toArray) n.toNat (by rw [e1]; exact hlt)]
        simp only [List.getD, List.getElem?_eq_getElem hlt, Option.getD_some, Option.some.injEq]
        rfl
      refine ⟨.int .u8 (s.getD n.toNat 0).toNat, ?_, .int _ _⟩
      simp [Instr.index, asIntOf, run_underlying hu, hb.1, e]
    · cases h
  · cases h

theorem idxa_ok {t el : TypeId} {len size : Nat} {n : Option Nat} (hu : P.underlying t = some (.array len el)) (hs : elemSize P el = some size) (hg : aggOf P el = some n) {x i v : AV} {ux ui : Value} (hx : Conc M x ux) (hi : Conc M i ui)
    (h : AV.idxa len size n x i = some v) : ∃ u, (Instr.index t ux ui).run P w = .ok u w ∧ Conc M v u := by
  unfold AV.idxa at h
  split at h
  · rename_i cs k m
    rw [conc_int hi]
    split at h
    · rename_i hb
      cases hx with
      | @agg _ us hL =>
        obtain ⟨u, h1, h2⟩ := run_part w hg hL h
        refine ⟨u, ?_, h2⟩
        simp [Instr.index, asIntOf, run_underlying hu, hb.1, hb.2, run_elemSize w hs, h1]
    · cases h
  · cases h

theorem fold_ok {f : AV → AV → Option AV} {g : Value → Value → Sem Value} (hfg : ∀ x y v ux uy, Conc M x ux → Conc M y uy → f x y = some v → ∃ u, (g ux uy).run P w = .ok u w ∧ Conc M v u) :
    ∀ {xs : List AV} {us : List Value} {x : AV} {ux : Value} {v : AV}, ConcL M xs us → Conc M x ux → foldO f x xs = some v → ∃ u, (us.foldlM g ux).run P w = .ok u w ∧ Conc M v u
  | [], _, x, ux, v, .nil, hx, h => by simp only [foldO] at h; cases h; exact ⟨ux, rfl, hx⟩
  | y :: ys, _, x, ux, v, .cons (u := uy) hy t, hx, h => by
    simp only [foldO] at h
    split at h
    · rename_i z hz
      obtain ⟨uz, h1, h2⟩ := hfg _ _ _ _ _ hx hy hz
      obtain ⟨u, h3, h4⟩ := fold_ok hfg t h2 h
      exact ⟨u, by rw [List.foldlM_cons]; simp [h1, h3], h4⟩
    · cases h

theorem mn2_ok (x y v : AV) (ux uy : Value) (hx : Conc M x ux) (hy : Conc M y uy) (h : AV.mn2 x y = some v) : ∃ u, (Builtin.min2 ux uy).run P w = .ok u w ∧ Conc M v u := by
  unfold AV.mn2 at h
  split at h
  · cases h
    rw [conc_int hx, conc_int hy]
    exact ⟨_, rfl, .int _ _⟩
  · cases h
theorem mx2_ok (x y v : AV) (ux uy : Value) (hx : Conc M x ux) (hy : Conc M y uy) (h : AV.mx2 x y = some v) : ∃ u, (Builtin.max2 ux uy).run P w = .ok u w ∧ Conc M v u := by
  unfold AV.mx2 at h
  split at h
  · cases h
    rw [conc_int hx, conc_int hy]
    exact ⟨_, rfl, .int _ _⟩
  · cases h
end
end Go.SB
end

/- Framework, part I: nstep is right. -/
section
set_option linter.unusedVariables false
set_option linter.unusedSimpArgs false
namespace Go.SB
section
variable {P : Program} {M : Mod} {ρ : List AV} {a : Act} (w : World)

theorem quiet_of {o : Oper} {v : AV} {s : Sem Value} {u : Value} (he : execOp a.eval o = (do pure (.value (← s)))) (h : s.run P w = .ok u w) (hc : Conc M v u) : Quiet P M a w o v :=
  ⟨u, by rw [he]; simp [h], hc⟩

theorem mapC {xs : List Operand} {ys : List Opd} (hρ : ConcL M ρ a.tmps.toList) (h : copds xs = some ys) : ConcL M (ys.map (·.get ρ)) (xs.map a.eval) := copds_ok hρ h

set_option maxHeartbeats 1600000 in
theorem nstep_ok {o : Oper} {io : IOp} (hc : cop P o = some io) {v : AV} (hs : nstep ρ io = some v) (hρ : ConcL M ρ a.tmps.toList) : Quiet P M a w o v := by
  obtain ⟨dst, op, type, pos, after, guard⟩ := o
  cases op with
  | move x =>
    obtain ⟨y, hy, rfl⟩ := opt_map hc
    simp only [nstep] at hs; cases hs
    exact ⟨a.eval x, rfl, copd_ok hy hρ⟩
  | assign x =>
    obtain ⟨y, hy, rfl⟩ := opt_map hc
    simp only [nstep] at hs; cases hs
    exact ⟨a.eval x, rfl, copd_ok hy hρ⟩
  | pick c x y =>
    simp only [cop] at hc
    split at hc
    · rename_i c' x' y' h1 h2 h3
      cases hc
      simp only [nstep] at hs
      split at hs
      · rename_i b hb
        cases hs
        have e := copd_ok h1 hρ
        rw [hb] at e
        have e := conc_bool e
        cases b
        · exact ⟨a.eval y, by simp [execOp, e, asBool], by simpa using copd_ok h3 hρ⟩
        · exact ⟨a.eval x, by simp [execOp, e, asBool], by simpa using copd_ok h2 hρ⟩
      · cases hs
    · cases hc
  | build t ps =>
    simp only [cop] at hc
    split at hc
    · cases hc
    · rename_i z hz
      split at hc
      · rename_i fs hu
        split at hc
        · rename_i hf
          obtain ⟨qs, hq, rfl⟩ := opt_map hc
          simp only [nstep] at hs
          split at hs
          · rename_i r hr
            cases hs
            obtain ⟨u, h1, h2⟩ := build_struct_ok (P := P) (v := .any) w hρ hz hu hf hq hr
            exact quiet_of w rfl h1 h2
          · cases hs
        · cases hc
      · rename_i len el hu
        split at hc
        · rename_i size hsz
          split at hc
          · rename_i h0
            obtain ⟨qs, hq, rfl⟩ := opt_map hc
            simp only [nstep] at hs
            split at hs
            · rename_i r hr
              cases hs
              obtain ⟨u, h1, h2⟩ := build_array_ok (P := P) (v := .any) w hρ hz hu hsz h0 hq hr
              exact quiet_of w rfl h1 h2
            · cases hs
          · cases hc
        · cases hc
      · cases hc
  | nilCheck x =>
    obtain ⟨y, hy, rfl⟩ := opt_map hc
    simp only [nstep] at hs
    have e := copd_ok hy hρ
    split at hs
    · rename_i l o hx
      cases hs; rw [hx] at e
      refine ⟨a.eval x, ?_, e⟩
      generalize he : a.eval x = u at e
      cases e with | ptr hD => simp [execOp, he]
    · rename_i l i o hx
      cases hs; rw [hx] at e
      refine ⟨a.eval x, ?_, e⟩
      generalize he : a.eval x = u at e
      cases e with | eptr hD => simp [execOp, he]
    · rename_i cs hx
      cases hs; rw [hx] at e
      refine ⟨a.eval x, ?_, e⟩
      generalize he : a.eval x = u at e
      cases e with | pp => simp [execOp, he]
    · rename_i f x1 x2 hx
      cases hs; rw [hx] at e
      refine ⟨a.eval x, ?_, e⟩
      generalize he : a.eval x = u at e
      cases e with | fn => simp [execOp, he]
    · cases hs
  | binOp op t x y yt =>
    simp only [cop] at hc
    split at hc
    · rename_i x' y' hx hy
      have cx := copd_ok hx hρ
      have cy := copd_ok hy hρ
      have fin : ∀ {v}, AV.bin op (x'.get ρ) (y'.get ρ) = some v → Quiet P M a w ⟨dst, .binOp op t x y yt, type, pos, after, guard⟩ v := by
        intro v hv
        obtain ⟨u, h1, h2⟩ := bin_ok (P := P) (t := t) w cx cy hv
        have h3 := guard_ok (P := P) (t := t) (x := x) (y := y) (uy := a.eval y) w cx hv
        refine ⟨u, ?_, h2⟩
        simp [execOp, h3, h1]
      split at hc
      · cases hc; exact fin (by simpa [nstep] using hs)
      · cases hc; exact fin (by simpa [nstep] using hs)
      · split at hc
        · rename_i neg hneg
          obtain ⟨e, he, rfl⟩ := opt_map hc
          simp only [nstep] at hs
          split at hs
          · rename_i r hr
            cases hs
            obtain ⟨h1, h2⟩ := eqv_ok (P := P) (ox := x) (oy := y) w hneg he cx cy hr
            exact ⟨_, by simp [execOp, h1, h2], .bool _⟩
          · cases hs
        · cases hc
    · cases hc
  | unOp op t x =>
    obtain ⟨y, hy, rfl⟩ := opt_map hc
    simp only [nstep] at hs
    have e := copd_ok hy hρ
    unfold AV.unop at hs
    split at hs
    · rename_i k n hx
      cases hs; rw [hx] at e
      exact ⟨_, by simp [execOp, conc_int e, Op.unary, Op.intArith], .int _ _⟩
    · rename_i k n hx
      cases hs; rw [hx] at e
      exact ⟨_, by simp [execOp, conc_int e, Op.unary, Op.intBits, ibits], .int _ _⟩
    · rename_i b hx
      cases hs; rw [hx] at e
      exact ⟨_, by simp [execOp, conc_bool e, Op.unary], .bool _⟩
    · cases hs
  | convert s d x =>
    simp only [cop] at hc
    split at hc
    · rename_i k' k y h1 h2 hy
      cases hc
      have e := copd_ok hy hρ
      simp only [nstep] at hs
      split at hs
      · rename_i k2 n hx
        cases hs; rw [hx] at e
        refine ⟨.int k (k.wrap n), ?_, .int _ _⟩
        simp [execOp, conc_int e, convert, run_underlying h1, run_underlying h2, Conv.intToInt]
      · cases hs
    · rename_i y h1 h2 hy
      cases hc
      have e := copd_ok hy hρ
      simp only [nstep] at hs
      split at hs
      · rename_i s' hx
        cases hs; rw [hx] at e
        refine ⟨.string ⟨s'.toArray⟩, ?_, .str _⟩
        simp [execOp, conc_str e, convert, run_underlying h1, run_underlying h2]
      · cases hs
    · cases hc
  | makeFunc f x y =>
    cases f with
    | func f =>
      simp only [cop] at hc
      split at hc
      · rename_i x' y' hx hy
        cases hc
        simp only [nstep] at hs; cases hs
        refine ⟨.func (.func f) (x.map a.eval) (y.map a.eval), rfl, .fn ?_ ?_⟩
        · simpa using mapC hρ hx
        · simpa using mapC hρ hy
      · cases hc
    | _ => simp [cop] at hc
  | slice t x lo hi mx =>
    simp only [cop] at hc
    split at hc
    · rename_i hu
      split at hc
      · rename_i x' lo' hi' hx hlo hhi
        cases hc
        simp only [nstep] at hs
        have e := copd_ok hx hρ
        have hs0 := hs
        unfold AV.slcs at hs
        split at hs
        · rename_i s hxs
          rw [hxs] at e hs0
          obtain ⟨u, h1, h2⟩ := slc_str_ok (P := P) w hu (opd3 hρ hlo) (opd3 hρ hhi) hs0
          refine ⟨u, ?_, h2⟩
          simp only [execOp, conc_str e, Option.map_none, Sem.run_bind, h1, Result.andThen_ok, Sem.run_pure]
        · cases hs
      · cases hc
    · rename_i el hu
      split at hc
      · rename_i x' lo' hi' mx' sz hx hlo hhi hmx hsz
        cases hc
        simp only [nstep] at hs
        obtain ⟨u, h1, h2⟩ := slc_slice_ok (P := P) w hu hsz (copd_ok hx hρ) (opd3 hρ hlo) (opd3 hρ hhi) (opd3 hρ hmx) hs
        exact quiet_of w rfl h1 h2
      · cases hc
    · cases hc
  | fieldAddr t x i =>
    simp only [cop] at hc
    split at hc
    · rename_i fs hu
      split at hc
      · rename_i f hf
        split at hc
        · rename_i n x' hn hx
          split at hc
          · rename_i h0
            cases hc
            simp only [nstep] at hs
            obtain ⟨ad, e, hsp, hcc⟩ := faddr_conc (copd_ok hx hρ) hs
            refine ⟨_, ?_, hcc⟩
            simp [execOp, e, Instr.fieldAt, run_underlying hu, hf, Instr.sureAddr, fieldPlace, run_elemSize w hn, show ¬ n = 0 by omega]
          · cases hc
        · cases hc
      · cases hc
    · cases hc
  | field t x i =>
    simp only [cop] at hc
    split at hc
    · rename_i fs hu
      split at hc
      · rename_i f hf
        split at hc
        · rename_i n x' hn hx
          cases hc
          simp only [nstep] at hs
          have e := copd_ok hx hρ
          unfold AV.fld at hs
          split at hs
          · rename_i cs hcs
            rw [hcs] at e
            generalize he : a.eval x = u at e
            cases e with
            | @agg _ us hL =>
              obtain ⟨u, h1, h2⟩ := run_part w hn hL hs
              refine ⟨u, ?_, h2⟩
              simp [execOp, he, Instr.field, run_underlying hu, hf, asAgg, h1]
          · cases hs
        · cases hc
      · cases hc
    · cases hc
  | indexAddr t x i =>
    simp only [cop] at hc
    split at hc
    · rename_i el hu
      split at hc
      · rename_i n x' i' hn hx hi
        cases hc
        simp only [nstep] at hs
        obtain ⟨u, h1, h2⟩ := iaddr_ok (P := P) w hu hn (copd_ok hx hρ) (copd_ok hi hρ) hs
        exact quiet_of w rfl h1 h2
      · cases hc
    · rename_i len el hu
      split at hc
      · rename_i n x' i' hn hx hi
        cases hc
        simp only [nstep] at hs
        obtain ⟨u, h1, h2⟩ := iaddra_ok (P := P) w hu hn (copd_ok hx hρ) (copd_ok hi hρ) hs
        exact quiet_of w rfl h1 h2
      · cases hc
    · cases hc
  | index t x i =>
    simp only [cop] at hc
    split at hc
    · rename_i hu
      split at hc
      · rename_i x' i' hx hi
        cases hc
        simp only [nstep] at hs
        obtain ⟨u, h1, h2⟩ := idxs_ok (P := P) w hu (copd_ok hx hρ) (copd_ok hi hρ) hs
        exact quiet_of w rfl h1 h2
      · cases hc
    · rename_i len el hu
      split at hc
      · rename_i n g x' i' hn hg hx hi
        cases hc
        simp only [nstep] at hs
        obtain ⟨u, h1, h2⟩ := idxa_ok (P := P) w hu hn hg (copd_ok hx hρ) (copd_ok hi hρ) hs
        exact quiet_of w rfl h1 h2
      · cases hc
    · cases hc
  | makeInterface t x =>
    simp only [cop] at hc
    split at hc
    · cases hc
    · rename_i d y hu hd hy
      cases hc
      simp only [nstep] at hs; cases hs
      refine ⟨.iface t (a.eval x), ?_, .ifc (copd_ok hy hρ)⟩
      simp only [execOp, Instr.makeInterface, Sem.run_bind, run_underlying hd, Result.andThen_ok]
      cases d <;> first | rfl | (exact absurd hd (hu _))
    · cases hc
  | extract x i =>
    obtain ⟨y, hy, rfl⟩ := opt_map hc
    simp only [nstep] at hs
    have e := copd_ok hy hρ
    split at hs
    · rename_i vs hvs
      rw [hvs] at e
      generalize he : a.eval x = u at e
      cases e with
      | @tup _ us hL =>
        obtain ⟨u, h1, h2⟩ := hL.get hs
        rw [Array.getElem?_toList] at h1
        exact ⟨u, by simp [execOp, he, Instr.extract, h1], h2⟩
    · cases hs
  | call c =>
    obtain ⟨callee, args, argTypes⟩ := c
    cases callee with
    | value f =>
      simp only [cop] at hc
      split at hc
      · cases hc; simp [nstep] at hs
      · cases hc
    | invoke r m => simp [cop] at hc
    | builtin b =>
      cases b with
      | len =>
        simp only [cop] at hc
        split at hc
        · rename_i t ht
          split at hc
          · rename_i x hu hx
            obtain ⟨y, hy, rfl⟩ := opt_map hc
            simp only [nstep] at hs
            have e := copd_ok hy hρ
            have ha : args.map a.eval = #[a.eval x] := by apply Array.ext'; simp [hx]
            unfold AV.lenst at hs
            split at hs
            · rename_i s' hys
              rw [hys] at e
              cases hs
              refine ⟨.int .i64 s'.length, ?_, .int _ _⟩
              have e1 : (ByteArray.mk s'.toArray).size = s'.length := rfl
              simp [execOp, resolve, invoke, builtin, ha, Builtin.len_, ht, run_underlying hu, goInt, conc_str e, e1]
            · cases hs
          · rename_i el x hu hx
            obtain ⟨y, hy, rfl⟩ := opt_map hc
            simp only [nstep] at hs
            have e := copd_ok hy hρ
            have ha : args.map a.eval = #[a.eval x] := by apply Array.ext'; simp [hx]
            have run : ∀ ad n c, a.eval x = .slice ad n c → v = .int .i64 n → Quiet P M a w ⟨dst, .call ⟨.builtin .len, args, argTypes⟩, type, pos, after, guard⟩ v := by
              intro ad n c e1 e2
              subst e2
              refine ⟨.int .i64 n, ?_, .int _ _⟩
              simp [execOp, resolve, invoke, builtin, ha, Builtin.len_, ht, run_underlying hu, goInt, e1]
            generalize he : a.eval x = ux at e
            unfold AV.lens at hs
            split at hs
            · rename_i hys; rw [hys] at e; cases hs; cases e
              · exact run _ _ _ he rfl
              · exact run _ _ _ he rfl
            · rename_i hys; rw [hys] at e; cases hs; cases e; exact run _ _ _ he rfl
            · rename_i hys; rw [hys] at e; cases hs; cases e; exact run _ _ _ he rfl
            · rename_i hys; rw [hys] at e; cases hs; cases e
              · exact run _ _ _ he rfl
              · exact run _ _ _ he rfl
            · cases hs
          · rename_i n el x hu hx
            cases hc
            simp only [nstep] at hs; cases hs
            refine ⟨.int .i64 n, ?_, .int _ _⟩
            have ha : args.map a.eval = #[a.eval x] := by apply Array.ext'; simp [hx]
            simp [execOp, resolve, invoke, builtin, ha, Builtin.len_, ht, run_underlying hu, goInt]
          · rename_i x hu hx
            obtain ⟨y, hy, rfl⟩ := opt_map hc
            simp [nstep] at hs
          · cases hc
        · cases hc
      | min =>
        obtain ⟨ys, hy, rfl⟩ := opt_map hc
        simp only [nstep] at hs
        have e := mapC hρ hy
        split at hs
        · cases hs
        · rename_i x r hxr
          rw [hxr] at e
          generalize he : args.toList.map a.eval = us at e
          cases e with
          | cons hx t =>
            obtain ⟨u, h1, h2⟩ := fold_ok (P := P) w (fun x y v ux uy a b c => mn2_ok w x y v ux uy a b c) t hx hs
            refine ⟨u, ?_, h2⟩
            simp [execOp, resolve, invoke, builtin, Builtin.min_, he, h1]
      | max =>
        obtain ⟨ys, hy, rfl⟩ := opt_map hc
        simp only [nstep] at hs
        have e := mapC hρ hy
        split at hs
        · cases hs
        · rename_i x r hxr
          rw [hxr] at e
          generalize he : args.toList.map a.eval = us at e
          cases e with
          | cons hx t =>
            obtain ⟨u, h1, h2⟩ := fold_ok (P := P) w (fun x y v ux uy a b c => mx2_ok w x y v ux uy a b c) t hx hs
            refine ⟨u, ?_, h2⟩
            simp [execOp, resolve, invoke, builtin, Builtin.max_, he, h1]
      | append =>
        simp only [cop] at hc
        repeat' (split at hc)
        all_goals first | (cases hc; done) | (cases hc; simp [nstep] at hs)
      | copy =>
        simp only [cop] at hc
        repeat' (split at hc)
        all_goals first | (cases hc; done) | (cases hc; simp [nstep] at hs)
      | delete =>
        simp only [cop] at hc
        repeat' (split at hc)
        all_goals first | (cases hc; done) | (cases hc; simp [nstep] at hs)
      | clear =>
        simp only [cop] at hc
        repeat' (split at hc)
        all_goals first | (cases hc; done) | (cases hc; simp [nstep] at hs)
      | _ => simp [cop] at hc
  | _ =>
    first
    | (simp [cop] at hc; done)
    | (simp only [cop] at hc
       repeat' (split at hc)
       all_goals first | (cases hc; done) | (cases hc; simp [nstep] at hs; done) | (obtain ⟨y, hy, rfl⟩ := opt_map hc; simp [nstep] at hs))
end
end Go.SB
end

/- Framework, part J: operations that read memory. -/
section
set_option linter.unusedVariables false
set_option linter.unusedSimpArgs false
namespace Go.SB
section
variable {P : Program} {M : Mod} {F : Nat → Nat → Prop} {A : AHeap} {ρ : List AV} {a : Act} {w : World}

theorem rdN_addr {x : AV} {n : Nat} {r : List AV} (h : rdN A x n = some r) {u : Value} (hx : Conc M x u) : (∃ ad, u = .pointer (some ad)) ∧ (∀ v, x ≠ .raw v) ∧ x ≠ .any := by
  unfold rdN at h
  split at h
  · cases hx; exact ⟨⟨_, rfl⟩, by simp, by simp⟩
  · cases hx; exact ⟨⟨_, rfl⟩, by simp, by simp⟩
  · cases hx; exact ⟨⟨_, rfl⟩, by simp, by simp⟩
  · cases h

theorem loadVar_ok (S : Sim w.heap M F A) {t : TypeId} {n : Option Nat} (hn : aggOf P t = some n) {x : AV} {ad : Addr} (hx : Conc M x (.pointer (some ad))) {v : AV}
    (h : aload A n x = some v) :
    ∃ u, (loadVar t ad).run P w = .ok u w ∧ Conc M v u := by
  obtain ⟨h1, h2⟩ := run_aggOf (P := P) w hn
  cases n with
  | none =>
    simp only [aload] at h
    split at h
    · rename_i v' hr
      cases h
      obtain ⟨-, q1, q2⟩ := rdN_addr hr hx
      obtain ⟨us, hL, hl, hsp, hc⟩ := S.rd hx q1 q2 hr
      cases hL with
      | cons hv t =>
        cases t
        rename_i u
        have := hc 0 u (by simp)
        rw [show ad.add 0 = ad from rfl] at this
        exact ⟨u, by simp [loadVar, h1, this], hv⟩
    · cases h
  | some k =>
    simp only [aload] at h
    split at h
    · rename_i vs hr
      cases h
      obtain ⟨-, q1, q2⟩ := rdN_addr hr hx
      obtain ⟨us, hL, hl, hsp, hc⟩ := S.rd hx q1 q2 hr
      have hld := run_loadCells_list (P := P) w ad us hc
      rw [hl] at hld
      refine ⟨.agg us.toArray, ?_, .agg (by simpa using hL)⟩
      simp [loadVar, h1, h2 k rfl, hld]
    · cases h

theorem keyOk_kind {t : TypeId} {lk : LK} (hk : keyOk P t = some lk) : ∃ d, P.underlying t = some d ∧ ((lk = .int ∧ ∃ k, d = .int k) ∨ (lk = .str ∧ d = .string)) := by
  unfold keyOk at hk
  split at hk
  · rename_i k hu; cases hk; exact ⟨_, hu, .inl ⟨rfl, _, rfl⟩⟩
  · rename_i hu; cases hk; exact ⟨_, hu, .inr ⟨rfl, rfl⟩⟩
  · cases hk

theorem checkKey_ok {t : TypeId} {lk : LK} (hk : keyOk P t = some lk) (b : Bool) (n : Nat) (v : Value) : (Instr.checkKey b (n + 1) t v).run P w = .ok () w := by
  obtain ⟨d, hu, ⟨-, k, rfl⟩ | ⟨-, rfl⟩⟩ := keyOk_kind hk
  · simp [Instr.checkKey, run_underlying hu]
  · simp [Instr.checkKey, run_underlying hu]

theorem checkKey_ok' {t : TypeId} {lk : LK} (hk : keyOk P t = some lk) (b : Bool) (v : Value) : (Instr.checkKey b 10000 t v).run P w = .ok () w := checkKey_ok hk b 9999 v

theorem sameNow_ok {d : TypeDesc} {lk : LK} (hd : (lk = .int ∧ ∃ k, d = .int k) ∨ (lk = .str ∧ d = .string)) {x y : AV} {ux uy : Value} (hx : Conc M x ux) (hy : Conc M y uy) {b : Bool} (h : AV.eqK lk x y = some b) :
    Instr.sameNow d ux uy = some b := by
  unfold AV.eqK at h
  split at h
  · rename_i k n k' n'
    split at h
    · rename_i e; subst e
      cases h
      rw [conc_int hx, conc_int hy]
      rcases hd with ⟨-, k0, rfl⟩ | ⟨hh, -⟩
      · simp [Instr.sameNow]
      · cases hh
    · cases h
  · rcases hd with ⟨hh, -⟩ | ⟨hh, -⟩ <;> cases hh
  · rename_i s s'
    cases h
    rw [conc_str hx, conc_str hy]
    rcases hd with ⟨hh, -⟩ | ⟨-, rfl⟩
    · cases hh
    · simp only [Instr.sameNow, beq_toListBytes, ByteArray.toList_mk]
  · cases h

theorem findNow_ok {d : TypeDesc} {lk : LK} (hd : (lk = .int ∧ ∃ k, d = .int k) ∨ (lk = .str ∧ d = .string)) {x : AV} {ux : Value} (hx : Conc M x ux) :
    ∀ {es : List (AV × AV)} {ents : List MapEntry} {i : Nat} {r : Option (Nat × AV)}, ents.length = es.length →
      (∀ (j : Nat) (k v : AV), es[j]? = some (k, v) → ∃ en : MapEntry, ents[j]? = some en ∧ Conc M k en.key ∧ Conc M v en.val) → mfind lk x es i = some r →
      (r = none ∧ Instr.findNow d ux ents i = some none) ∨ ∃ j v u, r = some (i + j, v) ∧ Instr.findNow d ux ents i = some (some (i + j, u)) ∧ Conc M v u ∧
        ∃ k en, es[j]? = some (k, v) ∧ ents[j]? = some en ∧ AV.eqK lk x k = some true ∧ Conc M k en.key
  | [], [], i, r, _, _, h => by simp only [mfind] at h; cases h; exact .inl ⟨rfl, rfl⟩
  | [], _ :: _, _, _, hl, _, _ => by simp at hl
  | _ :: _, [], _, _, hl, _, _ => by simp at hl
  | (k, v) :: es, en :: ents, i, r, hl, hp, h => by
    obtain ⟨en', h0, hk, hv⟩ := hp 0 k v (by simp)
    simp at h0; subst h0
    simp only [mfind] at h
    split at h
    · rename_i he
      cases h
      have := sameNow_ok hd hx hk he
      exact .inr ⟨0, v, en.val, rfl, by simp [Instr.findNow, this], hv, k, en, by simp, by simp, he, hk⟩
    · rename_i he
      have := sameNow_ok hd hx hk he
      rcases findNow_ok hd hx (es := es) (ents := ents) (by simpa using hl) (fun j k v hj => hp (j + 1) k v (by simpa using hj)) h with ⟨rfl, q⟩ | ⟨j, v', u, rfl, q, qc, k', en', q1, q2, q3⟩
      · exact .inl ⟨rfl, by simp [Instr.findNow, this, q]⟩
      · refine .inr ⟨j + 1, v', u, by rw [show i + 1 + j = i + (j + 1) by omega], ?_, qc, k', en', by simpa using q1, by simpa using q2, q3⟩
        simp only [Instr.findNow, this]
        rw [q, show i + 1 + j = i + (j + 1) by omega]
    · cases h

theorem findKey_ok {kt : TypeId} {lk : LK} (hk : keyOk P kt = some lk) {x : AV} {ux : Value} (hx : Conc M x ux) {es : List (AV × AV)} {ents : Array MapEntry} (hl : ents.size = es.length)
    (hp : ∀ (j : Nat) (k v : AV), es[j]? = some (k, v) → ∃ en : MapEntry, ents[j]? = some en ∧ Conc M k en.key ∧ Conc M v en.val) {r : Option (Nat × AV)} (h : mfind lk x es 0 = some r) :
    (r = none ∧ (Instr.findKey kt ux ents.toList).run P w = .ok none w) ∨ ∃ j v u, r = some (j, v) ∧ (Instr.findKey kt ux ents.toList).run P w = .ok (some (j, u)) w ∧ Conc M v u ∧
        ∃ k en, es[j]? = some (k, v) ∧ ents[j]? = some en ∧ AV.eqK lk x k = some true ∧ Conc M k en.key := by
  obtain ⟨d, hu, hd⟩ := keyOk_kind hk
  rcases findNow_ok hd hx (es := es) (ents := ents.toList) (by simpa using hl) (by simpa using hp) h with ⟨rfl, q⟩ | ⟨j, v, u, rfl, q, qc, k, en, q1, q2, q3⟩
  · exact .inl ⟨rfl, by simp [Instr.findKey, run_underlying hu, q]⟩
  · refine .inr ⟨j, v, u, by simp, by simp [Instr.findKey, run_underlying hu, q], qc, k, en, q1, by simpa using q2, q3⟩

theorem lookup_ok (S : Sim w.heap M F A) {t kt el : TypeId} {lk : LK} {z : AV} (hu : P.underlying t = some (.map kt el)) (hk : keyOk P kt = some lk) (hz : zeroOf P el = some z) {ok : Bool} {m k v : AV} {um uk : Value}
    (hm : Conc M m um) (hkc : Conc M k uk)
    (h : alookup A lk z ok m k = some v) : ∃ u, (Instr.lookup t um uk ok).run P w = .ok u w ∧ Conc M v u := by
  obtain ⟨uz, hz1, hz2⟩ := run_zeroOf (P := P) w hz M
  obtain ⟨d, hkd, hkk⟩ := keyOk_kind hk
  have fin : ∀ (x : AV) (ux : Value) (b : Bool), Conc M x ux → Conc M (bif ok then .tup [x, .bool b] else x) (if ok then .tuple #[ux, .bool b] else ux) := by
    intro x ux b hx
    cases ok
    · simpa using hx
    · simp only [if_true, cond_true]; exact .tup (.cons hx (.cons (.bool _) .nil))
  cases m <;> simp only [alookup] at h <;> first | (cases h; done) | skip
  case nilm =>
    cases h
    cases hm
    refine ⟨_, ?_, fin z uz false hz2⟩
    have hc := checkKey_ok' (P := P) (w := w) hk true uk
    simp [Instr.lookup, run_underlying hu, hc, Instr.findKey, hkd, run_underlying hkd, Instr.findNow, hz1]
  case mp l =>
    split at h
    · rename_i es hA
      cases hm with
      | mp hD =>
        obtain ⟨-, hF, ents, clock, g1, g2, g3, g4⟩ := S.holds l _ hA
        have hg : (getObj (M.blk l)).run P w = .ok (.map ents clock) w := by simp [getObj, Sem.run, g1]
        have hc := checkKey_ok' (P := P) (w := w) hk ents.isEmpty uk
        split at h
        · rename_i j v' hf
          cases h
          rcases findKey_ok (P := P) (w := w) hk hkc g2 g3 hf with ⟨hh, -⟩ | ⟨j', v2, u, hh, q, qc, -⟩
          · cases hh
          · cases hh
            refine ⟨_, ?_, fin _ u true qc⟩
            simp [Instr.lookup, run_underlying hu, hg, hc, q]
        · rename_i hf
          cases h
          rcases findKey_ok (P := P) (w := w) hk hkc g2 g3 hf with ⟨-, q⟩ | ⟨j', v2, u, hh, q, qc, -⟩
          · refine ⟨_, ?_, fin z uz false hz2⟩
            simp [Instr.lookup, run_underlying hu, hg, hc, q, hz1]
          · cases hh
        · cases h
    · cases h

theorem rstep_ok (S : Sim w.heap M F A) {o : Oper} {io : IOp} (hc : cop P o = some io) {v : AV} (hs : rstep ρ A io = some v) (hρ : ConcL M ρ a.tmps.toList) : Quiet P M a w o v := by
  obtain ⟨dst, op, type, pos, after, guard⟩ := o
  cases op with
  | load t x =>
    simp only [cop] at hc
    split at hc
    · rename_i n y hn hy
      cases hc
      have e := copd_ok hy hρ
      simp only [rstep] at hs
      have hA : ∃ k r, rdN A (y.get ρ) k = some r := by
        cases n with
        | none =>
          simp only [aload] at hs
          split at hs
          · exact ⟨_, _, ‹_›⟩
          · cases hs
        | some n =>
          simp only [aload] at hs
          split at hs
          · exact ⟨_, _, ‹_›⟩
          · cases hs
      obtain ⟨k, r, hr⟩ := hA
      obtain ⟨⟨ad, had⟩, -, -⟩ := rdN_addr hr e
      rw [had] at e
      obtain ⟨u, h1, h2⟩ := loadVar_ok (P := P) S hn e (v := v) hs
      refine ⟨u, ?_, h2⟩
      simp [execOp, Instr.loadAt, had, Instr.sureAddr, h1]
    · cases hc
  | lookup t m k ok =>
    simp only [cop] at hc
    split at hc
    · rename_i kt el hu
      split at hc
      · rename_i lk z m' k' hk hz hm hkk
        cases hc
        simp only [rstep] at hs
        obtain ⟨u, h1, h2⟩ := lookup_ok (P := P) S hu hk hz (copd_ok hm hρ) (copd_ok hkk hρ) hs
        exact quiet_of w rfl h1 h2
      · cases hc
    · cases hc
  | call c =>
    obtain ⟨callee, args, argTypes⟩ := c
    cases callee with
    | value f =>
      simp only [cop] at hc
      split at hc
      · cases hc; simp [rstep] at hs
      · cases hc
    | invoke r m => simp [cop] at hc
    | builtin b =>
      cases b with
      | len =>
        simp only [cop] at hc
        split at hc
        · rename_i t ht
          split at hc
          · obtain ⟨y, hy, rfl⟩ := opt_map hc; simp [rstep] at hs
          · obtain ⟨y, hy, rfl⟩ := opt_map hc; simp [rstep] at hs
          · cases hc; simp [rstep] at hs
          · rename_i kt el x hu hx
            obtain ⟨y, hy, rfl⟩ := opt_map hc
            simp only [rstep] at hs
            have e := copd_ok hy hρ
            have ha : args.map a.eval = #[a.eval x] := by apply Array.ext'; simp [hx]
            generalize he : a.eval x = ux at e
            generalize y.get ρ = ay at e hs
            cases e <;> simp only [alenm] at hs <;> first | (cases hs; done) | skip
            · cases hs
              refine ⟨.int .i64 0, ?_, .int _ _⟩
              simp [execOp, resolve, invoke, builtin, ha, Builtin.len_, ht, run_underlying hu, goInt, he]
            · rename_i l hD
              split at hs
              · rename_i es hA
                cases hs
                obtain ⟨-, hF, ents, clock, g1, g2, g3, g4⟩ := S.holds l _ hA
                have hg : (getObj (M.blk l)).run P w = .ok (.map ents clock) w := by simp [getObj, Sem.run, g1]
                refine ⟨.int .i64 es.length, ?_, .int _ _⟩
                simp [execOp, resolve, invoke, builtin, ha, Builtin.len_, ht, run_underlying hu, goInt, he, hg, g2]
              · cases hs
          · cases hc
        · cases hc
      | min => obtain ⟨y, hy, rfl⟩ := opt_map hc; simp [rstep] at hs
      | max => obtain ⟨y, hy, rfl⟩ := opt_map hc; simp [rstep] at hs
      | append | copy | delete | clear =>
        simp only [cop] at hc
        repeat' (split at hc)
        all_goals first | (cases hc; done) | (cases hc; simp [rstep] at hs)
      | _ => simp [cop] at hc
  | makeFunc f x y =>
    cases f with
    | func f =>
      simp only [cop] at hc
      split at hc
      · cases hc; simp [rstep] at hs
      · cases hc
    | _ => simp [cop] at hc
  | _ =>
    first
    | (simp [cop] at hc; done)
    | (simp only [cop] at hc
       repeat' (split at hc)
       all_goals first | (cases hc; done) | (cases hc; simp [rstep] at hs; done) | (obtain ⟨y, hy, rfl⟩ := opt_map hc; simp [rstep] at hs))
end
end Go.SB
end

/- Framework, part K: operations that write or make memory, the plain ones. -/
section
set_option linter.unusedVariables false
set_option linter.unusedSimpArgs false
namespace Go.SB
section
variable {P : Program} {M : Mod} {F : Nat → Nat → Prop} {A : AHeap} {ρ : List AV} {a : Act} {w : World}

/-- What a step that writes leaves. -/
def Wrote (P : Program) (M : Mod) (F : Nat → Nat → Prop) (A : AHeap) (a : Act) (w : World) (o : Oper) (v : AV) (A' : AHeap) : Prop :=
  ∃ nx w' M' F' u, (execOp a.eval o).run P w = .ok nx w' ∧ (nx = .value u ∨ (nx = .skip ∧ u = undef)) ∧ Conc M' v u ∧ Sim w'.heap M' F' A' ∧ Ext w M F A w' M' F' A'

theorem unfrozen0 (c : Array Value) : Unfrozen c (0, 0) := fun i hi h => by have := h.2; simp at this

/-- A new row of cells. -/
theorem new_cells (S : Sim w.heap M F A) {p : Nat} (hp : A[p]? = some none) {cs : List AV} {us : Array Value} (hL : cs ≠ [] → ConcL M cs us.toList) (t : TypeId) :
    ∃ M' F', (newRow t us).run P w = .ok ⟨w.heap.size, 0, none⟩ (w.alloc (.cells us t)) ∧ Conc M' (.ptr p 0) (.pointer (some ⟨w.heap.size, 0, none⟩)) ∧
      Sim (w.alloc (.cells us t)).heap M' F' (A.set p (some (.cells cs))) ∧ Ext w M F A (w.alloc (.cells us t)) M' F' (A.set p (some (.cells cs))) := by
  have hn := S.notD hp
  obtain ⟨S', E'⟩ := S.alloc hp (w' := w.alloc (.cells us t)) (ob := .cells us t) rfl rfl rfl rfl us.size 1 (o := .cells cs) (by
    refine ⟨fun b => by simp [Mod.put], ?_⟩
    by_cases hc : cs = []
    · subst hc
      exact ⟨us, t, (0, 0), [], by simp only [Mod.put, if_true]; exact heap_alloc_new w _, unfrozen0 us, by simp [Mod.put], .nil, by simp⟩
    · refine ⟨us, t, (0, 0), us.toList, by simp only [Mod.put, if_true]; exact heap_alloc_new w _, unfrozen0 us, by simp [Mod.put], (hL hc).mono (Mod.le_put hn _ _ _ _), ?_⟩
      intro j u hu
      rw [Array.getElem?_toList] at hu
      simpa [Mod.put] using hu)
  refine ⟨_, _, ?_, ?_, S', E'⟩
  · simp [newRow]
  · have := Conc.ptr (M := M.put p w.heap.size 0 us.size 1) (l := p) (off := 0) (.inr rfl)
    simpa [Mod.put] using this

/-- One location's object is turned, by a change of its own blocks; the world's other parts as they were. -/
theorem Sim.setObj (S : Sim w.heap M F A) {l : Nat} {es es' : List (AV × AV)} (hA : A[l]? = some (some (.map es))) {ents' : Array MapEntry} {clock' : Nat}
    (h2 : ents'.size = es'.length) (h3 : ∀ (i : Nat) (k v : AV), es'[i]? = some (k, v) → ∃ en : MapEntry, ents'[i]? = some en ∧ Conc M k en.key ∧ Conc M v en.val) (h4 : ∀ (i : Nat) (en : MapEntry), ents'[i]? = some en → en.born < clock') :
    ∃ w', (setObj (M.blk l) (.map ents' clock')).run P w = .ok () w' ∧ Sim w'.heap M F (A.set l (some (.map es'))) ∧ Ext w M F A w' M F (A.set l (some (.map es'))) := by
  obtain ⟨hD, hF, ents, clock, g1, g2, g3, g4⟩ := S.holds l _ hA
  have hb : M.blk l < w.heap.size := by
    rcases Nat.lt_or_ge (M.blk l) w.heap.size with h | h
    · exact h
    · rw [Array.getElem?_eq_none h] at g1; cases g1
  refine ⟨{ w with heap := w.heap.setIfInBounds (M.blk l) (.map ents' clock') }, ?_, ?_⟩
  · simp [Go.setObj, Sem.run, g1]
  · refine S.update (w' := { w with heap := w.heap.setIfInBounds (M.blk l) (.map ents' clock') }) hA rfl rfl rfl (by simp) ?_ ?_
    · intro b hb'
      simp only
      rw [Array.getElem?_setIfInBounds_ne]
      exact fun e => hb' ((hF b).2 e.symm)
    · refine ⟨hF, ents', clock', ?_, h2, h3, h4⟩
      simp [hb]

theorem eqK_key {lk : LK} {x k : AV} {ux uk : Value} (hx : Conc M x ux) (hk : Conc M k uk) (h : AV.eqK lk x k = some true) : ux = uk := by
  unfold AV.eqK at h
  split at h
  · split at h
    · rename_i e; subst e
      simp only [Option.some.injEq, beq_iff_eq] at h
      rw [conc_int hx, conc_int hk, h]
    · cases h
  · simp only [Option.some.injEq, beq_iff_eq] at h
    rw [conc_bool hx, conc_bool hk, h]
  · simp only [Option.some.injEq, beq_iff_eq] at h
    rw [conc_str hx, conc_str hk, h]
  · cases h

theorem sameBits_key {lk : LK} {x k : AV} {ux uk : Value} (hx : Conc M x ux) (hk : Conc M k uk) (h : AV.eqK lk x k = some true) (n : Nat) : Instr.sameBits (n + 1) uk ux = true := by
  have e := eqK_key hx hk h
  subst e
  unfold AV.eqK at h
  split at h
  · rw [conc_int hx]; simp [Instr.sameBits]
  · rw [conc_bool hx]; simp [Instr.sameBits]
  · rw [conc_str hx]; simp [Instr.sameBits, beq_toListBytes]
  · cases h

theorem mset_ok (S : Sim w.heap M F A) {t kt el : TypeId} {lk : LK} (hu : P.underlying t = some (.map kt el)) (hk : keyOk P kt = some lk) {m k v : AV} {um uk uv : Value}
    (hm : Conc M m um) (hkc : Conc M k uk) (hv : Conc M v uv) {A' : AHeap} (h : amset A lk m k v = some A') :
    ∃ w', (Instr.mapUpdate t um uk uv).run P w = .ok () w' ∧ Sim w'.heap M F A' ∧ Ext w M F A w' M F A' := by
  cases m <;> simp only [amset] at h <;> first | (cases h; done) | skip
  rename_i l
  split at h
  · rename_i es hA
    cases hm with
    | mp hD =>
      obtain ⟨-, hF, ents, clock, g1, g2, g3, g4⟩ := S.holds l _ hA
      have hg : (getObj (M.blk l)).run P w = .ok (.map ents clock) w := by simp [getObj, Sem.run, g1]
      have hck := checkKey_ok' (P := P) (w := w) hk false uk
      split at h
      · rename_i i v' hf
        cases h
        rcases findKey_ok (P := P) (w := w) hk hkc g2 g3 hf with ⟨hh, -⟩ | ⟨j', v2, u, hh, q, qc, k', en, q1, q2, q3, q4⟩
        · cases hh
        · cases hh
          obtain ⟨w', r1, r2, r3⟩ := S.setObj (P := P) hA (es' := es.set i (k, v)) (ents' := ents.modify i fun e => { e with key := uk, val := uv }) (clock' := clock) (by simp [g2]) (by
            intro j kj vj hj
            by_cases e : i = j
            · subst e
              have hlt : i < es.length := by
                rcases Nat.lt_or_ge i es.length with h | h
                · exact h
                · rw [List.getElem?_eq_none h] at q1; cases q1
              rw [List.getElem?_set_self hlt] at hj
              cases hj
              exact ⟨{ en with key := uk, val := uv }, by simp [Array.getElem?_modify, q2], hkc, hv⟩
            · rw [List.getElem?_set_ne e] at hj
              obtain ⟨en', z1, z2, z3⟩ := g3 j kj vj hj
              exact ⟨en', by simp [Array.getElem?_modify, e, z1], z2, z3⟩) (by
            intro j e' hj
            rw [Array.getElem?_modify] at hj
            split at hj
            · rw [Option.map_eq_some_iff] at hj
              obtain ⟨e0, z1, rfl⟩ := hj
              exact g4 j e0 z1
            · exact g4 j e' hj)
          refine ⟨w', ?_, r2, r3⟩
          have hst : (Instr.keyThatStays en.key uk).run P w = .ok uk w := by
            have := sameBits_key hkc q4 q3 9999
            simp [Instr.keyThatStays, this]
          simp [Instr.mapUpdate, run_underlying hu, hg, hck, q, q2, hst, r1]
      · rename_i hf
        cases h
        rcases findKey_ok (P := P) (w := w) hk hkc g2 g3 hf with ⟨-, q⟩ | ⟨j', v2, u, hh, -⟩
        · obtain ⟨w', r1, r2, r3⟩ := S.setObj (P := P) hA (es' := es ++ [(k, v)]) (ents' := ents.push { key := uk, val := uv, born := clock }) (clock' := clock + 1) (by simp [g2]) (by
            intro j kj vj hj
            rw [List.getElem?_append] at hj
            split at hj
            · rename_i hlt
              obtain ⟨en', z1, z2, z3⟩ := g3 j kj vj hj
              exact ⟨en', by rw [Array.getElem?_push, if_neg (by omega)]; exact z1, z2, z3⟩
            · rename_i hge
              rw [List.getElem?_singleton] at hj
              split at hj
              · cases hj
                have : j = ents.size := by omega
                subst this
                exact ⟨_, by rw [Array.getElem?_push, if_pos rfl], hkc, hv⟩
              · cases hj) (by
            intro j e' hj
            rw [Array.getElem?_push] at hj
            split at hj
            · cases hj; exact Nat.lt_succ_self _
            · exact Nat.lt_succ_of_lt (g4 j e' hj))
          refine ⟨w', ?_, r2, r3⟩
          simp [Instr.mapUpdate, run_underlying hu, hg, hck, q, r1]
        · cases hh
      · cases h
  · cases h

theorem set_self {l : Nat} {o : Option AO} (h : A[l]? = some o) : A.set l o = A := by
  apply List.ext_getElem?; intro k
  by_cases e : l = k
  · subst e; rw [List.getElem?_set_self', h]; simp
  · rw [List.getElem?_set_ne e]

theorem del_ok (S : Sim w.heap M F A) {t kt el : TypeId} {lk : LK} (hu : P.underlying t = some (.map kt el)) (hk : keyOk P kt = some lk) {m k : AV} {um uk : Value} {ts : Array TypeId} {ty : TypeId}
    (h0 : ts[0]? = some t) (hm : Conc M m um) (hkc : Conc M k uk) {A' : AHeap} (h : amdel A lk m k = some A') :
    ∃ w' , (Builtin.delete_ ts ty #[um, uk]).run P w = .ok (.tuple #[]) w' ∧ Sim w'.heap M F A' ∧ Ext w M F A w' M F A' := by
  cases m <;> simp only [amdel] at h <;> first | (cases h; done) | skip
  case nilm =>
    cases h; cases hm
    have hck := checkKey_ok' (P := P) (w := w) hk true uk
    exact ⟨w, by simp [Builtin.delete_, h0, run_underlying hu, hck], S, .refl _ _ _ _⟩
  case mp l =>
    split at h
    · rename_i es hA
      cases hm with
      | mp hD =>
        obtain ⟨-, hF, ents, clock, g1, g2, g3, g4⟩ := S.holds l _ hA
        have hg : (getObj (M.blk l)).run P w = .ok (.map ents clock) w := by simp [getObj, Sem.run, g1]
        have hck := checkKey_ok' (P := P) (w := w) hk ents.isEmpty uk
        split at h
        · rename_i i v' hf
          cases h
          rcases findKey_ok (P := P) (w := w) hk hkc g2 g3 hf with ⟨hh, -⟩ | ⟨j', v2, u, hh, q, qc, k', en, q1, q2, q3, q4⟩
          · cases hh
          · cases hh
            have hlt : i < es.length := by
              rcases Nat.lt_or_ge i es.length with h | h
              · exact h
              · rw [List.getElem?_eq_none h] at q1; cases q1
            have hlist : (ents.eraseIdxIfInBounds i).toList = ents.toList.eraseIdx i := by simp [Array.eraseIdxIfInBounds, show i < ents.size by omega]
            obtain ⟨w', r1, r2, r3⟩ := S.setObj (P := P) hA (es' := es.eraseIdx i) (ents' := ents.eraseIdxIfInBounds i) (clock' := clock) (by
                have : (ents.eraseIdxIfInBounds i).toList.length = (es.eraseIdx i).length := by
                  rw [hlist, List.length_eraseIdx, List.length_eraseIdx, Array.length_toList, g2]
                rw [← Array.length_toList]; exact this) (by
              intro j kj vj hj
              have get : ∀ j, (ents.eraseIdxIfInBounds i)[j]? = if j < i then ents[j]? else ents[j + 1]? := by
                intro j
                rw [← Array.getElem?_toList, hlist, List.getElem?_eraseIdx]
                simp
              rw [List.getElem?_eraseIdx] at hj
              rw [get]
              split at hj
              · rename_i hji; rw [if_pos hji]; exact g3 j kj vj hj
              · rename_i hji; rw [if_neg hji]; exact g3 (j + 1) kj vj hj) (by
              intro j e' hj
              have get : (ents.eraseIdxIfInBounds i)[j]? = if j < i then ents[j]? else ents[j + 1]? := by
                rw [← Array.getElem?_toList, hlist, List.getElem?_eraseIdx]
                simp
              rw [get] at hj
              split at hj
              · exact g4 _ e' hj
              · exact g4 _ e' hj)
            refine ⟨w', ?_, r2, r3⟩
            simp [Builtin.delete_, h0, run_underlying hu, hg, hck, q, r1]
        · rename_i hf
          cases h
          rcases findKey_ok (P := P) (w := w) hk hkc g2 g3 hf with ⟨-, q⟩ | ⟨j', v2, u, hh, -⟩
          · obtain ⟨w', r1, r2, r3⟩ := S.setObj (P := P) hA (es' := es) (ents' := ents) (clock' := clock) g2 g3 g4
            rw [set_self hA] at r2 r3
            refine ⟨w', ?_, r2, r3⟩
            simp [Builtin.delete_, h0, run_underlying hu, hg, hck, q, r1]
          · cases hh
        · cases h
    · cases h

theorem clr_ok (S : Sim w.heap M F A) {t kt el : TypeId} (hu : P.underlying t = some (.map kt el)) {m : AV} {um : Value} {ts : Array TypeId} {ty : TypeId}
    (h0 : ts[0]? = some t) (hm : Conc M m um) {A' : AHeap} (h : amclr A m = some A') :
    ∃ w' , (Builtin.clear_ ts ty #[um]).run P w = .ok (.tuple #[]) w' ∧ Sim w'.heap M F A' ∧ Ext w M F A w' M F A' := by
  cases m <;> simp only [amclr] at h <;> first | (cases h; done) | skip
  case nilm =>
    cases h; cases hm
    exact ⟨w, by simp [Builtin.clear_, h0, run_underlying hu], S, .refl _ _ _ _⟩
  case mp l =>
    split at h
    · rename_i es hA
      cases h
      cases hm with
      | mp hD =>
        obtain ⟨-, hF, ents, clock, g1, g2, g3, g4⟩ := S.holds l _ hA
        have hg : (getObj (M.blk l)).run P w = .ok (.map ents clock) w := by simp [getObj, Sem.run, g1]
        obtain ⟨w', r1, r2, r3⟩ := S.setObj (P := P) hA (es' := []) (ents' := #[]) (clock' := clock) rfl (by simp) (by simp)
        exact ⟨w', by simp [Builtin.clear_, h0, run_underlying hu, hg, r1], r2, r3⟩
    · cases h
end
end Go.SB
end
