/- Framework, part A: abstract values, abstract heaps, their meaning in a real heap. Conditions: none. -/
import Derived.Calls
import Derived.Orders
import Derived.WalkKit
set_option linter.unusedVariables false
namespace Go.SB

/-- Abstract values: scalars as they are; addresses by small location numbers. -/
inductive AV where
  | int (k : IntKind) (n : Int)
  | bool (b : Bool)
  | str (s : List UInt8)
  | nilp | nils | nilm | nilf | nili
  | ptr (l off : Nat)
  | eptr (l i off : Nat)
  | pp (cs : List AV)
  | sl (l sz lo len : Nat) (tight : Bool)
  | es
  | ps (sz : Nat) (elems : List (List AV))
  | mp (l : Nat)
  | fn (f : FuncId) (first captured : List AV)
  | ifc (t : TypeId) (x : AV)
  | agg (cs : List AV)
  | tup (vs : List AV)
  | raw (v : Value)
  | any
  deriving Inhabited

/-- What location numbers stand for: block, first cell, number of cells of the block, cells of an element; D: which are laid; I: blocks that are never written. -/
structure Mod where
  D : Nat → Prop
  blk : Nat → Nat
  base : Nat → Nat
  room : Nat → Nat
  sz : Nat → Nat
  I : Nat → Option (Array Value)

structure Mod.Le (M M' : Mod) : Prop where
  D : ∀ l, M.D l → M'.D l
  blk : ∀ l, M.D l → M'.blk l = M.blk l
  base : ∀ l, M.D l → M'.base l = M.base l
  room : ∀ l, M.D l → M'.room l = M.room l
  sz : ∀ l, M.D l → M'.sz l = M.sz l
  I : ∀ b c, M.I b = some c → M'.I b = some c

theorem Mod.Le.refl (M : Mod) : M.Le M := ⟨fun _ h => h, fun _ _ => rfl, fun _ _ => rfl, fun _ _ => rfl, fun _ _ => rfl, fun _ _ h => h⟩
theorem Mod.Le.trans {A B C : Mod} (h : A.Le B) (k : B.Le C) : A.Le C :=
  ⟨fun l d => k.D l (h.D l d), fun l d => (k.blk l (h.D l d)).trans (h.blk l d), fun l d => (k.base l (h.D l d)).trans (h.base l d),
   fun l d => (k.room l (h.D l d)).trans (h.room l d), fun l d => (k.sz l (h.D l d)).trans (h.sz l d), fun b c e => k.I b c (h.I b c e)⟩

mutual
/-- 'u is what v stands for'. -/
inductive Conc (M : Mod) : AV → Value → Prop
  | int (k : IntKind) (n : Int) : Conc M (.int k n) (.int k n)
  | bool (b : Bool) : Conc M (.bool b) (.bool b)
  | str (s : List UInt8) : Conc M (.str s) (.string ⟨s.toArray⟩)
  | nilp : Conc M .nilp (.pointer none)
  | nils : Conc M .nils (.slice none 0 0)
  | nilm : Conc M .nilm (.map none)
  | nilf : Conc M .nilf .nilFunc
  | nili : Conc M .nili .nilIface
  | ptr {l off : Nat} (h : M.D l) : Conc M (.ptr l off) (.pointer (some ⟨M.blk l, M.base l + off, none⟩))
  | eptr {l i off : Nat} (h : M.D l) : Conc M (.eptr l i off) (.pointer (some ⟨M.blk l, M.base l + i * M.sz l + off, none⟩))
  | pp {cs : List AV} {us : List Value} {c : Array Value} {b o : Nat} (hI : M.I b = some c) (hr : ∀ j u, us[j]? = some u → c[o + j]? = some u)
      (hL : ConcL M cs us) : Conc M (.pp cs) (.pointer (some ⟨b, o, none⟩))
  | sl {l sz lo len cap : Nat} {tight : Bool} (h : M.D l) (hs : M.sz l = sz) (hc : len ≤ cap) (ht : tight = true → cap = len) (hr : M.base l + (lo + cap) * sz ≤ M.room l) :
      Conc M (.sl l sz lo len tight) (.slice (some ⟨M.blk l, M.base l + lo * sz, none⟩) len cap)
  | sl0 {l sz lo : Nat} {tight : Bool} {a : Addr} (h : M.D l) (hs : M.sz l = sz) : Conc M (.sl l sz lo 0 tight) (.slice (some a) 0 0)
  | es (a : Addr) : Conc M .es (.slice (some a) 0 0)
  | ps {sz : Nat} {elems : List (List AV)} {uss : Nat → List Value} {c : Array Value} {b o cap : Nat} (hI : M.I b = some c) (hc : elems.length ≤ cap)
      (hr : ∀ i j u, i < elems.length → (uss i)[j]? = some u → c[o + i * sz + j]? = some u)
      (hL : ∀ i e, elems[i]? = some e → ConcL M e (uss i)) : Conc M (.ps sz elems) (.slice (some ⟨b, o, none⟩) elems.length cap)
  | ps0 {sz : Nat} {a : Option Addr} {cap : Nat} : Conc M (.ps sz []) (.slice a 0 cap)
  | mp {l : Nat} (h : M.D l) : Conc M (.mp l) (.map (some (M.blk l)))
  | fn {f : FuncId} {first captured : List AV} {us vs : Array Value} (h₁ : ConcL M first us.toList) (h₂ : ConcL M captured vs.toList) :
      Conc M (.fn f first captured) (.func (.func f) us vs)
  | ifc {t : TypeId} {x : AV} {v : Value} (h : Conc M x v) : Conc M (.ifc t x) (.iface t v)
  | agg {cs : List AV} {us : Array Value} (h : ConcL M cs us.toList) : Conc M (.agg cs) (.agg us)
  | tup {cs : List AV} {us : Array Value} (h : ConcL M cs us.toList) : Conc M (.tup cs) (.tuple us)
  | raw (v : Value) (h : v.oneCell' = true) : Conc M (.raw v) v
  | any (v : Value) : Conc M .any v
inductive ConcL (M : Mod) : List AV → List Value → Prop
  | nil : ConcL M [] []
  | cons {a : AV} {as : List AV} {u : Value} {us : List Value} (h : Conc M a u) (t : ConcL M as us) : ConcL M (a :: as) (u :: us)
end

mutual
theorem Conc.mono {M M' : Mod} (hm : M.Le M') : ∀ {a : AV} {u : Value}, Conc M a u → Conc M' a u
  | _, _, .int k n => .int k n
  | _, _, .bool b => .bool b
  | _, _, .str s => .str s
  | _, _, .nilp => .nilp
  | _, _, .nils => .nils
  | _, _, .nilm => .nilm
  | _, _, .nilf => .nilf
  | _, _, .nili => .nili
  | _, _, .ptr h => by rw [← hm.blk _ h, ← hm.base _ h]; exact .ptr (hm.D _ h)
  | _, _, .eptr h => by rw [← hm.blk _ h, ← hm.base _ h, ← hm.sz _ h]; exact .eptr (hm.D _ h)
  | _, _, .pp hI hr hL => .pp (hm.I _ _ hI) hr (ConcL.mono hm hL)
  | _, _, .sl h hs hc ht hr => by
    rw [← hm.blk _ h, ← hm.base _ h]
    exact .sl (hm.D _ h) ((hm.sz _ h).trans hs) hc ht (by rw [hm.base _ h, hm.room _ h]; exact hr)
  | _, _, .sl0 h hs => .sl0 (hm.D _ h) ((hm.sz _ h).trans hs)
  | _, _, .es a => .es a
  | _, _, .ps hI hc hr hL => .ps (hm.I _ _ hI) hc hr (fun i e he => ConcL.mono hm (hL i e he))
  | _, _, .ps0 => .ps0
  | _, _, .mp h => by rw [← hm.blk _ h]; exact .mp (hm.D _ h)
  | _, _, .fn h₁ h₂ => .fn (ConcL.mono hm h₁) (ConcL.mono hm h₂)
  | _, _, .ifc h => .ifc (Conc.mono hm h)
  | _, _, .agg h => .agg (ConcL.mono hm h)
  | _, _, .tup h => .tup (ConcL.mono hm h)
  | _, _, .raw v h => .raw v h
  | _, _, .any v => .any v
theorem ConcL.mono {M M' : Mod} (hm : M.Le M') : ∀ {as : List AV} {us : List Value}, ConcL M as us → ConcL M' as us
  | _, _, .nil => .nil
  | _, _, .cons h t => .cons (Conc.mono hm h) (ConcL.mono hm t)
end

theorem ConcL.length {M : Mod} : ∀ {as : List AV} {us : List Value}, ConcL M as us → us.length = as.length
  | _, _, .nil => rfl
  | _, _, .cons _ t => by simp [ConcL.length t]

theorem ConcL.get {M : Mod} : ∀ {as : List AV} {us : List Value}, ConcL M as us → ∀ {i : Nat} {a : AV}, as[i]? = some a → ∃ u, us[i]? = some u ∧ Conc M a u
  | _, _, .nil, i, a, h => by simp at h
  | _, _, .cons (u := u) h t, 0, a, e => by simp at e; subst e; exact ⟨u, by simp, h⟩
  | _, _, .cons h t, i + 1, a, e => by simp at e; simpa using ConcL.get t e

theorem ConcL.of_get {M : Mod} : ∀ {as : List AV} {us : List Value}, us.length = as.length → (∀ (i : Nat) (a : AV) (u : Value), as[i]? = some a → us[i]? = some u → Conc M a u) → ConcL M as us
  | [], [], _, _ => .nil
  | [], _ :: _, h, _ => by simp at h
  | _ :: _, [], h, _ => by simp at h
  | a :: as, u :: us, hl, h => .cons (h 0 a u (by simp) (by simp)) (ConcL.of_get (by simpa using hl) fun i a' u' ha hu => h (i + 1) a' u' (by simpa using ha) (by simpa using hu))

theorem ConcL.set {M : Mod} {as : List AV} {us : List Value} (h : ConcL M as us) {a : AV} {u : Value} (hu : Conc M a u) (i : Nat) : ConcL M (as.set i a) (us.set i u) := by
  refine ConcL.of_get (by simp [h.length]) ?_
  intro j a' u' ha hu'
  by_cases e : i = j
  · subst e
    rw [List.getElem?_set_self'] at ha hu'
    cases h1 : as[i]? with
    | none => simp [h1] at ha
    | some a0 =>
      cases h2 : us[i]? with
      | none => simp [h2] at hu'
      | some u0 => simp [h1] at ha; simp [h2] at hu'; subst ha; subst hu'; exact hu
  · rw [List.getElem?_set_ne e] at ha hu'
    obtain ⟨u0, h0, hc⟩ := h.get ha
    rw [h0] at hu'; cases hu'; exact hc

theorem ConcL.append {M : Mod} : ∀ {as : List AV} {us : List Value}, ConcL M as us → ∀ {bs : List AV} {vs : List Value}, ConcL M bs vs → ConcL M (as ++ bs) (us ++ vs)
  | _, _, .nil, _, _, k => k
  | _, _, .cons h t, _, _, k => .cons h (t.append k)

theorem ConcL.take {M : Mod} : ∀ {as : List AV} {us : List Value}, ConcL M as us → ∀ n, ConcL M (as.take n) (us.take n)
  | _, _, .nil, n => by simpa using ConcL.nil
  | _, _, .cons h t, 0 => by simpa using ConcL.nil
  | _, _, .cons h t, n + 1 => by simpa using .cons h (t.take n)

theorem ConcL.drop {M : Mod} : ∀ {as : List AV} {us : List Value}, ConcL M as us → ∀ n, ConcL M (as.drop n) (us.drop n)
  | _, _, .nil, n => by simpa using ConcL.nil
  | _, _, .cons h t, 0 => by simpa using .cons h t
  | _, _, .cons h t, n + 1 => by simpa using t.drop n

theorem ConcL.replicate {M : Mod} {a : AV} {u : Value} (h : Conc M a u) : ∀ n, ConcL M (List.replicate n a) (List.replicate n u)
  | 0 => .nil
  | n + 1 => .cons h (ConcL.replicate h n)

/-- An assertion on a piece of the heap: of the blocks of F alone (and of blocks that are never written). -/
structure Assn where
  holds : Array Obj → (Nat → Option (Array Value)) → Nat → Nat → (Nat → Prop) → Prop
  keep : ∀ {h h' : Array Obj} {I I' : Nat → Option (Array Value)} {b o : Nat} {F : Nat → Prop}, holds h I b o F →
    (∀ x, F x → h'[x]? = h[x]?) → (∀ x c, I x = some c → I' x = some c) → holds h' I' b o F

/-- What a location holds. -/
inductive AO where
  | cells (vs : List AV)
  | arr (elems : List (List AV))
  | map (es : List (AV × AV))
  | opq (R : Assn)
  | dead

abbrev AHeap := List (Option AO)

def Unfrozen (c : Array Value) (fr : Nat × Nat) : Prop := ∀ i, i < c.size → ¬ (fr.1 ≤ i ∧ i < fr.2)

def AO.holds (h : Array Obj) (M : Mod) (F : Nat → Prop) (l : Nat) : AO → Prop
  | .cells vs => (∀ b, F b ↔ b = M.blk l) ∧ ∃ (c : Array Value) (e : TypeId) (fr : Nat × Nat) (us : List Value), h[M.blk l]? = some (.cells c e fr) ∧ Unfrozen c fr ∧ c.size = M.room l ∧ ConcL M vs us ∧
      ∀ j u, us[j]? = some u → c[M.base l + j]? = some u
  | .arr elems => (∀ b, F b ↔ b = M.blk l) ∧ ∃ (c : Array Value) (e : TypeId) (fr : Nat × Nat) (uss : Nat → List Value), h[M.blk l]? = some (.cells c e fr) ∧ Unfrozen c fr ∧ c.size = M.room l ∧
      (∀ i ev, elems[i]? = some ev → ConcL M ev (uss i) ∧ ev.length = M.sz l) ∧
      ∀ i j u, i < elems.length → (uss i)[j]? = some u → c[M.base l + i * M.sz l + j]? = some u
  | .map es => (∀ b, F b ↔ b = M.blk l) ∧ ∃ (ents : Array MapEntry) (clock : Nat), h[M.blk l]? = some (.map ents clock) ∧ ents.size = es.length ∧
      (∀ (i : Nat) (k v : AV), es[i]? = some (k, v) → ∃ en : MapEntry, ents[i]? = some en ∧ Conc M k en.key ∧ Conc M v en.val) ∧
      ∀ (i : Nat) (en : MapEntry), ents[i]? = some en → en.born < clock
  | .opq R => R.holds h M.I (M.blk l) (M.base l) F
  | .dead => ∀ b, ¬ F b

theorem AO.keep {h h' : Array Obj} {M M' : Mod} {F : Nat → Prop} {l : Nat} {o : AO} (hh : o.holds h M F l) (hd : M.D l) (hm : M.Le M')
    (hk : ∀ b, F b → h'[b]? = h[b]?) : o.holds h' M' F l := by
  cases o with
  | cells vs =>
    obtain ⟨hF, c, e, fr, us, h1, h2, h3, h4, h5⟩ := hh
    refine ⟨by rw [hm.blk _ hd]; exact hF, c, e, fr, us, ?_, h2, by rw [hm.room _ hd]; exact h3, h4.mono hm, by rw [hm.base _ hd]; exact h5⟩
    rw [hm.blk _ hd, hk _ ((hF _).2 rfl)]; exact h1
  | arr elems =>
    obtain ⟨hF, c, e, fr, uss, h1, h2, h3, h4, h5⟩ := hh
    refine ⟨by rw [hm.blk _ hd]; exact hF, c, e, fr, uss, ?_, h2, by rw [hm.room _ hd]; exact h3, fun i ev he => ⟨(h4 i ev he).1.mono hm, by rw [hm.sz _ hd]; exact (h4 i ev he).2⟩, by rw [hm.base _ hd, hm.sz _ hd]; exact h5⟩
    rw [hm.blk _ hd, hk _ ((hF _).2 rfl)]; exact h1
  | map es =>
    obtain ⟨hF, ents, clock, h1, h2, h3, h4⟩ := hh
    refine ⟨by rw [hm.blk _ hd]; exact hF, ents, clock, ?_, h2, ?_, h4⟩
    · rw [hm.blk _ hd, hk _ ((hF _).2 rfl)]; exact h1
    · intro i k v he
      obtain ⟨en, a, b, c⟩ := h3 i k v he
      exact ⟨en, a, b.mono hm, c.mono hm⟩
  | opq R =>
    show R.holds h' M'.I (M'.blk l) (M'.base l) F
    rw [hm.blk _ hd, hm.base _ hd]
    exact R.keep hh hk hm.I
  | dead => exact hh

/-- 'The real heap h bears the abstract heap A': F l: the blocks that location l owns. -/
structure Sim (h : Array Obj) (M : Mod) (F : Nat → Nat → Prop) (A : AHeap) : Prop where
  holds : ∀ l o, A[l]? = some (some o) → M.D l ∧ o.holds h M (F l) l
  fresh : ∀ l, M.D l → ∃ o, A[l]? = some (some o)
  lt : ∀ l o b, A[l]? = some (some o) → F l b → b < h.size
  disj : ∀ l l' o o' b, A[l]? = some (some o) → A[l']? = some (some o') → F l b → F l' b → l = l'
  imm : ∀ b c, M.I b = some c → ∃ e fr, h[b]? = some (.cells c e fr)
  immNot : ∀ b c l o, M.I b = some c → A[l]? = some (some o) → ¬ F l b

/-- What a step leaves: everything that no location owns is as it was. -/
structure Ext (w : World) (M : Mod) (F : Nat → Nat → Prop) (A : AHeap) (w' : World) (M' : Mod) (F' : Nat → Nat → Prop) (A' : AHeap) : Prop where
  os : w'.os = w.os
  tape : w'.tape = w.tape
  output : w'.output = w.output
  size : w.heap.size ≤ w'.heap.size
  le : M.Le M'
  len : A.length ≤ A'.length
  keep : ∀ b, b < w.heap.size → (∀ l o, A[l]? = some (some o) → ¬ F l b) → w'.heap[b]? = w.heap[b]?
  foot : ∀ l o b, A'[l]? = some (some o) → F' l b → b < w.heap.size → ∃ l0 o0, A[l0]? = some (some o0) ∧ F l0 b
  immFoot : ∀ b c, M'.I b = some c → b < w.heap.size → M.I b = some c ∨ ∃ l0 o0, A[l0]? = some (some o0) ∧ F l0 b

theorem Ext.refl (w : World) (M : Mod) (F : Nat → Nat → Prop) (A : AHeap) : Ext w M F A w M F A :=
  ⟨rfl, rfl, rfl, Nat.le_refl _, .refl M, Nat.le_refl _, fun _ _ _ => rfl, fun l o b h hf _ => ⟨l, o, h, hf⟩, fun _ _ h _ => .inl h⟩

theorem Ext.trans {w w1 w2 : World} {M M1 M2 : Mod} {F F1 F2 : Nat → Nat → Prop} {A A1 A2 : AHeap}
    (h : Ext w M F A w1 M1 F1 A1) (k : Ext w1 M1 F1 A1 w2 M2 F2 A2) : Ext w M F A w2 M2 F2 A2 where
  os := k.os.trans h.os
  tape := k.tape.trans h.tape
  output := k.output.trans h.output
  size := Nat.le_trans h.size k.size
  le := h.le.trans k.le
  len := Nat.le_trans h.len k.len
  keep b hb hn := by
    rw [k.keep b (Nat.lt_of_lt_of_le hb h.size) (fun l o ho hf => ?_), h.keep b hb hn]
    obtain ⟨l0, o0, h0, hf0⟩ := h.foot l o b ho hf hb
    exact hn l0 o0 h0 hf0
  foot l o b ho hf hb := by
    obtain ⟨l1, o1, h1, hf1⟩ := k.foot l o b ho hf (Nat.lt_of_lt_of_le hb h.size)
    exact h.foot l1 o1 b h1 hf1 hb
  immFoot b c hI hb := by
    rcases k.immFoot b c hI (Nat.lt_of_lt_of_le hb h.size) with h1 | ⟨l1, o1, h1, hf1⟩
    · exact h.immFoot b c h1 hb
    · exact .inr (h.foot l1 o1 b h1 hf1 hb)

end Go.SB
