/- HcT, put together. Conditions: none. -/
import Derived.Test.YtapoilcpollmpaaNHcG
import Derived.Test.YtapoilcpollmpaaMD
/- Framework, part HcT: the steps' rules. -/
section
set_option linter.unusedVariables false
set_option linter.unusedSimpArgs false
namespace Go.SB

instance {a b : Bool} {p q : Prop} [k1 : Nrm (a = true) p] [k2 : Nrm (b = true) q] : Nrm ((a && b) = true) (p ∧ q) := ⟨fun h => by
  rw [Bool.and_eq_true] at h; exact ⟨k1.h h.1, k2.h h.2⟩⟩
instance {a b : Bool} {p q : Prop} [k1 : Nrm (a = false) p] [k2 : Nrm (b = false) q] : Nrm ((a && b) = false) (p ∨ q) := ⟨fun h => by
  rw [Bool.and_eq_false_iff] at h; exact h.imp k1.h k2.h⟩
instance {a b : Bool} {p q : Prop} [k1 : Nrm (a = true) p] [k2 : Nrm (b = true) q] : Nrm ((a || b) = true) (p ∨ q) := ⟨fun h => by
  rw [Bool.or_eq_true] at h; exact h.imp k1.h k2.h⟩
instance {a b : Bool} {p q : Prop} [k1 : Nrm (a = false) p] [k2 : Nrm (b = false) q] : Nrm ((a || b) = false) (p ∧ q) := ⟨fun h => by
  rw [Bool.or_eq_false_iff] at h; exact ⟨k1.h h.1, k2.h h.2⟩⟩

instance {b : Bool} {q : Prop} [k : Nrm (b = true) q] : Nrm (¬ b = false) q := ⟨fun h => k.h (by simpa using h)⟩
instance {b : Bool} {q : Prop} [k : Nrm (b = false) q] : Nrm (¬ b = true) q := ⟨fun h => k.h (by simpa using h)⟩
instance : Nrm (false = true) False := ⟨fun h => by cases h⟩
instance : Nrm (true = false) False := ⟨fun h => by cases h⟩
attribute [go_sem] Bool.or_false Bool.false_or Bool.true_or Bool.or_true Bool.false_and Bool.and_false Int.sub_zero Int.add_zero Int.zero_add ne_eq
/-- Both ways of a test. -/
theorem w_if {b : Bool} {x y : Prop} (h1 : b = true → x) (h2 : b = false → y) : awpIf (.bool b) x y := ⟨h1, h2⟩
theorem w_gt {b : Bool} {x y : Prop} (h1 : b = true → x) (h2 : b = false → y) : awpGd true (.bool b) x y := ⟨h1, h2⟩
theorem w_gf {b : Bool} {x y : Prop} (h1 : b = false → x) (h2 : b = true → y) : awpGd false (.bool b) x y := ⟨h1, h2⟩
theorem w_io {b : Bool} {x y : Option AV} {F : AV → Prop} (h1 : b = true → orF x F) (h2 : b = false → orF y F) : orF (iO (some (.bool b)) x y) F := by
  rw [orF_iO]; exact ⟨h1, h2⟩
theorem w_gdt {b : Bool} {x : Option AV} {F : AV → Prop} (h1 : b = true → orF x F) (h2 : b = false → F (.tup [])) : orF (gdO (some (.bool b)) true x) F := by
  cases b with
  | true => exact h1 rfl
  | false => exact ⟨_, rfl, h2 rfl⟩
theorem w_gdf {b : Bool} {x : Option AV} {F : AV → Prop} (h1 : b = false → orF x F) (h2 : b = true → F (.tup [])) : orF (gdO (some (.bool b)) false x) F := by
  cases b with
  | false => exact h1 rfl
  | true => exact ⟨_, rfl, h2 rfl⟩
theorem w_ite {p : Prop} [Decidable p] {x y : Option AV} {F : AV → Prop} (h1 : p → orF x F) (h2 : ¬ p → orF y F) : orF (if p then x else y) F := by
  by_cases h : p
  · rw [if_pos h]; exact h1 h
  · rw [if_neg h]; exact h2 h
theorem flatLL_get : ∀ {xs : List (List AV)}, AV.flatLL xs = true → ∀ {i : Nat} {e : List AV}, xs[i]? = some e → AV.flatL e = true
  | [], _, i, e, h => by simp at h
  | x :: xs, hf, i, e, h => by
    simp only [AV.flatLL, Bool.and_eq_true] at hf
    cases i with
    | zero => simp at h; subst h; exact hf.1
    | succ i => exact flatLL_get hf.2 (by simpa using h)
/-- n variables, of which these are told. -/
def rg (n : Nat) (l : List (Nat × AV)) : List AV := l.foldl (fun ρ p => ρ.set p.1 p.2) (List.replicate n .any)
theorem rg_eq {n : Nat} {l : List (Nat × AV)} : rg n l = l.foldl (fun ρ p => ρ.set p.1 p.2) (List.replicate n .any) := rfl
theorem bx {b : Bool} (h : b = true) (h' : b = false) : False := by rw [h] at h'; cases h'
theorem ifS {c : Prop} [Decidable c] {α : Type} {a : α} (h : c) : (if c then some a else none) = some a := if_pos h
attribute [go_sem] rg_eq
attribute [go_sem high] ifS

section
variable {P : Program} {n0 : Nat} {ρ : List AV} {A : AHeap} {Q : IExit → List AV → AHeap → Prop}
theorem jumpQ_normal {l : Nat} {J : List AV → AHeap → Prop} : jumpQ l J Q .normal ρ A = Q .normal ρ A := rfl
theorem jumpQ_exit {l i : Nat} {J : List AV → AHeap → Prop} : jumpQ l J Q (.exit i) ρ A = Q (.exit i) ρ A := rfl
theorem jumpQ_ret {l : Nat} {J : List AV → AHeap → Prop} : jumpQ l J Q .ret ρ A = Q .ret ρ A := rfl
theorem jumpQ_goto {l : Nat} {J : List AV → AHeap → Prop} : jumpQ l J Q (.goto l) ρ A = J ρ A := by simp [jumpQ]
attribute [go_sem ↓] jumpQ_normal jumpQ_exit jumpQ_ret jumpQ_goto
/-- A goto back, so often at the most. -/
theorem hw_scope {l : Nat} {kill : List Nat} {x r : HC} (n : Nat) (J : Nat → List AV → AHeap → Prop) (h0 : HW P n0 x ρ A (jumpQ l (fun ρ' A' => ∃ ks, okKeepO n0 ks = true ∧ J 0 (foldRo n0 ks (mask kill ρ')) (foldAo n0 ks A')) Q))
    (hs : ∀ i ρ A, i ≤ n → J i ρ A → HW P n0 r ρ A (jumpQ l (fun ρ2 A2 => i < n ∧ ∃ ks, okKeepO n0 ks = true ∧ J (i + 1) (foldRo n0 ks (mask kill ρ2)) (foldAo n0 ks A2)) Q)) : HW P n0 (.scope l kill x r) ρ A Q := by
  refine ⟨fun j ρ A => j ≤ n ∧ J (n - j) ρ A, hwp_mono x h0 fun e ρ2 A2 hq => ?_, fun j ρ1 A1 hj => hwp_mono r (hs (n - j) ρ1 A1 (Nat.sub_le _ _) hj.2) fun e ρ2 A2 hq => ?_⟩
  · cases e with
    | goto l' =>
      obtain ⟨h1, ks, h2, h3⟩ := hq
      exact ⟨h1, n, ks, h2, Nat.le_refl _, by rw [Nat.sub_self]; exact h3⟩
    | _ => exact hq
  · cases e with
    | goto l' =>
      obtain ⟨h1, h0, ks, h2, h3⟩ := hq
      have := hj.1
      exact ⟨h1, j - 1, by omega, ks, h2, by omega, by rw [show n - (j - 1) = n - j + 1 by omega]; exact h3⟩
    | _ => exact hq
end
theorem foldRn {n : Nat} {ρ : List AV} : foldRo n none ρ = ρ := rfl
theorem foldAn {n : Nat} {A : AHeap} : foldAo n none A = A := rfl
theorem foldVn {n : Nat} {v : AV} : foldVo n none v = v := rfl
/-- Rows of values without addresses. -/
class Flt {α : Type} (f : α → List AV) : Prop where
  h : ∀ x, AV.flatL (f x) = true
theorem flt_ren {α : Type} {f : α → List AV} [k : Flt f] {g : Nat → Option Nat} {xs : List α} : AO.ren g (.arr (rows f xs)) = .arr (rows f xs) := rows_ren k.h g xs
theorem flatLL_rows {α : Type} {f : α → List AV} [k : Flt f] : ∀ {xs : List α}, AV.flatLL (rows f xs) = true
  | [] => rfl
  | x :: xs => by
    show (AV.flatL (f x) && AV.flatLL (rows f xs)) = true
    rw [k.h x, flatLL_rows]; rfl
theorem ps_ren {α : Type} {f : α → List AV} [Flt f] {g : Nat → Option Nat} {xs : List α} {z : Nat} : AV.ren g (.ps z (rows f xs)) = .ps z (rows f xs) := AV.ren_flat g flatLL_rows
class FlatV (v : AV) : Prop where
  h : AV.flat v = true
class FlatL (vs : List AV) : Prop where
  h : AV.flatL vs = true
instance : FlatL [] := ⟨rfl⟩
instance {a : AV} {as : List AV} [k : FlatV a] [l : FlatL as] : FlatL (a :: as) := ⟨by show (AV.flat a && AV.flatL as) = true; rw [k.h, l.h]; rfl⟩
instance (priority := low) {α : Type} {f : α → List AV} [k : Flt f] {x : α} : FlatL (f x) := ⟨k.h x⟩
theorem flatL_rows1 : ∀ {xs : List Int}, AV.flatL (rows1 xs) = true
  | [] => rfl
  | x :: xs => by show (true && AV.flatL (rows1 xs)) = true; rw [flatL_rows1]; rfl
instance {xs : List Int} : FlatL (rows1 xs) := ⟨flatL_rows1⟩
instance {k : IntKind} {n : Int} : FlatV (.int k n) := ⟨rfl⟩
instance {b : Bool} : FlatV (.bool b) := ⟨rfl⟩
instance {s : List UInt8} : FlatV (.str s) := ⟨rfl⟩
instance : FlatV .nilp := ⟨rfl⟩
instance : FlatV .nils := ⟨rfl⟩
instance : FlatV .nilm := ⟨rfl⟩
instance : FlatV .nilf := ⟨rfl⟩
instance : FlatV .nili := ⟨rfl⟩
instance : FlatV .es := ⟨rfl⟩
instance : FlatV .any := ⟨rfl⟩
instance {f : FuncId} {a b : List AV} [k : FlatL a] [l : FlatL b] : FlatV (.fn f a b) := ⟨by show (AV.flatL a && AV.flatL b) = true; rw [k.h, l.h]; rfl⟩
instance {t : TypeId} {x : AV} [k : FlatV x] : FlatV (.ifc t x) := ⟨k.h⟩
instance {cs : List AV} [k : FlatL cs] : FlatV (.agg cs) := ⟨k.h⟩
instance {cs : List AV} [k : FlatL cs] : FlatV (.tup cs) := ⟨k.h⟩
instance {α : Type} {f : α → List AV} [k : Flt f] {xs : List α} {z : Nat} : FlatV (.ps z (rows f xs)) := ⟨flatLL_rows⟩
theorem PCall.aci {P : Program} {f : FuncId} {args : List AV} {v : AV} {B : AHeap} {K : AV → AHeap → Prop} (h : PCall P f args v) [k : FlatL args] [l : FlatV v] (hk : K v B) : AC P f args B K := h.ac k.h l.h hk
theorem pcallI {P : Program} {f : FuncId} {V : List Nat} {hc : HC} {rs : List RV} (h : HFn P f V hc rs) {args : List AV} {v : AV} [l : FlatV v] (hw : HW P 0 hc (V.map fun t => args.getD t .any) [] (retP rs v)) : PCall P f args v := pcallH h l.h hw
attribute [go_sem] foldRn foldAn foldVn rows_length
attribute [go_sem high] flt_ren ps_ren
theorem ACall.atE {P : Program} {f : FuncId} {args : List AV} {A A0 : AHeap} {v : AV} (h : ACall P f args A fun r A' => r = v ∧ A' = A0) (js : List Nat) {B : AHeap} {args' : List AV} {K : AV → AHeap → Prop} (hnd : js.Nodup) (hlt : js.all (fun j => decide (j < B.length)) = true)
    (hst : standsL (rn (place js B.length)) B js A) (hargs : args' = args.map (AV.ren (rn (place js B.length)))) (hk : K (AV.ren (rn (place js B.length)) v) (putAll (rn (place js B.length)) B js A0)) : AC P f args' B K :=
  h.at' js hnd hlt hst hargs fun r A' hr => by rw [hr.1, hr.2]; exact hk
theorem nilS_psR {z : Nat} {xs : List (List AV)} (h : 0 < xs.length) : AV.nilS (.ps z xs) = some false := by
  cases xs with
  | nil => simp at h
  | cons x xs => rfl
theorem nilS_slP {l z o n : Nat} {t : Bool} (h : 0 < n) : AV.nilS (.sl l z o n t) = some false := by
  cases n with
  | zero => omega
  | succ n => rfl
class RowF {α : Type} (f : α → List AV) (sz : outParam Nat) : Prop where
  h : ∀ x, (f x).length = sz ∧ (f x).all AV.one = true
theorem rowsOk_rows {α : Type} {f : α → List AV} {sz : Nat} [k : RowF f sz] {xs : List α} : rowsOk sz (rows f xs) = true := rows_ok k.h
attribute [go_sem] nilS_psR nilS_slP rowsOk_rows
/-- The end of a function that makes nothing that stays. -/
theorem fin0 {r v : AV} {A : AHeap} (hr : r = v) (hf : AV.flat v = true) : ∃ ks, okKeepO 0 ks = true ∧ foldVo 0 ks r = v ∧ foldAo 0 ks A = [] := by
  subst hr; exact ⟨some [], rfl, AV.ren_flat _ hf, rfl⟩
end Go.SB
end
