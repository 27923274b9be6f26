/- Framework, part Z: the IR reckoned out, where nothing is unknown that it asks for. Conditions: none. -/
import Derived.Test.YtkkccabchhnebaaFwY
set_option linter.unusedVariables false
set_option linter.unusedSimpArgs false
namespace Go.SB

/-- The same, of values that hold no function and no list of rows. -/
def AV.same1 : AV → AV → Bool
  | .int k n, .int k' n' => k == k' && n == n'
  | .bool a, .bool b => a == b
  | .str a, .str b => a == b
  | .nilp, .nilp | .nils, .nils | .nilm, .nilm | .nilf, .nilf | .nili, .nili | .es, .es | .any, .any => true
  | .tup a, .tup b => a.isEmpty && b.isEmpty
  | .ptr l o, .ptr l' o' => l == l' && o == o'
  | .eptr l i o, .eptr l' i' o' => l == l' && i == i' && o == o'
  | .sl l a b c t, .sl l' a' b' c' t' => l == l' && a == a' && b == b' && c == c' && t == t'
  | .mp l, .mp l' => l == l'
  | _, _ => false

theorem AV.same1_eq {a b : AV} (h : AV.same1 a b = true) : a = b := by
  cases a <;> cases b <;> simp only [AV.same1, Bool.and_eq_true, beq_iff_eq, Bool.false_eq_true, List.isEmpty_iff] at h <;> simp_all

def AV.same1L : List AV → List AV → Bool
  | [], [] => true
  | a :: as, b :: bs => AV.same1 a b && AV.same1L as bs
  | _, _ => false

theorem AV.same1L_eq : ∀ {a b : List AV}, AV.same1L a b = true → a = b
  | [], [], _ => rfl
  | [], _ :: _, h => by simp [AV.same1L] at h
  | _ :: _, [], h => by simp [AV.same1L] at h
  | a :: as, b :: bs, h => by
    simp only [AV.same1L, Bool.and_eq_true] at h
    rw [AV.same1_eq h.1, AV.same1L_eq h.2]

def AV.same : AV → AV → Bool
  | .agg a, .agg b => AV.same1L a b
  | a, b => AV.same1 a b

theorem AV.same_eq {a b : AV} (h : AV.same a b = true) : a = b := by
  unfold AV.same at h
  split at h
  · rw [AV.same1L_eq h]
  · exact AV.same1_eq h

def chksB (ios : List IOper) (anc : Nat → Nat → Bool) (j : Nat) (ρ : List AV) (A : AHeap) : Chk → Bool
  | [] => true
  | (i, v) :: R => (anc i j || (match ios[i]? with
    | some io => (match yld io ρ A with | some u => AV.same u v | none => false)
    | none => false)) && chksB ios anc j ρ A R

theorem chksB_ok {ios : List IOper} {anc : Nat → Nat → Bool} {j : Nat} {ρ : List AV} {A : AHeap} : ∀ {R : Chk}, chksB ios anc j ρ A R = true → chks ios anc R j ρ A
  | [], _ => trivial
  | (i, v) :: R, h => by
    simp only [chksB, Bool.and_eq_true, Bool.or_eq_true] at h
    refine ⟨h.1.imp id fun h => ?_, chksB_ok h.2⟩
    split at h
    · rename_i io hio
      split at h
      · rename_i u hu; exact ⟨io, hio, by rw [hu, AV.same_eq h]⟩
      · cases h
    · cases h

abbrev CallF := FuncId → List AV → AHeap → Option (AV × AHeap)

def evOp (call : CallF) (p0 : Nat) (o : IOper) (ρ : List AV) (A : AHeap) : Option (List AV × AHeap) :=
  match o.op with
  | .call f args => match f.get ρ with
    | .fn f first caps => match call f (first ++ args.map (·.get ρ) ++ caps) A with
      | some (r, A') => some (aput ρ o.dst r, A')
      | none => none
    | _ => none
  | op => match astep ρ A (p0 + o.slot) op with
    | some (v, A') => some (aput ρ o.dst v, A')
    | none => none

def evG (call : CallF) (p0 : Nat) (o : IOper) (ρ : List AV) (A : AHeap) : Option (List AV × AHeap) :=
  match o.guard with
  | none => evOp call p0 o ρ A
  | some (t, want) => match ρ.getD t .any with
    | .bool b => if b = want then evOp call p0 o ρ A else some (aput ρ o.dst (.tup []), A)
    | .tup _ => some (aput ρ o.dst (.tup []), A)
    | _ => none

def evOps (call : CallF) (p0 : Nat) : List IOper → List AV → AHeap → Option (List AV × AHeap)
  | [], ρ, A => some (ρ, A)
  | o :: os, ρ, A => match evG call p0 o ρ A with
    | some (ρ', A') => evOps call p0 os ρ' A'
    | none => none

def evOrd (call : CallF) (p0 : Nat) (ios : List IOper) (anc : Nat → Nat → Bool) : List Nat → Chk → List AV → AHeap → Option (List AV × AHeap)
  | [], R, ρ, A => some (ρ, A)
  | i :: c, R, ρ, A => match ios[i]? with
    | none => none
    | some x => match x.op.cls with
      | .pure => (match yld x ρ A with | some v => evOrd call p0 ios anc c R (aput ρ x.dst v) A | none => none)
      | .read => (match yld x ρ A with | some v => evOrd call p0 ios anc c ((i, v) :: R) (aput ρ x.dst v) A | none => none)
      | .make => (match evG call p0 x ρ A with
        | some (ρ', A') => evOrd call p0 ios anc c R ρ' A'
        | none => none)
      | .eff => (match evG call p0 x ρ A with
        | some (ρ', A') => bif chksB ios anc i ρ' A' R then evOrd call p0 ios anc c R ρ' A' else none
        | none => none)

def evLoop (body : List AV → AHeap → Option (IExit × List AV × AHeap)) (kill : List Nat) : Nat → List AV → AHeap → Option (IExit × List AV × AHeap)
  | 0, _, _ => none
  | n + 1, ρ, A => match body ρ A with
    | some (.normal, ρ', A') => evLoop body kill n (mask kill ρ') A'
    | r => r

def evScope (body : List AV → AHeap → Option (IExit × List AV × AHeap)) (l : Nat) (kill : List Nat) : Nat → List AV → AHeap → Option (IExit × List AV × AHeap)
  | 0, _, _ => none
  | n + 1, ρ, A => match body ρ A with
    | some (.goto l', ρ', A') => if l' = l then evScope body l kill n (mask kill ρ') A' else none
    | r => r

def evIC (call : CallF) (fuel : Nat) : IC → List AV → AHeap → Option (IExit × List AV × AHeap)
  | .skip, ρ, A => some (.normal, ρ, A)
  | .region m ops kill, ρ, A => match evOps call A.length ops ρ (A.more m) with
    | some (ρ', A') => some (.normal, mask kill ρ', A')
    | none => none
  | .regionD m ops ord ms kill, ρ, A => match evOrd call A.length ops (waits ms) ord [] ρ (A.more m) with
    | some (ρ', A') => some (.normal, mask kill ρ', A')
    | none => none
  | .seq x y, ρ, A => match evIC call fuel x ρ A with
    | some (.normal, ρ', A') => evIC call fuel y ρ' A'
    | r => r
  | .cond c kill x y, ρ, A => match c.get ρ with
    | .bool b => bif b then evIC call fuel x (mask kill ρ) A else evIC call fuel y (mask kill ρ) A
    | _ => none
  | .block id x, ρ, A => match evIC call fuel x ρ A with
    | some (.exit i, ρ', A') => if i = id then some (.normal, ρ', A') else some (.exit i, ρ', A')
    | r => r
  | .loop kill x, ρ, A => evLoop (evIC call fuel x) kill fuel (mask kill ρ) A
  | .exit id, ρ, A => some (.exit id, ρ, A)
  | .ret, ρ, A => some (.ret, ρ, A)
  | .label _, ρ, A => some (.normal, ρ, A)
  | .goto l, ρ, A => some (.goto l, ρ, A)
  | .scope l kill x r, ρ, A => match evIC call fuel x ρ A with
    | some (.goto l', ρ', A') => if l' = l then evScope (evIC call fuel r) l kill fuel (mask kill ρ') A' else none
    | res => res

/-! What is still reached: only which places are kept, so nothing hangs on it. -/
mutual
def AV.locs : AV → List Nat
  | .ptr l _ | .eptr l _ _ | .sl l _ _ _ _ | .mp l => [l]
  | .fn _ a b => AV.locsL a ++ AV.locsL b
  | .ifc _ x => AV.locs x
  | .agg cs | .tup cs => AV.locsL cs
  | _ => []
def AV.locsL : List AV → List Nat
  | [] => []
  | v :: vs => AV.locs v ++ AV.locsL vs
end
def AO.locs : AO → List Nat
  | .cells vs => AV.locsL vs
  | .arr es => es.flatMap AV.locsL
  | .map es => es.flatMap fun (k, v) => AV.locs k ++ AV.locs v
  | _ => []
def reach (n0 : Nat) (A : AHeap) : Nat → List Nat → List Nat → List Nat
  | 0, _, seen => seen
  | _ + 1, [], seen => seen
  | n + 1, l :: todo, seen => bif Nat.blt l n0 || seen.contains l then reach n0 A n todo seen else match A[l]? with
    | some (some o) => reach n0 A n (o.locs ++ todo) (seen ++ [l])
    | _ => reach n0 A n todo seen
def gc (n0 : Nat) (A : AHeap) (r : AV) : List Nat := reach n0 A 100000 (r.locs ++ (A.take n0).flatMap fun o => match o with | some o => o.locs | none => []) []

def finish (n0 : Nat) (r : AV) (A : AHeap) : Option (AV × AHeap) :=
  let ks := gc n0 A r
  bif okKeep n0 ks then some (AV.ren (fnew n0 ks) r, foldA n0 ks A) else none

/-- A table as a list. -/
abbrev TabL := List (Nat × IC × List RV × Nat)

abbrev Table := FuncId → Option (IC × List RV × Nat)

def evF (T : Table) (fuel : Nat) : Nat → CallF
  | 0, _, _, _ => none
  | d + 1, f, args, A => match T f with
    | none => none
    | some (ic, rs, n) => match evIC (evF T fuel d) fuel ic (args ++ List.replicate (n - args.length) .any) A with
      | some (.ret, ρ, A') => (match rvs ρ A' rs with
        | some vs => finish A.length (rtup vs) A'
        | none => none)
      | some (.normal, ρ, A') => (match rvs ρ A' rs with
        | some vs => finish A.length (rtup vs) A'
        | none => none)
      | _ => none

section
variable {P : Program} {call : CallF}

/-- What is reckoned of a call is so. -/
def CallOK (P : Program) (call : CallF) : Prop := ∀ f args A r A', call f args A = some (r, A') → ACall P f args A fun r1 A1 => r1 = r ∧ A1 = A'

variable (hc : CallOK P call) {p0 : Nat} {K : List AV → AHeap → Prop}
include hc

theorem evOp_ok {o : IOper} {ρ ρ' : List AV} {A A' : AHeap} (h : evOp call p0 o ρ A = some (ρ', A')) (hk : K ρ' A') : awpOp P p0 o ρ A K := by
  unfold evOp at h
  unfold awpOp
  cases hop : o.op with
  | call f args =>
    rw [hop] at h
    simp only [] at h ⊢
    unfold ACallV
    cases hf : f.get ρ <;> rw [hf] at h <;> simp only [] at h ⊢
    case fn f first caps =>
      split at h
      · rename_i r A1 hr
        cases h
        exact (hc _ _ _ _ _ hr).mono fun r1 A2 ⟨h1, h2⟩ => by rw [h1, h2]; exact hk
      · cases h
    all_goals cases h
  | _ =>
    rw [hop] at h
    simp only [] at h ⊢
    split at h
    · rename_i v A1 hs
      cases h
      rw [hs]; exact hk
    · cases h

theorem evG_ok {o : IOper} {ρ ρ' : List AV} {A A' : AHeap} (h : evG call p0 o ρ A = some (ρ', A')) (hk : K ρ' A') : awpG P p0 o ρ A K := by
  unfold evG at h
  unfold awpG
  cases hg : o.guard with
  | none => rw [hg] at h; exact evOp_ok hc h hk
  | some tw =>
    obtain ⟨t, want⟩ := tw
    rw [hg] at h
    simp only [] at h ⊢
    cases hb : ρ.getD t .any <;> rw [hb] at h <;> simp only [] at h ⊢
    case bool b =>
      refine ⟨fun e => ?_, fun e => ?_⟩
      · rw [if_pos e] at h; exact evOp_ok hc h hk
      · rw [if_neg (by rintro rfl; cases b <;> simp at e)] at h; cases h; exact hk
    case tup vs => cases h; exact hk
    all_goals cases h

theorem evOps_ok : ∀ (os : List IOper) (ρ ρ' : List AV) (A A' : AHeap), evOps call p0 os ρ A = some (ρ', A') → K ρ' A' → awpOps P p0 os ρ A K
  | [], ρ, ρ', A, A', h, hk => by cases h; exact hk
  | o :: os, ρ, ρ', A, A', h, hk => by
    simp only [evOps] at h
    split at h
    · rename_i ρ1 A1 h1
      exact evG_ok (K := fun ρ A => awpOps P p0 os ρ A K) hc h1 (evOps_ok os _ _ _ _ h hk)
    · cases h

theorem evOrd_ok {ios : List IOper} {anc : Nat → Nat → Bool} : ∀ (c : List Nat) (R : Chk) (ρ ρ' : List AV) (A A' : AHeap), evOrd call p0 ios anc c R ρ A = some (ρ', A') → K ρ' A' → awpOrd P p0 ios anc K c R ρ A
  | [], R, ρ, ρ', A, A', h, hk => by cases h; exact hk
  | i :: c, R, ρ, ρ', A, A', h, hk => by
    simp only [evOrd] at h
    simp only [awpOrd]
    cases hi : ios[i]? with
    | none => rw [hi] at h; cases h
    | some x =>
      rw [hi] at h
      simp only [] at h ⊢
      cases hcl : x.op.cls <;> rw [hcl] at h <;> simp only [] at h ⊢
      case pure =>
        cases hy : yld x ρ A with
        | none => rw [hy] at h; cases h
        | some v => rw [hy] at h; exact evOrd_ok c R _ _ _ _ h hk
      case read =>
        cases hy : yld x ρ A with
        | none => rw [hy] at h; cases h
        | some v => rw [hy] at h; exact evOrd_ok c _ _ _ _ _ h hk
      case make =>
        split at h
        · rename_i ρ1 A1 h1
          exact evG_ok (K := fun ρ' A' => awpOrd P p0 ios anc K c R ρ' A') hc h1 (evOrd_ok c R _ _ _ _ h hk)
        · cases h
      case eff =>
        split at h
        · rename_i ρ1 A1 h1
          cases hb : chksB ios anc i ρ1 A1 R with
          | false => rw [hb] at h; cases h
          | true =>
            rw [hb] at h
            exact evG_ok (K := fun ρ' A' => chks ios anc R i ρ' A' ∧ awpOrd P p0 ios anc K c R ρ' A') hc h1 ⟨chksB_ok hb, evOrd_ok c R _ _ _ _ h hk⟩
        · cases h

theorem evIC_ok {n0 fuel : Nat} : ∀ (ic : IC) (ρ : List AV) (A : AHeap) (e : IExit) (ρ' : List AV) (A' : AHeap) (Q : IExit → List AV → AHeap → Prop), evIC call fuel ic ρ A = some (e, ρ', A') → Q e ρ' A' → awp P n0 ic ρ A Q
  | .skip, ρ, A, e, ρ', A', Q, h, hq => by cases h; exact hq
  | .region m ops kill, ρ, A, e, ρ', A', Q, h, hq => by
    simp only [evIC] at h
    split at h
    · rename_i ρ1 A1 h1
      cases h
      exact evOps_ok (K := fun ρ A => Q .normal (mask kill ρ) A) hc _ _ _ _ _ h1 hq
    · cases h
  | .regionD m ops ord ms kill, ρ, A, e, ρ', A', Q, h, hq => by
    simp only [evIC] at h
    split at h
    · rename_i ρ1 A1 h1
      cases h
      exact evOrd_ok (K := fun ρ A => Q .normal (mask kill ρ) A) hc _ _ _ _ _ _ h1 hq
    · cases h
  | .seq x y, ρ, A, e, ρ', A', Q, h, hq => by
    simp only [evIC] at h
    split at h
    · rename_i ρ1 A1 h1
      exact evIC_ok x _ _ _ _ _ _ h1 (evIC_ok y _ _ _ _ _ _ h hq)
    · rename_i hno
      refine evIC_ok x _ _ _ _ _ _ h ?_
      cases e with
      | normal => exact absurd h (hno _ _)
      | exit id => exact hq
      | goto l => exact hq
      | ret => exact hq
  | .cond c kill x y, ρ, A, e, ρ', A', Q, h, hq => by
    simp only [evIC] at h
    simp only [awp]
    cases hb : c.get ρ <;> rw [hb] at h <;> simp only [] at h ⊢
    case bool b =>
      cases b
      · exact ⟨fun e => (by cases e), fun _ => evIC_ok y _ _ _ _ _ _ h hq⟩
      · exact ⟨fun _ => evIC_ok x _ _ _ _ _ _ h hq, fun e => (by cases e)⟩
    all_goals cases h
  | .block id x, ρ, A, e, ρ', A', Q, h, hq => by
    simp only [evIC] at h
    split at h
    · rename_i i ρ1 A1 h1
      refine evIC_ok x _ _ _ _ _ _ h1 ?_
      simp only [blockQ]
      by_cases ei : i = id
      · rw [if_pos ei] at h ⊢; cases h; exact hq
      · rw [if_neg ei] at h ⊢; cases h; exact hq
    · rename_i hno
      refine evIC_ok x _ _ _ _ _ _ h ?_
      cases e with
      | normal => exact hq
      | exit i => exact absurd h (hno _ _ _)
      | goto l => exact hq
      | ret => exact hq
  | .loop kill x, ρ, A, e, ρ', A', Q, h, hq => by
    simp only [evIC] at h
    refine ⟨fun n ρ1 A1 => evLoop (evIC call fuel x) kill n ρ1 A1 = some (e, ρ', A'), ⟨fuel, none, rfl, h⟩, ?_⟩
    intro i ρ1 A1 hi
    cases i with
    | zero => cases hi
    | succ i =>
      simp only [evLoop] at hi
      split at hi
      · rename_i ρ2 A2 h1
        exact evIC_ok x _ _ _ _ _ _ h1 ⟨i, Nat.lt_succ_self i, none, rfl, hi⟩
      · rename_i hno
        refine evIC_ok x _ _ _ _ _ _ hi ?_
        cases e with
        | normal => exact absurd hi (hno _ _)
        | exit i => exact hq
        | goto l => exact hq
        | ret => exact hq
  | .exit id, ρ, A, e, ρ', A', Q, h, hq => by cases h; exact hq
  | .ret, ρ, A, e, ρ', A', Q, h, hq => by cases h; exact hq
  | .label l, ρ, A, e, ρ', A', Q, h, hq => by cases h; exact hq
  | .goto l, ρ, A, e, ρ', A', Q, h, hq => by cases h; exact hq
  | .scope l kill x r, ρ, A, e, ρ', A', Q, h, hq => by
    simp only [evIC] at h
    refine ⟨fun n ρ1 A1 => evScope (evIC call fuel r) l kill n ρ1 A1 = some (e, ρ', A'), ?_, ?_⟩
    · split at h
      · rename_i l' ρ1 A1 h1
        split at h
        · rename_i hl
          exact evIC_ok x _ _ _ _ _ _ h1 ⟨hl, fuel, none, rfl, h⟩
        · cases h
      · rename_i hno
        refine evIC_ok x _ _ _ _ _ _ h ?_
        cases e with
        | goto l' => exact absurd h (hno _ _ _)
        | normal => exact hq
        | exit i => exact hq
        | ret => exact hq
    · intro i ρ1 A1 hi
      cases i with
      | zero => cases hi
      | succ i =>
        simp only [evScope] at hi
        split at hi
        · rename_i l' ρ2 A2 h1
          split at hi
          · rename_i hl
            exact evIC_ok r _ _ _ _ _ _ h1 ⟨hl, i, Nat.lt_succ_self i, none, rfl, hi⟩
          · cases hi
        · rename_i hno
          refine evIC_ok r _ _ _ _ _ _ hi ?_
          cases e with
          | goto l' => exact absurd hi (hno _ _ _)
          | normal => exact hq
          | exit i => exact hq
          | ret => exact hq
end

theorem finish_ok {n0 : Nat} {r r' : AV} {A A' : AHeap} (h : finish n0 r A = some (r', A')) : ∃ ks, okKeepO n0 ks = true ∧ foldVo n0 ks r = r' ∧ foldAo n0 ks A = A' := by
  unfold finish at h
  simp only [] at h
  cases hk : okKeep n0 (gc n0 A r) with
  | false => rw [hk] at h; cases h
  | true => rw [hk] at h; cases h; exact ⟨some (gc n0 A r), hk, rfl, rfl⟩

def TabL.get (l : TabL) : Table := fun f => match l.find? (fun x => Nat.beq x.1 f) with
  | some (_, y) => some y
  | none => none

def TabL.OK (P : Program) (l : TabL) : Prop := ∀ x ∈ l, FnOk P x.1 x.2.1 x.2.2.1 x.2.2.2
theorem TabL.ok_nil {P : Program} : TabL.OK P [] := fun _ h => by cases h
theorem TabL.ok_cons {P : Program} {f : Nat} {ic : IC} {rs : List RV} {n : Nat} {l : TabL} (h : FnOk P f ic rs n) (t : TabL.OK P l) : TabL.OK P ((f, ic, rs, n) :: l) := fun x hx => by
  rcases List.mem_cons.1 hx with rfl | hx
  · exact h
  · exact t x hx

theorem TabL.get_ok {P : Program} {l : TabL} (h : TabL.OK P l) : ∀ f ic rs n, l.get f = some (ic, rs, n) → FnOk P f ic rs n := by
  intro f ic rs n hg
  unfold TabL.get at hg
  split at hg
  · rename_i g y hf
    cases hg
    have h1 := List.mem_of_find?_eq_some hf
    have h2 := List.find?_some hf
    have h2 : g = f := Nat.eq_of_beq_eq_true h2
    subst h2
    exact h _ h1
  · cases hg

/-- **What is reckoned of a function is what it does.** -/
theorem evF_ok {P : Program} (hm : P.follows .mixedOrders = true) {T : Table} (hT : ∀ f ic rs n, T f = some (ic, rs, n) → FnOk P f ic rs n) {fuel : Nat} : ∀ d, CallOK P (evF T fuel d)
  | 0 => fun f args A r A' h => by simp [evF] at h
  | d + 1 => fun f args A r A' h => by
    simp only [evF] at h
    split at h
    · cases h
    · rename_i ic rs n ht
      refine acall_of hm (hT _ _ _ _ ht) ?_
      have key : ∀ (e : IExit) (ρ : List AV) (A1 : AHeap), (e = .ret ∨ e = .normal) → evIC (evF T fuel d) fuel ic (args ++ List.replicate (n - args.length) .any) A = some (e, ρ, A1) →
          (match rvs ρ A1 rs with | some vs => finish A.length (rtup vs) A1 | none => none) = some (r, A') →
          awp P A.length ic (args ++ List.replicate (n - args.length) .any) A (retQ A.length rs fun r1 A1 => r1 = r ∧ A1 = A') := by
        intro e ρ A1 he h1 h2
        refine evIC_ok (evF_ok hm hT d) _ _ _ _ _ _ _ h1 ?_
        have h3 : (match rvs ρ A1 rs with
          | some vs => ∃ ks, okKeepO A.length ks = true ∧ foldVo A.length ks (rtup vs) = r ∧ foldAo A.length ks A1 = A'
          | none => False) := by
          cases hv : rvs ρ A1 rs with
          | none => rw [hv] at h2; cases h2
          | some vs => rw [hv] at h2; exact finish_ok h2
        rcases he with rfl | rfl <;> exact h3
      split at h
      · rename_i ρ A1 h1; exact key _ _ _ (.inl rfl) h1 h
      · rename_i ρ A1 h1; exact key _ _ _ (.inr rfl) h1 h
      · cases h
end Go.SB
