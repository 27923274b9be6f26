/- HcZ, put together. Conditions: none. -/
import Derived.Test.YtapoilcpollmpaaNHcG
/- Framework, part HcZ: compact code reckoned out by the kernel. -/
section
set_option linter.unusedVariables false
set_option linter.unusedSimpArgs false
set_option linter.unusedSectionVars false
namespace Go.SB

def evHop (call : CallF) (p : Nat) (op : IOp) (vs : List AV) (A : AHeap) : Option (AV × AHeap) :=
  match op with
  | .call f args => match f.get vs with
    | .fn f first caps => call f (first ++ args.map (·.get vs) ++ caps) A
    | _ => none
  | op => astep vs A p op
def evHck (ρ : List AV) (A : AHeap) : List (HE × Nat) → Bool
  | [] => true
  | (e, j) :: es => (match hev ρ A e with | some v => AV.same v (ρ.getD j .any) | none => false) && evHck ρ A es
def evHfin (d : Option Nat) (ck : List (HE × Nat)) (ρ1 : List AV) (r : AV) (A : AHeap) : Option (List AV × AHeap) :=
  bif evHck (aput ρ1 d r) A ck then some (aput ρ1 d r, A) else none
def evHf0 (call : CallF) (p0 : Nat) (f : HF) (ρ ρ1 : List AV) (A : AHeap) : Option (List AV × AHeap) :=
  match hevL ρ A f.xs with
  | some vs => match evHop call (p0 + f.slot) f.op vs A with
    | some (r, A') => evHfin f.d f.ck ρ1 r A'
    | none => none
  | none => none
def evHf (call : CallF) (p0 : Nat) (f : HF) (ρ ρ1 : List AV) (A : AHeap) : Option (List AV × AHeap) :=
  match f.gd with
  | none => evHf0 call p0 f ρ ρ1 A
  | some (c, w) => match hev ρ A c with
    | some (.bool b) => if b = w then evHf0 call p0 f ρ ρ1 A else evHfin f.d f.ck ρ1 (.tup []) A
    | some (.tup _) => evHfin f.d f.ck ρ1 (.tup []) A
    | _ => none
def evHas (ρ : List AV) (A : AHeap) : List (Nat × HE) → List AV → Option (List AV)
  | [], ρ1 => some ρ1
  | (j, e) :: as, ρ1 => match hev ρ A e with
    | some v => evHas ρ A as (ρ1.set j v)
    | none => none
def evHrq (ρ : List AV) (A : AHeap) : List HE → Bool
  | [] => true
  | e :: es => (match hev ρ A e with | some _ => true | none => false) && evHrq ρ A es
def evHs (call : CallF) (p0 : Nat) : List HS → List AV → AHeap → Option (List AV × AHeap)
  | [], ρ, A => some (ρ, A)
  | s :: ss, ρ, A => bif evHrq ρ A s.rq then (match evHas ρ A s.as ρ with
    | some ρ1 => (match s.ef with
      | none => evHs call p0 ss ρ1 A
      | some f => match evHf call p0 f ρ ρ1 A with
        | some (ρ', A') => evHs call p0 ss ρ' A'
        | none => none)
    | none => none) else none

def evHC (call : CallF) (fuel : Nat) : HC → List AV → AHeap → Option (IExit × List AV × AHeap)
  | .skip, ρ, A => some (.normal, ρ, A)
  | .reg m ss kill, ρ, A => match evHs call A.length ss ρ (A.more m) with
    | some (ρ', A') => some (.normal, mask kill ρ', A')
    | none => none
  | .seq x y, ρ, A => match evHC call fuel x ρ A with
    | some (.normal, ρ', A') => evHC call fuel y ρ' A'
    | r => r
  | .cond c kill x y, ρ, A => match hev ρ A c with
    | some (.bool b) => bif b then evHC call fuel x (mask kill ρ) A else evHC call fuel y (mask kill ρ) A
    | _ => none
  | .block id x, ρ, A => match evHC call fuel x ρ A with
    | some (.exit i, ρ', A') => if i = id then some (.normal, ρ', A') else some (.exit i, ρ', A')
    | r => r
  | .loop kill x, ρ, A => evLoop (evHC call fuel x) kill fuel (mask kill ρ) A
  | .exit id, ρ, A => some (.exit id, ρ, A)
  | .ret, ρ, A => some (.ret, ρ, A)
  | .label _, ρ, A => some (.normal, ρ, A)
  | .goto l, ρ, A => some (.goto l, ρ, A)
  | .scope l kill x r, ρ, A => match evHC call fuel x ρ A with
    | some (.goto l', ρ', A') => if l' = l then evScope (evHC call fuel r) l kill fuel (mask kill ρ') A' else none
    | res => res

abbrev TabH := List (Nat × List Nat × HC × List RV)
def TabH.get (l : TabH) (f : FuncId) : Option (List Nat × HC × List RV) := match l.find? (fun x => Nat.beq x.1 f) with
  | some (_, y) => some y
  | none => none

def evFH (T : TabH) (fuel : Nat) : Nat → CallF
  | 0, _, _, _ => none
  | d + 1, f, args, A => match T.get f with
    | none => none
    | some (V, hc, rs) => match evHC (evFH T fuel d) fuel hc (V.map fun t => args.getD t .any) A with
      | some (.ret, ρ, A') => (match rvs ρ A' rs with
        | some vs => finish A.length (rtup vs) A'
        | none => none)
      | some (.normal, ρ, A') => (match rvs ρ A' rs with
        | some vs => finish A.length (rtup vs) A'
        | none => none)
      | _ => none

def TabH.OK (P : Program) (l : TabH) : Prop := ∀ x ∈ l, HFn P x.1 x.2.1 x.2.2.1 x.2.2.2
theorem TabH.ok_nil {P : Program} : TabH.OK P [] := fun _ h => by cases h
theorem TabH.ok_cons {P : Program} {f : Nat} {V : List Nat} {hc : HC} {rs : List RV} {l : TabH} (h : HFn P f V hc rs) (t : TabH.OK P l) : TabH.OK P ((f, V, hc, rs) :: l) := fun x hx => by
  rcases List.mem_cons.1 hx with rfl | hx
  · exact h
  · exact t x hx
theorem TabH.ok_app {P : Program} {a b : TabH} (h : TabH.OK P a) (t : TabH.OK P b) : TabH.OK P (a ++ b) := fun x hx => by
  rcases List.mem_append.1 hx with hx | hx
  · exact h x hx
  · exact t x hx
theorem TabH.get_ok {P : Program} {l : TabH} (h : TabH.OK P l) {f : Nat} {V : List Nat} {hc : HC} {rs : List RV} (hg : l.get f = some (V, hc, rs)) : HFn P f V hc rs := by
  unfold TabH.get at hg
  split at hg
  · rename_i g y hf
    cases hg
    have h1 := List.mem_of_find?_eq_some hf
    have h2 := List.find?_some hf
    have h2 : g = f := Nat.eq_of_beq_eq_true h2
    subst h2
    exact h _ h1
  · cases hg

section
variable {P : Program} {call : CallF} (hc : CallOK P call) {p0 : Nat}
include hc
theorem evHop_ok {p : Nat} {op : IOp} {vs : List AV} {A A' : AHeap} {r : AV} {K : AV → AHeap → Prop} (h : evHop call p op vs A = some (r, A')) (hk : K r A') : hOp P p op vs A K := by
  unfold evHop at h
  split at h
  · rename_i f args
    split at h
    · rename_i g first caps hg
      simp only [hOp, ACallV, hg]
      exact (hc _ _ _ _ _ h).mono fun r1 A1 h1 => by rw [h1.1, h1.2]; exact hk
    · cases h
  · rename_i op hno
    cases op <;> first | exact absurd rfl (hno _ _) | (simp only [hOp, h]; exact hk)
theorem evHck_ok {ρ : List AV} {A : AHeap} {X : Prop} (hX : X) : ∀ {ck : List (HE × Nat)}, evHck ρ A ck = true → hCk ρ A ck X
  | [], _ => hX
  | (e, j) :: es, h => by
    simp only [evHck, Bool.and_eq_true] at h
    refine ⟨?_, evHck_ok hX h.2⟩
    have h1 := h.1
    split at h1
    · rename_i v hv; rw [hv, AV.same_eq h1]
    · cases h1
theorem evHfin_ok {d : Option Nat} {ck : List (HE × Nat)} {ρ1 ρ' : List AV} {r : AV} {A A' : AHeap} {K : List AV → AHeap → Prop} (h : evHfin d ck ρ1 r A = some (ρ', A')) (hk : K ρ' A') : hCk (aput ρ1 d r) A ck (K (aput ρ1 d r) A) := by
  unfold evHfin at h
  cases hb : evHck (aput ρ1 d r) A ck with
  | false => rw [hb] at h; cases h
  | true => rw [hb] at h; cases h; exact evHck_ok hc hk hb
theorem evHf0_ok {f : HF} {ρ ρ1 ρ' : List AV} {A A' : AHeap} {K : List AV → AHeap → Prop} (h : evHf0 call p0 f ρ ρ1 A = some (ρ', A')) (hk : K ρ' A') : orF (hevL ρ A f.xs) fun vs => hOp P (p0 + f.slot) f.op vs A fun r A' => hCk (aput ρ1 f.d r) A' f.ck (K (aput ρ1 f.d r) A') := by
  unfold evHf0 at h
  split at h
  · rename_i vs hvs
    split at h
    · rename_i r A1 hr
      exact ⟨vs, hvs, evHop_ok hc hr (evHfin_ok hc h hk)⟩
    · cases h
  · cases h
theorem evHf_ok {f : HF} {ρ ρ1 ρ' : List AV} {A A' : AHeap} {K : List AV → AHeap → Prop} (h : evHf call p0 f ρ ρ1 A = some (ρ', A')) (hk : K ρ' A') : hEf P p0 f ρ ρ1 A K := by
  unfold evHf at h
  unfold hEf
  split at h
  · rename_i hg; rw [hg]; exact evHf0_ok hc h hk
  · rename_i c w hg
    rw [hg]
    simp only []
    split at h
    · rename_i b hb
      refine ⟨_, hb, ?_⟩
      by_cases e : b = w
      · rw [if_pos e] at h
        exact ⟨fun _ => evHf0_ok hc h hk, fun e2 => by rw [e] at e2; cases w <;> cases e2⟩
      · rw [if_neg e] at h
        exact ⟨fun e2 => absurd e2 e, fun _ => evHfin_ok hc h hk⟩
    · rename_i vs hb; exact ⟨_, hb, evHfin_ok hc h hk⟩
    · cases h
theorem evHas_ok {ρ : List AV} {A : AHeap} {K : List AV → Prop} : ∀ {as : List (Nat × HE)} {ρ1 ρ2 : List AV}, evHas ρ A as ρ1 = some ρ2 → K ρ2 → hAs ρ A as ρ1 K
  | [], ρ1, ρ2, h, hk => by cases h; exact hk
  | (j, e) :: as, ρ1, ρ2, h, hk => by
    simp only [evHas] at h
    split at h
    · rename_i v hv; exact ⟨v, hv, evHas_ok h hk⟩
    · cases h
theorem evHrq_ok {ρ : List AV} {A : AHeap} {X : Prop} (hX : X) : ∀ {es : List HE}, evHrq ρ A es = true → hRq ρ A es X
  | [], _ => hX
  | e :: es, h => by
    simp only [evHrq, Bool.and_eq_true] at h
    have h1 := h.1
    split at h1
    · rename_i v hv; exact ⟨v, hv, evHrq_ok hX h.2⟩
    · cases h1
theorem evHs_ok {K : List AV → AHeap → Prop} : ∀ (ss : List HS) (ρ ρ' : List AV) (A A' : AHeap), evHs call p0 ss ρ A = some (ρ', A') → K ρ' A' → hSs P p0 ss ρ A K
  | [], ρ, ρ', A, A', h, hk => by cases h; exact hk
  | s :: ss, ρ, ρ', A, A', h, hk => by
    simp only [evHs] at h
    cases hr : evHrq ρ A s.rq with
    | false => rw [hr] at h; cases h
    | true =>
      rw [hr] at h
      simp only [cond_true] at h
      refine evHrq_ok hc ?_ hr
      split at h
      · rename_i ρ1 h1
        refine evHas_ok hc h1 ?_
        split at h
        · rename_i hf; rw [hf]; exact evHs_ok ss _ _ _ _ h hk
        · rename_i f hf
          rw [hf]
          split at h
          · rename_i ρ2 A2 h2
            exact evHf_ok (K := fun ρ A => hSs P p0 ss ρ A K) hc h2 (evHs_ok ss _ _ _ _ h hk)
          · cases h
      · cases h
theorem evHC_ok {n0 fuel : Nat} : ∀ (ic : HC) (ρ : List AV) (A : AHeap) (e : IExit) (ρ' : List AV) (A' : AHeap) (Q : IExit → List AV → AHeap → Prop), evHC call fuel ic ρ A = some (e, ρ', A') → Q e ρ' A' → hwp P n0 ic ρ A Q
  | .skip, ρ, A, e, ρ', A', Q, h, hq => by cases h; exact hq
  | .reg m ss kill, ρ, A, e, ρ', A', Q, h, hq => by
    simp only [evHC] at h
    split at h
    · rename_i ρ1 A1 h1
      cases h
      exact evHs_ok (K := fun ρ A => Q .normal (mask kill ρ) A) hc _ _ _ _ _ h1 hq
    · cases h
  | .seq x y, ρ, A, e, ρ', A', Q, h, hq => by
    simp only [evHC] at h
    split at h
    · rename_i ρ1 A1 h1
      exact evHC_ok x _ _ _ _ _ _ h1 (evHC_ok y _ _ _ _ _ _ h hq)
    · rename_i hno
      refine evHC_ok x _ _ _ _ _ _ h ?_
      cases e with
      | normal => exact absurd h (hno _ _)
      | exit id => exact hq
      | goto l => exact hq
      | ret => exact hq
  | .cond c kill x y, ρ, A, e, ρ', A', Q, h, hq => by
    simp only [evHC] at h
    split at h
    · rename_i b hb
      refine ⟨_, hb, ?_⟩
      cases b
      · exact ⟨fun e => (by cases e), fun _ => evHC_ok y _ _ _ _ _ _ h hq⟩
      · exact ⟨fun _ => evHC_ok x _ _ _ _ _ _ h hq, fun e => (by cases e)⟩
    · cases h
  | .block id x, ρ, A, e, ρ', A', Q, h, hq => by
    simp only [evHC] at h
    split at h
    · rename_i i ρ1 A1 h1
      refine evHC_ok x _ _ _ _ _ _ h1 ?_
      simp only [blockQ]
      by_cases ei : i = id
      · rw [if_pos ei] at h ⊢; cases h; exact hq
      · rw [if_neg ei] at h ⊢; cases h; exact hq
    · rename_i hno
      refine evHC_ok x _ _ _ _ _ _ h ?_
      cases e with
      | normal => exact hq
      | exit i => exact absurd h (hno _ _ _)
      | goto l => exact hq
      | ret => exact hq
  | .loop kill x, ρ, A, e, ρ', A', Q, h, hq => by
    simp only [evHC] at h
    refine ⟨fun n ρ1 A1 => evLoop (evHC call fuel x) kill n ρ1 A1 = some (e, ρ', A'), ⟨fuel, [], none, rfl, rfl, by simpa [nlR, nlA, foldRo, foldAo] using h⟩, ?_⟩
    intro i ρ1 A1 hi
    cases i with
    | zero => cases hi
    | succ i =>
      simp only [evLoop] at hi
      split at hi
      · rename_i ρ2 A2 h1
        exact evHC_ok x _ _ _ _ _ _ h1 ⟨i, Nat.lt_succ_self i, none, rfl, hi⟩
      · rename_i hno
        refine evHC_ok x _ _ _ _ _ _ hi ?_
        cases e with
        | normal => exact absurd hi (hno _ _)
        | exit i => exact hq
        | goto l => exact hq
        | ret => exact hq
  | .exit id, ρ, A, e, ρ', A', Q, h, hq => by cases h; exact hq
  | .ret, ρ, A, e, ρ', A', Q, h, hq => by cases h; exact hq
  | .label l, ρ, A, e, ρ', A', Q, h, hq => by cases h; exact hq
  | .goto l, ρ, A, e, ρ', A', Q, h, hq => by cases h; exact hq
  | .scope l kill x r, ρ, A, e, ρ', A', Q, h, hq => by
    simp only [evHC] at h
    refine ⟨fun n ρ1 A1 => evScope (evHC call fuel r) l kill n ρ1 A1 = some (e, ρ', A'), ?_, ?_⟩
    · split at h
      · rename_i l' ρ1 A1 h1
        split at h
        · rename_i hl
          exact evHC_ok x _ _ _ _ _ _ h1 ⟨hl, fuel, none, rfl, h⟩
        · cases h
      · rename_i hno
        refine evHC_ok x _ _ _ _ _ _ h ?_
        cases e with
        | goto l' => exact absurd h (hno _ _ _)
        | normal => exact hq
        | exit i => exact hq
        | ret => exact hq
    · intro i ρ1 A1 hi
      cases i with
      | zero => cases hi
      | succ i =>
        simp only [evScope] at hi
        split at hi
        · rename_i l' ρ2 A2 h1
          split at hi
          · rename_i hl
            exact evHC_ok r _ _ _ _ _ _ h1 ⟨hl, i, Nat.lt_succ_self i, none, rfl, hi⟩
          · cases hi
        · rename_i hno
          refine evHC_ok r _ _ _ _ _ _ hi ?_
          cases e with
          | goto l' => exact absurd hi (hno _ _ _)
          | normal => exact hq
          | exit i => exact hq
          | ret => exact hq
end
/-- **What is reckoned of a function is what it does.** -/
theorem evFH_ok {P : Program} {T : TabH} (hT : TabH.OK P T) {fuel : Nat} : ∀ d, CallOK P (evFH T fuel d)
  | 0 => fun f args A r A' h => by simp [evFH] at h
  | d + 1 => fun f args A r A' h => by
    simp only [evFH] at h
    split at h
    · cases h
    · rename_i V hc rs ht
      refine TabH.get_ok hT ht _ _ A _ (.refl A) (hwp_mono hc ?_ retV_of)
      have key : ∀ (e : IExit) (ρ : List AV) (A1 : AHeap), (e = .ret ∨ e = .normal) → evHC (evFH T fuel d) fuel hc (V.map fun t => args.getD t .any) A = some (e, ρ, A1) →
          (match rvs ρ A1 rs with | some vs => finish A.length (rtup vs) A1 | none => none) = some (r, A') →
          hwp P A.length hc (V.map fun t => args.getD t .any) A (retQ A.length rs fun r1 A1 => r1 = r ∧ A1 = A') := by
        intro e ρ A1 he h1 h2
        refine evHC_ok (evFH_ok hT d) _ _ _ _ _ _ _ h1 ?_
        have h3 : (match rvs ρ A1 rs with
          | some vs => ∃ ks, okKeepO A.length ks = true ∧ foldVo A.length ks (rtup vs) = r ∧ foldAo A.length ks A1 = A'
          | none => False) := by
          cases hv : rvs ρ A1 rs with
          | none => rw [hv] at h2; cases h2
          | some vs => rw [hv] at h2; exact finish_ok h2
        rcases he with rfl | rfl <;> exact h3
      split at h
      · rename_i ρ A1 h1; exact key _ _ _ (.inl rfl) h1 h
      · rename_i ρ A1 h1; exact key _ _ _ (.inr rfl) h1 h
      · cases h
theorem acall_ev {P : Program} {T : TabH} (hT : TabH.OK P T) {f : FuncId} {args : List AV} {v : AV} {A A' : AHeap} (h : evFH T 2000 60 f args A = some (v, A')) : ACall P f args A fun r B => r = v ∧ B = A' := evFH_ok hT 60 _ _ _ _ _ h
theorem pcall_ev {P : Program} {T : TabH} (hT : TabH.OK P T) {f : FuncId} {args : List AV} {v : AV} (h : evFH T 2000 60 f args [] = some (v, [])) : PCall P f args v := evFH_ok hT 60 _ _ _ _ _ h
end Go.SB
end
