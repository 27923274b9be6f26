/- Framework, part P: control: the IR's code, its weakest precondition, and that the loaded program follows it (regions that draw no order). Conditions: none. -/
import Derived.Test.YtkkccabchhnebaaFwO
import Derived.ScopeJumps
set_option linter.unusedVariables false
set_option linter.unusedSimpArgs false
namespace Go.SB

structure IOper where
  dst : Option Nat
  op : IOp
  guard : Option (Nat × Bool)
  slot : Nat
  pre : List Nat
  deriving Inhabited

inductive IExit where
  | normal
  | exit (id : Nat)
  | goto (l : Nat)
  | ret
  deriving DecidableEq, Inhabited

def IExit.is : IExit → Exit → Prop
  | .normal, .normal => True
  | .exit a, .exit b => a = b
  | .goto a, .goto b => a = b
  | .ret, .ret => True
  | _, _ => False

/-- The function can be entered. -/
def CallOk (P : Program) (f : FuncId) : Prop := ∃ fn, P.funcs[f]? = some fn ∧ fn.name ≠ "runtime.NumGoroutine" ∧ fn.body.isSome = true

/-- Places that are kept free stay so. -/
def Free (A A' : AHeap) : Prop := ∀ (l : Nat), A[l]? = some none → A'[l]? = some none

theorem Free.refl (A : AHeap) : Free A A := fun _ h => h
theorem Free.trans {A B C : AHeap} (h : Free A B) (k : Free B C) : Free A C := fun l e => k l (h l e)

/-- A call, on abstract values. -/
def ACall (P : Program) (f : FuncId) (args : List AV) (A : AHeap) (K : AV → AHeap → Prop) : Prop :=
  CallOk P f ∧ ∀ (w : World) (M : Mod) (F : Nat → Nat → Prop) (us : List Value), Sim w.heap M F A → ConcL M args us →
    Calls P f us.toArray w fun e w' => ∃ r A' M' F' u, K r A' ∧ e = .returned u ∧ Conc M' r u ∧ Sim w'.heap M' F' A' ∧ Ext w M F A w' M' F' A' ∧ Free A A'

theorem ACall.mono {P : Program} {f : FuncId} {args : List AV} {A : AHeap} {K K' : AV → AHeap → Prop} (h : ACall P f args A K) (hk : ∀ r A', K r A' → K' r A') : ACall P f args A K' :=
  ⟨h.1, fun w M F us S hL => (h.2 w M F us S hL).mono fun e w' ⟨r, A', M', F', u, hK, rest⟩ => ⟨r, A', M', F', u, hk r A' hK, rest⟩⟩

/-- A call of a function value. -/
def ACallV (P : Program) (fv : AV) (args : List AV) (A : AHeap) (K : AV → AHeap → Prop) : Prop :=
  match fv with
  | .fn f first caps => ACall P f (first ++ args ++ caps) A K
  | _ => False

def aput (ρ : List AV) (d : Option Nat) (v : AV) : List AV :=
  match d with
  | some d => ρ.set d v
  | none => ρ

def mask (ks : List Nat) (ρ : List AV) : List AV := ks.foldl (fun ρ k => ρ.set k .any) ρ

def awpOp (P : Program) (p0 : Nat) (o : IOper) (ρ : List AV) (A : AHeap) (K : List AV → AHeap → Prop) : Prop :=
  match o.op with
  | .call f args => ACallV P (f.get ρ) (args.map (·.get ρ)) A fun r A' => K (aput ρ o.dst r) A'
  | op => match astep ρ A (p0 + o.slot) op with
    | some (v, A') => K (aput ρ o.dst v) A'
    | none => False

def awpG (P : Program) (p0 : Nat) (o : IOper) (ρ : List AV) (A : AHeap) (K : List AV → AHeap → Prop) : Prop :=
  match o.guard with
  | none => awpOp P p0 o ρ A K
  | some (t, want) => match ρ.getD t .any with
    | .bool b => (b = want → awpOp P p0 o ρ A K) ∧ (b = !want → K (aput ρ o.dst (.tup [])) A)
    | .tup _ => K (aput ρ o.dst (.tup [])) A
    | _ => False

def awpOps (P : Program) (p0 : Nat) : List IOper → List AV → AHeap → (List AV → AHeap → Prop) → Prop
  | [], ρ, A, K => K ρ A
  | o :: os, ρ, A, K => awpG P p0 o ρ A fun ρ' A' => awpOps P p0 os ρ' A' K

section
variable {P : Program}

/-- Where the function began. -/
structure Ctx where
  w : World
  M : Mod
  F : Nat → Nat → Prop
  A : AHeap
  lt : ∀ l, M.D l → l < A.length

/-- The real state, beside the abstract one. -/
def St (c : Ctx) (ρ : List AV) (A : AHeap) (a : Act) (w : World) : Prop :=
  ∃ M F, Sim w.heap M F A ∧ ConcL M ρ a.tmps.toList ∧ a.defers = [] ∧ Ext c.w c.M c.F c.A w M F A ∧ Free c.A A

def APost (c : Ctx) (Q : IExit → List AV → AHeap → Prop) : Exit → Act → World → Prop :=
  fun e a w => ∃ ie ρ A, Q ie ρ A ∧ ie.is e ∧ St c ρ A a w

/-- 'n0: how many places the heap had when the function began'. -/
def AExec (P : Program) (n0 : Nat) (c : Code) (ρ : List AV) (A : AHeap) (Q : IExit → List AV → AHeap → Prop) : Prop :=
  ∀ (x : Ctx) (a : Act) (w : World), x.A.length = n0 → St x ρ A a w → c.wp P (APost x Q) a w

theorem AExec.mono {n0 : Nat} {c : Code} {ρ : List AV} {A : AHeap} {Q Q' : IExit → List AV → AHeap → Prop} (h : AExec P n0 c ρ A Q) (hq : ∀ e ρ A, Q e ρ A → Q' e ρ A) : AExec P n0 c ρ A Q' :=
  fun x a w hx hs => wp_mono (h x a w hx hs) fun e a' w' ⟨ie, ρ', A', q, r⟩ => ⟨ie, ρ', A', hq _ _ _ q, r⟩

theorem St.mask {c : Ctx} {ρ : List AV} {A : AHeap} {a : Act} {w : World} (h : St c ρ A a w) (ks : List Nat) : St c (mask ks ρ) A a w := by
  obtain ⟨M, F, S, hL, hd, E, hf⟩ := h
  refine ⟨M, F, S, ?_, hd, E, hf⟩
  clear S E
  induction ks generalizing ρ with
  | nil => exact hL
  | cons k ks ih =>
    refine ih ?_
    refine ConcL.of_get (by simp [hL.length]) ?_
    intro i x u hx hu
    by_cases e : k = i
    · subst e
      rw [List.getElem?_set_self'] at hx
      cases h : ρ[k]? with
      | none => simp [h] at hx
      | some y => simp [h] at hx; subst hx; exact .any _
    · rw [List.getElem?_set_ne e] at hx
      obtain ⟨u', hu', hc⟩ := hL.get hx
      rw [hu] at hu'; cases hu'; exact hc

theorem aexec_skip {n0 : Nat} {ρ : List AV} {A : AHeap} {Q : IExit → List AV → AHeap → Prop} (h : Q .normal ρ A) : AExec P n0 .skip ρ A Q :=
  fun x a w _ hs => wp_skip ⟨.normal, ρ, A, h, trivial, hs⟩
theorem aexec_label {n0 l : Nat} {ρ : List AV} {A : AHeap} {Q : IExit → List AV → AHeap → Prop} (h : Q .normal ρ A) : AExec P n0 (.label l) ρ A Q :=
  fun x a w _ hs => wp_label ⟨.normal, ρ, A, h, trivial, hs⟩
theorem aexec_exit {n0 id : Nat} {ρ : List AV} {A : AHeap} {Q : IExit → List AV → AHeap → Prop} (h : Q (.exit id) ρ A) : AExec P n0 (.exit id) ρ A Q :=
  fun x a w _ hs => wp_exit ⟨.exit id, ρ, A, h, rfl, hs⟩
theorem aexec_goto {n0 l : Nat} {ρ : List AV} {A : AHeap} {Q : IExit → List AV → AHeap → Prop} (h : Q (.goto l) ρ A) : AExec P n0 (.goto l) ρ A Q :=
  fun x a w _ hs => wp_goto ⟨.goto l, ρ, A, h, rfl, hs⟩
theorem aexec_ret {n0 : Nat} {ρ : List AV} {A : AHeap} {Q : IExit → List AV → AHeap → Prop} (h : Q .ret ρ A) : AExec P n0 .ret ρ A Q :=
  fun x a w _ hs => wp_ret ⟨.ret, ρ, A, h, trivial, hs⟩

def seqQ (next : List AV → AHeap → Prop) (Q : IExit → List AV → AHeap → Prop) (e : IExit) (ρ : List AV) (A : AHeap) : Prop :=
  match e with
  | .normal => next ρ A
  | e => Q e ρ A

theorem aexec_seq {n0 : Nat} {x y : Code} {ρ : List AV} {A : AHeap} {Q : IExit → List AV → AHeap → Prop} {N : List AV → AHeap → Prop} (h : AExec P n0 x ρ A (seqQ N Q)) (hy : ∀ ρ A, N ρ A → AExec P n0 y ρ A Q) : AExec P n0 (.seq x y) ρ A Q := by
  intro c a w hn hs
  refine wp_seq (wp_mono (h c a w hn hs) ?_)
  rintro e a' w' ⟨ie, ρ', A', hq, hi, hs'⟩
  cases ie <;> cases e <;> simp only [IExit.is] at hi <;> simp only [seqQ] at hq <;> simp only [Exit.then]
  · exact hy _ _ hq c a' w' hn hs'
  · exact ⟨.exit _, ρ', A', hq, hi, hs'⟩
  · exact ⟨.goto _, ρ', A', hq, hi, hs'⟩
  · exact ⟨.ret, ρ', A', hq, trivial, hs'⟩

theorem aexec_cond {n0 : Nat} {c : Operand} {c' : Opd} {x y : Code} {ρ : List AV} {A : AHeap} {Q : IExit → List AV → AHeap → Prop} {b : Bool} (hc : copd c = some c') (hb : c'.get ρ = .bool b) {ks : List Nat}
    (hx : b = true → AExec P n0 x (mask ks ρ) A Q) (hy : b = false → AExec P n0 y (mask ks ρ) A Q) : AExec P n0 (.cond c x y) ρ A Q := by
  intro ctx a w hn hs
  have hs0 := hs
  obtain ⟨M, F, S, hL, hd, E, hf⟩ := hs
  have hv := copd_ok hc hL
  rw [hb] at hv
  have hv := conc_bool hv
  cases b
  · exact wp_cond_false hv (hy rfl ctx a w hn (hs0.mask ks))
  · exact wp_cond_true hv (hx rfl ctx a w hn (hs0.mask ks))

def blockQ (id : Nat) (Q : IExit → List AV → AHeap → Prop) (e : IExit) (ρ : List AV) (A : AHeap) : Prop :=
  match e with
  | .exit id' => if id' = id then Q .normal ρ A else Q (.exit id') ρ A
  | e => Q e ρ A

theorem aexec_block {n0 id : Nat} {x : Code} {ρ : List AV} {A : AHeap} {Q : IExit → List AV → AHeap → Prop} (h : AExec P n0 x ρ A (blockQ id Q)) : AExec P n0 (.block id x) ρ A Q := by
  intro c a w hn hs
  refine wp_block (wp_mono (h c a w hn hs) ?_)
  rintro e a' w' ⟨ie, ρ', A', hq, hi, hs'⟩
  cases ie <;> cases e <;> simp only [IExit.is] at hi <;> simp only [blockQ] at hq <;> simp only [Exit.inBlock]
  · exact ⟨.normal, ρ', A', hq, trivial, hs'⟩
  · subst hi
    split at hq
    · rename_i e; rw [if_pos e]; exact ⟨.normal, ρ', A', hq, trivial, hs'⟩
    · rename_i e; rw [if_neg e]; exact ⟨.exit _, ρ', A', hq, rfl, hs'⟩
  · exact ⟨.goto _, ρ', A', hq, hi, hs'⟩
  · exact ⟨.ret, ρ', A', hq, trivial, hs'⟩

theorem wp_loop_ix {ι : Type} {Q : Exit → Act → World → Prop} {a : Act} {w : World} {c : Code} (I : ι → Act → World → Prop) (μ : ι → Nat) (i : ι) (h₀ : I i a w)
    (round : ∀ i a w, I i a w → c.wp P (Exit.then (fun a' w' => ∃ j, I j a' w' ∧ μ j < μ i) Q) a w) : (Code.loop c).wp P Q a w := by
  intro b k cs
  have key : ∀ n i a w, μ i = n → I i a w →
      ∃ e a' w', Q e a' w' ∧ Arrives P (lone (b.at a (.code c :: .inLoop c :: k)) cs w) b k cs e a' w' := by
    intro n
    induction n using Nat.strongRecOn with
    | _ n ih =>
      intro i a w hn hI
      obtain ⟨e, a₁, w₁, hq, harr⟩ := round i a w hI b (.inLoop c :: k) cs
      cases e with
      | normal =>
        obtain ⟨j, hI₁, hlt⟩ := hq
        obtain ⟨e₂, a₂, w₂, hq₂, harr₂⟩ := ih (μ j) (hn ▸ hlt) j a₁ w₁ rfl hI₁
        exact ⟨e₂, a₂, w₂, hq₂, .of_steps (Steps.trans harr (.one step_inLoop)) harr₂⟩
      | exit id => exact ⟨_, a₁, w₁, hq, .pass (x := .inLoop c) rfl (fun _ _ => .inl (by simp)) harr⟩
      | goto l => exact ⟨_, a₁, w₁, hq, .pass (x := .inLoop c) rfl (fun _ _ => .inl (by simp)) harr⟩
      | ret => exact ⟨_, a₁, w₁, hq, .pass (x := .inLoop c) rfl (fun _ _ => .inl (by simp)) harr⟩
      | panic ch => exact ⟨_, a₁, w₁, hq, .pass (x := .inLoop c) rfl (fun _ _ => .inl (by simp)) harr⟩
      | outgrown => exact ⟨_, a₁, w₁, hq, .pass (x := .inLoop c) rfl (fun _ _ => .inl (by simp)) harr⟩
  obtain ⟨e, a', w', hq, harr⟩ := key _ i a w rfl h₀
  exact ⟨e, a', w', hq, .of_steps (.one step_loop) harr⟩
end
end Go.SB
