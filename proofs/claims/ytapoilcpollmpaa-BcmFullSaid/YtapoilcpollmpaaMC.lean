/- FwV, FwW, FwX, FwXa, FwY, FwZ, FwLa, FwLb, FwLc, put together. Conditions: none. -/
import Derived.Test.YtapoilcpollmpaaMB
import Derived.KernelRfl
import Derived.ProofKit
import Derived.Carry
import Derived.ChangeArms
import Derived.WideShapes
/- Framework, part V: the IR's code, its weakest precondition, and that the loaded program's code follows it. -/
section
set_option linter.unusedVariables false
set_option linter.unusedSimpArgs false
namespace Go.SB

inductive IC where
  | skip
  | region (m : Nat) (ops : List IOper) (kill : List Nat)
  | regionD (m : Nat) (ops : List IOper) (ord ms kill : List Nat)
  | seq (x y : IC)
  | cond (c : Opd) (kill : List Nat) (x y : IC)
  | block (id : Nat) (c : IC)
  | loop (kill : List Nat) (c : IC)
  | exit (id : Nat)
  | ret
  | label (l : Nat)
  | goto (l : Nat)
  | scope (l : Nat) (kill : List Nat) (c rest : IC)
  deriving Inhabited

/-- What stands behind a label. -/
def icFind : IC → Nat → Option IC
  | .seq a b, l => match icFind a l with
    | some r => some (.seq r b)
    | none => icFind b l
  | .label l', l => if l' == l then some .skip else none
  | _, _ => none

/-- By a goto to l: J; by another: no way out. -/
def jumpQ (l : Nat) (J : List AV → AHeap → Prop) (Q : IExit → List AV → AHeap → Prop) (e : IExit) (ρ : List AV) (A : AHeap) : Prop :=
  match e with
  | .goto l' => l' = l ∧ J ρ A
  | e => Q e ρ A

/-- Numbered anew (some ks), or left as it is. -/
def foldRo (n0 : Nat) : Option (List Nat) → List AV → List AV
  | none, ρ => ρ
  | some ks, ρ => foldR n0 ks ρ
def foldAo (n0 : Nat) : Option (List Nat) → AHeap → AHeap
  | none, A => A
  | some ks, A => foldA n0 ks A
def foldVo (n0 : Nat) : Option (List Nat) → AV → AV
  | none, v => v
  | some ks, v => AV.ren (fnew n0 ks) v
def okKeepO (n0 : Nat) : Option (List Nat) → Bool
  | none => true
  | some ks => okKeep n0 ks

theorem St.foldo {c : Ctx} {ρ : List AV} {A : AHeap} {a : Act} {w : World} (hs : St c ρ A a w) {ks : Option (List Nat)} (hk : okKeepO c.A.length ks = true) : St c (foldRo c.A.length ks ρ) (foldAo c.A.length ks A) a w := by
  cases ks with
  | none => exact hs
  | some ks => exact hs.fold (P := default) hk

def loopQ (n0 : Nat) (kill : List Nat) (I : Nat → List AV → AHeap → Prop) (i : Nat) (Q : IExit → List AV → AHeap → Prop) (e : IExit) (ρ : List AV) (A : AHeap) : Prop :=
  match e with
  | .normal => ∃ j, j < i ∧ ∃ ks, okKeepO n0 ks = true ∧ I j (foldRo n0 ks (mask kill ρ)) (foldAo n0 ks A)
  | e => Q e ρ A

def awp (P : Program) (n0 : Nat) : IC → List AV → AHeap → (IExit → List AV → AHeap → Prop) → Prop
  | .skip, ρ, A, Q => Q .normal ρ A
  | .region m ops kill, ρ, A, Q => awpOps P A.length ops ρ (A.more m) fun ρ' A' => Q .normal (mask kill ρ') A'
  | .regionD m ops ord ms kill, ρ, A, Q => awpOrd P A.length ops (waits ms) (fun ρ' A' => Q .normal (mask kill ρ') A') ord [] ρ (A.more m)
  | .seq x y, ρ, A, Q => awp P n0 x ρ A (seqQ (fun ρ' A' => awp P n0 y ρ' A' Q) Q)
  | .cond c kill x y, ρ, A, Q => match c.get ρ with
    | .bool b => (b = true → awp P n0 x (mask kill ρ) A Q) ∧ (b = false → awp P n0 y (mask kill ρ) A Q)
    | _ => False
  | .block id x, ρ, A, Q => awp P n0 x ρ A (blockQ id Q)
  | .loop kill x, ρ, A, Q => ∃ I : Nat → List AV → AHeap → Prop, (∃ i nl ks, nlOk nl (mask kill ρ) = true ∧ okKeepO n0 ks = true ∧ I i (foldRo n0 ks (nlR nl A.length (mask kill ρ))) (foldAo n0 ks (A ++ nlA nl))) ∧ ∀ i ρ' A', I i ρ' A' → awp P n0 x ρ' A' (loopQ n0 kill I i Q)
  | .exit id, ρ, A, Q => Q (.exit id) ρ A
  | .ret, ρ, A, Q => Q .ret ρ A
  | .label _, ρ, A, Q => Q .normal ρ A
  | .goto l, ρ, A, Q => Q (.goto l) ρ A
  | .scope l kill x r, ρ, A, Q => ∃ J : Nat → List AV → AHeap → Prop,
      awp P n0 x ρ A (jumpQ l (fun ρ' A' => ∃ i ks, okKeepO n0 ks = true ∧ J i (foldRo n0 ks (mask kill ρ')) (foldAo n0 ks A')) Q) ∧
      ∀ i ρ' A', J i ρ' A' → awp P n0 r ρ' A' (jumpQ l (fun ρ2 A2 => ∃ j, j < i ∧ ∃ ks, okKeepO n0 ks = true ∧ J j (foldRo n0 ks (mask kill ρ2)) (foldAo n0 ks A2)) Q)

/-! ### From the loaded program -/

def makesRoom : IOp → Bool
  | .alloc .. | .box .. | .bslice .. | .mkmap | .mksl .. | .app .. => true
  | _ => false

def compOper (P : Program) (kops : Array Oper) (slot : Nat) (o : Oper) : Option IOper :=
  match cop P o with
  | none => none
  | some op => match o.guard with
    | none => some ⟨o.dst, op, none, slot, (o.after.toList.filter (Region.binds .any)).map (·.on)⟩
    | some (g, want) => match (kops[g]?).bind (·.dst) with
      | some t => some ⟨o.dst, op, some (t, want), slot, (o.after.toList.filter (Region.binds .any)).map (·.on)⟩
      | none => none

def compOps (P : Program) (kops : Array Oper) : List Oper → Nat → Option (List IOper × Nat)
  | [], m => some ([], m)
  | o :: os, m => match compOper P kops m o with
    | none => none
    | some io => match compOps P kops os (bif makesRoom io.op then m + 1 else m) with
      | none => none
      | some (ios, m') => some (io :: ios, m')

def pairsAll (f : Nat → IOper → Nat → IOper → Bool) (ios : List IOper) : Bool := ios.zipIdx.all fun (x, i) => ios.zipIdx.all fun (y, j) => f i x j y

def apartB (x y : IOper) : Bool :=
  (match x.dst with | some d => !y.looks.contains d && y.dst != some d | none => true) && (match y.dst with | some d => !x.looks.contains d | none => true)

def statics (ios : List IOper) (ord ms : List Nat) : Bool :=
  (ancMasks ios [] == ms) && (ord.length == ios.length) && okOrd ios (waits ms) ios.length ord [] &&
  pairsAll (fun i x j y => i == j || waits ms i j || waits ms j i || apartB x y) ios &&
  pairsAll (fun i x j y => !(x.op.cls == .read) || waits ms j i || (match y.dst with | some d => !x.looks.contains d | none => true)) ios &&
  pairsAll (fun i x j y => i == j || !(x.op.cls == .make) || !(y.op.cls == .make) || x.slot != y.slot) ios

def comp (P : Program) : Code → List (List Nat) → Option (IC × List (List Nat))
  | .skip, h => some (.skip, h)
  | .region _ ops false, h => match h with
    | k :: h => (match compOps P ops ops.toList 0 with
      | some (ios, m) => some (.region m ios k, h)
      | none => none)
    | [] => none
  | .region _ ops true, h => match h with
    | ord :: ms :: k :: h => (match compOps P ops ops.toList 0 with
      | some (ios, m) => bif statics ios ord ms then some (.regionD m ios ord ms k, h) else none
      | none => none)
    | _ => none
  | .seq a b, h => match comp P a h with
    | some (x, h) => (match comp P b h with
      | some (y, h) => some (.seq x y, h)
      | none => none)
    | none => none
  | .cond c a b, h => match h with
    | k :: h => (match copd c with
      | some c' => (match comp P a h with
        | some (x, h) => (match comp P b h with
          | some (y, h) => some (.cond c' k x y, h)
          | none => none)
        | none => none)
      | none => none)
    | [] => none
  | .block id a, h => match comp P a h with
    | some (x, h) => some (.block id x, h)
    | none => none
  | .loop a, h => match h with
    | k :: h => (match comp P a h with
      | some (x, h) => some (.loop k x, h)
      | none => none)
    | [] => none
  | .exit id, h => some (.exit id, h)
  | .ret, h => some (.ret, h)
  | .label l, h => some (.label l, h)
  | .goto l, h => some (.goto l, h)
  | .scope a, h => match h with
    | [l] :: k :: h => (match comp P a h with
      | some (x, h) => (match findLabel a l with
        | some _ => (match icFind x l with
          | some r => some (.scope l k x r, h)
          | none => none)
        | none => none)
      | none => none)
    | _ => none
  | _, _ => none

section
variable {P : Program}

theorem compOper_ok {kops : Array Oper} {m : Nat} {o : Oper} {io : IOper} (h : compOper P kops m o = some io) : OpRel P kops o io ∧ (∀ p, p ∈ io.pre ↔ ∃ e ∈ o.after, Region.binds .any e = true ∧ e.on = p) := by
  have hpre : ∀ p, p ∈ (o.after.toList.filter (Region.binds .any)).map (·.on) ↔ ∃ e ∈ o.after, Region.binds .any e = true ∧ e.on = p := fun p => by
    simp only [List.mem_map, List.mem_filter, Array.mem_toList_iff, and_assoc]
  unfold compOper at h
  split at h
  · cases h
  · rename_i op hop
    split at h
    · rename_i hg; cases h; exact ⟨⟨rfl, hop, .inl ⟨hg, rfl⟩⟩, hpre⟩
    · rename_i g want hg
      split at h
      · rename_i t ht; cases h; exact ⟨⟨rfl, hop, .inr ⟨g, want, t, hg, rfl, ht⟩⟩, hpre⟩
      · cases h

theorem compOps_ok {kops : Array Oper} : ∀ (os : List Oper) (m : Nat) (ios : List IOper) (m' : Nat), compOps P kops os m = some (ios, m') → os.length = ios.length ∧
    ∀ (i : Nat) (o : Oper), os[i]? = some o → ∃ io, ios[i]? = some io ∧ OpRel P kops o io ∧ (∀ p, p ∈ io.pre ↔ ∃ e ∈ o.after, Region.binds .any e = true ∧ e.on = p)
  | [], m, ios, m', h => by cases h; exact ⟨rfl, by simp⟩
  | o :: os, m, ios, m', h => by
    unfold compOps at h
    split at h
    · cases h
    · rename_i io hio
      split at h
      · cases h
      · rename_i ios' m2 hios
        cases h
        obtain ⟨h1, h2⟩ := compOps_ok os _ _ _ hios
        refine ⟨by simp [h1], fun i o' ho => ?_⟩
        cases i with
        | zero => simp at ho; subst ho; exact ⟨io, by simp, compOper_ok hio⟩
        | succ i => simpa using h2 i o' (by simpa using ho)

theorem opsRel_of {kops : Array Oper} {m m' : Nat} {ios : List IOper} (h : compOps P kops kops.toList m = some (ios, m')) : OpsRel P kops ios := by
  obtain ⟨h1, h2⟩ := compOps_ok _ _ _ _ h
  exact ⟨by simpa using h1, fun i o ho => h2 i o (by simpa using ho)⟩

theorem pairsAll_spec {f : Nat → IOper → Nat → IOper → Bool} {ios : List IOper} (h : pairsAll f ios = true) (i j : Nat) (x y : IOper) (hi : ios[i]? = some x) (hj : ios[j]? = some y) : f i x j y = true := by
  have h1 := List.all_eq_true.1 h (x, i) (by rw [List.mem_zipIdx_iff_getElem?]; exact hi)
  exact List.all_eq_true.1 h1 (y, j) (by rw [List.mem_zipIdx_iff_getElem?]; exact hj)

theorem statics_spec {ios : List IOper} {ord ms : List Nat} (h : statics ios ord ms = true) : AncOK ios (waits ms) ∧ ApartAll ios (waits ms) ∧ ReadsAll ios (waits ms) ∧ SlotsApart ios ∧ okOrd ios (waits ms) ios.length ord [] = true ∧ ord.length = ios.length := by
  simp only [statics, Bool.and_eq_true, beq_iff_eq] at h
  obtain ⟨⟨⟨⟨⟨h1, h2⟩, h3⟩, h4⟩, h5⟩, h6⟩ := h
  refine ⟨by rw [← h1]; exact anc_ok ios, ?_, ?_, ?_, h3, h2⟩
  · intro i j x y hi hj hij a1 a2
    have := pairsAll_spec h4 i j x y hi hj
    simp only [a1, a2, Bool.or_eq_true, beq_iff_eq, hij, Bool.false_eq_true, false_or] at this
    simp only [apartB, Bool.and_eq_true] at this
    obtain ⟨q1, q2⟩ := this
    refine ⟨fun t ht => ?_, fun t ht => ?_, fun t ht => ?_⟩
    · rw [ht] at q1; simp at q1; exact q1.1
    · rw [ht] at q2; simp at q2; exact q2
    · rw [ht] at q1; simp at q1; exact q1.2
  · intro i j x y hi hj hc a1 t ht
    have := pairsAll_spec h5 i j x y hi hj
    simp [hc, a1, ht] at this
    exact this
  · intro i j x y hi hj hij c1 c2
    have := pairsAll_spec h6 i j x y hi hj
    simp [c1, c2, hij] at this
    exact this

variable {n0 : Nat} {ρ : List AV} {A : AHeap} {Q : IExit → List AV → AHeap → Prop}

theorem aexec_mask {c : Code} (kill : List Nat) (h : AExec P n0 c ρ A fun e ρ' A' => match e with | .normal => Q .normal (mask kill ρ') A' | e => Q e ρ' A') : AExec P n0 c ρ A Q :=
  fun x a w hx hs => wp_mono (h x a w hx hs) fun e a' w' ⟨ie, ρ', A', q, r, s⟩ => by
    cases ie with
    | normal => exact ⟨.normal, mask kill ρ', A', q, r, s.mask kill⟩
    | exit id => exact ⟨_, ρ', A', q, r, s⟩
    | goto l => exact ⟨_, ρ', A', q, r, s⟩
    | ret => exact ⟨_, ρ', A', q, r, s⟩

theorem aexec_loop {c : Code} {kill : List Nat} (I : Nat → List AV → AHeap → Prop) (h0 : ∃ i nl ks, nlOk nl (mask kill ρ) = true ∧ okKeepO n0 ks = true ∧ I i (foldRo n0 ks (nlR nl A.length (mask kill ρ))) (foldAo n0 ks (A ++ nlA nl)))
    (h : ∀ i ρ' A', I i ρ' A' → AExec P n0 c ρ' A' (loopQ n0 kill I i Q)) : AExec P n0 (.loop c) ρ A Q := by
  intro x a w hx hs
  obtain ⟨i, nl, ks, hn, hk, hI⟩ := h0
  refine wp_loop_ix (ι := Nat) (fun i a w => ∃ ρ A, I i ρ A ∧ St x ρ A a w) id i ?_ ?_
  · have := ((hs.mask kill).nl hn).foldo (ks := ks) (by rw [hx]; exact hk)
    rw [hx] at this
    exact ⟨_, _, hI, this⟩
  · rintro i a w ⟨ρ', A', hI', hs'⟩
    refine wp_mono (h i ρ' A' hI' x a w hx hs') ?_
    rintro e a' w' ⟨ie, ρ2, A2, hq, hi, hs2⟩
    cases ie <;> cases e <;> simp only [IExit.is] at hi <;> simp only [loopQ] at hq <;> simp only [Exit.then]
    · obtain ⟨j, hj, ks, hk, hI2⟩ := hq
      have := (hs2.mask kill).foldo (ks := ks) (by rw [hx]; exact hk)
      rw [hx] at this
      exact ⟨j, ⟨_, _, hI2, this⟩, hj⟩
    · exact ⟨.exit _, ρ2, A2, hq, hi, hs2⟩
    · exact ⟨.goto _, ρ2, A2, hq, hi, hs2⟩
    · exact ⟨.ret, ρ2, A2, hq, trivial, hs2⟩

theorem awpOps_mono {p0 : Nat} {K K' : List AV → AHeap → Prop} (hk : ∀ ρ A, K ρ A → K' ρ A) : ∀ (os : List IOper) (ρ : List AV) (A : AHeap), awpOps P p0 os ρ A K → awpOps P p0 os ρ A K'
  | [], ρ, A, h => hk _ _ h
  | o :: os, ρ, A, h => awpG_mono h fun ρ' A' h' => awpOps_mono hk os ρ' A' h'

theorem wp_scope_ix {ι : Type} {Q : Exit → Act → World → Prop} {a : Act} {w : World} {c rest : Code} (l : Nat) (J : ι → Act → World → Prop) (μ : ι → Nat) (hf : findLabel c l = some rest)
    (first : c.wp P (Exit.jump l (fun a w => ∃ i, J i a w) Q) a w)
    (pass : ∀ i a w, J i a w → rest.wp P (Exit.jump l (fun a' w' => ∃ j, J j a' w' ∧ μ j < μ i) Q) a w) : (Code.scope c).wp P Q a w := by
  intro b k cs
  have hg : gotoIn l (.inScope c :: k) = some (.code rest :: .inScope c :: k) := by simp [gotoIn, hf]
  have key : ∀ n i a w, μ i = n → J i a w → ∃ e a' w', Q e a' w' ∧ Arrives P (lone (b.at a (.code rest :: .inScope c :: k)) cs w) b k cs e a' w' := by
    intro n
    induction n using Nat.strongRecOn with
    | _ n ih =>
      intro i a w hn hJ
      obtain ⟨e, a1, w1, hq, harr⟩ := pass i a w hJ b (.inScope c :: k) cs
      cases e with
      | goto l' =>
        obtain ⟨rfl, j, hJ', hlt⟩ := hq
        obtain ⟨e2, a2, w2, hq2, harr2⟩ := ih _ (hn ▸ hlt) j a1 w1 rfl hJ'
        exact ⟨e2, a2, w2, hq2, .of_steps (harr _ hg) harr2⟩
      | normal => exact ⟨.normal, a1, w1, hq, Steps.trans harr (.one step_inScope)⟩
      | exit id => exact ⟨.exit id, a1, w1, hq, fun k' hk => harr k' (by simp [exitTo, hk])⟩
      | _ => exact ⟨_, a1, w1, hq, harr⟩
  obtain ⟨e, a1, w1, hq, harr⟩ := first b (.inScope c :: k) cs
  cases e with
  | goto l' =>
    obtain ⟨rfl, i, hJ'⟩ := hq
    obtain ⟨e2, a2, w2, hq2, harr2⟩ := key _ i a1 w1 rfl hJ'
    exact ⟨e2, a2, w2, hq2, .of_steps (.head step_scope (harr _ hg)) harr2⟩
  | normal => exact ⟨.normal, a1, w1, hq, .head step_scope (Steps.trans harr (.one step_inScope))⟩
  | exit id => exact ⟨.exit id, a1, w1, hq, fun k' hk => .head step_scope (harr k' (by simp [exitTo, hk]))⟩
  | _ => exact ⟨_, a1, w1, hq, .of_steps (.one step_scope) harr⟩

theorem jump_of {l : Nat} {J : List AV → AHeap → Prop} {J' : Act → World → Prop} {x : Ctx} (hJ : ∀ ρ A a w, J ρ A → St x ρ A a w → J' a w) {e : Exit} {a : Act} {w : World} (h : APost x (jumpQ l J Q) e a w) : Exit.jump l J' (APost x Q) e a w := by
  obtain ⟨ie, ρ', A', hq, hi, hs⟩ := h
  cases ie <;> cases e <;> simp only [IExit.is] at hi <;> simp only [jumpQ] at hq <;> simp only [Exit.jump]
  · exact ⟨.normal, ρ', A', hq, trivial, hs⟩
  · exact ⟨.exit _, ρ', A', hq, hi, hs⟩
  · exact ⟨hi ▸ hq.1, hJ _ _ _ _ hq.2 hs⟩
  · exact ⟨.ret, ρ', A', hq, trivial, hs⟩

theorem aexec_scope {c rest : Code} {l : Nat} {kill : List Nat} (hf : findLabel c l = some rest) (J : Nat → List AV → AHeap → Prop)
    (h0 : AExec P n0 c ρ A (jumpQ l (fun ρ' A' => ∃ i ks, okKeepO n0 ks = true ∧ J i (foldRo n0 ks (mask kill ρ')) (foldAo n0 ks A')) Q))
    (h : ∀ i ρ' A', J i ρ' A' → AExec P n0 rest ρ' A' (jumpQ l (fun ρ2 A2 => ∃ j, j < i ∧ ∃ ks, okKeepO n0 ks = true ∧ J j (foldRo n0 ks (mask kill ρ2)) (foldAo n0 ks A2)) Q)) : AExec P n0 (.scope c) ρ A Q := by
  intro x a w hx hs
  have fold1 : ∀ {ρ A a w} {ks : Option (List Nat)}, St x ρ A a w → okKeepO n0 ks = true → St x (foldRo n0 ks (mask kill ρ)) (foldAo n0 ks A) a w := by
    intro ρ A a w ks hs hk
    have := (hs.mask kill).foldo (ks := ks) (by rw [hx]; exact hk)
    rwa [hx] at this
  refine wp_scope_ix (ι := Nat) l (fun i a w => ∃ ρ A, J i ρ A ∧ St x ρ A a w) id hf ?_ ?_
  · refine wp_mono (h0 x a w hx hs) fun e a' w' hp => jump_of ?_ hp
    rintro ρ' A' a' w' ⟨i, ks, hk, hJ⟩ hs'
    exact ⟨i, _, _, hJ, fold1 hs' hk⟩
  · rintro i a w ⟨ρ', A', hJ, hs'⟩
    refine wp_mono (h i ρ' A' hJ x a w hx hs') fun e a' w' hp => jump_of ?_ hp
    rintro ρ2 A2 a2 w2 ⟨j, hj, ks, hk, hJ2⟩ hs2
    exact ⟨j, ⟨_, _, hJ2, fold1 hs2 hk⟩, hj⟩

theorem find_none : ∀ (c : Code) (h h' : List (List Nat)) (ic : IC) (l : Nat), comp P c h = some (ic, h') → findLabel c l = none → icFind ic l = none
  | .seq a b, h, h', ic, l, hc, hf => by
    simp only [comp] at hc
    split at hc
    · rename_i x h1 ha
      split at hc
      · rename_i y h2 hb
        cases hc
        simp only [findLabel] at hf
        cases hfa : findLabel a l with
        | some ra => rw [hfa] at hf; cases hf
        | none =>
          rw [hfa] at hf
          simp only [icFind, find_none a _ _ _ l ha hfa]
          exact find_none b _ _ _ l hb hf
      · cases hc
    · cases hc
  | .label l', h, h', ic, l, hc, hf => by
    cases hc
    simp only [findLabel] at hf
    split at hf
    · cases hf
    · rename_i e; simp only [icFind, e, if_false, Bool.false_eq_true]
  | .skip, _, _, _, _, hc, _ => by cases hc; rfl
  | .region id ops false, h, h', ic, l, hc, hf => by
    simp only [comp] at hc
    split at hc
    · split at hc
      · cases hc; rfl
      · cases hc
    · cases hc
  | .region id ops true, h, h', ic, l, hc, hf => by
    simp only [comp] at hc
    split at hc
    · split at hc
      · rw [Bool.cond_eq_ite] at hc
        split at hc
        · cases hc; rfl
        · cases hc
      · cases hc
    · cases hc
  | .cond c a b, h, h', ic, l, hc, hf => by
    simp only [comp] at hc
    split at hc
    · split at hc
      · split at hc
        · split at hc
          · cases hc; rfl
          · cases hc
        · cases hc
      · cases hc
    · cases hc
  | .block id a, h, h', ic, l, hc, hf => by
    simp only [comp] at hc
    split at hc
    · cases hc; rfl
    · cases hc
  | .loop a, h, h', ic, l, hc, hf => by
    simp only [comp] at hc
    split at hc
    · split at hc
      · cases hc; rfl
      · cases hc
    · cases hc
  | .rangeFunc .., _, _, _, _, hc, _ => by simp [comp] at hc
  | .exit .., _, _, _, _, hc, _ => by cases hc; rfl
  | .scope a, h, h', ic, l, hc, hf => by
    simp only [comp] at hc
    split at hc
    · split at hc
      · split at hc
        · split at hc
          · cases hc; rfl
          · cases hc
        · cases hc
      · cases hc
    · cases hc
  | .goto .., _, _, _, _, hc, _ => by cases hc; rfl
  | .ret, _, _, _, _, hc, _ => by cases hc; rfl
  | .refuse .., _, _, _, _, hc, _ => by simp [comp] at hc

/-- The code does what the IR's code does. -/
def Sound (P : Program) (c : Code) (ic : IC) : Prop := ∀ (n0 : Nat) (ρ : List AV) (A : AHeap) (Q : IExit → List AV → AHeap → Prop), awp P n0 ic ρ A Q → AExec P n0 c ρ A Q

theorem find_seq {a b : Code} {x y ic : IC} {l : Nat} {rest : Code} {h2 h' : List (List Nat)} (hsb : Sound P b y) (hfa : ∀ ra, findLabel a l = some ra → ∃ r, icFind x l = some r ∧ Sound P ra r)
    (hfb : findLabel b l = some rest → ∃ r, icFind y l = some r ∧ Sound P rest r) (hna : findLabel a l = none → icFind x l = none) (hc : some (IC.seq x y, h2) = some (ic, h')) (hf : findLabel (.seq a b) l = some rest) :
    ∃ r, icFind ic l = some r ∧ Sound P rest r := by
  cases hc
  simp only [findLabel] at hf
  cases h : findLabel a l with
  | some ra =>
    rw [h] at hf; cases hf
    obtain ⟨r, h3, h4⟩ := hfa ra h
    exact ⟨.seq r y, by simp only [icFind, h3], fun n0 ρ A Q hw => aexec_seq (h4 _ _ _ _ hw) fun ρ' A' hy => hsb _ _ _ _ hy⟩
  | none =>
    rw [h] at hf
    obtain ⟨r, h3, h4⟩ := hfb hf
    exact ⟨r, by simp only [icFind, hna h]; exact h3, h4⟩

theorem comp_all (hm : P.follows .mixedOrders = true) (c : Code) : (∀ (h h' : List (List Nat)) (ic : IC), comp P c h = some (ic, h') → Sound P c ic) ∧
    (∀ (h h' : List (List Nat)) (ic : IC) (l : Nat) (rest : Code), comp P c h = some (ic, h') → findLabel c l = some rest → ∃ r, icFind ic l = some r ∧ Sound P rest r) := by
  induction c with
  | skip => exact ⟨fun h h' ic hc n0 ρ A Q hw => by cases hc; exact aexec_skip hw, fun _ _ _ _ _ _ hf => by simp [findLabel] at hf⟩
  | region id ops draw =>
    refine ⟨fun h h' ic hc n0 ρ A Q hw => ?_, fun _ _ _ _ _ _ hf => by simp [findLabel] at hf⟩
    cases draw with
    | false =>
      simp only [comp] at hc
      split at hc
      · split at hc
        · rename_i ios m hco
          cases hc
          exact aexec_mask _ (aexec_region (opsRel_of hco) hw)
        · cases hc
      · cases hc
    | true =>
      simp only [comp] at hc
      split at hc
      · split at hc
        · rename_i ios m hco
          cases hst : statics ios _ _ with
          | false => rw [hst] at hc; cases hc
          | true =>
            rw [hst] at hc
            cases hc
            obtain ⟨q1, q2, q3, q4, q5, q6⟩ := statics_spec hst
            exact aexec_mask _ (aexec_regionD hm (opsRel_of hco) q1 q2 q3 q4 q5 q6 hw)
        · cases hc
      · cases hc
  | seq a b iha ihb =>
    refine ⟨fun h h' ic hc n0 ρ A Q hw => ?_, fun h h' ic l rest hc hf => ?_⟩
    · simp only [comp] at hc
      split at hc
      · rename_i x h1 ha
        split at hc
        · rename_i y h2 hb
          cases hc
          exact aexec_seq (iha.1 _ _ _ ha _ _ _ _ hw) fun ρ' A' hy => ihb.1 _ _ _ hb _ _ _ _ hy
        · cases hc
      · cases hc
    · simp only [comp] at hc
      split at hc
      · rename_i x h1 ha
        split at hc
        · rename_i y h2 hb
          exact find_seq (ihb.1 _ _ _ hb) (fun ra => iha.2 _ _ _ l ra ha) (ihb.2 _ _ _ l rest hb) (fun hn => find_none a _ _ _ l ha hn) hc hf
        · cases hc
      · cases hc
  | cond c a b iha ihb =>
    refine ⟨fun h h' ic hc n0 ρ A Q hw => ?_, fun _ _ _ _ _ _ hf => by simp [findLabel] at hf⟩
    simp only [comp] at hc
    split at hc
    · split at hc
      · rename_i c' hcc
        split at hc
        · rename_i x h1 ha
          split at hc
          · rename_i y h2 hb
            cases hc
            simp only [awp] at hw
            split at hw
            · rename_i bb hbb
              exact aexec_cond hcc hbb (fun e => iha.1 _ _ _ ha _ _ _ _ (hw.1 e)) (fun e => ihb.1 _ _ _ hb _ _ _ _ (hw.2 e))
            · exact hw.elim
          · cases hc
        · cases hc
      · cases hc
    · cases hc
  | block id a iha =>
    refine ⟨fun h h' ic hc n0 ρ A Q hw => ?_, fun _ _ _ _ _ _ hf => by simp [findLabel] at hf⟩
    simp only [comp] at hc
    split at hc
    · rename_i x h1 ha
      cases hc
      exact aexec_block (iha.1 _ _ _ ha _ _ _ _ hw)
    · cases hc
  | loop a iha =>
    refine ⟨fun h h' ic hc n0 ρ A Q hw => ?_, fun _ _ _ _ _ _ hf => by simp [findLabel] at hf⟩
    simp only [comp] at hc
    split at hc
    · split at hc
      · rename_i x h1 ha
        cases hc
        obtain ⟨I, h0, hr⟩ := hw
        exact aexec_loop I h0 fun i ρ' A' hI => iha.1 _ _ _ ha _ _ _ _ (hr i ρ' A' hI)
      · cases hc
    · cases hc
  | rangeFunc => exact ⟨fun h h' ic hc => by simp [comp] at hc, fun _ _ _ _ _ hc _ => by simp [comp] at hc⟩
  | exit id => exact ⟨fun h h' ic hc n0 ρ A Q hw => by cases hc; exact aexec_exit hw, fun _ _ _ _ _ _ hf => by simp [findLabel] at hf⟩
  | scope a iha =>
    refine ⟨fun h h' ic hc n0 ρ A Q hw => ?_, fun _ _ _ _ _ _ hf => by simp [findLabel] at hf⟩
    simp only [comp] at hc
    split at hc
    · split at hc
      · rename_i x h1 ha
        split at hc
        · rename_i rest hf
          split at hc
          · rename_i r hr
            cases hc
            obtain ⟨r', h3, h4⟩ := iha.2 _ _ _ _ rest ha hf
            rw [hr] at h3; cases h3
            obtain ⟨J, h0, hp⟩ := hw
            exact aexec_scope hf J (iha.1 _ _ _ ha _ _ _ _ h0) fun i ρ' A' hJ => h4 _ _ _ _ (hp i ρ' A' hJ)
          · cases hc
        · cases hc
      · cases hc
    · cases hc
  | label l' =>
    refine ⟨fun h h' ic hc n0 ρ A Q hw => by cases hc; exact aexec_label hw, fun h h' ic l rest hc hf => ?_⟩
    cases hc
    simp only [findLabel] at hf
    split at hf
    · rename_i e
      cases hf
      exact ⟨.skip, by simp only [icFind, e, if_true], fun n0 ρ A Q hw => aexec_skip hw⟩
    · cases hf
  | goto l => exact ⟨fun h h' ic hc n0 ρ A Q hw => by cases hc; exact aexec_goto hw, fun _ _ _ _ _ _ hf => by simp [findLabel] at hf⟩
  | ret => exact ⟨fun h h' ic hc n0 ρ A Q hw => by cases hc; exact aexec_ret hw, fun _ _ _ _ _ _ hf => by simp [findLabel] at hf⟩
  | refuse w => exact ⟨fun h h' ic hc => by simp [comp] at hc, fun _ _ _ _ _ hc _ => by simp [comp] at hc⟩

theorem comp_ok (hm : P.follows .mixedOrders = true) (c : Code) (h h' : List (List Nat)) (ic : IC) (ρ : List AV) (A : AHeap) (Q : IExit → List AV → AHeap → Prop) (hc : comp P c h = some (ic, h')) (hw : awp P n0 ic ρ A Q) : AExec P n0 c ρ A Q :=
  (comp_all hm c).1 h h' ic hc n0 ρ A Q hw

/-! ### A whole function -/

inductive RV where
  | t (i : Nat)
  | cell (i : Nat) (n : Option Nat)
  deriving Inhabited

def compRs (P : Program) : List ResultVar → Option (List RV)
  | [] => some []
  | .tmp t :: rs => match compRs P rs with
    | some r => some (.t t :: r)
    | none => none
  | .cell a t :: rs => match aggOf P t with
    | some n => (match compRs P rs with
      | some r => some (.cell a n :: r)
      | none => none)
    | none => none

def rvs (ρ : List AV) (A : AHeap) : List RV → Option (List AV)
  | [] => some []
  | .t i :: rs => match rvs ρ A rs with
    | some vs => some (ρ.getD i .any :: vs)
    | none => none
  | .cell i n :: rs => match aload A n (ρ.getD i .any) with
    | some v => (match rvs ρ A rs with
      | some vs => some (v :: vs)
      | none => none)
    | none => none

def rtup : List AV → AV
  | [v] => v
  | vs => .tup vs

/-- What the caller gets. -/
def retQ (n0 : Nat) (rs : List RV) (K : AV → AHeap → Prop) (e : IExit) (ρ : List AV) (A : AHeap) : Prop :=
  match e with
  | .normal | .ret => match rvs ρ A rs with
    | some vs => ∃ ks, okKeepO n0 ks = true ∧ K (foldVo n0 ks (rtup vs)) (foldAo n0 ks A)
    | none => False
  | _ => False
end
end Go.SB
end

/- Framework, part W: a whole function, from its code's weakest precondition to a call. -/
section
set_option linter.unusedVariables false
set_option linter.unusedSimpArgs false
namespace Go.SB
section
variable {P : Program} {M : Mod} {F : Nat → Nat → Prop} {A : AHeap} {ρ : List AV} {w : World}

theorem aload_addr {n : Option Nat} {x v : AV} (h : aload A n x = some v) {u : Value} (hx : Conc M x u) : ∃ ad, u = .pointer (some ad) := by
  have key : ∀ k r, rdN A x k = some r → ∃ ad, u = .pointer (some ad) := by
    intro k r h
    cases hx <;> simp only [rdN] at h <;> first | exact ⟨_, rfl⟩ | (cases h; done)
  unfold aload at h
  cases n with
  | none =>
    simp only [] at h
    split at h
    · exact key _ _ ‹_›
    · cases h
  | some n =>
    simp only [] at h
    split at h
    · exact key _ _ ‹_›
    · cases h

def resOne (tmps : Array Value) : ResultVar → Sem Value
  | .tmp t => pure (tmps.getD t undef)
  | .cell a t => do loadVar t (← asAddr (tmps.getD a undef))

theorem getD_conc {tmps : Array Value} (hL : ConcL M ρ tmps.toList) (t : Nat) : Conc M (ρ.getD t .any) (tmps.getD t undef) := by
  cases ht : ρ[t]? with
  | none => simp only [List.getD, ht, Option.getD_none]; exact .any _
  | some v =>
    obtain ⟨u, hu, hc⟩ := hL.get ht
    simp only [List.getD, ht, Option.getD_some]
    have : tmps.getD t undef = u := by
      rw [Array.getD_eq_getD_getElem?]
      rw [Array.getElem?_toList] at hu
      simp [hu]
    rw [this]; exact hc

theorem rvs_ok (S : Sim w.heap M F A) {tmps : Array Value} (hL : ConcL M ρ tmps.toList) : ∀ (xs : List ResultVar) (rs : List RV) (vs : List AV), compRs P xs = some rs → rvs ρ A rs = some vs →
    ∃ us, ConcL M vs us ∧ (xs.mapM (resOne tmps)).run P w = .ok us w
  | [], rs, vs, h, hv => by
    cases h; cases hv
    exact ⟨[], .nil, by simp [go_sem]⟩
  | .tmp t :: xs, rs, vs, h, hv => by
    simp only [compRs] at h
    split at h
    · rename_i r hr
      cases h
      simp only [rvs] at hv
      split at hv
      · rename_i vs' hvs
        cases hv
        obtain ⟨us, h1, h2⟩ := rvs_ok S hL xs r vs' hr hvs
        refine ⟨_ :: us, .cons (getD_conc hL t) h1, ?_⟩
        simp [List.mapM_cons, resOne, go_sem, h2]
      · cases hv
    · cases h
  | .cell a t :: xs, rs, vs, h, hv => by
    simp only [compRs] at h
    split at h
    · rename_i n hn
      split at h
      · rename_i r hr
        cases h
        simp only [rvs] at hv
        split at hv
        · rename_i v hld
          split at hv
          · rename_i vs' hvs
            cases hv
            obtain ⟨us, h1, h2⟩ := rvs_ok S hL xs r vs' hr hvs
            have hc := getD_conc hL a
            obtain ⟨ad, had⟩ := aload_addr hld hc
            rw [had] at hc
            obtain ⟨u, h3, h4⟩ := loadVar_ok (P := P) S hn hc hld
            refine ⟨u :: us, .cons h4 h1, ?_⟩
            have e1 : (resOne tmps (.cell a t)).run P w = .ok u w := by
              show (do loadVar t (← asAddr (tmps.getD a undef))).run P w = _
              rw [had]
              simp [asAddr, h3]
            simp [List.mapM_cons, go_sem, h2, e1]
          · cases hv
        · cases hv
      · cases h
    · cases h

theorem results_ok (S : Sim w.heap M F A) {fn : Func} {tmps : Array Value} (hL : ConcL M ρ tmps.toList) {rs : List RV} {vs : List AV} (h : compRs P fn.results.toList = some rs) (hv : rvs ρ A rs = some vs) :
    ∃ u, Conc M (rtup vs) u ∧ (results fn tmps).run P w = .ok u w := by
  obtain ⟨us, h1, h2⟩ := rvs_ok (P := P) S hL _ _ _ h hv
  have hr : results fn tmps = (do let vs ← List.toArray <$> fn.results.toList.mapM (resOne tmps); pure (if h : vs.size = 1 then vs[0] else .tuple vs)) := by
    unfold results
    rw [Array.mapM_eq_mapM_toList]
    rfl
  cases h1 with
  | nil => exact ⟨.tuple #[], .tup .nil, by rw [hr]; simp [go_sem, h2]⟩
  | @cons a as u us' hc ht =>
    cases ht with
    | nil => exact ⟨_, hc, by rw [hr]; simp [go_sem, h2]⟩
    | @cons b bs v us2 hc2 ht2 =>
      exact ⟨.tuple (u :: v :: us2).toArray, .tup (.cons hc (.cons hc2 ht2)), by rw [hr]; simp [go_sem, h2]⟩

/-- **A function's call, from its code.** -/
theorem acall_of_body (hm : P.follows .mixedOrders = true) {f : FuncId} {fn : Func} {c : Code} {hs : List (List Nat)} {ic : IC} {rs : List RV} {args : List AV} {K : AV → AHeap → Prop}
    (hf : P.funcs[f]? = some fn) (hb : fn.body = some c) (hname : (fn.name == "runtime.NumGoroutine") = false) (hc : comp P c hs = some (ic, [])) (hr : compRs P fn.results.toList = some rs) {n : Nat} (hn : fn.ntmps = n)
    (h : awp P A.length ic (args ++ List.replicate (n - args.length) .any) A (retQ A.length rs K)) : ACall P f args A K := by
  refine ⟨⟨fn, hf, by simpa using hname, by rw [hb]; rfl⟩, fun w M F us S hL => ?_⟩
  let x : Ctx := ⟨w, M, F, A, fun l hl => by obtain ⟨o, ho⟩ := S.fresh l hl; exact (List.getElem?_eq_some_iff.1 ho).1⟩
  have he := comp_ok hm c hs [] ic _ A (retQ A.length rs K) hc h
  refine calls_of_wp hf hb ?_
  have hst : St x (args ++ List.replicate (n - args.length) .any) A { tmps := us.toArray ++ Array.replicate (fn.ntmps - us.toArray.size) undef, defers := [] } w := by
    refine ⟨M, F, S, ?_, rfl, .refl _ _ _ _, .refl _⟩
    simp only [Array.toList_append, Array.toList_replicate, List.size_toArray]
    refine hL.append ?_
    rw [hn, hL.length]
    exact ConcL.replicate (.any _) _
  refine wp_mono (he x _ w rfl hst) ?_
  rintro e a' w' ⟨ie, ρ', A', hq, hi, hs'⟩
  have main : (∃ vs, rvs ρ' A' rs = some vs ∧ ∃ ks, okKeepO A.length ks = true ∧ K (foldVo A.length ks (rtup vs)) (foldAo A.length ks A')) →
      a'.defers = [] ∧ ∃ v, (results fn a'.tmps).run P w' = .ok v w' ∧ (fun e w' => ∃ r A' M' F' u, K r A' ∧ e = Ending.returned u ∧ Conc M' r u ∧ Sim w'.heap M' F' A' ∧ Ext w M F A w' M' F' A' ∧ Free A A') (.returned v) w' := by
    rintro ⟨vs, hv, ks, hk, hK⟩
    have hs2 := hs'
    obtain ⟨M1, F1, S1, hL1, hd1, E1, hf1⟩ := hs'
    obtain ⟨u, hu1, hu2⟩ := results_ok (P := P) S1 hL1 hr hv
    refine ⟨hd1, u, hu2, ?_⟩
    have hs3 : St x [rtup vs] A' { tmps := #[u], defers := [] } w' := ⟨M1, F1, S1, .cons hu1 .nil, rfl, E1, hf1⟩
    obtain ⟨M2, F2, S2, hL2, _, E2, hf2⟩ := hs3.foldo (ks := ks) hk
    have e : foldRo x.A.length ks [rtup vs] = [foldVo A.length ks (rtup vs)] := by cases ks <;> rfl
    rw [e] at hL2
    cases hL2 with
    | cons hc2 _ => exact ⟨_, _, M2, F2, u, hK, rfl, hc2, S2, E2, hf2⟩
  cases ie <;> cases e <;> simp only [IExit.is] at hi <;> simp only [retQ] at hq <;> simp only [bodyPost]
  · refine main ?_
    split at hq
    · exact ⟨_, ‹_›, hq⟩
    · exact hq.elim
  · refine main ?_
    split at hq
    · exact ⟨_, ‹_›, hq⟩
    · exact hq.elim
end
end Go.SB
end

/- Framework, part X: a call shown on a small heap holds on a greater one (the frame rule). -/
section
set_option linter.unusedVariables false
set_option linter.unusedSimpArgs false
namespace Go.SB

/-- The module seen through new numbers. -/
def Mod.pull (M : Mod) (f : Nat → Nat) : Mod := { D := fun j => M.D (f j), blk := fun j => M.blk (f j), base := fun j => M.base (f j), room := fun j => M.room (f j), sz := fun j => M.sz (f j), I := M.I }

abbrev rn (f : Nat → Nat) : Nat → Option Nat := fun l => some (f l)

section
variable {M : Mod} {f : Nat → Nat}

mutual
theorem Conc.unren : ∀ {v : AV} {u : Value}, Conc M (AV.ren (rn f) v) u → Conc (M.pull f) v u
  | .int k n, _, .int _ _ => .int k n
  | .bool b, _, .bool _ => .bool b
  | .str s, _, .str _ => .str s
  | .nilp, _, .nilp => .nilp
  | .nils, _, .nils => .nils
  | .nilm, _, .nilm => .nilm
  | .nilf, _, .nilf => .nilf
  | .nili, _, .nili => .nili
  | .ptr l off, _, h => by simp only [AV.ren] at h; cases h; exact .ptr (M := M.pull f) ‹_›
  | .eptr l i off, _, h => by simp only [AV.ren] at h; cases h; exact .eptr (M := M.pull f) ‹_›
  | .pp cs, _, h => by
    simp only [AV.ren] at h
    cases h with
    | pp hI hr hL => exact .pp (M := M.pull f) hI hr (ConcL.unren hL)
  | .sl l sz lo len t, _, h => by
    simp only [AV.ren] at h
    cases h with
    | sl h1 h2 h3 h4 h5 => exact .sl (M := M.pull f) h1 h2 h3 h4 h5
    | sl0 h1 h2 => exact .sl0 (M := M.pull f) h1 h2
  | .es, _, .es a => .es a
  | .ps sz xs, _, h => by
    simp only [AV.ren, renLL_eq] at h
    generalize hy : (xs.map fun e => e.map (AV.ren (rn f))) = ys at h
    cases h with
    | @ps _ _ uss c b o cap hI hc hr hL =>
      have hlen : ys.length = xs.length := by rw [← hy]; simp
      rw [hlen]
      refine .ps (M := M.pull f) (uss := uss) hI (by omega) (fun i j u hi => hr i j u (by omega)) ?_
      exact ConcLL.unren fun i e he => by
        rw [renL_eq]
        exact hL i (e.map (AV.ren (rn f))) (by rw [← hy]; simp [he])
    | ps0 h =>
      cases xs with
      | nil => exact .ps0 h
      | cons x xs => simp at hy
  | .mp l, _, h => by simp only [AV.ren] at h; cases h; exact .mp (M := M.pull f) ‹_›
  | .fn g a b, _, h => by
    simp only [AV.ren] at h
    cases h with
    | fn h1 h2 => exact .fn (ConcL.unren h1) (ConcL.unren h2)
  | .ifc t x, _, h => by
    simp only [AV.ren] at h
    cases h with
    | ifc h1 => exact .ifc (Conc.unren h1)
  | .agg cs, _, h => by
    simp only [AV.ren] at h
    cases h with
    | agg h1 => exact .agg (ConcL.unren h1)
  | .tup cs, _, h => by
    simp only [AV.ren] at h
    cases h with
    | tup h1 => exact .tup (ConcL.unren h1)
  | .raw v, _, .raw _ h => .raw v h
  | .any, _, .any v => .any v
theorem ConcL.unren : ∀ {vs : List AV} {us : List Value}, ConcL M (AV.renL (rn f) vs) us → ConcL (M.pull f) vs us
  | [], _, h => by simp only [AV.renL] at h; cases h; exact .nil
  | v :: vs, _, h => by
    simp only [AV.renL] at h
    cases h with
    | cons h1 h2 => exact .cons (Conc.unren h1) (ConcL.unren h2)
theorem ConcLL.unren : ∀ {xs : List (List AV)} {g : Nat → List Value}, (∀ i e, xs[i]? = some e → ConcL M (AV.renL (rn f) e) (g i)) → ∀ i e, xs[i]? = some e → ConcL (M.pull f) e (g i)
  | [], _, _, _, _, he => by simp at he
  | x :: xs, g, h, 0, e, he => by
    have e' : x = e := by simpa using he
    rw [← e']
    exact ConcL.unren (h 0 x (by simp))
  | x :: xs, g, h, i + 1, e, he => ConcLL.unren (xs := xs) (g := fun i => g (i + 1)) (fun i e he => h (i + 1) e (by simpa using he)) i e (by simpa using he)
end

theorem ConcL.unren' {vs : List AV} {us : List Value} (h : ConcL M (vs.map (AV.ren (rn f))) us) : ConcL (M.pull f) vs us := by
  rw [← renL_eq] at h; exact h.unren

theorem AO.unren_holds {h : Array Obj} {F : Nat → Prop} {l : Nat} {o : AO} (hh : (o.ren (rn f)).holds h M F (f l)) : o.holds h (M.pull f) F l := by
  cases o with
  | cells vs =>
    obtain ⟨hF, c, e, fr, us, h1, h2, h3, h4, h5⟩ := hh
    exact ⟨hF, c, e, fr, us, h1, h2, h3, h4.unren', h5⟩
  | arr elems =>
    rcases hh with ⟨q1, q2, q3, q4⟩ | ⟨hF, c, e, fr, uss, h1, h2, h3, h4, h5⟩
    · exact .inl ⟨by simpa using q1, q2, q3, q4⟩
    refine .inr ⟨hF, c, e, fr, uss, h1, h2, h3, fun i ev he => ?_, fun i j u hi => h5 i j u (by simpa using hi)⟩
    have := h4 i (ev.map (AV.ren (rn f))) (by simp [he])
    exact ⟨this.1.unren', by have := this.2; simp at this; exact this⟩
  | map es =>
    obtain ⟨hF, ents, clock, h1, h2, h3, h4⟩ := hh
    refine ⟨hF, ents, clock, h1, by simpa using h2, fun i k v he => ?_, h4⟩
    obtain ⟨en, a, b, c⟩ := h3 i (AV.ren (rn f) k) (AV.ren (rn f) v) (by simp [he])
    exact ⟨en, a, b.unren, c.unren⟩
  | opq R => exact hh
  | dead => exact hh
end

/-- Where the small heap's places stand in the great one: its own n places at js, what is made at the great one's end. -/
def place (js : List Nat) (top : Nat) (j : Nat) : Nat := if j < js.length then js.getD j 0 else top + (j - js.length)
def unplace (js : List Nat) (top : Nat) (l : Nat) : Option Nat := if l < top then js.idxOf? l else some (js.length + (l - top))

def putAll (g : Nat → Option Nat) : AHeap → List Nat → AHeap → AHeap
  | B, [], A => B ++ A.map fun o => o.map (AO.ren g)
  | B, j :: js, o :: A => putAll g (B.set j (o.map (AO.ren g))) js A
  | B, _ :: _, [] => B

theorem putAll_get (g : Nat → Option Nat) : ∀ (js : List Nat) (B A : AHeap), js.Nodup → (∀ j ∈ js, j < B.length) → js.length ≤ A.length → ∀ (l : Nat),
    (putAll g B js A)[l]? = if l < B.length then (match js.idxOf? l with | some i => (A[i]?).map fun o => o.map (AO.ren g) | none => B[l]?) else (A[js.length + (l - B.length)]?).map fun o => o.map (AO.ren g)
  | [], B, A, _, _, _, l => by
    simp only [putAll, List.idxOf?_nil, List.length_nil, Nat.zero_add]
    split
    · rename_i h; rw [List.getElem?_append_left h]
    · rename_i h; rw [List.getElem?_append_right (by omega), List.getElem?_map]
  | j :: js, B, [], _, _, h, l => by simp at h
  | j :: js, B, o :: A, hnd, hlt, hlen, l => by
    obtain ⟨h1, h2⟩ := List.nodup_cons.1 hnd
    have hjB := hlt j (by simp)
    simp only [putAll]
    rw [putAll_get g js (B.set j _) A h2 (fun k hk => by simpa using hlt k (by simp [hk])) (by simpa using hlen) l]
    simp only [List.length_set, List.idxOf?_cons]
    split
    · rename_i hl
      by_cases e : j = l
      · subst e
        have : js.idxOf? j = none := by simpa using h1
        simp [this, hjB]
      · have e' : (j == l) = false := by simpa using e
        simp only [e', Bool.false_eq_true, if_false]
        cases hx : js.idxOf? l with
        | none => simp [List.getElem?_set_ne e]
        | some i => simp
    · rename_i hl
      have : (j :: js).length + (l - B.length) = (js.length + (l - B.length)) + 1 := by simp; omega
      rw [this, List.getElem?_cons_succ]

section
variable {js : List Nat} {top : Nat}

theorem unplace_place (hnd : js.Nodup) (hlt : ∀ j ∈ js, j < top) (j : Nat) : unplace js top (place js top j) = some j := by
  unfold place
  split
  · rename_i h
    have e : js.getD j 0 = js[j] := by simp [List.getD, h]
    rw [e]
    unfold unplace
    rw [if_pos (hlt _ (List.getElem_mem h)), List.idxOf?_eq_some_iff]
    exact ⟨h, by simp, fun k hk he => by
      have := (List.getElem_inj hnd).1 (by simpa using he); omega⟩
  · rename_i h
    unfold unplace
    rw [if_neg (by omega)]
    congr 1; omega

theorem place_unplace (hnd : js.Nodup) {l j : Nat} (h : unplace js top l = some j) : place js top j = l := by
  unfold unplace at h
  split at h
  · rw [List.idxOf?_eq_some_iff] at h
    obtain ⟨h1, h2, _⟩ := h
    unfold place
    rw [if_pos h1]
    simpa [List.getD, h1] using h2
  · cases h
    unfold place
    rw [if_neg (by omega)]; omega

theorem place_inj (hnd : js.Nodup) (hlt : ∀ j ∈ js, j < top) {i j : Nat} (h : place js top i = place js top j) : i = j := by
  have h1 := unplace_place hnd hlt i
  rw [h, unplace_place hnd hlt j] at h1
  exact (Option.some.inj h1).symm
end

/-- The small heap stands in the great one. -/
structure Stands (js : List Nat) (A B : AHeap) : Prop where
  len : js.length = A.length
  nodup : js.Nodup
  lt : ∀ j ∈ js, j < B.length
  eq : ∀ (i j : Nat) (o : Option AO), js[i]? = some j → A[i]? = some o → B[j]? = some (o.map (AO.ren (rn (place js B.length))))

/-- **The frame rule.** -/
theorem ACall.frame {P : Program} {f : FuncId} {args : List AV} {A : AHeap} {K : AV → AHeap → Prop} (h : ACall P f args A K) {B : AHeap} {js : List Nat} (hst : Stands js A B) :
    ACall P f (args.map (AV.ren (rn (place js B.length)))) B fun r' B' => ∃ r A', K r A' ∧ r' = AV.ren (rn (place js B.length)) r ∧ B' = putAll (rn (place js B.length)) B js A' := by
  obtain ⟨hlen, hnd, hlt, heq⟩ := hst
  refine ⟨h.1, fun w M F us S hL => ?_⟩
  have upp := unplace_place hnd hlt
  have pup : ∀ {l j : Nat}, unplace js B.length l = some j → place js B.length j = l := fun h => place_unplace hnd h
  have pinj : ∀ {i j : Nat}, place js B.length i = place js B.length j → i = j := fun h => place_inj hnd hlt h
  generalize hf : place js B.length = ι at *
  generalize hk : unplace js B.length = κ at *
  have hjs : ∀ j, j < js.length → js[j]? = some (ι j) := fun j hj => by
    rw [← hf]; unfold place; rw [if_pos hj]; simp [List.getD, hj]
  have liveB : ∀ (j : Nat) (o : AO), A[j]? = some (some o) → B[ι j]? = some (some (o.ren (rn ι))) := fun j o ho => by
    have hj : j < js.length := by rw [hlen]; exact (List.getElem?_eq_some_iff.1 ho).1
    exact heq j (ι j) (some o) (hjs j hj) ho
  have Ss : Sim w.heap (M.pull ι) (fun j => F (ι j)) A := by
    refine ⟨fun j o ho => ?_, fun j hD => ?_, fun j o b ho hb => S.lt _ _ b (liveB j o ho) hb, fun j j' o o' b h1 h2 hb hb' => pinj (S.disj _ _ _ _ b (liveB j o h1) (liveB j' o' h2) hb hb'), S.imm, fun b c j o hI ho => S.immNot b c _ _ hI (liveB j o ho)⟩
    · obtain ⟨h1, h2⟩ := S.holds _ _ (liveB j o ho)
      exact ⟨h1, AO.unren_holds h2⟩
    · obtain ⟨o, ho⟩ := S.fresh (ι j) hD
      have hlB : ι j < B.length := (List.getElem?_eq_some_iff.1 ho).1
      have hj : j < js.length := by
        rcases Nat.lt_or_ge j js.length with h | h
        · exact h
        · rw [← hf] at hlB; unfold place at hlB; rw [if_neg (by omega)] at hlB; omega
      have hjA : j < A.length := by omega
      have h1 := heq j (ι j) A[j] (hjs j hj) (by simp [hjA])
      rw [ho] at h1
      cases hA : A[j] with
      | none => rw [hA] at h1; cases h1
      | some o0 => exact ⟨o0, by rw [List.getElem?_eq_getElem hjA, hA]⟩
  refine (h.2 w _ _ us Ss hL.unren').mono ?_
  rintro e w' ⟨r, A', M1, F1, u, hK, rfl, hc, S1, E1, hfree⟩
  have hlA' : js.length ≤ A'.length := by rw [hlen]; exact E1.len
  let M' : Mod := { D := fun l => match κ l with | some j => M1.D j | none => M.D l, blk := fun l => match κ l with | some j => M1.blk j | none => M.blk l, base := fun l => match κ l with | some j => M1.base j | none => M.base l,
                    room := fun l => match κ l with | some j => M1.room j | none => M.room l, sz := fun l => match κ l with | some j => M1.sz j | none => M.sz l, I := M1.I }
  let F' : Nat → Nat → Prop := fun l => match κ l with | some j => F1 j | none => F l
  have hsame : M1.Same M' (rn ι) := by
    constructor
    · intro j l hg hD
      have e : ι j = l := Option.some.inj hg
      subst e
      show (match κ (ι j) with | some j => M1.D j | none => M.D (ι j))
      rw [upp j]; exact hD
    · intro j l hg hD
      have e : ι j = l := Option.some.inj hg
      subst e
      show (match κ (ι j) with | some j => M1.blk j | none => M.blk (ι j)) = _
      rw [upp j]
    · intro j l hg hD
      have e : ι j = l := Option.some.inj hg
      subst e
      show (match κ (ι j) with | some j => M1.base j | none => M.base (ι j)) = _
      rw [upp j]
    · intro j l hg hD
      have e : ι j = l := Option.some.inj hg
      subst e
      show (match κ (ι j) with | some j => M1.room j | none => M.room (ι j)) = _
      rw [upp j]
    · intro j l hg hD
      have e : ι j = l := Option.some.inj hg
      subst e
      show (match κ (ι j) with | some j => M1.sz j | none => M.sz (ι j)) = _
      rw [upp j]
    · intro b c hI; exact hI
  have hle : M.Le M' := by
    have key : ∀ l j, κ l = some j → M.D l → (M.pull ι).D j := fun l j hkl hD => by show M.D (ι j); rw [pup hkl]; exact hD
    constructor
    · intro l hD
      show (match κ l with | some j => M1.D j | none => M.D l)
      cases hkl : κ l with
      | none => exact hD
      | some j => exact E1.le.D j (key l j hkl hD)
    · intro l hD
      show (match κ l with | some j => M1.blk j | none => M.blk l) = _
      cases hkl : κ l with
      | none => rfl
      | some j => simp only []; rw [E1.le.blk j (key l j hkl hD)]; show M.blk (ι j) = _; rw [pup hkl]
    · intro l hD
      show (match κ l with | some j => M1.base j | none => M.base l) = _
      cases hkl : κ l with
      | none => rfl
      | some j => simp only []; rw [E1.le.base j (key l j hkl hD)]; show M.base (ι j) = _; rw [pup hkl]
    · intro l hD
      show (match κ l with | some j => M1.room j | none => M.room l) = _
      cases hkl : κ l with
      | none => rfl
      | some j => simp only []; rw [E1.le.room j (key l j hkl hD)]; show M.room (ι j) = _; rw [pup hkl]
    · intro l hD
      show (match κ l with | some j => M1.sz j | none => M.sz l) = _
      cases hkl : κ l with
      | none => rfl
      | some j => simp only []; rw [E1.le.sz j (key l j hkl hD)]; show M.sz (ι j) = _; rw [pup hkl]
    · exact E1.le.I
  -- what stands in the new heap
  have hget : ∀ (l : Nat), (putAll (rn ι) B js A')[l]? = match κ l with | some j => (A'[j]?).map (fun o => o.map (AO.ren (rn ι))) | none => B[l]? := fun l => by
    rw [putAll_get (rn ι) js B A' hnd hlt hlA' l, ← hk]
    unfold unplace
    split
    · rfl
    · rfl
  have live' : ∀ (l : Nat) (o : AO), (putAll (rn ι) B js A')[l]? = some (some o) → (∃ j o0, κ l = some j ∧ A'[j]? = some (some o0) ∧ o = o0.ren (rn ι)) ∨ (κ l = none ∧ B[l]? = some (some o)) := fun l o ho => by
    rw [hget l] at ho
    cases hkl : κ l with
    | none => rw [hkl] at ho; exact .inr ⟨rfl, ho⟩
    | some j =>
      rw [hkl] at ho
      simp only [] at ho
      cases hA : A'[j]? with
      | none => rw [hA] at ho; cases ho
      | some x =>
        rw [hA] at ho
        cases x with
        | none => cases ho
        | some o0 => simp at ho; exact .inl ⟨j, o0, rfl, hA, ho.symm⟩
  have F'some : ∀ {l j : Nat}, κ l = some j → F' l = F1 j := fun hkl => by show (match κ _ with | some j => F1 j | none => F _) = _; rw [hkl]
  have F'none : ∀ {l : Nat}, κ l = none → F' l = F l := fun hkl => by show (match κ _ with | some j => F1 j | none => F _) = _; rw [hkl]
  -- what a place outside owns, the call does not own
  have apart : ∀ (l : Nat) (o : AO) (b : Nat), κ l = none → B[l]? = some (some o) → F l b → ∀ l0 o0, A[l0]? = some (some o0) → ¬ F (ι l0) b := fun l o b hkl ho hb l0 o0 h0 hb0 => by
    have e := S.disj _ _ _ _ b (liveB l0 o0 h0) ho hb0 hb
    rw [← e, upp l0] at hkl; cases hkl
  have keepB : ∀ (l : Nat) (o : AO) (b : Nat), κ l = none → B[l]? = some (some o) → F l b → w'.heap[b]? = w.heap[b]? := fun l o b hkl ho hb => E1.keep b (S.lt l o b ho hb) fun l0 o0 h0 => apart l o b hkl ho hb l0 o0 h0
  refine ⟨AV.ren (rn ι) r, putAll (rn ι) B js A', M', F', u, ⟨r, A', hK, rfl, rfl⟩, rfl, hc.ren hsame, ?_, ?_, ?_⟩
  · refine ⟨fun l o ho => ?_, fun l hD => ?_, fun l o b ho hb => ?_, fun l l' o o' b h1 h2 hb hb' => ?_, S1.imm, fun b c l o hI ho hb => ?_⟩
    · rcases live' l o ho with ⟨j, o0, hkl, hA, rfl⟩ | ⟨hkl, hB⟩
      · obtain ⟨h1, h2⟩ := S1.holds j o0 hA
        have e := pup hkl
        refine ⟨?_, ?_⟩
        · show (match κ l with | some j => M1.D j | none => M.D l); rw [hkl]; exact h1
        · rw [F'some hkl]; exact AO.ren_holds hsame (fun _ => rfl) (by rw [← e]) h1 h2
      · obtain ⟨h1, h2⟩ := S.holds l o hB
        refine ⟨hle.D l h1, ?_⟩
        rw [F'none hkl]
        exact AO.keep h2 h1 hle fun b hb => keepB l o b hkl hB hb
    · have hD' : (match κ l with | some j => M1.D j | none => M.D l) := hD
      rw [hget l]
      cases hkl : κ l with
      | none => rw [hkl] at hD'; exact S.fresh l hD'
      | some j =>
        rw [hkl] at hD'
        obtain ⟨o, ho⟩ := S1.fresh j hD'
        exact ⟨o.ren (rn ι), by simp [ho]⟩
    · rcases live' l o ho with ⟨j, o0, hkl, hA, rfl⟩ | ⟨hkl, hB⟩
      · rw [F'some hkl] at hb; exact S1.lt j o0 b hA hb
      · rw [F'none hkl] at hb; exact Nat.lt_of_lt_of_le (S.lt l o b hB hb) E1.size
    · rcases live' l o h1 with ⟨j, o0, hkl, hA, rfl⟩ | ⟨hkl, hB⟩
      · rw [F'some hkl] at hb
        rcases live' l' o' h2 with ⟨j', o1, hkl', hA', rfl⟩ | ⟨hkl', hB'⟩
        · rw [F'some hkl'] at hb'
          have e := S1.disj _ _ _ _ b hA hA' hb hb'
          rw [← pup hkl, ← pup hkl', e]
        · rw [F'none hkl'] at hb'
          obtain ⟨l0, o2, h0, hb0⟩ := E1.foot j o0 b hA hb (S.lt l' o' b hB' hb')
          exact absurd hb0 (apart l' o' b hkl' hB' hb' l0 o2 h0)
      · rw [F'none hkl] at hb
        rcases live' l' o' h2 with ⟨j', o1, hkl', hA', rfl⟩ | ⟨hkl', hB'⟩
        · rw [F'some hkl'] at hb'
          obtain ⟨l0, o2, h0, hb0⟩ := E1.foot j' o1 b hA' hb' (S.lt l o b hB hb)
          exact absurd hb0 (apart l o b hkl hB hb l0 o2 h0)
        · rw [F'none hkl'] at hb'
          exact S.disj _ _ _ _ b hB hB' hb hb'
    · rcases live' l o ho with ⟨j, o0, hkl, hA, rfl⟩ | ⟨hkl, hB⟩
      · rw [F'some hkl] at hb; exact S1.immNot b c j o0 hI hA hb
      · rw [F'none hkl] at hb
        rcases E1.immFoot b c hI (S.lt l o b hB hb) with h1 | ⟨l0, o2, h0, hb0⟩
        · exact S.immNot b c l o h1 hB hb
        · exact apart l o b hkl hB hb l0 o2 h0 hb0
  · refine ⟨E1.os, E1.tape, E1.output, E1.size, hle, ?_, fun b hb hn => E1.keep b hb fun l0 o0 h0 => hn _ _ (liveB l0 o0 h0), fun l o b ho hb hlt' => ?_, fun b c hI hlt' => ?_⟩
    · rcases Nat.lt_or_ge (putAll (rn ι) B js A').length B.length with hlt' | h
      · exfalso
        have h1 := hget (putAll (rn ι) B js A').length
        rw [List.getElem?_eq_none (Nat.le_refl _)] at h1
        cases hkl : κ (putAll (rn ι) B js A').length with
        | none => rw [hkl, List.getElem?_eq_getElem hlt'] at h1; cases h1
        | some j =>
          rw [hkl] at h1
          have hj : j < js.length := by
            rw [← hk] at hkl; unfold unplace at hkl; rw [if_pos hlt', List.idxOf?_eq_some_iff] at hkl; exact hkl.1
          simp only [List.getElem?_eq_getElem (show j < A'.length by omega)] at h1; cases h1
      · exact h
    · rcases live' l o ho with ⟨j, o0, hkl, hA, rfl⟩ | ⟨hkl, hB⟩
      · rw [F'some hkl] at hb
        obtain ⟨l0, o2, h0, hb0⟩ := E1.foot j o0 b hA hb hlt'
        exact ⟨_, _, liveB l0 o2 h0, hb0⟩
      · rw [F'none hkl] at hb; exact ⟨l, o, hB, hb⟩
    · rcases E1.immFoot b c hI hlt' with h1 | ⟨l0, o2, h0, hb0⟩
      · exact .inl h1
      · exact .inr ⟨_, _, liveB l0 o2 h0, hb0⟩
  · intro l hl
    rw [hget l]
    cases hkl : κ l with
    | none => exact hl
    | some j =>
      have hlB : l < B.length := (List.getElem?_eq_some_iff.1 hl).1
      have hj : js[j]? = some l := by
        rw [← hk] at hkl; unfold unplace at hkl; rw [if_pos hlB, List.idxOf?_eq_some_iff] at hkl
        obtain ⟨h1, h2, _⟩ := hkl
        rw [List.getElem?_eq_getElem h1]; simpa using h2
      have hjA : j < A.length := by have := (List.getElem?_eq_some_iff.1 hj).1; omega
      have h1 := heq j l A[j] hj (by simp [hjA])
      rw [hl] at h1
      cases hA : A[j] with
      | some o0 => rw [hA] at h1; cases h1
      | none =>
        have h2 := hfree j (by rw [List.getElem?_eq_getElem hjA, hA])
        simp [h2]
end Go.SB
end

/- Framework, part Xa: what is made while a call is pending does not touch the call. -/
section
set_option linter.unusedVariables false
set_option linter.unusedSimpArgs false
namespace Go.SB

def but (p : Nat) : Nat → Option Nat := fun l => if l = p then none else some l

/-- The module without place p. -/
def Mod.drop (M : Mod) (p : Nat) : Mod := { M with D := fun l => l ≠ p ∧ M.D l }

theorem Mod.drop_same (M : Mod) (p : Nat) : M.Same (M.drop p) (but p) := by
  constructor
  · intro l l' h hD
    unfold but at h
    split at h
    · cases h
    · cases h; exact ⟨‹_›, hD⟩
  all_goals first
    | (intro l l' h hD
       unfold but at h
       split at h
       · cases h
       · cases h; rfl)
    | (intro b c h; exact h)

theorem ACall.fill {P : Program} {f : FuncId} {args : List AV} {A : AHeap} {K : AV → AHeap → Prop} (h : ACall P f args A K) {p : Nat} (o : AO) (hp : A[p]? = some none) (hargs : args.map (AV.ren (but p)) = args)
    (hA : ∀ (l : Nat) (x : AO), A[l]? = some (some x) → x.ren (but p) = x) : ACall P f args (A.set p (some o)) fun r B => ∃ A', K r A' ∧ B = A'.set p (some o) := by
  refine ⟨h.1, fun w M F us S hL => ?_⟩
  have hlt : p < A.length := (List.getElem?_eq_some_iff.1 hp).1
  have hset : (A.set p (some o))[p]? = some (some o) := by rw [List.getElem?_set_self (by omega)]
  have other : ∀ (l : Nat) (x : AO), A[l]? = some (some x) → l ≠ p ∧ (A.set p (some o))[l]? = some (some x) := fun l x hl => by
    have hne : l ≠ p := by rintro rfl; rw [hp] at hl; cases hl
    exact ⟨hne, by rw [List.getElem?_set_ne (Ne.symm hne)]; exact hl⟩
  have Ss : Sim w.heap (M.drop p) F A := by
    refine ⟨fun l x hl => ?_, fun l hD => ?_, fun l x b hl hb => S.lt l x b (other l x hl).2 hb, fun l l' x x' b h1 h2 => S.disj l l' x x' b (other l x h1).2 (other l' x' h2).2, S.imm, fun b c l x hI hl => S.immNot b c l x hI (other l x hl).2⟩
    · obtain ⟨h1, h2⟩ := other l x hl
      obtain ⟨h3, h4⟩ := S.holds l x h2
      refine ⟨⟨h1, h3⟩, ?_⟩
      have := AO.ren_holds (Mod.drop_same M p) (fun _ => rfl) (l' := l) (by unfold but; rw [if_neg h1]) h3 h4
      rwa [hA l x hl] at this
    · obtain ⟨x, hx⟩ := S.fresh l hD.2
      rw [List.getElem?_set_ne (Ne.symm hD.1)] at hx
      exact ⟨x, hx⟩
  have hL' : ConcL (M.drop p) args us := by
    have := hL.ren' (Mod.drop_same M p)
    rwa [hargs] at this
  refine (h.2 w _ F us Ss hL').mono ?_
  rintro e w' ⟨r, A', M1, F1, u, hK, rfl, hc, S1, E1, hfree⟩
  have hp' := hfree p hp
  have hD1 : ∀ l, M1.D l → l ≠ p := fun l hD e => by
    subst e
    obtain ⟨x, hx⟩ := S1.fresh l hD
    rw [hp'] at hx; cases hx
  obtain ⟨hDp, hop⟩ := S.holds p o hset
  let M' : Mod := { D := fun l => l = p ∨ M1.D l, blk := fun l => if l = p then M.blk p else M1.blk l, base := fun l => if l = p then M.base p else M1.base l, room := fun l => if l = p then M.room p else M1.room l, sz := fun l => if l = p then M.sz p else M1.sz l, I := M1.I }
  have hle1 : M1.Le M' := ⟨fun l h => .inr h, fun l h => if_neg (hD1 l h), fun l h => if_neg (hD1 l h), fun l h => if_neg (hD1 l h), fun l h => if_neg (hD1 l h), fun b c h => h⟩
  have hle : M.Le M' := by
    have key : ∀ l, M.D l → l ≠ p → (M.drop p).D l := fun l h hn => ⟨hn, h⟩
    constructor
    · intro l h
      by_cases e : l = p
      · exact .inl e
      · exact .inr (E1.le.D l (key l h e))
    · intro l h
      by_cases e : l = p
      · subst e; exact if_pos rfl
      · exact (if_neg e).trans (E1.le.blk l (key l h e))
    · intro l h
      by_cases e : l = p
      · subst e; exact if_pos rfl
      · exact (if_neg e).trans (E1.le.base l (key l h e))
    · intro l h
      by_cases e : l = p
      · subst e; exact if_pos rfl
      · exact (if_neg e).trans (E1.le.room l (key l h e))
    · intro l h
      by_cases e : l = p
      · subst e; exact if_pos rfl
      · exact (if_neg e).trans (E1.le.sz l (key l h e))
    · exact E1.le.I
  have hlen := E1.len
  let F' : Nat → Nat → Prop := fun l => if l = p then F p else F1 l
  have F'p : F' p = F p := if_pos rfl
  have F'o : ∀ {l}, l ≠ p → F' l = F1 l := fun h => if_neg h
  have live' : ∀ (l : Nat) (x : AO), (A'.set p (some o))[l]? = some (some x) → (l = p ∧ x = o) ∨ (l ≠ p ∧ A'[l]? = some (some x)) := fun l x hl => by
    by_cases e : l = p
    · subst e
      rw [List.getElem?_set_self (by omega)] at hl
      cases hl; exact .inl ⟨rfl, rfl⟩
    · rw [List.getElem?_set_ne (Ne.symm e)] at hl; exact .inr ⟨e, hl⟩
  have apart : ∀ b, F p b → ∀ l x, A[l]? = some (some x) → ¬ F l b := fun b hb l x hl hb' => (other l x hl).1 (S.disj _ _ _ _ b (other l x hl).2 hset hb' hb)
  have keepP : ∀ b, F p b → w'.heap[b]? = w.heap[b]? := fun b hb => E1.keep b (S.lt p o b hset hb) (apart b hb)
  refine ⟨r, A'.set p (some o), M', F', u, ⟨A', hK, rfl⟩, rfl, hc.mono hle1, ?_, ?_, ?_⟩
  · refine ⟨fun l x hl => ?_, fun l hD => ?_, fun l x b hl hb => ?_, fun l l' x x' b h1 h2 hb hb' => ?_, S1.imm, fun b c l x hI hl hb => ?_⟩
    · rcases live' l x hl with ⟨rfl, rfl⟩ | ⟨hn, hl'⟩
      · rw [F'p]; exact ⟨.inl rfl, AO.keep hop hDp hle keepP⟩
      · obtain ⟨h1, h2⟩ := S1.holds l x hl'
        rw [F'o hn]; exact ⟨.inr h1, AO.keep h2 h1 hle1 fun _ _ => rfl⟩
    · rcases hD with rfl | hD
      · exact ⟨o, by rw [List.getElem?_set_self (by omega)]⟩
      · obtain ⟨x, hx⟩ := S1.fresh l hD
        exact ⟨x, by rw [List.getElem?_set_ne (Ne.symm (hD1 l hD))]; exact hx⟩
    · rcases live' l x hl with ⟨rfl, rfl⟩ | ⟨hn, hl'⟩
      · rw [F'p] at hb; exact Nat.lt_of_lt_of_le (S.lt _ _ b hset hb) E1.size
      · rw [F'o hn] at hb; exact S1.lt l x b hl' hb
    · rcases live' l x h1 with ⟨rfl, rfl⟩ | ⟨hn, hl⟩
      · rcases live' l' x' h2 with ⟨rfl, rfl⟩ | ⟨hn', hl'⟩
        · rfl
        · rw [F'p] at hb; rw [F'o hn'] at hb'
          obtain ⟨l0, o0, h0, hb0⟩ := E1.foot l' x' b hl' hb' (S.lt _ _ b hset hb)
          exact absurd hb0 (apart b hb l0 o0 h0)
      · rw [F'o hn] at hb
        rcases live' l' x' h2 with ⟨rfl, rfl⟩ | ⟨hn', hl'⟩
        · rw [F'p] at hb'
          obtain ⟨l0, o0, h0, hb0⟩ := E1.foot l x b hl hb (S.lt _ _ b hset hb')
          exact absurd hb0 (apart b hb' l0 o0 h0)
        · rw [F'o hn'] at hb'; exact S1.disj l l' x x' b hl hl' hb hb'
    · rcases live' l x hl with ⟨rfl, rfl⟩ | ⟨hn, hl'⟩
      · rw [F'p] at hb
        rcases E1.immFoot b c hI (S.lt _ _ b hset hb) with h1 | ⟨l0, o0, h0, hb0⟩
        · exact S.immNot b c _ _ h1 hset hb
        · exact apart b hb l0 o0 h0 hb0
      · rw [F'o hn] at hb; exact S1.immNot b c l x hI hl' hb
  · refine ⟨E1.os, E1.tape, E1.output, E1.size, hle, by simpa using hlen, fun b hb hn => E1.keep b hb fun l x hl => hn l x (other l x hl).2, fun l x b hl hb hlt' => ?_, fun b c hI hlt' => ?_⟩
    · rcases live' l x hl with ⟨rfl, rfl⟩ | ⟨hn, hl'⟩
      · rw [F'p] at hb; exact ⟨_, _, hset, hb⟩
      · rw [F'o hn] at hb
        obtain ⟨l0, o0, h0, hb0⟩ := E1.foot l x b hl' hb hlt'
        exact ⟨l0, o0, (other l0 o0 h0).2, hb0⟩
    · rcases E1.immFoot b c hI hlt' with h1 | ⟨l0, o0, h0, hb0⟩
      · exact .inl h1
      · exact .inr ⟨l0, o0, (other l0 o0 h0).2, hb0⟩
  · intro l hl
    have hne : l ≠ p := by rintro rfl; rw [hset] at hl; cases hl
    rw [List.getElem?_set_ne (Ne.symm hne)] at hl
    rw [List.getElem?_set_ne (Ne.symm hne)]
    exact hfree l hl
end Go.SB
end

/- Framework, part Y: functions that are loaded and compiled. -/
section
set_option linter.unusedVariables false
set_option linter.unusedSimpArgs false
namespace Go.SB

/-- Function f of P has been compiled: code, results, temporaries. -/
def FnOk (P : Program) (f : FuncId) (ic : IC) (rs : List RV) (n : Nat) : Prop :=
  ∃ (fn : Func) (hs : List (List Nat)), P.funcs[f]? = some fn ∧ (fn.name == "runtime.NumGoroutine") = false ∧ (fn.body.bind fun c => comp P c hs) = some (ic, []) ∧ compRs P fn.results.toList = some rs ∧ fn.ntmps = n

theorem acall_of {P : Program} (hm : P.follows .mixedOrders = true) {f : FuncId} {ic : IC} {rs : List RV} {n : Nat} (h : FnOk P f ic rs n) {args : List AV} {A : AHeap} {K : AV → AHeap → Prop}
    (hw : awp P A.length ic (args ++ List.replicate (n - args.length) .any) A (retQ A.length rs K)) : ACall P f args A K := by
  obtain ⟨fn, hs, h1, h2, h3, h4, h5⟩ := h
  cases hb : fn.body with
  | none => rw [hb] at h3; cases h3
  | some c => rw [hb] at h3; exact acall_of_body hm h1 hb h2 h3 h4 h5 hw
end Go.SB
end

/- Framework, part Z: the IR reckoned out, where nothing is unknown that it asks for. -/
section
set_option linter.unusedVariables false
set_option linter.unusedSimpArgs false
namespace Go.SB

/-- The same, of values that hold no function and no list of rows. -/
def AV.same1 : AV → AV → Bool
  | .int k n, .int k' n' => k == k' && n == n'
  | .bool a, .bool b => a == b
  | .str a, .str b => a == b
  | .nilp, .nilp | .nils, .nils | .nilm, .nilm | .nilf, .nilf | .nili, .nili | .es, .es | .any, .any => true
  | .tup a, .tup b => a.isEmpty && b.isEmpty
  | .ptr l o, .ptr l' o' => l == l' && o == o'
  | .eptr l i o, .eptr l' i' o' => l == l' && i == i' && o == o'
  | .sl l a b c t, .sl l' a' b' c' t' => l == l' && a == a' && b == b' && c == c' && t == t'
  | .mp l, .mp l' => l == l'
  | _, _ => false

theorem AV.same1_eq {a b : AV} (h : AV.same1 a b = true) : a = b := by
  cases a <;> cases b <;> simp only [AV.same1, Bool.and_eq_true, beq_iff_eq, Bool.false_eq_true, List.isEmpty_iff] at h <;> simp_all

def AV.same1L : List AV → List AV → Bool
  | [], [] => true
  | a :: as, b :: bs => AV.same1 a b && AV.same1L as bs
  | _, _ => false

theorem AV.same1L_eq : ∀ {a b : List AV}, AV.same1L a b = true → a = b
  | [], [], _ => rfl
  | [], _ :: _, h => by simp [AV.same1L] at h
  | _ :: _, [], h => by simp [AV.same1L] at h
  | a :: as, b :: bs, h => by
    simp only [AV.same1L, Bool.and_eq_true] at h
    rw [AV.same1_eq h.1, AV.same1L_eq h.2]

def AV.same : AV → AV → Bool
  | .agg a, .agg b => AV.same1L a b
  | a, b => AV.same1 a b

theorem AV.same_eq {a b : AV} (h : AV.same a b = true) : a = b := by
  unfold AV.same at h
  split at h
  · rw [AV.same1L_eq h]
  · exact AV.same1_eq h

def chksB (ios : List IOper) (anc : Nat → Nat → Bool) (j : Nat) (ρ : List AV) (A : AHeap) : Chk → Bool
  | [] => true
  | (i, v) :: R => (anc i j || (match ios[i]? with
    | some io => (match yld io ρ A with | some u => AV.same u v | none => false)
    | none => false)) && chksB ios anc j ρ A R

theorem chksB_ok {ios : List IOper} {anc : Nat → Nat → Bool} {j : Nat} {ρ : List AV} {A : AHeap} : ∀ {R : Chk}, chksB ios anc j ρ A R = true → chks ios anc R j ρ A
  | [], _ => trivial
  | (i, v) :: R, h => by
    simp only [chksB, Bool.and_eq_true, Bool.or_eq_true] at h
    refine ⟨h.1.imp id fun h => ?_, chksB_ok h.2⟩
    split at h
    · rename_i io hio
      split at h
      · rename_i u hu; exact ⟨io, hio, by rw [hu, AV.same_eq h]⟩
      · cases h
    · cases h

abbrev CallF := FuncId → List AV → AHeap → Option (AV × AHeap)

def evOp (call : CallF) (p0 : Nat) (o : IOper) (ρ : List AV) (A : AHeap) : Option (List AV × AHeap) :=
  match o.op with
  | .call f args => match f.get ρ with
    | .fn f first caps => match call f (first ++ args.map (·.get ρ) ++ caps) A with
      | some (r, A') => some (aput ρ o.dst r, A')
      | none => none
    | _ => none
  | op => match astep ρ A (p0 + o.slot) op with
    | some (v, A') => some (aput ρ o.dst v, A')
    | none => none

def evG (call : CallF) (p0 : Nat) (o : IOper) (ρ : List AV) (A : AHeap) : Option (List AV × AHeap) :=
  match o.guard with
  | none => evOp call p0 o ρ A
  | some (t, want) => match ρ.getD t .any with
    | .bool b => if b = want then evOp call p0 o ρ A else some (aput ρ o.dst (.tup []), A)
    | .tup _ => some (aput ρ o.dst (.tup []), A)
    | _ => none

def evOps (call : CallF) (p0 : Nat) : List IOper → List AV → AHeap → Option (List AV × AHeap)
  | [], ρ, A => some (ρ, A)
  | o :: os, ρ, A => match evG call p0 o ρ A with
    | some (ρ', A') => evOps call p0 os ρ' A'
    | none => none

def evOrd (call : CallF) (p0 : Nat) (ios : List IOper) (anc : Nat → Nat → Bool) : List Nat → Chk → List AV → AHeap → Option (List AV × AHeap)
  | [], R, ρ, A => some (ρ, A)
  | i :: c, R, ρ, A => match ios[i]? with
    | none => none
    | some x => match x.op.cls with
      | .pure => (match yld x ρ A with | some v => evOrd call p0 ios anc c R (aput ρ x.dst v) A | none => none)
      | .read => (match yld x ρ A with | some v => evOrd call p0 ios anc c ((i, v) :: R) (aput ρ x.dst v) A | none => none)
      | .make => (match evG call p0 x ρ A with
        | some (ρ', A') => evOrd call p0 ios anc c R ρ' A'
        | none => none)
      | .eff => (match evG call p0 x ρ A with
        | some (ρ', A') => bif chksB ios anc i ρ' A' R then evOrd call p0 ios anc c R ρ' A' else none
        | none => none)

def evLoop (body : List AV → AHeap → Option (IExit × List AV × AHeap)) (kill : List Nat) : Nat → List AV → AHeap → Option (IExit × List AV × AHeap)
  | 0, _, _ => none
  | n + 1, ρ, A => match body ρ A with
    | some (.normal, ρ', A') => evLoop body kill n (mask kill ρ') A'
    | r => r

def evScope (body : List AV → AHeap → Option (IExit × List AV × AHeap)) (l : Nat) (kill : List Nat) : Nat → List AV → AHeap → Option (IExit × List AV × AHeap)
  | 0, _, _ => none
  | n + 1, ρ, A => match body ρ A with
    | some (.goto l', ρ', A') => if l' = l then evScope body l kill n (mask kill ρ') A' else none
    | r => r

def evIC (call : CallF) (fuel : Nat) : IC → List AV → AHeap → Option (IExit × List AV × AHeap)
  | .skip, ρ, A => some (.normal, ρ, A)
  | .region m ops kill, ρ, A => match evOps call A.length ops ρ (A.more m) with
    | some (ρ', A') => some (.normal, mask kill ρ', A')
    | none => none
  | .regionD m ops ord ms kill, ρ, A => match evOrd call A.length ops (waits ms) ord [] ρ (A.more m) with
    | some (ρ', A') => some (.normal, mask kill ρ', A')
    | none => none
  | .seq x y, ρ, A => match evIC call fuel x ρ A with
    | some (.normal, ρ', A') => evIC call fuel y ρ' A'
    | r => r
  | .cond c kill x y, ρ, A => match c.get ρ with
    | .bool b => bif b then evIC call fuel x (mask kill ρ) A else evIC call fuel y (mask kill ρ) A
    | _ => none
  | .block id x, ρ, A => match evIC call fuel x ρ A with
    | some (.exit i, ρ', A') => if i = id then some (.normal, ρ', A') else some (.exit i, ρ', A')
    | r => r
  | .loop kill x, ρ, A => evLoop (evIC call fuel x) kill fuel (mask kill ρ) A
  | .exit id, ρ, A => some (.exit id, ρ, A)
  | .ret, ρ, A => some (.ret, ρ, A)
  | .label _, ρ, A => some (.normal, ρ, A)
  | .goto l, ρ, A => some (.goto l, ρ, A)
  | .scope l kill x r, ρ, A => match evIC call fuel x ρ A with
    | some (.goto l', ρ', A') => if l' = l then evScope (evIC call fuel r) l kill fuel (mask kill ρ') A' else none
    | res => res

/-! What is still reached: only which places are kept, so nothing hangs on it. -/
mutual
def AV.locs : AV → List Nat
  | .ptr l _ | .eptr l _ _ | .sl l _ _ _ _ | .mp l => [l]
  | .fn _ a b => AV.locsL a ++ AV.locsL b
  | .ifc _ x => AV.locs x
  | .agg cs | .tup cs => AV.locsL cs
  | _ => []
def AV.locsL : List AV → List Nat
  | [] => []
  | v :: vs => AV.locs v ++ AV.locsL vs
end
def AO.locs : AO → List Nat
  | .cells vs => AV.locsL vs
  | .arr es => es.flatMap AV.locsL
  | .map es => es.flatMap fun (k, v) => AV.locs k ++ AV.locs v
  | _ => []
def reach (n0 : Nat) (A : AHeap) : Nat → List Nat → List Nat → List Nat
  | 0, _, seen => seen
  | _ + 1, [], seen => seen
  | n + 1, l :: todo, seen => bif Nat.blt l n0 || seen.contains l then reach n0 A n todo seen else match A[l]? with
    | some (some o) => reach n0 A n (o.locs ++ todo) (seen ++ [l])
    | _ => reach n0 A n todo seen
def gc (n0 : Nat) (A : AHeap) (r : AV) : List Nat := reach n0 A 100000 (r.locs ++ (A.take n0).flatMap fun o => match o with | some o => o.locs | none => []) []

def finish (n0 : Nat) (r : AV) (A : AHeap) : Option (AV × AHeap) :=
  let ks := gc n0 A r
  bif okKeep n0 ks then some (AV.ren (fnew n0 ks) r, foldA n0 ks A) else none

/-- A table as a list. -/
abbrev TabL := List (Nat × IC × List RV × Nat)

abbrev Table := FuncId → Option (IC × List RV × Nat)

def evF (T : Table) (fuel : Nat) : Nat → CallF
  | 0, _, _, _ => none
  | d + 1, f, args, A => match T f with
    | none => none
    | some (ic, rs, n) => match evIC (evF T fuel d) fuel ic (args ++ List.replicate (n - args.length) .any) A with
      | some (.ret, ρ, A') => (match rvs ρ A' rs with
        | some vs => finish A.length (rtup vs) A'
        | none => none)
      | some (.normal, ρ, A') => (match rvs ρ A' rs with
        | some vs => finish A.length (rtup vs) A'
        | none => none)
      | _ => none

section
variable {P : Program} {call : CallF}

/-- What is reckoned of a call is so. -/
def CallOK (P : Program) (call : CallF) : Prop := ∀ f args A r A', call f args A = some (r, A') → ACall P f args A fun r1 A1 => r1 = r ∧ A1 = A'

variable (hc : CallOK P call) {p0 : Nat} {K : List AV → AHeap → Prop}
include hc

theorem evOp_ok {o : IOper} {ρ ρ' : List AV} {A A' : AHeap} (h : evOp call p0 o ρ A = some (ρ', A')) (hk : K ρ' A') : awpOp P p0 o ρ A K := by
  unfold evOp at h
  unfold awpOp
  cases hop : o.op with
  | call f args =>
    rw [hop] at h
    simp only [] at h ⊢
    unfold ACallV
    cases hf : f.get ρ <;> rw [hf] at h <;> simp only [] at h ⊢
    case fn f first caps =>
      split at h
      · rename_i r A1 hr
        cases h
        exact (hc _ _ _ _ _ hr).mono fun r1 A2 ⟨h1, h2⟩ => by rw [h1, h2]; exact hk
      · cases h
    all_goals cases h
  | _ =>
    rw [hop] at h
    simp only [] at h ⊢
    split at h
    · rename_i v A1 hs
      cases h
      rw [hs]; exact hk
    · cases h

theorem evG_ok {o : IOper} {ρ ρ' : List AV} {A A' : AHeap} (h : evG call p0 o ρ A = some (ρ', A')) (hk : K ρ' A') : awpG P p0 o ρ A K := by
  unfold evG at h
  unfold awpG
  cases hg : o.guard with
  | none => rw [hg] at h; exact evOp_ok hc h hk
  | some tw =>
    obtain ⟨t, want⟩ := tw
    rw [hg] at h
    simp only [] at h ⊢
    cases hb : ρ.getD t .any <;> rw [hb] at h <;> simp only [] at h ⊢
    case bool b =>
      refine ⟨fun e => ?_, fun e => ?_⟩
      · rw [if_pos e] at h; exact evOp_ok hc h hk
      · rw [if_neg (by rintro rfl; cases b <;> simp at e)] at h; cases h; exact hk
    case tup vs => cases h; exact hk
    all_goals cases h

theorem evOps_ok : ∀ (os : List IOper) (ρ ρ' : List AV) (A A' : AHeap), evOps call p0 os ρ A = some (ρ', A') → K ρ' A' → awpOps P p0 os ρ A K
  | [], ρ, ρ', A, A', h, hk => by cases h; exact hk
  | o :: os, ρ, ρ', A, A', h, hk => by
    simp only [evOps] at h
    split at h
    · rename_i ρ1 A1 h1
      exact evG_ok (K := fun ρ A => awpOps P p0 os ρ A K) hc h1 (evOps_ok os _ _ _ _ h hk)
    · cases h

theorem evOrd_ok {ios : List IOper} {anc : Nat → Nat → Bool} : ∀ (c : List Nat) (R : Chk) (ρ ρ' : List AV) (A A' : AHeap), evOrd call p0 ios anc c R ρ A = some (ρ', A') → K ρ' A' → awpOrd P p0 ios anc K c R ρ A
  | [], R, ρ, ρ', A, A', h, hk => by cases h; exact hk
  | i :: c, R, ρ, ρ', A, A', h, hk => by
    simp only [evOrd] at h
    simp only [awpOrd]
    cases hi : ios[i]? with
    | none => rw [hi] at h; cases h
    | some x =>
      rw [hi] at h
      simp only [] at h ⊢
      cases hcl : x.op.cls <;> rw [hcl] at h <;> simp only [] at h ⊢
      case pure =>
        cases hy : yld x ρ A with
        | none => rw [hy] at h; cases h
        | some v => rw [hy] at h; exact evOrd_ok c R _ _ _ _ h hk
      case read =>
        cases hy : yld x ρ A with
        | none => rw [hy] at h; cases h
        | some v => rw [hy] at h; exact evOrd_ok c _ _ _ _ _ h hk
      case make =>
        split at h
        · rename_i ρ1 A1 h1
          exact evG_ok (K := fun ρ' A' => awpOrd P p0 ios anc K c R ρ' A') hc h1 (evOrd_ok c R _ _ _ _ h hk)
        · cases h
      case eff =>
        split at h
        · rename_i ρ1 A1 h1
          cases hb : chksB ios anc i ρ1 A1 R with
          | false => rw [hb] at h; cases h
          | true =>
            rw [hb] at h
            exact evG_ok (K := fun ρ' A' => chks ios anc R i ρ' A' ∧ awpOrd P p0 ios anc K c R ρ' A') hc h1 ⟨chksB_ok hb, evOrd_ok c R _ _ _ _ h hk⟩
        · cases h

theorem evIC_ok {n0 fuel : Nat} : ∀ (ic : IC) (ρ : List AV) (A : AHeap) (e : IExit) (ρ' : List AV) (A' : AHeap) (Q : IExit → List AV → AHeap → Prop), evIC call fuel ic ρ A = some (e, ρ', A') → Q e ρ' A' → awp P n0 ic ρ A Q
  | .skip, ρ, A, e, ρ', A', Q, h, hq => by cases h; exact hq
  | .region m ops kill, ρ, A, e, ρ', A', Q, h, hq => by
    simp only [evIC] at h
    split at h
    · rename_i ρ1 A1 h1
      cases h
      exact evOps_ok (K := fun ρ A => Q .normal (mask kill ρ) A) hc _ _ _ _ _ h1 hq
    · cases h
  | .regionD m ops ord ms kill, ρ, A, e, ρ', A', Q, h, hq => by
    simp only [evIC] at h
    split at h
    · rename_i ρ1 A1 h1
      cases h
      exact evOrd_ok (K := fun ρ A => Q .normal (mask kill ρ) A) hc _ _ _ _ _ _ h1 hq
    · cases h
  | .seq x y, ρ, A, e, ρ', A', Q, h, hq => by
    simp only [evIC] at h
    split at h
    · rename_i ρ1 A1 h1
      exact evIC_ok x _ _ _ _ _ _ h1 (evIC_ok y _ _ _ _ _ _ h hq)
    · rename_i hno
      refine evIC_ok x _ _ _ _ _ _ h ?_
      cases e with
      | normal => exact absurd h (hno _ _)
      | exit id => exact hq
      | goto l => exact hq
      | ret => exact hq
  | .cond c kill x y, ρ, A, e, ρ', A', Q, h, hq => by
    simp only [evIC] at h
    simp only [awp]
    cases hb : c.get ρ <;> rw [hb] at h <;> simp only [] at h ⊢
    case bool b =>
      cases b
      · exact ⟨fun e => (by cases e), fun _ => evIC_ok y _ _ _ _ _ _ h hq⟩
      · exact ⟨fun _ => evIC_ok x _ _ _ _ _ _ h hq, fun e => (by cases e)⟩
    all_goals cases h
  | .block id x, ρ, A, e, ρ', A', Q, h, hq => by
    simp only [evIC] at h
    split at h
    · rename_i i ρ1 A1 h1
      refine evIC_ok x _ _ _ _ _ _ h1 ?_
      simp only [blockQ]
      by_cases ei : i = id
      · rw [if_pos ei] at h ⊢; cases h; exact hq
      · rw [if_neg ei] at h ⊢; cases h; exact hq
    · rename_i hno
      refine evIC_ok x _ _ _ _ _ _ h ?_
      cases e with
      | normal => exact hq
      | exit i => exact absurd h (hno _ _ _)
      | goto l => exact hq
      | ret => exact hq
  | .loop kill x, ρ, A, e, ρ', A', Q, h, hq => by
    simp only [evIC] at h
    refine ⟨fun n ρ1 A1 => evLoop (evIC call fuel x) kill n ρ1 A1 = some (e, ρ', A'), ⟨fuel, [], none, rfl, rfl, by simpa [nlR, nlA, foldRo, foldAo] using h⟩, ?_⟩
    intro i ρ1 A1 hi
    cases i with
    | zero => cases hi
    | succ i =>
      simp only [evLoop] at hi
      split at hi
      · rename_i ρ2 A2 h1
        exact evIC_ok x _ _ _ _ _ _ h1 ⟨i, Nat.lt_succ_self i, none, rfl, hi⟩
      · rename_i hno
        refine evIC_ok x _ _ _ _ _ _ hi ?_
        cases e with
        | normal => exact absurd hi (hno _ _)
        | exit i => exact hq
        | goto l => exact hq
        | ret => exact hq
  | .exit id, ρ, A, e, ρ', A', Q, h, hq => by cases h; exact hq
  | .ret, ρ, A, e, ρ', A', Q, h, hq => by cases h; exact hq
  | .label l, ρ, A, e, ρ', A', Q, h, hq => by cases h; exact hq
  | .goto l, ρ, A, e, ρ', A', Q, h, hq => by cases h; exact hq
  | .scope l kill x r, ρ, A, e, ρ', A', Q, h, hq => by
    simp only [evIC] at h
    refine ⟨fun n ρ1 A1 => evScope (evIC call fuel r) l kill n ρ1 A1 = some (e, ρ', A'), ?_, ?_⟩
    · split at h
      · rename_i l' ρ1 A1 h1
        split at h
        · rename_i hl
          exact evIC_ok x _ _ _ _ _ _ h1 ⟨hl, fuel, none, rfl, h⟩
        · cases h
      · rename_i hno
        refine evIC_ok x _ _ _ _ _ _ h ?_
        cases e with
        | goto l' => exact absurd h (hno _ _ _)
        | normal => exact hq
        | exit i => exact hq
        | ret => exact hq
    · intro i ρ1 A1 hi
      cases i with
      | zero => cases hi
      | succ i =>
        simp only [evScope] at hi
        split at hi
        · rename_i l' ρ2 A2 h1
          split at hi
          · rename_i hl
            exact evIC_ok r _ _ _ _ _ _ h1 ⟨hl, i, Nat.lt_succ_self i, none, rfl, hi⟩
          · cases hi
        · rename_i hno
          refine evIC_ok r _ _ _ _ _ _ hi ?_
          cases e with
          | goto l' => exact absurd hi (hno _ _ _)
          | normal => exact hq
          | exit i => exact hq
          | ret => exact hq
end

theorem finish_ok {n0 : Nat} {r r' : AV} {A A' : AHeap} (h : finish n0 r A = some (r', A')) : ∃ ks, okKeepO n0 ks = true ∧ foldVo n0 ks r = r' ∧ foldAo n0 ks A = A' := by
  unfold finish at h
  simp only [] at h
  cases hk : okKeep n0 (gc n0 A r) with
  | false => rw [hk] at h; cases h
  | true => rw [hk] at h; cases h; exact ⟨some (gc n0 A r), hk, rfl, rfl⟩

def TabL.get (l : TabL) : Table := fun f => match l.find? (fun x => Nat.beq x.1 f) with
  | some (_, y) => some y
  | none => none

def TabL.OK (P : Program) (l : TabL) : Prop := ∀ x ∈ l, FnOk P x.1 x.2.1 x.2.2.1 x.2.2.2
theorem TabL.ok_nil {P : Program} : TabL.OK P [] := fun _ h => by cases h
theorem TabL.ok_cons {P : Program} {f : Nat} {ic : IC} {rs : List RV} {n : Nat} {l : TabL} (h : FnOk P f ic rs n) (t : TabL.OK P l) : TabL.OK P ((f, ic, rs, n) :: l) := fun x hx => by
  rcases List.mem_cons.1 hx with rfl | hx
  · exact h
  · exact t x hx

theorem TabL.get_ok {P : Program} {l : TabL} (h : TabL.OK P l) : ∀ f ic rs n, l.get f = some (ic, rs, n) → FnOk P f ic rs n := by
  intro f ic rs n hg
  unfold TabL.get at hg
  split at hg
  · rename_i g y hf
    cases hg
    have h1 := List.mem_of_find?_eq_some hf
    have h2 := List.find?_some hf
    have h2 : g = f := Nat.eq_of_beq_eq_true h2
    subst h2
    exact h _ h1
  · cases hg

/-- **What is reckoned of a function is what it does.** -/
theorem evF_ok {P : Program} (hm : P.follows .mixedOrders = true) {T : Table} (hT : ∀ f ic rs n, T f = some (ic, rs, n) → FnOk P f ic rs n) {fuel : Nat} : ∀ d, CallOK P (evF T fuel d)
  | 0 => fun f args A r A' h => by simp [evF] at h
  | d + 1 => fun f args A r A' h => by
    simp only [evF] at h
    split at h
    · cases h
    · rename_i ic rs n ht
      refine acall_of hm (hT _ _ _ _ ht) ?_
      have key : ∀ (e : IExit) (ρ : List AV) (A1 : AHeap), (e = .ret ∨ e = .normal) → evIC (evF T fuel d) fuel ic (args ++ List.replicate (n - args.length) .any) A = some (e, ρ, A1) →
          (match rvs ρ A1 rs with | some vs => finish A.length (rtup vs) A1 | none => none) = some (r, A') →
          awp P A.length ic (args ++ List.replicate (n - args.length) .any) A (retQ A.length rs fun r1 A1 => r1 = r ∧ A1 = A') := by
        intro e ρ A1 he h1 h2
        refine evIC_ok (evF_ok hm hT d) _ _ _ _ _ _ _ h1 ?_
        have h3 : (match rvs ρ A1 rs with
          | some vs => ∃ ks, okKeepO A.length ks = true ∧ foldVo A.length ks (rtup vs) = r ∧ foldAo A.length ks A1 = A'
          | none => False) := by
          cases hv : rvs ρ A1 rs with
          | none => rw [hv] at h2; cases h2
          | some vs => rw [hv] at h2; exact finish_ok h2
        rcases he with rfl | rfl <;> exact h3
      split at h
      · rename_i ρ A1 h1; exact key _ _ _ (.inl rfl) h1 h
      · rename_i ρ A1 h1; exact key _ _ _ (.inr rfl) h1 h
      · cases h
end Go.SB
end

/- Framework, the last part: from a call on abstract values to a row's contract. -/
section
set_option linter.unusedVariables false
set_option linter.unusedSimpArgs false
namespace Go.SB
open Go.RowKit Go.ChangeShapes

/-- Where a law begins: nothing laid; every row of cells that there is will never be written. -/
def mod0 (W : World) : Mod := { D := fun _ => False, blk := fun _ => 0, base := fun _ => 0, room := fun _ => 0, sz := fun _ => 0, I := fun b => match W.heap[b]? with | some (.cells c _ _) => some c | _ => none }

theorem sim0 (W : World) : Sim W.heap (mod0 W) (fun _ _ => False) [] where
  holds l o h := by simp at h
  fresh l h := h.elim
  lt l o b h := by simp at h
  disj l l' o o' b h := by simp at h
  imm b c h := by
    simp only [mod0] at h
    split at h
    · rename_i c' e fr h1; cases h; exact ⟨e, fr, h1⟩
    · cases h
  immNot b c l o _ h := by simp at h

theorem below_of_ext {w w' : World} {M M' : Mod} {F F' : Nat → Nat → Prop} {A' : AHeap} (E : Ext w M F [] w' M' F' A') : Below w.heap.size w w' :=
  ⟨E.os, E.tape, E.output, E.size, fun k hk => E.keep k hk (by simp)⟩

/-- **A law's call**: true, and nothing that was there has turned. -/
theorem law_calls {P : Program} {f : FuncId} {avs : List AV} {W : World} {args : Array Value} (h : ACall P f avs [] fun r _ => r = .bool true) (hc : ConcL (mod0 W) avs args.toList) :
    Calls P f args W fun e W' => e = .returned (.bool true) ∧ Below W.heap.size W W' := by
  have := h.2 W (mod0 W) _ args.toList (sim0 W) hc
  simp only [Array.toArray_toList] at this
  refine this.mono ?_
  rintro e W' ⟨r, A', M', F', u, rfl, rfl, h1, h2, h3, _⟩
  exact ⟨by rw [conc_bool h1], below_of_ext h3⟩

section
variable {H : Type} {enc : TypeId × Value → H} {P : Program}

theorem trodAll_stays (hl : laidOutB P = true) {W W' : World} {sp : Nat → Bool} : ∀ {ts : List TypeId} {vs : List Value} {ds : List (DataW H)} {ps : List MemPlace},
    (∀ t ∈ ts, P.readableRec t = true ∧ t < P.types.size) → DataW.TrodAll enc P W 0 (fun _ => true) true ts vs ds ps → (∀ p ∈ ps, W.sameAt W' p) → (∀ p ∈ ps, sp p.block = true) →
    DataW.TrodAll enc P W' 0 sp true ts vs ds ps
  | [], [], [], _, _, h, _, _ => h
  | t :: ts, v :: vs, d :: ds, _, ht, ⟨p, q, h1, h2, e⟩, hs, hb => by
    subst e
    exact ⟨p, q, WideElems.Trod_stays hl (ht t (by simp)).1 (ht t (by simp)).2 h1 (fun x hx => hs x (by simp [hx])) (fun x hx => hb x (by simp [hx])),
      trodAll_stays hl (fun t' h' => ht t' (by simp [h'])) h2 (fun x hx => hs x (by simp [hx])) (fun x hx => hb x (by simp [hx])), rfl⟩
  | [], _ :: _, _, _, _, h, _, _ => h.elim
  | [], [], _ :: _, _, _, h, _, _ => h.elim
  | _ :: _, [], _, _, _, h, _, _ => h.elim
  | _ :: _, _ :: _, [], _, _, h, _, _ => h.elim

theorem trodAll_len {W : World} {base : Nat} {sp : Nat → Bool} {hd : Bool} : ∀ {ts : List TypeId} {vs : List Value} {ds : List (DataW H)} {ps : List MemPlace}, DataW.TrodAll enc P W base sp hd ts vs ds ps → ds.length = ts.length ∧ vs.length = ts.length
  | [], [], [], _, _ => ⟨rfl, rfl⟩
  | t :: ts, v :: vs, d :: ds, _, ⟨_, _, _, h, _⟩ => by have := trodAll_len h; simp [this]
  | [], _ :: _, _, _, h => h.elim
  | [], [], _ :: _, _, h => h.elim
  | _ :: _, [], _, _, h => h.elim
  | _ :: _, _ :: _, [], _, h => h.elim

/-- What the row asks behind a law's call. -/
theorem law_post {f : Func} {s : ChangeSpec} {apart fresh handsOn again : Bool} {W W' : World} {args : Array Value} {ds gs : List (DataW H)} {before : List MemPlace} {t : TypeId}
    (hs : ∀ ds : List (DataW H), ds.length = f.params.size → s.fn H ds = { results := [.lit (.bool true)], args := ds }) (hv : s.vars = [])
    (hW : DataW.Whole enc P f.params.toList s.vars apart W args.toList ds gs before) (hr : f.resultTypes = #[t]) (ht : P.underlying t = some .bool) (hl : laidOutB P = true)
    (hpar : ∀ t ∈ f.params.toList, P.readableRec t = true ∧ t < P.types.size) (hB : Below W.heap.size W W') : s.post enc P f apart fresh handsOn again W args (.bool true) W' := by
  have hW0 := hW
  obtain ⟨p, q, hA, hV, hpq, hz, hn⟩ := hW
  rw [hv] at hV
  have hg : gs = [] ∧ q = [] := by
    cases gs with
    | nil => exact ⟨rfl, hV⟩
    | cons _ _ => exact hV.elim
  obtain ⟨rfl, rfl⟩ := hg
  have hbp : before = p := by simpa using hpq
  subst hbp
  have hfn := hs ds (by have := (trodAll_len hA).1; simpa using this)
  have hlt : ∀ x ∈ before, x.block < W.heap.size := hW0.lt
  have hargs : ∀ sp : Nat → Bool, (∀ p ∈ before, sp p.block = true) → DataW.TrodAll enc P W' 0 sp true f.params.toList args.toList ds before := fun sp hsp => trodAll_stays hl hpar hA (fun x hx => hB.same (hlt x hx)) hsp
  have hres : ∀ (b : Nat) (sp : Nat → Bool) (hd : Bool), DataW.TrodAll enc P W' b sp hd f.resultTypes.toList ((Value.bool true).resultList f.resultTypes.size) [.lit (.bool true)] [] := by
    intro b sp hd
    rw [hr]
    exact ⟨[], [], shut_bool ht true, rfl, rfl⟩
  have hold : ∀ p ∈ before, (fun b => decide (b < W.heap.size)) p.block = true := fun p hp => by simpa using hlt p hp
  have hvars : ∀ sp : Nat → Bool, DataW.TrodVars enc P W' sp s.vars ([] : List (DataW H)) [] := fun sp => by rw [hv]; rfl
  refine ⟨ds, [], before, [], before, [], hW0, ?_, ?_, ?_, ?_, fun _ => ?_⟩
  · rw [List.append_nil, hfn]; exact hres _ _ _
  · rw [List.append_nil, hfn]; exact hargs _ hold
  · rw [List.append_nil, hfn]; exact hvars _
  · exact World.keptBut_mono (fun p hp => ⟨hp, .inr (by simpa using hp)⟩) (hB.frame (· ∈ before))
  · refine ⟨ok_one hr rfl (okWide_bool_mk ht true), _, _, ([] ++ before) ++ [], ⟨[] ++ before, [], trodAll_append (hargs _ (fun _ _ => rfl)) (hres _ _ _), hvars _, rfl, ?_, ?_⟩, ?_⟩
    · intro b off hp
      have hp' : MemPlace.cell b off ∈ before := by simpa using hp
      rw [hB.frozen (hlt _ hp')]
      exact hz b off hp'
    · intro ha
      have := hn ha
      simpa using this
    · intro p hp _
      simpa using hp

/-- The cells of a struct, whatever they hold. -/
theorem conc_anys {M : Mod} : ∀ (cs : List Value), ConcL M (List.replicate cs.length .any) cs
  | [] => .nil
  | c :: cs => .cons (.any c) (conc_anys cs)

theorem okWide_agg {W : World} {r : Reach} {base : Nat} {t : TypeId} {v : Value} {fs : Array Field} {n : Nat} (ht : P.underlying t = some (.struct fs)) (hn : P.cellsOf t = n) (h : Value.okWide P W r base t v) (M : Mod) :
    Conc M (.agg (List.replicate n .any)) v := by
  unfold Value.okWide at h
  rw [ht] at h
  obtain ⟨cs, rfl, hc, _⟩ := h
  refine .agg ?_
  rw [← hn, ← hc, ← Array.length_toList]
  exact conc_anys _
end
end Go.SB
end

/- Framework, part Lb: arguments that are slices of flat structs. -/
section
set_option linter.unusedVariables false
set_option linter.unusedSimpArgs false
namespace Go.SB
open Go.WideShapes Go.RowKit Go.ChangeShapes
section
variable {P : Program} {W : World} {H : Type} {enc : TypeId × Value → H}

inductive CK where
  | int (k : IntKind)
  | str
  | bool
  deriving DecidableEq

/-- The cells of a type, if each is a number, a text or a truth. -/
def shapeFs (P : Program) (F : TypeId → Option (List CK)) : List Field → Nat → Option (List CK)
  | [], _ => some []
  | f :: fs, off => if f.offset = off then (match F f.type with
    | some ks => if ks.length = P.cellsOf f.type then (match shapeFs P F fs (off + ks.length) with | some r => some (ks ++ r) | none => none) else none
    | none => none) else none
def shapeOf (P : Program) : Nat → TypeId → Option (List CK)
  | 0, _ => none
  | n + 1, t => match P.underlying t with
    | some .bool => some [.bool]
    | some (.int k) => some [.int k]
    | some .string => some [.str]
    | some (.struct fs) => (match shapeFs P (shapeOf P n) fs.toList 0 with | some ks => if ks.length = P.cellsOf t then some ks else none | none => none)
    | _ => none

def fit : CK → Value → Prop
  | .int k, v => ∃ n, v = .int k n ∧ (Lit.int k n).wf = true
  | .str, v => ∃ s : ByteArray, v = .string s ∧ s.size ≤ maxLen
  | .bool, v => ∃ b, v = .bool b
def Fits : List CK → List Value → Prop
  | [], [] => True
  | k :: ks, v :: vs => fit k v ∧ Fits ks vs
  | _, _ => False
theorem Fits.append : ∀ {ks : List CK} {vs : List Value}, Fits ks vs → ∀ {ks' : List CK} {vs' : List Value}, Fits ks' vs' → Fits (ks ++ ks') (vs ++ vs')
  | [], [], _, _, _, h => h
  | [], _ :: _, h, _, _, _ => h.elim
  | _ :: _, [], h, _, _, _ => h.elim
  | k :: ks, v :: vs, h, _, _, h' => ⟨h.1, h.2.append h'⟩

theorem shapeFs_fits {F : TypeId → Option (List CK)} {cs : List Value} {Z : Field → Prop}
    (hF : ∀ f ks, Z f → F f.type = some ks → ks.length = P.cellsOf f.type → Fits ks ((cs.drop f.offset).take (P.cellsOf f.type))) :
    ∀ (fs : List Field) (off : Nat) (ks : List CK), (∀ f ∈ fs, Z f) → shapeFs P F fs off = some ks → Fits ks ((cs.drop off).take ks.length)
  | [], off, ks, _, h => by
    simp only [shapeFs, Option.some.injEq] at h
    subst h
    simp [Fits]
  | f :: fs, off, ks, hz, h => by
    unfold shapeFs at h
    split at h
    · rename_i ho
      cases h1 : F f.type with
      | none => rw [h1] at h; cases h
      | some k1 =>
        rw [h1] at h
        simp only [] at h
        split at h
        · rename_i hl
          cases h2 : shapeFs P F fs (off + k1.length) with
          | none => rw [h2] at h; cases h
          | some r =>
            rw [h2] at h
            cases h
            have a := hF f k1 (hz f (by simp)) h1 hl
            have b := shapeFs_fits hF fs (off + k1.length) r (fun g hg => hz g (by simp [hg])) h2
            rw [ho, ← hl] at a
            have := a.append b
            rw [List.length_append]
            have e : (cs.drop off).take (k1.length + r.length) = (cs.drop off).take k1.length ++ (cs.drop (off + k1.length)).take r.length := by
              rw [List.take_add, List.drop_drop]
            rw [e]; exact this
        · cases h
    · cases h

theorem shape_trod {base : Nat} {spare : Nat → Bool} {held : Bool} : ∀ (m : Nat) (t : TypeId) (ks : List CK) (fuel : Nat) (cs : List Value) (x : DataW H × List MemPlace), shapeOf P m t = some ks →
    DataW.trod enc P W base spare held fuel t cs = some x → Fits ks cs
  | 0, _, _, _, _, _, h, _ => by cases h
  | m + 1, t, ks, fuel, cs, x, h, ht => by
    unfold shapeOf at h
    cases hu : P.underlying t with
    | none => rw [hu] at h; cases h
    | some u =>
      rw [hu] at h
      cases u with
      | bool =>
        cases h
        obtain ⟨b, rfl, _⟩ := DataW.trod_bool hu ht
        exact ⟨⟨b, rfl⟩, trivial⟩
      | int k =>
        cases h
        obtain ⟨n, rfl, _, hw⟩ := DataW.trod_int hu ht
        exact ⟨⟨n, rfl, hw⟩, trivial⟩
      | string =>
        cases h
        obtain ⟨s, rfl, _, hs⟩ := DataW.trod_string hu ht
        exact ⟨⟨s, rfl, hs⟩, trivial⟩
      | struct fs =>
        obtain ⟨xs, n, rfl, _, hlen, hxl, hx⟩ := DataW.trod_struct hu ht
        cases hs : shapeFs P (shapeOf P m) fs.toList 0 with
        | none => simp only [hs] at h; cases h
        | some k2 =>
          simp only [hs] at h
          split at h
          · rename_i hl
            cases h
            have := shapeFs_fits (P := P) (F := shapeOf P m) (cs := cs) (Z := fun f => ∃ y, DataW.trod enc P W base spare held n f.type ((cs.drop f.offset).take (P.cellsOf f.type)) = some y)
              (fun f k1 ⟨y, hy⟩ h1 _ => shape_trod m f.type k1 n _ y h1 hy) fs.toList 0 ks (fun f hf => ?_) hs
            · rw [List.drop_zero, hl, ← hlen, List.take_length] at this
              exact this
            · obtain ⟨i, hi⟩ := List.getElem?_of_mem hf
              rw [Array.getElem?_toList] at hi
              have hil : i < fs.size := (Array.getElem?_eq_some_iff.1 hi).1
              exact ⟨xs[i]'(by omega), by rw [hx i f hi]; simp⟩
          · cases h
      | _ => cases h

theorem add_spot {a : Addr} (h : a.spot = none) (n : Nat) : a.add n = ⟨a.block, a.off + n, none⟩ := by
  unfold Addr.add
  split
  · rename_i e; subst e; cases a; simp at h; subst h; rfl
  · rfl
/-- A slice of flat structs, as an argument that is only read. -/
theorem conc_slice {α : Type} {f : α → List AV} {t e : TypeId} {ks : List CK} {m base : Nat} {sp : Nat → Bool} {held : Bool} {r : Reach} {b0 : Nat} {v : Value} {d : DataW H} {ps : List MemPlace} (ht : P.underlying t = some (.slice e))
    (hs : shapeOf P m e = some ks) (hk : 0 < ks.length) (hc : P.cellsOf e = ks.length) (hdec : ∀ vs, Fits ks vs → ∃ x : α, ∀ M, ConcL M (f x) vs)
    (hv : Value.okWide P W r b0 t v) (hd : DataW.Trod enc P W base sp held t v d ps) : ∃ l : List α, Conc (mod0 W) (.ps ks.length (l.map f)) v := by
  obtain ⟨oa, len, cap, rfl⟩ := okWide_slice ht hv
  obtain ⟨fuel, hd⟩ := hd
  have hcells : (Value.slice oa len cap).cells.toList = [.slice oa len cap] := rfl
  rw [hcells] at hd
  rcases DataW.trod_slice ht hd with ⟨h1, _⟩ | ⟨a, len', cap', elems, rest, n, _, h1, _, hb, hl, hm, hlen, hel, _, _⟩
  · simp only [List.cons.injEq, Value.slice.injEq, and_true] at h1
    obtain ⟨rfl, rfl, rfl⟩ := h1
    exact ⟨[], .ps0 fun _ => rfl⟩
  · simp only [List.cons.injEq, Value.slice.injEq, and_true] at h1
    obtain ⟨rfl, rfl, rfl⟩ := h1
    have each : ∀ i, i < len → ∃ (x : α) (vs : List Value), (∀ M, ConcL M (f x) vs) ∧ vs.length = ks.length ∧ ∀ j, j < ks.length → W.cell? ((a.add (i * ks.length)).add j) = vs[j]? := by
      intro i hi
      have h2 := hel i hi
      rw [List.getElem?_eq_getElem (by omega)] at h2
      obtain ⟨vs, hvs, hy⟩ := Option.bind_eq_some_iff.1 h2
      obtain ⟨_, hvl, hvc⟩ := World.cells?_some hvs
      obtain ⟨x, hx⟩ := hdec vs (shape_trod m e ks n vs _ hs hy)
      rw [hc] at hvl hvc
      exact ⟨x, vs, hx, hvl, hvc⟩
    by_cases h0 : len = 0
    · subst h0
      exact ⟨[], .ps0 fun h => by cases h⟩
    · obtain ⟨x0, vs0, _, hl0, hc0⟩ := each 0 (by omega)
      have hcell := hc0 0 hk
      rw [List.getElem?_eq_getElem (by omega), Nat.zero_mul] at hcell
      have haa : (a.add 0).add 0 = a := rfl
      rw [haa] at hcell
      unfold World.cell? at hcell
      cases hh : W.heap[a.block]? with
      | none => rw [hh] at hcell; cases hcell
      | some o =>
        cases o with
        | cells c ty fr =>
          rw [hh] at hcell
          have hspot : a.spot = none := by
            cases hsp : a.spot with
            | none => rfl
            | some q => rw [hsp] at hcell; simp at hcell
          have pick : ∀ k, k ≤ len → ∃ l : List α, l.length = k ∧ ∀ i x, l[i]? = some x → ∃ vs : List Value, (∀ M, ConcL M (f x) vs) ∧ vs.length = ks.length ∧ ∀ j, j < ks.length → W.cell? ((a.add (i * ks.length)).add j) = vs[j]? := by
            intro k
            induction k with
            | zero => intro _; exact ⟨[], rfl, fun i x h => by simp at h⟩
            | succ k ih =>
              intro hk'
              obtain ⟨l, hll, hlx⟩ := ih (by omega)
              obtain ⟨x, vs, hx⟩ := each k (by omega)
              refine ⟨l ++ [x], by simp [hll], fun i y hy => ?_⟩
              rcases Nat.lt_or_ge i l.length with hi | hi
              · rw [List.getElem?_append_left hi] at hy; exact hlx i y hy
              · rw [List.getElem?_append_right hi] at hy
                have : i - l.length = 0 := by
                  have := (List.getElem?_eq_some_iff.1 hy).1
                  simp at this; omega
                rw [this] at hy
                simp at hy
                subst hy
                have : i = k := by omega
                subst this
                exact ⟨vs, hx⟩
          obtain ⟨l, hll, hlx⟩ := pick len (Nat.le_refl _)
          have hch : ∀ i, ∃ vs : List Value, ∀ x, l[i]? = some x → (∀ M, ConcL M (f x) vs) ∧ vs.length = ks.length ∧ ∀ j, j < ks.length → W.cell? ((a.add (i * ks.length)).add j) = vs[j]? := by
            intro i
            cases hx : l[i]? with
            | none => exact ⟨[], fun x h => by cases h⟩
            | some x =>
              obtain ⟨vs, h⟩ := hlx i x hx
              exact ⟨vs, fun y hy => by cases hy; exact h⟩
          let uss : Nat → List Value := fun i => Classical.choose (hch i)
          have hus : ∀ i x, l[i]? = some x → (∀ M, ConcL M (f x) (uss i)) ∧ (uss i).length = ks.length ∧ ∀ j, j < ks.length → W.cell? ((a.add (i * ks.length)).add j) = (uss i)[j]? := fun i => Classical.choose_spec (hch i)
          refine ⟨l, ?_⟩
          have hae : a = ⟨a.block, a.off, none⟩ := by cases a; simp at hspot; subst hspot; rfl
          have hl2 : (l.map f).length = len := by simp [hll]
          rw [hae, ← hl2]
          refine .ps (c := c) (uss := uss) (by unfold mod0; simp only [hh]) (by rw [hl2]; exact hl) ?_ ?_
          · intro i j u hi hu
            rw [hl2, ← hll] at hi
            obtain ⟨_, h2, h3⟩ := hus i _ (List.getElem?_eq_getElem hi)
            have hj : j < ks.length := by rw [← h2]; exact (List.getElem?_eq_some_iff.1 hu).1
            have := h3 j hj
            rw [hu, add_spot hspot, add_spot rfl] at this
            unfold World.cell? at this
            simp only [hh] at this
            simpa using this
          · intro i ev hev
            rw [List.getElem?_map] at hev
            cases hx : l[i]? with
            | none => rw [hx] at hev; cases hev
            | some x => rw [hx] at hev; cases hev; exact (hus i x hx).1 _
        | _ => rw [hh] at hcell; cases hcell
end
end Go.SB
end

/- Framework, part Lc: arguments of any depth: numbers, texts, truths, structs of these, and slices of these. -/
section
set_option linter.unusedVariables false
set_option linter.unusedSimpArgs false
namespace Go.SB
open Go.WideShapes Go.RowKit Go.ChangeShapes

inductive CD where
  | int (k : IntKind)
  | str
  | bool
  | sl (ks : List CD)

mutual
inductive Typ : CD → AV → Prop
  | int {k : IntKind} {n : Int} (h : (Lit.int k n).wf = true) : Typ (.int k) (.int k n)
  | str (s : List UInt8) : Typ .str (.str s)
  | bool (b : Bool) : Typ .bool (.bool b)
  | sl {ks : List CD} {rows : List (List AV)} (h : ∀ r ∈ rows, TypL ks r) : Typ (.sl ks) (.ps ks.length rows)
inductive TypL : List CD → List AV → Prop
  | nil : TypL [] []
  | cons {k : CD} {ks : List CD} {a : AV} {as : List AV} (h : Typ k a) (t : TypL ks as) : TypL (k :: ks) (a :: as)
end
theorem TypL.append : ∀ {ks : List CD} {as : List AV}, TypL ks as → ∀ {ks' : List CD} {as' : List AV}, TypL ks' as' → TypL (ks ++ ks') (as ++ as')
  | _, _, .nil, _, _, h => h
  | _, _, .cons h t, _, _, h' => .cons h (t.append h')
theorem typ_rows {α : Type} {f : α → List AV} {ks : List CD} (hd : ∀ r, TypL ks r → ∃ x, r = f x) : ∀ {rows : List (List AV)}, (∀ r ∈ rows, TypL ks r) → ∃ l : List α, rows = l.map f
  | [], _ => ⟨[], rfl⟩
  | r :: rows, h => by
    obtain ⟨x, hx⟩ := hd r (h r (by simp))
    obtain ⟨l, hl⟩ := typ_rows hd (rows := rows) (fun q hq => h q (by simp [hq]))
    exact ⟨x :: l, by rw [hx, hl]; rfl⟩
section
variable {P : Program} {W : World} {H : Type} {enc : TypeId × Value → H}

def Fit (W : World) (ks : List CD) (vs : List Value) : Prop := ∃ as, TypL ks as ∧ ConcL (mod0 W) as vs
theorem Fit.append {ks ks' : List CD} {vs vs' : List Value} (h : Fit W ks vs) (h' : Fit W ks' vs') : Fit W (ks ++ ks') (vs ++ vs') := by
  obtain ⟨a, h1, h2⟩ := h
  obtain ⟨b, h3, h4⟩ := h'
  exact ⟨a ++ b, h1.append h3, h2.append h4⟩

def deepFs (P : Program) (F : TypeId → Option (List CD)) : List Field → Nat → Option (List CD)
  | [], _ => some []
  | f :: fs, off => if f.offset = off then (match F f.type with
    | some ks => if ks.length = P.cellsOf f.type then (match deepFs P F fs (off + ks.length) with | some r => some (ks ++ r) | none => none) else none
    | none => none) else none
def deep (P : Program) : Nat → TypeId → Option (List CD)
  | 0, _ => none
  | n + 1, t => match P.underlying t with
    | some .bool => some [.bool]
    | some (.int k) => some [.int k]
    | some .string => some [.str]
    | some (.struct fs) => (match deepFs P (deep P n) fs.toList 0 with | some ks => if ks.length = P.cellsOf t then some ks else none | none => none)
    | some (.slice e) => (match deep P n e with | some ks => if ks.length = P.cellsOf e ∧ 0 < ks.length then some [.sl ks] else none | none => none)
    | _ => none

theorem deepFs_fits {F : TypeId → Option (List CD)} {cs : List Value} {Z : Field → Prop}
    (hF : ∀ f ks, Z f → F f.type = some ks → ks.length = P.cellsOf f.type → Fit W ks ((cs.drop f.offset).take (P.cellsOf f.type))) :
    ∀ (fs : List Field) (off : Nat) (ks : List CD), (∀ f ∈ fs, Z f) → deepFs P F fs off = some ks → Fit W ks ((cs.drop off).take ks.length)
  | [], off, ks, _, h => by
    simp only [deepFs, Option.some.injEq] at h
    subst h
    exact ⟨[], .nil, by simp; exact .nil⟩
  | f :: fs, off, ks, hz, h => by
    unfold deepFs at h
    split at h
    · rename_i ho
      cases h1 : F f.type with
      | none => rw [h1] at h; cases h
      | some k1 =>
        rw [h1] at h
        simp only [] at h
        split at h
        · rename_i hl
          cases h2 : deepFs P F fs (off + k1.length) with
          | none => rw [h2] at h; cases h
          | some r =>
            rw [h2] at h
            cases h
            have a := hF f k1 (hz f (by simp)) h1 hl
            have b := deepFs_fits hF fs (off + k1.length) r (fun g hg => hz g (by simp [hg])) h2
            rw [ho, ← hl] at a
            have := a.append b
            rw [List.length_append]
            have e : (cs.drop off).take (k1.length + r.length) = (cs.drop off).take k1.length ++ (cs.drop (off + k1.length)).take r.length := by
              rw [List.take_add, List.drop_drop]
            rw [e]; exact this
        · cases h
    · cases h

/-- A slice, its elements being as they are told. -/
theorem deep_slice {ks : List CD} {base : Nat} {a : Addr} {len cap : Nat} (hk : 0 < ks.length) (hl : len ≤ cap)
    (hel : ∀ i, i < len → ∃ vs, W.cells? base (a.add (i * ks.length)) ks.length = some vs ∧ Fit W ks vs) :
    ∃ rows : List (List AV), (∀ r ∈ rows, TypL ks r) ∧ Conc (mod0 W) (.ps ks.length rows) (.slice (some a) len cap) := by
  have each : ∀ i, i < len → ∃ (x : List AV) (vs : List Value), TypL ks x ∧ ConcL (mod0 W) x vs ∧ vs.length = ks.length ∧ ∀ j, j < ks.length → W.cell? ((a.add (i * ks.length)).add j) = vs[j]? := by
    intro i hi
    obtain ⟨vs, hvs, x, hx1, hx2⟩ := hel i hi
    obtain ⟨_, hvl, hvc⟩ := World.cells?_some hvs
    exact ⟨x, vs, hx1, hx2, hvl, hvc⟩
  by_cases h0 : len = 0
  · subst h0
    exact ⟨[], (by intro r h; cases h), .ps0 fun h => by cases h⟩
  · obtain ⟨x0, vs0, _, _, hl0, hc0⟩ := each 0 (by omega)
    have hcell := hc0 0 hk
    rw [List.getElem?_eq_getElem (by omega), Nat.zero_mul] at hcell
    have haa : (a.add 0).add 0 = a := rfl
    rw [haa] at hcell
    unfold World.cell? at hcell
    cases hh : W.heap[a.block]? with
    | none => rw [hh] at hcell; cases hcell
    | some o =>
      cases o with
      | cells c ty fr =>
        rw [hh] at hcell
        have hspot : a.spot = none := by
          cases hsp : a.spot with
          | none => rfl
          | some q => rw [hsp] at hcell; simp at hcell
        have pick : ∀ k, k ≤ len → ∃ l : List (List AV), l.length = k ∧ ∀ i x, l[i]? = some x → ∃ vs : List Value, TypL ks x ∧ ConcL (mod0 W) x vs ∧ vs.length = ks.length ∧ ∀ j, j < ks.length → W.cell? ((a.add (i * ks.length)).add j) = vs[j]? := by
          intro k
          induction k with
          | zero => intro _; exact ⟨[], rfl, fun i x h => by simp at h⟩
          | succ k ih =>
            intro hk'
            obtain ⟨l, hll, hlx⟩ := ih (by omega)
            obtain ⟨x, vs, hx⟩ := each k (by omega)
            refine ⟨l ++ [x], by simp [hll], fun i y hy => ?_⟩
            rcases Nat.lt_or_ge i l.length with hi | hi
            · rw [List.getElem?_append_left hi] at hy; exact hlx i y hy
            · rw [List.getElem?_append_right hi] at hy
              have : i - l.length = 0 := by
                have := (List.getElem?_eq_some_iff.1 hy).1
                simp at this; omega
              rw [this] at hy
              simp at hy
              subst hy
              have : i = k := by omega
              subst this
              exact ⟨vs, hx⟩
        obtain ⟨l, hll, hlx⟩ := pick len (Nat.le_refl _)
        have hch : ∀ i, ∃ vs : List Value, ∀ x, l[i]? = some x → TypL ks x ∧ ConcL (mod0 W) x vs ∧ vs.length = ks.length ∧ ∀ j, j < ks.length → W.cell? ((a.add (i * ks.length)).add j) = vs[j]? := by
          intro i
          cases hx : l[i]? with
          | none => exact ⟨[], fun x h => by cases h⟩
          | some x =>
            obtain ⟨vs, h⟩ := hlx i x hx
            exact ⟨vs, fun y hy => by cases hy; exact h⟩
        let uss : Nat → List Value := fun i => Classical.choose (hch i)
        have hus : ∀ i x, l[i]? = some x → TypL ks x ∧ ConcL (mod0 W) x (uss i) ∧ (uss i).length = ks.length ∧ ∀ j, j < ks.length → W.cell? ((a.add (i * ks.length)).add j) = (uss i)[j]? := fun i => Classical.choose_spec (hch i)
        refine ⟨l, fun r hr => ?_, ?_⟩
        · obtain ⟨i, hi⟩ := List.getElem?_of_mem hr
          exact (hus i r hi).1
        · have hae : a = ⟨a.block, a.off, none⟩ := by cases a; simp at hspot; subst hspot; rfl
          rw [hae, ← hll]
          refine .ps (c := c) (uss := uss) (by unfold mod0; simp only [hh]) (by rw [hll]; exact hl) ?_ ?_
          · intro i j u hi hu
            obtain ⟨_, _, h2, h3⟩ := hus i _ (List.getElem?_eq_getElem hi)
            have hj : j < ks.length := by rw [← h2]; exact (List.getElem?_eq_some_iff.1 hu).1
            have := h3 j hj
            rw [hu, add_spot hspot, add_spot rfl] at this
            unfold World.cell? at this
            simp only [hh] at this
            simpa using this
          · intro i ev hev
            exact (hus i ev hev).2.1
      | _ => rw [hh] at hcell; cases hcell

theorem deep_trod {base : Nat} {spare : Nat → Bool} {held : Bool} : ∀ (m : Nat) (t : TypeId) (ks : List CD) (fuel : Nat) (cs : List Value) (x : DataW H × List MemPlace), deep P m t = some ks →
    DataW.trod enc P W base spare held fuel t cs = some x → Fit W ks cs
  | 0, _, _, _, _, _, h, _ => by cases h
  | m + 1, t, ks, fuel, cs, x, h, ht => by
    unfold deep at h
    cases hu : P.underlying t with
    | none => rw [hu] at h; cases h
    | some u =>
      rw [hu] at h
      cases u with
      | bool =>
        cases h
        obtain ⟨b, rfl, _⟩ := DataW.trod_bool hu ht
        exact ⟨[.bool b], .cons (.bool b) .nil, .cons (.bool b) .nil⟩
      | int k =>
        cases h
        obtain ⟨n, rfl, _, hw⟩ := DataW.trod_int hu ht
        exact ⟨[.int k n], .cons (.int hw) .nil, .cons (.int k n) .nil⟩
      | string =>
        cases h
        obtain ⟨s, rfl, _, hs⟩ := DataW.trod_string hu ht
        exact ⟨[.str s.data.toList], .cons (.str _) .nil, .cons (.str _) .nil⟩
      | slice e =>
        cases hs : deep P m e with
        | none => simp only [hs] at h; cases h
        | some k2 =>
          simp only [hs] at h
          split at h
          · rename_i hl
            cases h
            rcases DataW.trod_slice hu ht with ⟨rfl, _⟩ | ⟨a, len', cap', elems, rest, n, _, rfl, _, hb, hlc, hm, hlen, hel, _, _⟩
            · exact ⟨[.ps k2.length []], .cons (.sl (fun r hr => by cases hr)) .nil, .cons (.ps0 fun _ => rfl) .nil⟩
            · obtain ⟨rows, hr1, hr2⟩ := deep_slice (W := W) (base := base) (a := a) (len := len') (cap := cap') hl.2 hlc (fun i hi => by
                have h2 := hel i hi
                rw [List.getElem?_eq_getElem (by omega)] at h2
                obtain ⟨vs, hvs, hy⟩ := Option.bind_eq_some_iff.1 h2
                rw [← hl.1] at hvs
                exact ⟨vs, hvs, deep_trod m e k2 n vs _ hs hy⟩)
              exact ⟨[.ps k2.length rows], .cons (.sl hr1) .nil, .cons hr2 .nil⟩
          · cases h
      | struct fs =>
        obtain ⟨xs, n, rfl, _, hlen, hxl, hx⟩ := DataW.trod_struct hu ht
        cases hs : deepFs P (deep P m) fs.toList 0 with
        | none => simp only [hs] at h; cases h
        | some k2 =>
          simp only [hs] at h
          split at h
          · rename_i hl
            cases h
            have := deepFs_fits (P := P) (F := deep P m) (cs := cs) (Z := fun f => ∃ y, DataW.trod enc P W base spare held n f.type ((cs.drop f.offset).take (P.cellsOf f.type)) = some y)
              (fun f k1 ⟨y, hy⟩ h1 _ => deep_trod m f.type k1 n _ y h1 hy) fs.toList 0 ks (fun f hf => ?_) hs
            · rw [List.drop_zero, hl, ← hlen, List.take_length] at this
              exact this
            · obtain ⟨i, hi⟩ := List.getElem?_of_mem hf
              rw [Array.getElem?_toList] at hi
              have hil : i < fs.size := (Array.getElem?_eq_some_iff.1 hi).1
              exact ⟨xs[i]'(by omega), by rw [hx i f hi]; simp⟩
          · cases h
      | _ => cases h
/-- An argument that is a slice. -/
theorem arg_slice {t e : TypeId} {ks : List CD} {m base : Nat} {sp : Nat → Bool} {held : Bool} {r : Reach} {b0 : Nat} {v : Value} {d : DataW H} {ps : List MemPlace} (ht : P.underlying t = some (.slice e))
    (hs : deep P m t = some [.sl ks]) (hv : Value.okWide P W r b0 t v) (hd : DataW.Trod enc P W base sp held t v d ps) : ∃ rows, (∀ q ∈ rows, TypL ks q) ∧ Conc (mod0 W) (.ps ks.length rows) v := by
  obtain ⟨oa, len, cap, rfl⟩ := okWide_slice ht hv
  obtain ⟨fuel, hd⟩ := hd
  obtain ⟨as, h1, h2⟩ := deep_trod m t _ fuel _ _ hs hd
  have hcells : (Value.slice oa len cap).cells.toList = [.slice oa len cap] := rfl
  rw [hcells] at h2
  cases h1 with
  | cons h t =>
    cases t
    cases h with
    | sl h =>
      cases h2 with
      | cons g _ => exact ⟨_, h, g⟩
/-- An argument that is a struct. -/
theorem arg_struct {t : TypeId} {fs : Array Field} {ks : List CD} {m base : Nat} {sp : Nat → Bool} {held : Bool} {r : Reach} {b0 : Nat} {v : Value} {d : DataW H} {ps : List MemPlace} (ht : P.underlying t = some (.struct fs))
    (hs : deep P m t = some ks) (hv : Value.okWide P W r b0 t v) (hd : DataW.Trod enc P W base sp held t v d ps) : ∃ as, TypL ks as ∧ Conc (mod0 W) (.agg as) v := by
  obtain ⟨cs, rfl, _⟩ := okWide_struct ht hv
  obtain ⟨fuel, hd⟩ := hd
  obtain ⟨as, h1, h2⟩ := deep_trod m t _ fuel _ _ hs hd
  exact ⟨as, h1, .agg h2⟩
end
end Go.SB
end
