/- Framework, part V: the IR's code, its weakest precondition, and that the loaded program's code follows it. Conditions: none. -/
import Derived.Test.YtkkccabchhnebaaFwU
set_option linter.unusedVariables false
set_option linter.unusedSimpArgs false
namespace Go.SB

inductive IC where
  | skip
  | region (m : Nat) (ops : List IOper) (kill : List Nat)
  | regionD (m : Nat) (ops : List IOper) (ord ms kill : List Nat)
  | seq (x y : IC)
  | cond (c : Opd) (kill : List Nat) (x y : IC)
  | block (id : Nat) (c : IC)
  | loop (kill : List Nat) (c : IC)
  | exit (id : Nat)
  | ret
  | label (l : Nat)
  | goto (l : Nat)
  | scope (l : Nat) (kill : List Nat) (c rest : IC)
  deriving Inhabited

/-- What stands behind a label. -/
def icFind : IC → Nat → Option IC
  | .seq a b, l => match icFind a l with
    | some r => some (.seq r b)
    | none => icFind b l
  | .label l', l => if l' == l then some .skip else none
  | _, _ => none

/-- By a goto to l: J; by another: no way out. -/
def jumpQ (l : Nat) (J : List AV → AHeap → Prop) (Q : IExit → List AV → AHeap → Prop) (e : IExit) (ρ : List AV) (A : AHeap) : Prop :=
  match e with
  | .goto l' => l' = l ∧ J ρ A
  | e => Q e ρ A

/-- Numbered anew (some ks), or left as it is. -/
def foldRo (n0 : Nat) : Option (List Nat) → List AV → List AV
  | none, ρ => ρ
  | some ks, ρ => foldR n0 ks ρ
def foldAo (n0 : Nat) : Option (List Nat) → AHeap → AHeap
  | none, A => A
  | some ks, A => foldA n0 ks A
def foldVo (n0 : Nat) : Option (List Nat) → AV → AV
  | none, v => v
  | some ks, v => AV.ren (fnew n0 ks) v
def okKeepO (n0 : Nat) : Option (List Nat) → Bool
  | none => true
  | some ks => okKeep n0 ks

theorem St.foldo {c : Ctx} {ρ : List AV} {A : AHeap} {a : Act} {w : World} (hs : St c ρ A a w) {ks : Option (List Nat)} (hk : okKeepO c.A.length ks = true) : St c (foldRo c.A.length ks ρ) (foldAo c.A.length ks A) a w := by
  cases ks with
  | none => exact hs
  | some ks => exact hs.fold (P := default) hk

def loopQ (n0 : Nat) (kill : List Nat) (I : Nat → List AV → AHeap → Prop) (i : Nat) (Q : IExit → List AV → AHeap → Prop) (e : IExit) (ρ : List AV) (A : AHeap) : Prop :=
  match e with
  | .normal => ∃ j, j < i ∧ ∃ ks, okKeepO n0 ks = true ∧ I j (foldRo n0 ks (mask kill ρ)) (foldAo n0 ks A)
  | e => Q e ρ A

def awp (P : Program) (n0 : Nat) : IC → List AV → AHeap → (IExit → List AV → AHeap → Prop) → Prop
  | .skip, ρ, A, Q => Q .normal ρ A
  | .region m ops kill, ρ, A, Q => awpOps P A.length ops ρ (A.more m) fun ρ' A' => Q .normal (mask kill ρ') A'
  | .regionD m ops ord ms kill, ρ, A, Q => awpOrd P A.length ops (waits ms) (fun ρ' A' => Q .normal (mask kill ρ') A') ord [] ρ (A.more m)
  | .seq x y, ρ, A, Q => awp P n0 x ρ A (seqQ (fun ρ' A' => awp P n0 y ρ' A' Q) Q)
  | .cond c kill x y, ρ, A, Q => match c.get ρ with
    | .bool b => (b = true → awp P n0 x (mask kill ρ) A Q) ∧ (b = false → awp P n0 y (mask kill ρ) A Q)
    | _ => False
  | .block id x, ρ, A, Q => awp P n0 x ρ A (blockQ id Q)
  | .loop kill x, ρ, A, Q => ∃ I : Nat → List AV → AHeap → Prop, (∃ i ks, okKeepO n0 ks = true ∧ I i (foldRo n0 ks (mask kill ρ)) (foldAo n0 ks A)) ∧ ∀ i ρ' A', I i ρ' A' → awp P n0 x ρ' A' (loopQ n0 kill I i Q)
  | .exit id, ρ, A, Q => Q (.exit id) ρ A
  | .ret, ρ, A, Q => Q .ret ρ A
  | .label _, ρ, A, Q => Q .normal ρ A
  | .goto l, ρ, A, Q => Q (.goto l) ρ A
  | .scope l kill x r, ρ, A, Q => ∃ J : Nat → List AV → AHeap → Prop,
      awp P n0 x ρ A (jumpQ l (fun ρ' A' => ∃ i ks, okKeepO n0 ks = true ∧ J i (foldRo n0 ks (mask kill ρ')) (foldAo n0 ks A')) Q) ∧
      ∀ i ρ' A', J i ρ' A' → awp P n0 r ρ' A' (jumpQ l (fun ρ2 A2 => ∃ j, j < i ∧ ∃ ks, okKeepO n0 ks = true ∧ J j (foldRo n0 ks (mask kill ρ2)) (foldAo n0 ks A2)) Q)

/-! ### From the loaded program -/

def makesRoom : IOp → Bool
  | .alloc .. | .box .. | .bslice .. | .mkmap | .mksl .. | .app .. => true
  | _ => false

def compOper (P : Program) (kops : Array Oper) (slot : Nat) (o : Oper) : Option IOper :=
  match cop P o with
  | none => none
  | some op => match o.guard with
    | none => some ⟨o.dst, op, none, slot, (o.after.toList.filter (Region.binds .any)).map (·.on)⟩
    | some (g, want) => match (kops[g]?).bind (·.dst) with
      | some t => some ⟨o.dst, op, some (t, want), slot, (o.after.toList.filter (Region.binds .any)).map (·.on)⟩
      | none => none

def compOps (P : Program) (kops : Array Oper) : List Oper → Nat → Option (List IOper × Nat)
  | [], m => some ([], m)
  | o :: os, m => match compOper P kops m o with
    | none => none
    | some io => match compOps P kops os (bif makesRoom io.op then m + 1 else m) with
      | none => none
      | some (ios, m') => some (io :: ios, m')

def pairsAll (f : Nat → IOper → Nat → IOper → Bool) (ios : List IOper) : Bool := ios.zipIdx.all fun (x, i) => ios.zipIdx.all fun (y, j) => f i x j y

def apartB (x y : IOper) : Bool :=
  (match x.dst with | some d => !y.looks.contains d && y.dst != some d | none => true) && (match y.dst with | some d => !x.looks.contains d | none => true)

def statics (ios : List IOper) (ord ms : List Nat) : Bool :=
  (ancMasks ios [] == ms) && (ord.length == ios.length) && okOrd ios (waits ms) ios.length ord [] &&
  pairsAll (fun i x j y => i == j || waits ms i j || waits ms j i || apartB x y) ios &&
  pairsAll (fun i x j y => !(x.op.cls == .read) || waits ms j i || (match y.dst with | some d => !x.looks.contains d | none => true)) ios &&
  pairsAll (fun i x j y => i == j || !(x.op.cls == .make) || !(y.op.cls == .make) || x.slot != y.slot) ios

def comp (P : Program) : Code → List (List Nat) → Option (IC × List (List Nat))
  | .skip, h => some (.skip, h)
  | .region _ ops false, h => match h with
    | k :: h => (match compOps P ops ops.toList 0 with
      | some (ios, m) => some (.region m ios k, h)
      | none => none)
    | [] => none
  | .region _ ops true, h => match h with
    | ord :: ms :: k :: h => (match compOps P ops ops.toList 0 with
      | some (ios, m) => bif statics ios ord ms then some (.regionD m ios ord ms k, h) else none
      | none => none)
    | _ => none
  | .seq a b, h => match comp P a h with
    | some (x, h) => (match comp P b h with
      | some (y, h) => some (.seq x y, h)
      | none => none)
    | none => none
  | .cond c a b, h => match h with
    | k :: h => (match copd c with
      | some c' => (match comp P a h with
        | some (x, h) => (match comp P b h with
          | some (y, h) => some (.cond c' k x y, h)
          | none => none)
        | none => none)
      | none => none)
    | [] => none
  | .block id a, h => match comp P a h with
    | some (x, h) => some (.block id x, h)
    | none => none
  | .loop a, h => match h with
    | k :: h => (match comp P a h with
      | some (x, h) => some (.loop k x, h)
      | none => none)
    | [] => none
  | .exit id, h => some (.exit id, h)
  | .ret, h => some (.ret, h)
  | .label l, h => some (.label l, h)
  | .goto l, h => some (.goto l, h)
  | .scope a, h => match h with
    | [l] :: k :: h => (match comp P a h with
      | some (x, h) => (match findLabel a l with
        | some _ => (match icFind x l with
          | some r => some (.scope l k x r, h)
          | none => none)
        | none => none)
      | none => none)
    | _ => none
  | _, _ => none

section
variable {P : Program}

theorem compOper_ok {kops : Array Oper} {m : Nat} {o : Oper} {io : IOper} (h : compOper P kops m o = some io) : OpRel P kops o io ∧ (∀ p, p ∈ io.pre ↔ ∃ e ∈ o.after, Region.binds .any e = true ∧ e.on = p) := by
  have hpre : ∀ p, p ∈ (o.after.toList.filter (Region.binds .any)).map (·.on) ↔ ∃ e ∈ o.after, Region.binds .any e = true ∧ e.on = p := fun p => by
    simp only [List.mem_map, List.mem_filter, Array.mem_toList_iff, and_assoc]
  unfold compOper at h
  split at h
  · cases h
  · rename_i op hop
    split at h
    · rename_i hg; cases h; exact ⟨⟨rfl, hop, .inl ⟨hg, rfl⟩⟩, hpre⟩
    · rename_i g want hg
      split at h
      · rename_i t ht; cases h; exact ⟨⟨rfl, hop, .inr ⟨g, want, t, hg, rfl, ht⟩⟩, hpre⟩
      · cases h

theorem compOps_ok {kops : Array Oper} : ∀ (os : List Oper) (m : Nat) (ios : List IOper) (m' : Nat), compOps P kops os m = some (ios, m') → os.length = ios.length ∧
    ∀ (i : Nat) (o : Oper), os[i]? = some o → ∃ io, ios[i]? = some io ∧ OpRel P kops o io ∧ (∀ p, p ∈ io.pre ↔ ∃ e ∈ o.after, Region.binds .any e = true ∧ e.on = p)
  | [], m, ios, m', h => by cases h; exact ⟨rfl, by simp⟩
  | o :: os, m, ios, m', h => by
    unfold compOps at h
    split at h
    · cases h
    · rename_i io hio
      split at h
      · cases h
      · rename_i ios' m2 hios
        cases h
        obtain ⟨h1, h2⟩ := compOps_ok os _ _ _ hios
        refine ⟨by simp [h1], fun i o' ho => ?_⟩
        cases i with
        | zero => simp at ho; subst ho; exact ⟨io, by simp, compOper_ok hio⟩
        | succ i => simpa using h2 i o' (by simpa using ho)

theorem opsRel_of {kops : Array Oper} {m m' : Nat} {ios : List IOper} (h : compOps P kops kops.toList m = some (ios, m')) : OpsRel P kops ios := by
  obtain ⟨h1, h2⟩ := compOps_ok _ _ _ _ h
  exact ⟨by simpa using h1, fun i o ho => h2 i o (by simpa using ho)⟩

theorem pairsAll_spec {f : Nat → IOper → Nat → IOper → Bool} {ios : List IOper} (h : pairsAll f ios = true) (i j : Nat) (x y : IOper) (hi : ios[i]? = some x) (hj : ios[j]? = some y) : f i x j y = true := by
  have h1 := List.all_eq_true.1 h (x, i) (by rw [List.mem_zipIdx_iff_getElem?]; exact hi)
  exact List.all_eq_true.1 h1 (y, j) (by rw [List.mem_zipIdx_iff_getElem?]; exact hj)

theorem statics_spec {ios : List IOper} {ord ms : List Nat} (h : statics ios ord ms = true) : AncOK ios (waits ms) ∧ ApartAll ios (waits ms) ∧ ReadsAll ios (waits ms) ∧ SlotsApart ios ∧ okOrd ios (waits ms) ios.length ord [] = true ∧ ord.length = ios.length := by
  simp only [statics, Bool.and_eq_true, beq_iff_eq] at h
  obtain ⟨⟨⟨⟨⟨h1, h2⟩, h3⟩, h4⟩, h5⟩, h6⟩ := h
  refine ⟨by rw [← h1]; exact anc_ok ios, ?_, ?_, ?_, h3, h2⟩
  · intro i j x y hi hj hij a1 a2
    have := pairsAll_spec h4 i j x y hi hj
    simp only [a1, a2, Bool.or_eq_true, beq_iff_eq, hij, Bool.false_eq_true, false_or] at this
    simp only [apartB, Bool.and_eq_true] at this
    obtain ⟨q1, q2⟩ := this
    refine ⟨fun t ht => ?_, fun t ht => ?_, fun t ht => ?_⟩
    · rw [ht] at q1; simp at q1; exact q1.1
    · rw [ht] at q2; simp at q2; exact q2
    · rw [ht] at q1; simp at q1; exact q1.2
  · intro i j x y hi hj hc a1 t ht
    have := pairsAll_spec h5 i j x y hi hj
    simp [hc, a1, ht] at this
    exact this
  · intro i j x y hi hj hij c1 c2
    have := pairsAll_spec h6 i j x y hi hj
    simp [c1, c2, hij] at this
    exact this

variable {n0 : Nat} {ρ : List AV} {A : AHeap} {Q : IExit → List AV → AHeap → Prop}

theorem aexec_mask {c : Code} (kill : List Nat) (h : AExec P n0 c ρ A fun e ρ' A' => match e with | .normal => Q .normal (mask kill ρ') A' | e => Q e ρ' A') : AExec P n0 c ρ A Q :=
  fun x a w hx hs => wp_mono (h x a w hx hs) fun e a' w' ⟨ie, ρ', A', q, r, s⟩ => by
    cases ie with
    | normal => exact ⟨.normal, mask kill ρ', A', q, r, s.mask kill⟩
    | exit id => exact ⟨_, ρ', A', q, r, s⟩
    | goto l => exact ⟨_, ρ', A', q, r, s⟩
    | ret => exact ⟨_, ρ', A', q, r, s⟩

theorem aexec_loop {c : Code} {kill : List Nat} (I : Nat → List AV → AHeap → Prop) (h0 : ∃ i ks, okKeepO n0 ks = true ∧ I i (foldRo n0 ks (mask kill ρ)) (foldAo n0 ks A))
    (h : ∀ i ρ' A', I i ρ' A' → AExec P n0 c ρ' A' (loopQ n0 kill I i Q)) : AExec P n0 (.loop c) ρ A Q := by
  intro x a w hx hs
  obtain ⟨i, ks, hk, hI⟩ := h0
  refine wp_loop_ix (ι := Nat) (fun i a w => ∃ ρ A, I i ρ A ∧ St x ρ A a w) id i ?_ ?_
  · have := (hs.mask kill).foldo (ks := ks) (by rw [hx]; exact hk)
    rw [hx] at this
    exact ⟨_, _, hI, this⟩
  · rintro i a w ⟨ρ', A', hI', hs'⟩
    refine wp_mono (h i ρ' A' hI' x a w hx hs') ?_
    rintro e a' w' ⟨ie, ρ2, A2, hq, hi, hs2⟩
    cases ie <;> cases e <;> simp only [IExit.is] at hi <;> simp only [loopQ] at hq <;> simp only [Exit.then]
    · obtain ⟨j, hj, ks, hk, hI2⟩ := hq
      have := (hs2.mask kill).foldo (ks := ks) (by rw [hx]; exact hk)
      rw [hx] at this
      exact ⟨j, ⟨_, _, hI2, this⟩, hj⟩
    · exact ⟨.exit _, ρ2, A2, hq, hi, hs2⟩
    · exact ⟨.goto _, ρ2, A2, hq, hi, hs2⟩
    · exact ⟨.ret, ρ2, A2, hq, trivial, hs2⟩

theorem awpOps_mono {p0 : Nat} {K K' : List AV → AHeap → Prop} (hk : ∀ ρ A, K ρ A → K' ρ A) : ∀ (os : List IOper) (ρ : List AV) (A : AHeap), awpOps P p0 os ρ A K → awpOps P p0 os ρ A K'
  | [], ρ, A, h => hk _ _ h
  | o :: os, ρ, A, h => awpG_mono h fun ρ' A' h' => awpOps_mono hk os ρ' A' h'

theorem wp_scope_ix {ι : Type} {Q : Exit → Act → World → Prop} {a : Act} {w : World} {c rest : Code} (l : Nat) (J : ι → Act → World → Prop) (μ : ι → Nat) (hf : findLabel c l = some rest)
    (first : c.wp P (Exit.jump l (fun a w => ∃ i, J i a w) Q) a w)
    (pass : ∀ i a w, J i a w → rest.wp P (Exit.jump l (fun a' w' => ∃ j, J j a' w' ∧ μ j < μ i) Q) a w) : (Code.scope c).wp P Q a w := by
  intro b k cs
  have hg : gotoIn l (.inScope c :: k) = some (.code rest :: .inScope c :: k) := by simp [gotoIn, hf]
  have key : ∀ n i a w, μ i = n → J i a w → ∃ e a' w', Q e a' w' ∧ Arrives P (lone (b.at a (.code rest :: .inScope c :: k)) cs w) b k cs e a' w' := by
    intro n
    induction n using Nat.strongRecOn with
    | _ n ih =>
      intro i a w hn hJ
      obtain ⟨e, a1, w1, hq, harr⟩ := pass i a w hJ b (.inScope c :: k) cs
      cases e with
      | goto l' =>
        obtain ⟨rfl, j, hJ', hlt⟩ := hq
        obtain ⟨e2, a2, w2, hq2, harr2⟩ := ih _ (hn ▸ hlt) j a1 w1 rfl hJ'
        exact ⟨e2, a2, w2, hq2, .of_steps (harr _ hg) harr2⟩
      | normal => exact ⟨.normal, a1, w1, hq, Steps.trans harr (.one step_inScope)⟩
      | exit id => exact ⟨.exit id, a1, w1, hq, fun k' hk => harr k' (by simp [exitTo, hk])⟩
      | _ => exact ⟨_, a1, w1, hq, harr⟩
  obtain ⟨e, a1, w1, hq, harr⟩ := first b (.inScope c :: k) cs
  cases e with
  | goto l' =>
    obtain ⟨rfl, i, hJ'⟩ := hq
    obtain ⟨e2, a2, w2, hq2, harr2⟩ := key _ i a1 w1 rfl hJ'
    exact ⟨e2, a2, w2, hq2, .of_steps (.head step_scope (harr _ hg)) harr2⟩
  | normal => exact ⟨.normal, a1, w1, hq, .head step_scope (Steps.trans harr (.one step_inScope))⟩
  | exit id => exact ⟨.exit id, a1, w1, hq, fun k' hk => .head step_scope (harr k' (by simp [exitTo, hk]))⟩
  | _ => exact ⟨_, a1, w1, hq, .of_steps (.one step_scope) harr⟩

theorem jump_of {l : Nat} {J : List AV → AHeap → Prop} {J' : Act → World → Prop} {x : Ctx} (hJ : ∀ ρ A a w, J ρ A → St x ρ A a w → J' a w) {e : Exit} {a : Act} {w : World} (h : APost x (jumpQ l J Q) e a w) : Exit.jump l J' (APost x Q) e a w := by
  obtain ⟨ie, ρ', A', hq, hi, hs⟩ := h
  cases ie <;> cases e <;> simp only [IExit.is] at hi <;> simp only [jumpQ] at hq <;> simp only [Exit.jump]
  · exact ⟨.normal, ρ', A', hq, trivial, hs⟩
  · exact ⟨.exit _, ρ', A', hq, hi, hs⟩
  · exact ⟨hi ▸ hq.1, hJ _ _ _ _ hq.2 hs⟩
  · exact ⟨.ret, ρ', A', hq, trivial, hs⟩

theorem aexec_scope {c rest : Code} {l : Nat} {kill : List Nat} (hf : findLabel c l = some rest) (J : Nat → List AV → AHeap → Prop)
    (h0 : AExec P n0 c ρ A (jumpQ l (fun ρ' A' => ∃ i ks, okKeepO n0 ks = true ∧ J i (foldRo n0 ks (mask kill ρ')) (foldAo n0 ks A')) Q))
    (h : ∀ i ρ' A', J i ρ' A' → AExec P n0 rest ρ' A' (jumpQ l (fun ρ2 A2 => ∃ j, j < i ∧ ∃ ks, okKeepO n0 ks = true ∧ J j (foldRo n0 ks (mask kill ρ2)) (foldAo n0 ks A2)) Q)) : AExec P n0 (.scope c) ρ A Q := by
  intro x a w hx hs
  have fold1 : ∀ {ρ A a w} {ks : Option (List Nat)}, St x ρ A a w → okKeepO n0 ks = true → St x (foldRo n0 ks (mask kill ρ)) (foldAo n0 ks A) a w := by
    intro ρ A a w ks hs hk
    have := (hs.mask kill).foldo (ks := ks) (by rw [hx]; exact hk)
    rwa [hx] at this
  refine wp_scope_ix (ι := Nat) l (fun i a w => ∃ ρ A, J i ρ A ∧ St x ρ A a w) id hf ?_ ?_
  · refine wp_mono (h0 x a w hx hs) fun e a' w' hp => jump_of ?_ hp
    rintro ρ' A' a' w' ⟨i, ks, hk, hJ⟩ hs'
    exact ⟨i, _, _, hJ, fold1 hs' hk⟩
  · rintro i a w ⟨ρ', A', hJ, hs'⟩
    refine wp_mono (h i ρ' A' hJ x a w hx hs') fun e a' w' hp => jump_of ?_ hp
    rintro ρ2 A2 a2 w2 ⟨j, hj, ks, hk, hJ2⟩ hs2
    exact ⟨j, ⟨_, _, hJ2, fold1 hs2 hk⟩, hj⟩

theorem find_none : ∀ (c : Code) (h h' : List (List Nat)) (ic : IC) (l : Nat), comp P c h = some (ic, h') → findLabel c l = none → icFind ic l = none
  | .seq a b, h, h', ic, l, hc, hf => by
    simp only [comp] at hc
    split at hc
    · rename_i x h1 ha
      split at hc
      · rename_i y h2 hb
        cases hc
        simp only [findLabel] at hf
        cases hfa : findLabel a l with
        | some ra => rw [hfa] at hf; cases hf
        | none =>
          rw [hfa] at hf
          simp only [icFind, find_none a _ _ _ l ha hfa]
          exact find_none b _ _ _ l hb hf
      · cases hc
    · cases hc
  | .label l', h, h', ic, l, hc, hf => by
    cases hc
    simp only [findLabel] at hf
    split at hf
    · cases hf
    · rename_i e; simp only [icFind, e, if_false, Bool.false_eq_true]
  | .skip, _, _, _, _, hc, _ => by cases hc; rfl
  | .region id ops false, h, h', ic, l, hc, hf => by
    simp only [comp] at hc
    split at hc
    · split at hc
      · cases hc; rfl
      · cases hc
    · cases hc
  | .region id ops true, h, h', ic, l, hc, hf => by
    simp only [comp] at hc
    split at hc
    · split at hc
      · rw [Bool.cond_eq_ite] at hc
        split at hc
        · cases hc; rfl
        · cases hc
      · cases hc
    · cases hc
  | .cond c a b, h, h', ic, l, hc, hf => by
    simp only [comp] at hc
    split at hc
    · split at hc
      · split at hc
        · split at hc
          · cases hc; rfl
          · cases hc
        · cases hc
      · cases hc
    · cases hc
  | .block id a, h, h', ic, l, hc, hf => by
    simp only [comp] at hc
    split at hc
    · cases hc; rfl
    · cases hc
  | .loop a, h, h', ic, l, hc, hf => by
    simp only [comp] at hc
    split at hc
    · split at hc
      · cases hc; rfl
      · cases hc
    · cases hc
  | .rangeFunc .., _, _, _, _, hc, _ => by simp [comp] at hc
  | .exit .., _, _, _, _, hc, _ => by cases hc; rfl
  | .scope a, h, h', ic, l, hc, hf => by
    simp only [comp] at hc
    split at hc
    · split at hc
      · split at hc
        · split at hc
          · cases hc; rfl
          · cases hc
        · cases hc
      · cases hc
    · cases hc
  | .goto .., _, _, _, _, hc, _ => by cases hc; rfl
  | .ret, _, _, _, _, hc, _ => by cases hc; rfl
  | .refuse .., _, _, _, _, hc, _ => by simp [comp] at hc

/-- The code does what the IR's code does. -/
def Sound (P : Program) (c : Code) (ic : IC) : Prop := ∀ (n0 : Nat) (ρ : List AV) (A : AHeap) (Q : IExit → List AV → AHeap → Prop), awp P n0 ic ρ A Q → AExec P n0 c ρ A Q

theorem find_seq {a b : Code} {x y ic : IC} {l : Nat} {rest : Code} {h2 h' : List (List Nat)} (hsb : Sound P b y) (hfa : ∀ ra, findLabel a l = some ra → ∃ r, icFind x l = some r ∧ Sound P ra r)
    (hfb : findLabel b l = some rest → ∃ r, icFind y l = some r ∧ Sound P rest r) (hna : findLabel a l = none → icFind x l = none) (hc : some (IC.seq x y, h2) = some (ic, h')) (hf : findLabel (.seq a b) l = some rest) :
    ∃ r, icFind ic l = some r ∧ Sound P rest r := by
  cases hc
  simp only [findLabel] at hf
  cases h : findLabel a l with
  | some ra =>
    rw [h] at hf; cases hf
    obtain ⟨r, h3, h4⟩ := hfa ra h
    exact ⟨.seq r y, by simp only [icFind, h3], fun n0 ρ A Q hw => aexec_seq (h4 _ _ _ _ hw) fun ρ' A' hy => hsb _ _ _ _ hy⟩
  | none =>
    rw [h] at hf
    obtain ⟨r, h3, h4⟩ := hfb hf
    exact ⟨r, by simp only [icFind, hna h]; exact h3, h4⟩

theorem comp_all (hm : P.follows .mixedOrders = true) (c : Code) : (∀ (h h' : List (List Nat)) (ic : IC), comp P c h = some (ic, h') → Sound P c ic) ∧
    (∀ (h h' : List (List Nat)) (ic : IC) (l : Nat) (rest : Code), comp P c h = some (ic, h') → findLabel c l = some rest → ∃ r, icFind ic l = some r ∧ Sound P rest r) := by
  induction c with
  | skip => exact ⟨fun h h' ic hc n0 ρ A Q hw => by cases hc; exact aexec_skip hw, fun _ _ _ _ _ _ hf => by simp [findLabel] at hf⟩
  | region id ops draw =>
    refine ⟨fun h h' ic hc n0 ρ A Q hw => ?_, fun _ _ _ _ _ _ hf => by simp [findLabel] at hf⟩
    cases draw with
    | false =>
      simp only [comp] at hc
      split at hc
      · split at hc
        · rename_i ios m hco
          cases hc
          exact aexec_mask _ (aexec_region (opsRel_of hco) hw)
        · cases hc
      · cases hc
    | true =>
      simp only [comp] at hc
      split at hc
      · split at hc
        · rename_i ios m hco
          cases hst : statics ios _ _ with
          | false => rw [hst] at hc; cases hc
          | true =>
            rw [hst] at hc
            cases hc
            obtain ⟨q1, q2, q3, q4, q5, q6⟩ := statics_spec hst
            exact aexec_mask _ (aexec_regionD hm (opsRel_of hco) q1 q2 q3 q4 q5 q6 hw)
        · cases hc
      · cases hc
  | seq a b iha ihb =>
    refine ⟨fun h h' ic hc n0 ρ A Q hw => ?_, fun h h' ic l rest hc hf => ?_⟩
    · simp only [comp] at hc
      split at hc
      · rename_i x h1 ha
        split at hc
        · rename_i y h2 hb
          cases hc
          exact aexec_seq (iha.1 _ _ _ ha _ _ _ _ hw) fun ρ' A' hy => ihb.1 _ _ _ hb _ _ _ _ hy
        · cases hc
      · cases hc
    · simp only [comp] at hc
      split at hc
      · rename_i x h1 ha
        split at hc
        · rename_i y h2 hb
          exact find_seq (ihb.1 _ _ _ hb) (fun ra => iha.2 _ _ _ l ra ha) (ihb.2 _ _ _ l rest hb) (fun hn => find_none a _ _ _ l ha hn) hc hf
        · cases hc
      · cases hc
  | cond c a b iha ihb =>
    refine ⟨fun h h' ic hc n0 ρ A Q hw => ?_, fun _ _ _ _ _ _ hf => by simp [findLabel] at hf⟩
    simp only [comp] at hc
    split at hc
    · split at hc
      · rename_i c' hcc
        split at hc
        · rename_i x h1 ha
          split at hc
          · rename_i y h2 hb
            cases hc
            simp only [awp] at hw
            split at hw
            · rename_i bb hbb
              exact aexec_cond hcc hbb (fun e => iha.1 _ _ _ ha _ _ _ _ (hw.1 e)) (fun e => ihb.1 _ _ _ hb _ _ _ _ (hw.2 e))
            · exact hw.elim
          · cases hc
        · cases hc
      · cases hc
    · cases hc
  | block id a iha =>
    refine ⟨fun h h' ic hc n0 ρ A Q hw => ?_, fun _ _ _ _ _ _ hf => by simp [findLabel] at hf⟩
    simp only [comp] at hc
    split at hc
    · rename_i x h1 ha
      cases hc
      exact aexec_block (iha.1 _ _ _ ha _ _ _ _ hw)
    · cases hc
  | loop a iha =>
    refine ⟨fun h h' ic hc n0 ρ A Q hw => ?_, fun _ _ _ _ _ _ hf => by simp [findLabel] at hf⟩
    simp only [comp] at hc
    split at hc
    · split at hc
      · rename_i x h1 ha
        cases hc
        obtain ⟨I, h0, hr⟩ := hw
        exact aexec_loop I h0 fun i ρ' A' hI => iha.1 _ _ _ ha _ _ _ _ (hr i ρ' A' hI)
      · cases hc
    · cases hc
  | rangeFunc => exact ⟨fun h h' ic hc => by simp [comp] at hc, fun _ _ _ _ _ hc _ => by simp [comp] at hc⟩
  | exit id => exact ⟨fun h h' ic hc n0 ρ A Q hw => by cases hc; exact aexec_exit hw, fun _ _ _ _ _ _ hf => by simp [findLabel] at hf⟩
  | scope a iha =>
    refine ⟨fun h h' ic hc n0 ρ A Q hw => ?_, fun _ _ _ _ _ _ hf => by simp [findLabel] at hf⟩
    simp only [comp] at hc
    split at hc
    · split at hc
      · rename_i x h1 ha
        split at hc
        · rename_i rest hf
          split at hc
          · rename_i r hr
            cases hc
            obtain ⟨r', h3, h4⟩ := iha.2 _ _ _ _ rest ha hf
            rw [hr] at h3; cases h3
            obtain ⟨J, h0, hp⟩ := hw
            exact aexec_scope hf J (iha.1 _ _ _ ha _ _ _ _ h0) fun i ρ' A' hJ => h4 _ _ _ _ (hp i ρ' A' hJ)
          · cases hc
        · cases hc
      · cases hc
    · cases hc
  | label l' =>
    refine ⟨fun h h' ic hc n0 ρ A Q hw => by cases hc; exact aexec_label hw, fun h h' ic l rest hc hf => ?_⟩
    cases hc
    simp only [findLabel] at hf
    split at hf
    · rename_i e
      cases hf
      exact ⟨.skip, by simp only [icFind, e, if_true], fun n0 ρ A Q hw => aexec_skip hw⟩
    · cases hf
  | goto l => exact ⟨fun h h' ic hc n0 ρ A Q hw => by cases hc; exact aexec_goto hw, fun _ _ _ _ _ _ hf => by simp [findLabel] at hf⟩
  | ret => exact ⟨fun h h' ic hc n0 ρ A Q hw => by cases hc; exact aexec_ret hw, fun _ _ _ _ _ _ hf => by simp [findLabel] at hf⟩
  | refuse w => exact ⟨fun h h' ic hc => by simp [comp] at hc, fun _ _ _ _ _ hc _ => by simp [comp] at hc⟩

theorem comp_ok (hm : P.follows .mixedOrders = true) (c : Code) (h h' : List (List Nat)) (ic : IC) (ρ : List AV) (A : AHeap) (Q : IExit → List AV → AHeap → Prop) (hc : comp P c h = some (ic, h')) (hw : awp P n0 ic ρ A Q) : AExec P n0 c ρ A Q :=
  (comp_all hm c).1 h h' ic hc n0 ρ A Q hw

/-! ### A whole function -/

inductive RV where
  | t (i : Nat)
  | cell (i : Nat) (n : Option Nat)
  deriving Inhabited

def compRs (P : Program) : List ResultVar → Option (List RV)
  | [] => some []
  | .tmp t :: rs => match compRs P rs with
    | some r => some (.t t :: r)
    | none => none
  | .cell a t :: rs => match aggOf P t with
    | some n => (match compRs P rs with
      | some r => some (.cell a n :: r)
      | none => none)
    | none => none

def rvs (ρ : List AV) (A : AHeap) : List RV → Option (List AV)
  | [] => some []
  | .t i :: rs => match rvs ρ A rs with
    | some vs => some (ρ.getD i .any :: vs)
    | none => none
  | .cell i n :: rs => match aload A n (ρ.getD i .any) with
    | some v => (match rvs ρ A rs with
      | some vs => some (v :: vs)
      | none => none)
    | none => none

def rtup : List AV → AV
  | [v] => v
  | vs => .tup vs

/-- What the caller gets. -/
def retQ (n0 : Nat) (rs : List RV) (K : AV → AHeap → Prop) (e : IExit) (ρ : List AV) (A : AHeap) : Prop :=
  match e with
  | .normal | .ret => match rvs ρ A rs with
    | some vs => ∃ ks, okKeepO n0 ks = true ∧ K (foldVo n0 ks (rtup vs)) (foldAo n0 ks A)
    | none => False
  | _ => False
end
end Go.SB
