/- Framework, part R: what an operation looks at; operations that can be taken in either order. Conditions: none. -/
import Derived.Test.YtkkccabchhnebaaFwQ
set_option linter.unusedVariables false
set_option linter.unusedSimpArgs false
namespace Go.SB

def IOp.opds : IOp → List Opd
  | .mv x | .box x | .load _ x | .nilck x | .un _ x | .cvi _ x | .cvs x | .faddr _ x | .fld _ _ x | .ext _ x | .lenst x | .lens x | .lenm x | .clr x | .clrs _ _ x | .mkif _ x => [x]
  | .pick c a b => [c, a, b]
  | .alloc _ | .mkmap | .lenc _ => []
  | .build _ ps => ps.map (·.2.2)
  | .bslice _ es => es
  | .store _ a x => [a, x]
  | .bin _ x y | .eqv _ _ x y => [x, y]
  | .mkfn _ a b => a ++ b
  | .mksl _ _ _ n c => [n, c]
  | .slcs x lo hi => x :: (lo.toList ++ hi.toList)
  | .slc _ x lo hi m => x :: (lo.toList ++ hi.toList ++ m.toList)
  | .iaddr _ x i | .iaddra _ _ x i | .idxs x i | .idxa _ _ _ x i => [x, i]
  | .lookup _ _ _ m k => [m, k]
  | .mset _ m k v => [m, k, v]
  | .app _ _ s x => [s, x]
  | .cpy _ d s => [d, s]
  | .mn xs | .mx xs => xs
  | .del _ m k => [m, k]
  | .call f args => f :: args

theorem optmap_congr {f g : Opd → AV} {o : Option Opd} (h : ∀ x ∈ o.toList, f x = g x) : o.map f = o.map g := by
  cases o with
  | none => rfl
  | some x => simp [h x (by simp)]

theorem nstep_congr {ρ ρ' : List AV} {io : IOp} (h : ∀ x ∈ io.opds, x.get ρ = x.get ρ') : nstep ρ io = nstep ρ' io := by
  cases io <;> simp only [IOp.opds] at h <;> simp only [nstep]
  case build z ps =>
    have e : (ps.map fun (x : Nat × Nat × Opd) => (x.1, x.2.1, x.2.2.get ρ)) = ps.map fun (x : Nat × Nat × Opd) => (x.1, x.2.1, x.2.2.get ρ') := List.map_congr_left fun p hp => by
      rw [h p.2.2 (List.mem_map.2 ⟨p, hp, rfl⟩)]
    simp only [e]
  case mkfn f a b =>
    rw [List.map_congr_left fun x hx => h x (by simp [hx]), List.map_congr_left (l := b) fun x hx => h x (by simp [hx])]
  case slcs x lo hi =>
    rw [h x (by simp), optmap_congr (o := lo) fun y hy => h y (by simp [Option.mem_toList.1 hy]), optmap_congr (o := hi) fun y hy => h y (by simp [Option.mem_toList.1 hy])]
  case slc sz x lo hi mx =>
    rw [h x (by simp), optmap_congr (o := lo) fun y hy => h y (by simp [Option.mem_toList.1 hy]), optmap_congr (o := hi) fun y hy => h y (by simp [Option.mem_toList.1 hy]),
      optmap_congr (o := mx) fun y hy => h y (by simp [Option.mem_toList.1 hy])]
  case mn xs => rw [List.map_congr_left h]
  case mx xs => rw [List.map_congr_left h]
  all_goals (first | rfl | (simp only [List.mem_cons, List.not_mem_nil, or_false, forall_eq_or_imp, forall_eq] at h; simp only [h]))

theorem rstep_congr {ρ ρ' : List AV} {A : AHeap} {io : IOp} (h : ∀ x ∈ io.opds, x.get ρ = x.get ρ') : rstep ρ A io = rstep ρ' A io := by
  cases io <;> simp only [IOp.opds] at h <;> simp only [rstep]
  all_goals (simp only [List.mem_cons, List.not_mem_nil, or_false, forall_eq_or_imp, forall_eq] at h; simp only [h])

theorem wstep_congr {ρ ρ' : List AV} {A : AHeap} {p : Nat} {io : IOp} (h : ∀ x ∈ io.opds, x.get ρ = x.get ρ') : wstep ρ A p io = wstep ρ' A p io := by
  cases io <;> simp only [IOp.opds] at h <;> simp only [wstep]
  case bslice sz es => rw [List.map_congr_left fun x hx => by rw [h x hx]]
  all_goals (first | rfl | (simp only [List.mem_cons, List.not_mem_nil, or_false, forall_eq_or_imp, forall_eq] at h; simp only [h]))

theorem astep_congr {ρ ρ' : List AV} {A : AHeap} {p : Nat} {io : IOp} (h : ∀ x ∈ io.opds, x.get ρ = x.get ρ') : astep ρ A p io = astep ρ' A p io := by
  unfold astep; rw [nstep_congr h, rstep_congr h, wstep_congr h]

/-- The temporaries that an operation looks at. -/
def IOper.looks (o : IOper) : List Nat := (o.op.opds.filterMap fun | .t i => some i | .c _ => none) ++ (match o.guard with | some (t, _) => [t] | none => [])

theorem getD_aput {ρ : List AV} {d : Option Nat} {v : AV} {t : Nat} (h : d ≠ some t) : (aput ρ d v).getD t .any = ρ.getD t .any := by
  cases d with
  | none => rfl
  | some d =>
    have : d ≠ t := fun e => h (by rw [e])
    simp [aput, List.getD, List.getElem?_set_ne this]

theorem opds_aput {o : IOper} {ρ : List AV} {d : Option Nat} {v : AV} (h : ∀ t, d = some t → t ∉ o.looks) : ∀ x ∈ o.op.opds, x.get (aput ρ d v) = x.get ρ := by
  intro x hx
  cases x with
  | c v => rfl
  | t i =>
    refine getD_aput fun e => h i e ?_
    exact List.mem_append_left _ (List.mem_filterMap.2 ⟨.t i, hx, rfl⟩)

theorem guard_aput {o : IOper} {ρ : List AV} {d : Option Nat} {v : AV} {t : Nat} {b : Bool} (h : ∀ t, d = some t → t ∉ o.looks) (hg : o.guard = some (t, b)) : (aput ρ d v).getD t .any = ρ.getD t .any :=
  getD_aput fun e => h t e (List.mem_append_right _ (by simp [hg]))

theorem aput_comm {ρ : List AV} {d e : Option Nat} {u v : AV} (h : ∀ t, d = some t → e ≠ some t) : aput (aput ρ d u) e v = aput (aput ρ e v) d u := by
  cases d with
  | none => rfl
  | some d =>
    cases e with
    | none => rfl
    | some e =>
      have hne : d ≠ e := fun he => h d rfl (by rw [he])
      simp only [aput]
      exact List.set_comm _ _ hne

inductive Cls where
  | pure | read | make | eff
  deriving DecidableEq, Inhabited

def IOp.cls : IOp → Cls
  | .load .. | .lookup .. | .lenm .. => .read
  | .alloc .. | .box .. | .bslice .. | .mkmap | .mksl .. => .make
  | .store .. | .mset .. | .app .. | .cpy .. | .del .. | .clr .. | .clrs .. | .call .. => .eff
  | _ => .pure

/-- What it yields, where it changes nothing. -/
def yld (o : IOper) (ρ : List AV) (A : AHeap) : Option AV :=
  match o.guard with
  | none => (match nstep ρ o.op with | some v => some v | none => rstep ρ A o.op)
  | some (t, want) => match ρ.getD t .any with
    | .bool b => if b = want then (match nstep ρ o.op with | some v => some v | none => rstep ρ A o.op) else some (.tup [])
    | .tup _ => some (.tup [])
    | _ => none

theorem nstep_call {ρ : List AV} {f : Opd} {args : List Opd} : nstep ρ (.call f args) = none := rfl

section
variable {P : Program} {p0 : Nat} {o : IOper} {ρ : List AV} {A : AHeap} {K : List AV → AHeap → Prop} {v : AV}

theorem awpOp_nr (h : (match nstep ρ o.op with | some v => some v | none => rstep ρ A o.op) = some v) (hk : K (aput ρ o.dst v) A) : awpOp P p0 o ρ A K := by
  unfold awpOp
  split
  · rename_i f args he
    rw [he] at h
    simp [nstep, rstep] at h
  · rename_i op hno
    have : astep ρ A (p0 + o.slot) o.op = some (v, A) := by
      unfold astep
      split
      · rename_i v' h1; rw [h1] at h; cases h; rfl
      · rename_i h1; rw [h1] at h; simp only [] at h; rw [h]
    rw [this]; exact hk

theorem awpG_yld (h : yld o ρ A = some v) (hk : K (aput ρ o.dst v) A) : awpG P p0 o ρ A K := by
  unfold yld at h
  unfold awpG
  cases hg : o.guard with
  | none => rw [hg] at h; exact awpOp_nr h hk
  | some tw =>
    obtain ⟨t, want⟩ := tw
    rw [hg] at h
    simp only [] at h ⊢
    cases hb : ρ.getD t .any <;> rw [hb] at h <;> simp only [] at h ⊢
    case bool b =>
      refine ⟨fun e => ?_, fun e => ?_⟩
      · rw [if_pos e] at h; exact awpOp_nr h hk
      · rw [if_neg (by rintro rfl; cases b <;> simp at e)] at h; cases h; exact hk
    case tup vs => cases h; exact hk
    all_goals cases h

theorem yld_congr {d : Option Nat} {u : AV} (h : ∀ t, d = some t → t ∉ o.looks) : yld o (aput ρ d u) A = yld o ρ A := by
  unfold yld
  rw [nstep_congr (opds_aput h), rstep_congr (opds_aput h)]
  cases hg : o.guard with
  | none => rfl
  | some tw => obtain ⟨t, want⟩ := tw; simp only []; rw [guard_aput h hg]

theorem rstep_more {io : IOp} {p : Nat} {x : Option AO} (h : rstep ρ A io = some v) (hp : A[p]? = some none) : rstep ρ (A.set p x) io = some v := by
  have key : ∀ (l : Nat) (y : AO), A[l]? = some (some y) → (A.set p x)[l]? = some (some y) := by
    intro l y hl
    rw [List.getElem?_set_ne (by rintro rfl; rw [hp] at hl; cases hl)]; exact hl
  have krd : ∀ (a : AV) (n : Nat) (vs : List AV), rdN A a n = some vs → rdN (A.set p x) a n = some vs := by
    intro a n vs h
    cases a <;> simp only [rdN] at h ⊢
    case ptr l off =>
      split at h
      · rename_i h1; rw [key _ _ h1]; exact h
      · cases h
    case eptr l i off =>
      split at h
      · rename_i h1; rw [key _ _ h1]; exact h
      · cases h
    case pp cs => exact h
    all_goals cases h
  cases io <;> simp only [rstep] at h ⊢
  case load n y =>
    unfold aload at *
    cases n with
    | none =>
      simp only [] at h ⊢
      split at h
      · rename_i h1; rw [krd _ _ _ h1]; exact h
      · cases h
    | some n =>
      simp only [] at h ⊢
      split at h
      · rename_i h1; rw [krd _ _ _ h1]; exact h
      · cases h
  case lookup lk z ok m k =>
    generalize m.get ρ = mv at *
    cases mv <;> simp only [alookup] at h ⊢
    case nilm => exact h
    case mp l =>
      split at h
      · rename_i h1; rw [key _ _ h1]; exact h
      · cases h
    all_goals cases h
  case lenm y =>
    generalize y.get ρ = mv at *
    cases mv <;> simp only [alenm] at h ⊢
    case nilm => exact h
    case mp l =>
      split at h
      · rename_i h1; rw [key _ _ h1]; exact h
      · cases h
    all_goals cases h
  all_goals cases h

theorem yld_more {p : Nat} {x : Option AO} (h : yld o ρ A = some v) (hp : A[p]? = some none) : yld o ρ (A.set p x) = some v := by
  have key : ∀ {v}, (match nstep ρ o.op with | some v => some v | none => rstep ρ A o.op) = some v → (match nstep ρ o.op with | some v => some v | none => rstep ρ (A.set p x) o.op) = some v := by
    intro v h
    cases h1 : nstep ρ o.op with
    | some y => rw [h1] at h; exact h
    | none => rw [h1] at h; exact rstep_more h hp
  unfold yld at *
  cases hg : o.guard with
  | none => rw [hg] at h; exact key h
  | some tw =>
    obtain ⟨t, want⟩ := tw
    rw [hg] at h
    simp only [] at h ⊢
    cases hb : ρ.getD t .any <;> rw [hb] at h <;> simp only [] at h ⊢
    case bool b =>
      by_cases e : b = want
      · rw [if_pos e] at h ⊢; exact key h
      · rw [if_neg e] at h ⊢; exact h
    case tup vs => exact h
    all_goals cases h

theorem rstep_pure {io : IOp} (h : io.cls = .pure ∨ io.cls = .make ∨ io.cls = .eff) : rstep ρ A io = none := by
  cases io <;> first | rfl | (simp [IOp.cls] at h)
theorem wstep_pure {io : IOp} {p : Nat} (h : io.cls = .pure ∨ io.cls = .read) : wstep ρ A p io = none := by
  cases io <;> first | rfl | (simp [IOp.cls] at h)
theorem nstep_make {io : IOp} (h : io.cls = .make ∨ io.cls = .eff ∨ io.cls = .read) : nstep ρ io = none := by
  cases io <;> first | rfl | (simp [IOp.cls] at h)

/-- Of an operation that looks into no memory, or only reads: it yields. -/
theorem yld_of_awpG (hc : o.op.cls = .pure ∨ o.op.cls = .read) (h : awpG P p0 o ρ A K) : ∃ v, yld o ρ A = some v ∧ K (aput ρ o.dst v) A := by
  have key : awpOp P p0 o ρ A K → ∃ v, (match nstep ρ o.op with | some v => some v | none => rstep ρ A o.op) = some v ∧ K (aput ρ o.dst v) A := by
    intro h
    unfold awpOp at h
    split at h
    · rename_i he; rw [he] at hc; simp [IOp.cls] at hc
    · split at h
      · rename_i v A' he
        unfold astep at he
        cases h1 : nstep ρ o.op with
        | some y => rw [h1] at he; cases he; exact ⟨_, rfl, h⟩
        | none =>
          rw [h1] at he
          cases h2 : rstep ρ A o.op with
          | some y => rw [h2] at he; cases he; exact ⟨_, rfl, h⟩
          | none => rw [h2, wstep_pure hc] at he; cases he
      · exact h.elim
  unfold awpG at h
  unfold yld
  cases hg : o.guard with
  | none => rw [hg] at h; exact key h
  | some tw =>
    obtain ⟨t, want⟩ := tw
    rw [hg] at h
    simp only [] at h ⊢
    cases hb : ρ.getD t .any <;> rw [hb] at h <;> simp only [] at h ⊢
    case bool b =>
      by_cases e : b = want
      · rw [if_pos e]; exact key (h.1 e)
      · rw [if_neg e]; exact ⟨.tup [], rfl, h.2 (by cases b <;> cases want <;> simp_all)⟩
    case tup vs => exact ⟨.tup [], rfl, h⟩

theorem yld_pure {A' : AHeap} (hc : o.op.cls = .pure) : yld o ρ A' = yld o ρ A := by
  unfold yld; rw [rstep_pure (A := A) (.inl hc), rstep_pure (A := A') (.inl hc)]

/-- What an operation leaves. -/
def Stepped (o : IOper) (ρ : List AV) (A : AHeap) (ρ' : List AV) (A' : AHeap) : Prop :=
  (∃ u, ρ' = aput ρ o.dst u) ∧ (o.op.cls ≠ .eff → A' = A ∨ ∃ p x, A[p]? = some none ∧ A' = A.set p (some x))

theorem wstep_make {io : IOp} {p : Nat} {A' : AHeap} (hc : io.cls = .make) (h : wstep ρ A p io = some (v, A')) : A[p]? = some none ∧ ∃ x, A' = A.set p (some x) ∧ ∀ B : AHeap, B[p]? = some none → wstep ρ B p io = some (v, B.set p (some x)) := by
  cases io <;> simp only [IOp.cls] at hc <;> simp only [wstep] at h ⊢
  case alloc z => obtain ⟨h1, rfl, rfl⟩ := anew_some h; exact ⟨h1, _, rfl, fun B hB => by simp [anew, hB]⟩
  case box x => obtain ⟨h1, rfl, rfl⟩ := anew_some h; exact ⟨h1, _, rfl, fun B hB => by simp [anew, hB]⟩
  case mkmap => obtain ⟨h1, rfl, rfl⟩ := anew_some h; exact ⟨h1, _, rfl, fun B hB => by simp [anew, hB]⟩
  case bslice sz es =>
    unfold abslice at *
    split at h
    · rename_i hp
      split at h
      · cases h; exact ⟨hp, _, rfl, fun B hB => by simp only [hB]; rw [if_pos ‹_›]⟩
      · cases h
    · cases h
  case mksl sz bytes z n c =>
    unfold amksl at *
    split at h
    · rename_i hp
      split at h
      · rename_i h1 h2
        split at h
        · cases h; exact ⟨hp, _, rfl, fun B hB => by simp only [hB]; rw [if_pos ‹_›]⟩
        · cases h
      · cases h
    · cases h
  all_goals cases hc

/-- Of an operation that makes memory. -/
theorem make_of_awpG (hc : o.op.cls = .make) (h : awpG P p0 o ρ A K) :
    (∃ v x, A[p0 + o.slot]? = some none ∧ K (aput ρ o.dst v) (A.set (p0 + o.slot) (some x)) ∧
      ∀ (B : AHeap) (K' : List AV → AHeap → Prop), B[p0 + o.slot]? = some none → K' (aput ρ o.dst v) (B.set (p0 + o.slot) (some x)) → awpG P p0 o ρ B K') ∨
    (∃ v, K (aput ρ o.dst v) A ∧ ∀ (B : AHeap) (K' : List AV → AHeap → Prop), K' (aput ρ o.dst v) B → awpG P p0 o ρ B K') := by
  have key : awpOp P p0 o ρ A K → ∃ v x, A[p0 + o.slot]? = some none ∧ K (aput ρ o.dst v) (A.set (p0 + o.slot) (some x)) ∧
      ∀ (B : AHeap) (K' : List AV → AHeap → Prop), B[p0 + o.slot]? = some none → K' (aput ρ o.dst v) (B.set (p0 + o.slot) (some x)) → awpOp P p0 o ρ B K' := by
    intro h
    unfold awpOp at h
    split at h
    · rename_i he; rw [he] at hc; simp [IOp.cls] at hc
    · rename_i op hno
      split at h
      · rename_i v A' he
        unfold astep at he
        rw [nstep_make (.inl hc), rstep_pure (.inr (.inl hc))] at he
        simp only [] at he
        obtain ⟨h1, x, rfl, h3⟩ := wstep_make hc he
        refine ⟨v, x, h1, h, fun B K' hB hk => ?_⟩
        unfold awpOp
        split
        · exact absurd ‹_› (hno _ _)
        · have : astep ρ B (p0 + o.slot) o.op = some (v, B.set (p0 + o.slot) (some x)) := by
            unfold astep
            rw [nstep_make (.inl hc), rstep_pure (.inr (.inl hc))]
            exact h3 B hB
          rw [this]; exact hk
      · exact h.elim
  unfold awpG at h
  cases hg : o.guard with
  | none =>
    rw [hg] at h
    obtain ⟨v, x, h1, h2, h3⟩ := key h
    exact .inl ⟨v, x, h1, h2, fun B K' hB hk => by unfold awpG; rw [hg]; exact h3 B K' hB hk⟩
  | some tw =>
    obtain ⟨t, want⟩ := tw
    rw [hg] at h
    simp only [] at h
    cases hb : ρ.getD t .any <;> rw [hb] at h <;> simp only [] at h
    case bool b =>
      by_cases e : b = want
      · obtain ⟨v, x, h1, h2, h3⟩ := key (h.1 e)
        refine .inl ⟨v, x, h1, h2, fun B K' hB hk => ?_⟩
        unfold awpG; rw [hg]; simp only [hb]
        exact ⟨fun _ => h3 B K' hB hk, fun e' => by subst e; cases b <;> simp at e'⟩
      · have hk := h.2 (by cases b <;> cases want <;> simp_all)
        refine .inr ⟨.tup [], hk, fun B K' hk' => ?_⟩
        unfold awpG; rw [hg]; simp only [hb]
        exact ⟨fun e' => absurd e' e, fun _ => hk'⟩
    case tup vs =>
      refine .inr ⟨.tup [], h, fun B K' hk' => ?_⟩
      unfold awpG; rw [hg]; simp only [hb]
      exact hk'

theorem awpOp_stepped (h : awpOp P p0 o ρ A K) : awpOp P p0 o ρ A fun ρ' A' => K ρ' A' ∧ Stepped o ρ A ρ' A' := by
  unfold awpOp at *
  split
  · rename_i f args he
    simp only [he] at h
    unfold ACallV at *
    split
    · rename_i h1; simp only [h1] at h; exact h.mono fun r A' hk => ⟨hk, ⟨r, rfl⟩, fun hne => by rw [he] at hne; exact absurd rfl hne⟩
    · rename_i h1; split at h
      · exact absurd ‹_› (h1 _ _ _)
      · exact h
  · rename_i op hno
    split at h
    · exact absurd ‹_› (hno _ _)
    · split at h
      · rename_i v A' he
        refine ⟨h, ⟨v, rfl⟩, fun hne => ?_⟩
        unfold astep at he
        split at he
        · cases he; exact .inl rfl
        · split at he
          · cases he; exact .inl rfl
          · have hm : o.op.cls = .make := by
              cases hc : o.op.cls with
              | make => rfl
              | eff => exact absurd hc hne
              | pure => rw [wstep_pure (.inl hc)] at he; cases he
              | read => rw [wstep_pure (.inr hc)] at he; cases he
            obtain ⟨h1, x, rfl, _⟩ := wstep_make hm he
            exact .inr ⟨_, x, h1, rfl⟩
      · exact h.elim

theorem awpG_stepped (h : awpG P p0 o ρ A K) : awpG P p0 o ρ A fun ρ' A' => K ρ' A' ∧ Stepped o ρ A ρ' A' := by
  unfold awpG at *
  cases hg : o.guard with
  | none => rw [hg] at h; exact awpOp_stepped h
  | some tw =>
    obtain ⟨t, want⟩ := tw
    rw [hg] at h
    simp only [] at h ⊢
    cases hb : ρ.getD t .any <;> rw [hb] at h <;> simp only [] at h ⊢
    case bool b => exact ⟨fun e => awpOp_stepped (h.1 e), fun e => ⟨h.2 e, ⟨.tup [], rfl⟩, fun _ => .inl rfl⟩⟩
    case tup vs => exact ⟨h, ⟨.tup [], rfl⟩, fun _ => .inl rfl⟩

theorem awpOp_put {d : Option Nat} {u : AV} (h1 : ∀ t, d = some t → t ∉ o.looks) (h2 : ∀ t, d = some t → o.dst ≠ some t) (h : awpOp P p0 o (aput ρ d u) A K) : awpOp P p0 o ρ A fun ρ' A' => K (aput ρ' d u) A' := by
  have hx := opds_aput (ρ := ρ) (v := u) h1
  unfold awpOp at *
  split
  · rename_i f args he
    simp only [he, IOp.opds] at h hx
    rw [hx f (by simp), List.map_congr_left fun x hm => hx x (by simp [hm])] at h
    unfold ACallV at *
    split
    · rename_i h3; simp only [h3] at h; exact h.mono fun r A' hk => by show K (aput (aput ρ o.dst r) d u) A'; rw [← aput_comm h2]; exact hk
    · rename_i h3; split at h
      · exact absurd ‹_› (h3 _ _ _)
      · exact h
  · rename_i op hno
    split at h
    · exact absurd ‹_› (hno _ _)
    · rw [astep_congr hx] at h
      split at h
      · rename_i he; simp only [he]; rw [← aput_comm h2]; exact h
      · exact h.elim

/-- Whether the value is already there makes no difference to an operation that is apart. -/
theorem awpG_put {d : Option Nat} {u : AV} (h1 : ∀ t, d = some t → t ∉ o.looks) (h2 : ∀ t, d = some t → o.dst ≠ some t) (h : awpG P p0 o (aput ρ d u) A K) : awpG P p0 o ρ A fun ρ' A' => K (aput ρ' d u) A' := by
  unfold awpG at *
  cases hg : o.guard with
  | none => rw [hg] at h; exact awpOp_put h1 h2 h
  | some tw =>
    obtain ⟨t, want⟩ := tw
    rw [hg] at h
    simp only [] at h ⊢
    rw [guard_aput h1 hg] at h
    cases hb : ρ.getD t .any <;> rw [hb] at h <;> simp only [] at h ⊢
    case bool b => exact ⟨fun e => awpOp_put h1 h2 (h.1 e), fun e => by rw [← aput_comm h2]; exact h.2 e⟩
    case tup vs => rw [← aput_comm h2]; exact h
end
end Go.SB
