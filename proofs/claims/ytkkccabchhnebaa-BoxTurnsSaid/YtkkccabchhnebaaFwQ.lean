/- Framework, part Q: an operation of a region, and a region that draws no order. Conditions: none. -/
import Derived.Test.YtkkccabchhnebaaFwP
set_option linter.unusedVariables false
set_option linter.unusedSimpArgs false
namespace Go.SB

theorem set_none {A : AHeap} {p l : Nat} {o : Option AO} (h : A[l]? = some none) (hne : l ≠ p) : (A.set p o)[l]? = some none := by
  rw [List.getElem?_set_ne (Ne.symm hne)]; exact h

theorem ne_of_live {A : AHeap} {p l : Nat} {o : AO} (h : A[l]? = some none) (hp : A[p]? = some (some o)) : l ≠ p := by
  rintro rfl; rw [h] at hp; cases hp

theorem wrN_free {A A' : AHeap} {x : AV} {ns : List AV} (h : wrN A x ns = some A') : A'.length = A.length ∧ Free A A' := by
  unfold wrN at h
  split at h
  · split at h
    · split at h
      · split at h
        · cases h; exact ⟨by simp, fun l hl => set_none hl (ne_of_live hl ‹_›)⟩
        · cases h
      · cases h
    · cases h
  · split at h
    · split at h
      · split at h
        · split at h
          · cases h; exact ⟨by simp, fun l hl => set_none hl (ne_of_live hl ‹_›)⟩
          · cases h
        · cases h
      · cases h
    · cases h
  · cases h

theorem amset_free {A A' : AHeap} {lk : LK} {m k v : AV} (h : amset A lk m k v = some A') : A'.length = A.length ∧ Free A A' := by
  unfold amset at h
  split at h
  · split at h
    · split at h <;> cases h <;> exact ⟨by simp, fun l hl => set_none hl (ne_of_live hl ‹_›)⟩
    · cases h
  · cases h

theorem amdel_free {A A' : AHeap} {lk : LK} {m k : AV} (h : amdel A lk m k = some A') : A'.length = A.length ∧ Free A A' := by
  unfold amdel at h
  split at h
  · cases h; exact ⟨rfl, .refl _⟩
  · split at h
    · split at h <;> cases h
      · exact ⟨by simp, fun l hl => set_none hl (ne_of_live hl ‹_›)⟩
      · exact ⟨rfl, .refl _⟩
    · cases h
  · cases h

theorem amclr_free {A A' : AHeap} {m : AV} (h : amclr A m = some A') : A'.length = A.length ∧ Free A A' := by
  unfold amclr at h
  split at h
  · cases h; exact ⟨rfl, .refl _⟩
  · split at h
    · cases h; exact ⟨by simp, fun l hl => set_none hl (ne_of_live hl ‹_›)⟩
    · cases h
  · cases h

theorem aclrs_free {A A' : AHeap} {sz : Nat} {z : List AV} {x : AV} (h : aclrs A sz z x = some A') : A'.length = A.length ∧ Free A A' := by
  unfold aclrs at h
  split at h
  · cases h; exact ⟨rfl, .refl _⟩
  · cases h; exact ⟨rfl, .refl _⟩
  · split at h
    · split at h
      · cases h; exact ⟨by simp, fun l hl => set_none hl (ne_of_live hl ‹_›)⟩
      · cases h
    · cases h
  · cases h

theorem aapp_free {A A' : AHeap} {p sz bytes : Nat} {s v : AV} {xs : List (List AV)} (h : aapp A p sz bytes s xs = some (v, A')) : A'.length = A.length ∧ ∀ (l : Nat), l ≠ p → A[l]? = some none → A'[l]? = some none := by
  unfold aapp at h
  split at h
  · split at h
    · cases h; exact ⟨rfl, fun _ _ h => h⟩
    · split at h
      · split at h
        · cases h; exact ⟨by simp, fun l hne hl => set_none hl hne⟩
        · cases h
      · cases h
  · split at h
    · cases h; exact ⟨rfl, fun _ _ h => h⟩
    · split at h
      · split at h
        · cases h; exact ⟨by simp, fun l hne hl => set_none hl hne⟩
        · cases h
      · cases h
  · split at h
    · split at h
      · split at h
        · cases hb : (_ && !xs.isEmpty : Bool) with
          | true => rw [hb] at h; cases h; exact ⟨by simp, fun l hne hl => set_none hl hne⟩
          | false => rw [hb] at h; cases h; exact ⟨by simp, fun l hne hl => set_none (set_none hl (ne_of_live hl ‹_›)) hne⟩
        · cases h
      · cases h
    · cases h
  · cases h

theorem acpy_free {A A' : AHeap} {sz : Nat} {d v : AV} {xs : List (List AV)} (h : acpy A sz d xs = some (v, A')) : A'.length = A.length ∧ Free A A' := by
  unfold acpy at h
  split at h
  · split at h
    · split at h
      · cases h; exact ⟨by simp, fun l hl => set_none hl (ne_of_live hl ‹_›)⟩
      · cases h
    · cases h
  · cases h; exact ⟨rfl, .refl _⟩
  · cases h; exact ⟨rfl, .refl _⟩
  · cases h

theorem anew_free {A A' : AHeap} {p : Nat} {x v : AV} {o : AO} (h : anew A p x o = some (v, A')) : A'.length = A.length ∧ ∀ (l : Nat), l ≠ p → A[l]? = some none → A'[l]? = some none := by
  obtain ⟨_, _, rfl⟩ := anew_some h
  exact ⟨by simp, fun l hne hl => set_none hl hne⟩

theorem withAny_free {o : Option AHeap} {A A' : AHeap} {v : AV} (h : withAny o = some (v, A')) (hh : ∀ B, o = some B → B.length = A.length ∧ Free A B) : A'.length = A.length ∧ Free A A' :=
  hh _ (withAny_some h).1

theorem wstep_free {ρ : List AV} {A A' : AHeap} {p : Nat} {io : IOp} {v : AV} (h : wstep ρ A p io = some (v, A')) : A'.length = A.length ∧ ∀ (l : Nat), l ≠ p → A[l]? = some none → A'[l]? = some none := by
  cases io <;> simp only [wstep] at h
  case alloc z => exact anew_free h
  case box x => exact anew_free h
  case bslice sz es =>
    unfold abslice at h
    split at h
    · split at h
      · cases h; exact ⟨by simp, fun l hne hl => set_none hl hne⟩
      · cases h
    · cases h
  case mkmap => exact anew_free h
  case mksl sz bytes z n c =>
    unfold amksl at h
    split at h
    · split at h
      · split at h
        · cases h; exact ⟨by simp, fun l hne hl => set_none hl hne⟩
        · cases h
      · cases h
    · cases h
  case store n a x =>
    split at h
    · exact ⟨(withAny_free h fun B hB => wrN_free hB).1, fun l _ hl => (withAny_free h fun B hB => wrN_free hB).2 l hl⟩
    · cases h
  case mset lk m k v => exact ⟨(withAny_free h fun B hB => amset_free hB).1, fun l _ hl => (withAny_free h fun B hB => amset_free hB).2 l hl⟩
  case del lk m k => exact ⟨(withAny_free h fun B hB => amdel_free hB).1, fun l _ hl => (withAny_free h fun B hB => amdel_free hB).2 l hl⟩
  case clrs sz z x => exact ⟨(withAny_free h fun B hB => aclrs_free hB).1, fun l _ hl => (withAny_free h fun B hB => aclrs_free hB).2 l hl⟩
  case clr m => exact ⟨(withAny_free h fun B hB => amclr_free hB).1, fun l _ hl => (withAny_free h fun B hB => amclr_free hB).2 l hl⟩
  case app sz bytes s x =>
    split at h
    · cases h
    · split at h
      · exact aapp_free h
      · cases h
  case cpy sz d s =>
    split at h
    · cases h
    · split at h
      · exact ⟨(acpy_free h).1, fun l _ hl => (acpy_free h).2 l hl⟩
      · cases h
  all_goals cases h

theorem astep_free {ρ : List AV} {A A' : AHeap} {p : Nat} {io : IOp} {v : AV} (h : astep ρ A p io = some (v, A')) : A'.length = A.length ∧ ∀ (l : Nat), l ≠ p → A[l]? = some none → A'[l]? = some none := by
  unfold astep at h
  split at h
  · cases h; exact ⟨rfl, fun _ _ h => h⟩
  · split at h
    · cases h; exact ⟨rfl, fun _ _ h => h⟩
    · exact wstep_free h

section
variable {P : Program}

/-- An operation of the loaded program, and the IR's. -/
structure OpRel (P : Program) (kops : Array Oper) (o : Oper) (io : IOper) : Prop where
  dst : io.dst = o.dst
  op : cop P o = some io.op
  guard : (o.guard = none ∧ io.guard = none) ∨ ∃ g want t, o.guard = some (g, want) ∧ io.guard = some (t, want) ∧ (kops[g]?).bind (·.dst) = some t

theorem put_conc {M : Mod} {ρ : List AV} {a : Act} {v : AV} {u : Value} (hL : ConcL M ρ a.tmps.toList) (hv : Conc M v u) (d : Option Nat) : ConcL M (aput ρ d v) (a.put d u).tmps.toList := by
  cases d with
  | none => exact hL
  | some d => simpa [aput, Act.put] using hL.set hv d

theorem put_defers' (a : Act) (d : Option Nat) (u : Value) : (a.put d u).defers = a.defers := by cases d <;> rfl

variable {c : Ctx} {ρ : List AV} {A : AHeap} {a : Act} {w : World}

theorem call_run {o : Oper} {f : Opd} {args : List Opd} (hc : cop P o = some (.call f args)) : ∃ (cl : Call) (fo : Operand), o.op = .call cl ∧ cl.callee = .value fo ∧ copd fo = some f ∧ copds cl.args.toList = some args := by
  obtain ⟨dst, op, type, pos, after, guard⟩ := o
  cases op
  case makeFunc fn fi ca =>
    exfalso
    cases fn <;> simp only [cop] at hc
    all_goals (repeat' (split at hc))
    all_goals (cases hc; done)
  all_goals simp only [cop] at hc
  case call cl =>
    refine ⟨cl, ?_⟩
    cases hcl : cl.callee with
    | value fo =>
      simp only [hcl] at hc
      split at hc
      · cases hc; exact ⟨fo, rfl, rfl, ‹_›, ‹_›⟩
      · cases hc
    | invoke r m => simp only [hcl] at hc; cases hc
    | builtin b =>
      exfalso
      simp only [hcl] at hc
      cases b <;> simp only [] at hc
      all_goals first
        | (cases hc; done)
        | (obtain ⟨_, _, h⟩ := opt_map hc; cases h; done)
        | (repeat' (split at hc)
           all_goals first | (cases hc; done) | (obtain ⟨_, _, h⟩ := opt_map hc; cases h; done))
  all_goals (first
    | (cases hc; done)
    | (obtain ⟨_, _, h⟩ := opt_map hc; cases h; done)
    | (exfalso; repeat' (split at hc)
       all_goals first | (cases hc; done) | (obtain ⟨_, _, h⟩ := opt_map hc; cases h; done)))

theorem callFunc_enter {f : FuncId} (h : CallOk P f) (args : Array Value) (w : World) : (callFunc f args).run P w = .ok (.enter f args) w := by
  obtain ⟨fn, h1, h2, h3⟩ := h
  have hb : fn.body.isNone = false := by cases hx : fn.body <;> simp_all
  have hn : (fn.name == "runtime.NumGoroutine") = false := by simpa using h2
  have hb2 : fn.body ≠ none := by intro e; rw [e] at h3; cases h3
  simp [callFunc, go_sem, h1, h2, hb2]

theorem awpOp_ok {o : Oper} {io : IOper} (hR : cop P o = some io.op) (hdst : io.dst = o.dst) (hs : St c ρ A a w) {p0 : Nat} (hp : c.A.length ≤ p0) {K : List AV → AHeap → Prop} (h : awpOp P p0 io ρ A K)
    {Q : Exit → Act → World → Prop} {K' : Act → World → Prop} (hK : ∀ ρ' A' a' w', K ρ' A' → St c ρ' A' a' w' → K' a' w') : o.wp P a w K' Q := by
  obtain ⟨M, F, S, hL, hd, E, hf⟩ := hs
  have hlen := E.len
  have simple : ∀ (v : AV) (A' : AHeap), astep ρ A (p0 + io.slot) io.op = some (v, A') → K (aput ρ io.dst v) A' → o.wp P a w K' Q := by
    intro v A' hst hk
    obtain ⟨nx, w', M', F', u, r1, r2, r3, r4, r5⟩ := astep_ok S hR hst hL
    obtain ⟨fl, ff⟩ := astep_free hst
    have hs' : St c (aput ρ io.dst v) A' (a.put o.dst u) w' :=
      ⟨M', F', r4, by rw [hdst]; exact put_conc (hL.mono r5.le) r3 _, (put_defers' _ _ _).trans hd, E.trans r5, fun l hl => by
        refine ff l ?_ (hf l hl)
        have : l < c.A.length := (List.getElem?_eq_some_iff.1 hl).1
        omega⟩
    rcases r2 with rfl | ⟨rfl, rfl⟩
    · simp only [Oper.wp, r1, Oper.upon]; exact hK _ _ _ _ hk hs'
    · simp only [Oper.wp, r1, Oper.upon]; exact hK _ _ _ _ hk hs'
  cases hop : io.op with
  | call f args =>
    rw [hop] at hR
    simp only [awpOp, hop] at h
    obtain ⟨cl, fo, h1, h2, h3, h4⟩ := call_run hR
    have hf1 := copd_ok h3 hL
    have ha1 := copds_ok hL h4
    unfold ACallV at h
    split at h
    · rename_i fid first caps hfv
      rw [hfv] at hf1
      generalize hev : a.eval fo = fe at hf1
      cases hf1 with
      | fn hc1 hc2 =>
        rename_i us vs
        have hargs : ConcL M (first ++ args.map (·.get ρ) ++ caps) (us ++ cl.args.map a.eval ++ vs).toList := by
          simp only [Array.toList_append, Array.toList_map]
          exact (hc1.append ha1).append hc2
        have hcall := h.2 w M F _ S hargs
        simp only [Array.toArray_toList] at hcall
        have hrun : (execOp a.eval o).run P w = .ok (.enter fid (us ++ cl.args.map a.eval ++ vs)) w := by
          have : execOp a.eval o = (do let d ← resolve a.eval cl o.type; invoke d.target d.args) := by
            obtain ⟨dst, op, type, pos, after, guard⟩ := o
            simp only at h1; subst h1
            rfl
          have hres : resolve a.eval cl o.type = pure { target := .fn (.func fid) vs, args := us ++ cl.args.map a.eval } := by
            unfold resolve
            simp only [h2]
            rw [hev]
            rfl
          rw [this, hres]
          simp only [pure_bind]
          exact callFunc_enter h.1 _ _
        simp only [Oper.wp, hrun, Oper.upon]
        refine hcall.mono ?_
        rintro e w' ⟨r, A', M', F', u, hk, rfl, r3, r4, r5, r6⟩
        exact hK _ _ _ _ hk ⟨M', F', r4, by rw [hdst]; exact put_conc (hL.mono r5.le) r3 _, (put_defers' _ _ _).trans hd, E.trans r5, hf.trans r6⟩
    · exact h.elim
  | _ =>
    simp only [awpOp, hop] at h
    split at h
    · rename_i v A' hst
      exact simple v A' (by rw [hop]; exact hst) h
    · exact h.elim

theorem awpG_ok {kops : Array Oper} {i : Nat} {o : Oper} {io : IOper} (hi : kops[i]? = some o) (hR : OpRel P kops o io) (hs : St c ρ A a w) {p0 : Nat} (hp : c.A.length ≤ p0) {K : List AV → AHeap → Prop} (h : awpG P p0 io ρ A K)
    {Q : Exit → Act → World → Prop} {K' : Act → World → Prop} (hK : ∀ ρ' A' a' w', K ρ' A' → St c ρ' A' a' w' → K' a' w') : wpOp P kops Q i K' a w := by
  unfold wpOp
  simp only [hi]
  rcases hR.guard with ⟨h1, h2⟩ | ⟨g, want, t, h1, h2, h3⟩
  · rw [if_pos (by simp [Region.wanted, h1])]
    unfold awpG at h
    rw [h2] at h
    exact .inl (awpOp_ok hR.op hR.dst hs hp h hK)
  · unfold awpG at h
    rw [h2] at h
    simp only [] at h
    split at h
    · rename_i b hb
      have hs0 := hs
      obtain ⟨M, F, S, hL, hd, E, hf⟩ := hs
      have hy : yielded kops a.tmps g = some b := by
        have ht : ∃ u, a.tmps[t]? = some u ∧ Conc M (.bool b) u := by
          cases ht : ρ[t]? with
          | none => simp [List.getD, ht] at hb
          | some v =>
            simp [List.getD, ht] at hb; subst hb
            obtain ⟨u, hu, hc⟩ := hL.get ht
            exact ⟨u, by simpa using hu, hc⟩
        obtain ⟨u, hu, hc⟩ := ht
        have := conc_bool hc
        subst this
        simp [yielded, h3, hu]
      by_cases hbw : b = want
      · rw [if_pos (by simp [Region.wanted, h1, hy, hbw])]
        exact .inl (awpOp_ok hR.op hR.dst hs0 hp (h.1 hbw) hK)
      · rw [if_neg (by simp [Region.wanted, h1, hy, hbw])]
        have hk := h.2 (by cases b <;> cases want <;> simp_all)
        exact hK _ _ _ _ hk ⟨M, F, S, by rw [hR.dst]; exact put_conc hL (.tup .nil) _, (put_defers' _ _ _).trans hd, E, hf⟩
    · rename_i vs hb
      obtain ⟨M, F, S, hL, hd, E, hf⟩ := hs
      have hy : yielded kops a.tmps g = none := by
        cases ht : ρ[t]? with
        | none => simp [List.getD, ht] at hb
        | some v =>
          simp [List.getD, ht] at hb; subst hb
          obtain ⟨u, hu, hc⟩ := hL.get ht
          have hu' : a.tmps[t]? = some u := by simpa using hu
          cases hc
          simp [yielded, h3, hu']
      rw [if_neg (by simp [Region.wanted, h1, hy])]
      exact hK _ _ _ _ h ⟨M, F, S, by rw [hR.dst]; exact put_conc hL (.tup .nil) _, (put_defers' _ _ _).trans hd, E, hf⟩
    · exact h.elim

theorem awpG_mono {p0 : Nat} {o : IOper} {K K' : List AV → AHeap → Prop} (h : awpG P p0 o ρ A K) (hk : ∀ ρ A, K ρ A → K' ρ A) : awpG P p0 o ρ A K' := by
  have hop : ∀ {ρ A}, awpOp P p0 o ρ A K → awpOp P p0 o ρ A K' := by
    intro ρ A h
    unfold awpOp at *
    split
    · simp only [*] at h
      unfold ACallV at *
      split
      · simp only [*] at h; exact h.mono fun r A' => hk _ _
      · simp only [*] at h
    · rename_i op hno
      split at h
      · exact absurd ‹_› (hno _ _)
      · split
        · rename_i he; simp only [he] at h; exact hk _ _ h
        · rename_i he; simp only [he] at h
  unfold awpG at *
  split
  · simp only [*] at h; exact hop h
  · simp only [*] at h
    split
    · rename_i hb; simp only [hb] at h; exact ⟨fun e => hop (h.1 e), fun e => hk _ _ (h.2 e)⟩
    · rename_i hb; simp only [hb] at h; exact hk _ _ h
    · rename_i hb hb2; split at h
      · rename_i b hb'; exact absurd hb' (hb b)
      · rename_i b hb'; exact absurd hb' (hb2 b)
      · exact h

/-- A region's operations, pairwise. -/
def OpsRel (P : Program) (kops : Array Oper) (ios : List IOper) : Prop := kops.size = ios.length ∧ ∀ (i : Nat) (o : Oper), kops[i]? = some o → ∃ io, ios[i]? = some io ∧ OpRel P kops o io ∧ (∀ p, p ∈ io.pre ↔ ∃ e ∈ o.after, Region.binds .any e = true ∧ e.on = p)

/-- Room for m more. -/
def AHeap.more (A : AHeap) (m : Nat) : AHeap := A ++ List.replicate m none

theorem more_live {A : AHeap} {m l : Nat} {o : AO} (h : (A.more m)[l]? = some (some o)) : A[l]? = some (some o) := by
  unfold AHeap.more at h
  by_cases hl : l < A.length
  · rwa [List.getElem?_append_left hl] at h
  · rw [List.getElem?_append_right (by omega)] at h
    rw [List.getElem?_replicate] at h
    split at h <;> cases h

theorem live_more {A : AHeap} {m l : Nat} {x : Option AO} (h : A[l]? = some x) : (A.more m)[l]? = some x := by
  have hl : l < A.length := (List.getElem?_eq_some_iff.1 h).1
  unfold AHeap.more; rw [List.getElem?_append_left hl]; exact h

theorem Sim.more {h : Array Obj} {M : Mod} {F : Nat → Nat → Prop} (S : Sim h M F A) (m : Nat) : Sim h M F (A.more m) where
  holds l o ho := S.holds l o (more_live ho)
  fresh l hl := by obtain ⟨o, ho⟩ := S.fresh l hl; exact ⟨o, live_more ho⟩
  lt l o b ho hf := S.lt l o b (more_live ho) hf
  disj l l' o o' b h1 h2 := S.disj l l' o o' b (more_live h1) (more_live h2)
  imm := S.imm
  immNot b c l o hI ho := S.immNot b c l o hI (more_live ho)

theorem Ext.more {w w' : World} {M M' : Mod} {F F' : Nat → Nat → Prop} {A A' : AHeap} (E : Ext w M F A w' M' F' A') (m : Nat) : Ext w M F A w' M' F' (A'.more m) :=
  { E with len := by have := E.len; simp [AHeap.more]; omega
           foot := fun l o b ho hf hb => E.foot l o b (more_live ho) hf hb }

theorem St.more (h : St c ρ A a w) (m : Nat) : St c ρ (A.more m) a w := by
  obtain ⟨M, F, S, hL, hd, E, hf⟩ := h
  exact ⟨M, F, S.more m, hL, hd, E.more m, fun l hl => live_more (hf l hl)⟩

theorem awpOps_ok {kops : Array Oper} {p0 : Nat} {Q : Exit → Act → World → Prop} {K : List AV → AHeap → Prop} (hx : c.A.length ≤ p0) (hK : ∀ ρ A a w, K ρ A → St c ρ A a w → Q .normal a w) :
    ∀ (ios : List IOper) (k : Nat), (∀ (j : Nat) (io : IOper), ios[j]? = some io → ∃ o, kops[k + j]? = some o ∧ OpRel P kops o io) → ∀ (ρ : List AV) (A : AHeap) (a : Act) (w : World), St c ρ A a w → awpOps P p0 ios ρ A K →
      wpOps P kops Q (List.range' k ios.length) a w
  | [], k, _, ρ, A, a, w, hs, h => by simpa [wpOps] using hK _ _ _ _ h hs
  | io :: ios, k, hrel, ρ, A, a, w, hs, h => by
    obtain ⟨o, ho, hR⟩ := hrel 0 io (by simp)
    simp only [List.length_cons, List.range'_succ]
    rw [wpOps_cons]
    refine awpG_ok (by simpa using ho) hR hs hx h ?_
    intro ρ' A' a' w' hk hs'
    exact awpOps_ok hx hK ios (k + 1) (fun j io' hj => by
      obtain ⟨o', ho', hR'⟩ := hrel (j + 1) io' (by simpa using hj)
      exact ⟨o', by rw [show k + 1 + j = k + (j + 1) by omega]; exact ho', hR'⟩) ρ' A' a' w' hs' hk

theorem aexec_region {n0 id m : Nat} {kops : Array Oper} {ios : List IOper} (hR : OpsRel P kops ios) {Q : IExit → List AV → AHeap → Prop} (h : awpOps P A.length ios ρ (A.more m) (Q .normal)) :
    AExec P n0 (.region id kops false) ρ A Q := by
  intro c a w hx hs
  have hn : n0 ≤ A.length := by obtain ⟨M, F, S, hL, hd, E, hf⟩ := hs; have := E.len; omega
  refine wp_region ?_
  have := awpOps_ok (c := c) (kops := kops) (Q := APost c Q) (K := Q .normal) (p0 := A.length) (by omega) (fun ρ A a w hk hs => ⟨.normal, ρ, A, hk, trivial, hs⟩) ios 0
    (fun j io hj => by
      have hlt : j < kops.size := by have := hR.1; have := (List.getElem?_eq_some_iff.1 hj).1; omega
      obtain ⟨io', h1, h2, _⟩ := hR.2 j kops[j] (by simp [hlt])
      rw [hj] at h1; cases h1
      exact ⟨kops[j], by simp [hlt], h2⟩) ρ (A.more m) a w (hs.more m) h
  rw [List.range_eq_range', hR.1]
  exact this
end
end Go.SB
