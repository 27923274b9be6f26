/- Framework, part O: one operation of the loaded program is one operation of the IR. Conditions: none. -/
import Derived.Test.YtkkccabchhnebaaFwN
set_option linter.unusedVariables false
set_option linter.unusedSimpArgs false
namespace Go.SB
section
variable {P : Program} {M : Mod} {F : Nat → Nat → Prop} {A : AHeap} {ρ : List AV} {a : Act} {w : World}

theorem withAny_some {o : Option AHeap} {v : AV} {A' : AHeap} (h : withAny o = some (v, A')) : o = some A' ∧ v = .any := by
  unfold withAny at h
  split at h
  · cases h; exact ⟨rfl, rfl⟩
  · cases h

theorem anew_some {p : Nat} {x v : AV} {o : AO} {A' : AHeap} (h : anew A p x o = some (v, A')) : A[p]? = some none ∧ v = x ∧ A' = A.set p (some o) := by
  unfold anew at h
  split at h
  · cases h; exact ⟨‹_›, rfl, rfl⟩
  · cases h

theorem wrote_value {o : Oper} {v : AV} {A' : AHeap} {s : Sem Value} {u : Value} {w' : World} {M' : Mod} {F' : Nat → Nat → Prop} (he : execOp a.eval o = (do pure (.value (← s)))) (h : s.run P w = .ok u w') (hc : Conc M' v u)
    (S' : Sim w'.heap M' F' A') (E' : Ext w M F A w' M' F' A') : Wrote P M F A a w o v A' :=
  ⟨.value u, w', M', F', u, by rw [he]; simp [h], .inl rfl, hc, S', E'⟩

theorem wrote_skip {o : Oper} {A' : AHeap} {s : Sem Unit} {w' : World} {M' : Mod} {F' : Nat → Nat → Prop} (he : execOp a.eval o = (do s; pure .skip)) (h : s.run P w = .ok () w')
    (S' : Sim w'.heap M' F' A') (E' : Ext w M F A w' M' F' A') : Wrote P M F A a w o .any A' :=
  ⟨.skip, w', M', F', undef, by rw [he]; simp [h], .inr ⟨rfl, rfl⟩, .any _, S', E'⟩

theorem wrN_addr {x : AV} {ns : List AV} {A' : AHeap} (h : wrN A x ns = some A') {u : Value} (hx : Conc M x u) : ∃ ad, u = .pointer (some ad) := by
  unfold wrN at h
  split at h
  · cases hx; exact ⟨_, rfl⟩
  · cases hx; exact ⟨_, rfl⟩
  · cases h

set_option maxHeartbeats 1600000 in
theorem wstep_ok (S : Sim w.heap M F A) {o : Oper} {io : IOp} (hc : cop P o = some io) {p : Nat} {v : AV} {A' : AHeap} (hs : wstep ρ A p io = some (v, A')) (hρ : ConcL M ρ a.tmps.toList) : Wrote P M F A a w o v A' := by
  obtain ⟨dst, op, type, pos, after, guard⟩ := o
  cases op with
  | alloc t =>
    obtain ⟨z, hz, rfl⟩ := opt_map hc
    simp only [wstep] at hs
    obtain ⟨hp, rfl, rfl⟩ := anew_some hs
    obtain ⟨uz, hz1, hz2, -⟩ := run_zeroCells (P := P) w hz M
    obtain ⟨M', F', r1, r2, r3, r4⟩ := new_cells (P := P) S hp (us := uz.cells) (fun _ => hz2) t
    exact wrote_value rfl (by simp [Instr.alloc, hz1, newVar, r1]) r2 r3 r4
  | box t x =>
    obtain ⟨y, hy, rfl⟩ := opt_map hc
    simp only [wstep] at hs
    obtain ⟨hp, rfl, rfl⟩ := anew_some hs
    have e := copd_ok hy hρ
    obtain ⟨M', F', r1, r2, r3, r4⟩ := new_cells (P := P) S hp (us := (a.eval x).cells) (fun hn => cells_conc e hn) t
    exact wrote_value rfl (by simp [Instr.box, newVar, r1]) r2 r3 r4
  | buildSlice t n ps =>
    simp only [cop] at hc
    split at hc
    · rename_i e ht
      split at hc
      · rename_i size z hsz hz
        split at hc
        · rename_i hcond
          split at hc
          · rename_i xs hxs
            split at hc
            · rename_i hn
              cases hc
              simp only [wstep] at hs
              obtain ⟨w', M', F', u, r1, r2, r3, r4⟩ := abslice_ok (P := P) S hρ ht hsz hz hcond.1 hcond.2.1 hcond.2.2 hxs hn hs
              exact wrote_value rfl r1 r2 r3 r4
            · cases hc
          · cases hc
        · cases hc
      · cases hc
    · cases hc
  | store t x y =>
    simp only [cop] at hc
    split at hc
    · rename_i n x' y' hn hx hy
      split at hc
      · rename_i h0
        cases hc
        simp only [wstep] at hs
        split at hs
        · rename_i hlen
          obtain ⟨hw, rfl⟩ := withAny_some hs
          have ex := copd_ok hx hρ
          have ey := copd_ok hy hρ
          obtain ⟨ad, had⟩ := wrN_addr hw ex
          rw [had] at ex
          have hne : (y'.get ρ).cells ≠ [] := fun e => by rw [e] at hlen; simp at hlen; omega
          have hL := cells_conc ey hne
          obtain ⟨hsp, w', r1, r2, r3⟩ := S.wr (P := P) ex hL hw
          have hsz : (a.eval y).cells.size = n := by have := hL.length; simp at this; omega
          exact wrote_skip rfl (by simp [Instr.storeAt, had, Instr.sureAddr, storeVar, run_elemSize w hn, hsz, r1]) r2 r3
        · cases hs
      · cases hc
    · cases hc
  | makeMap t r =>
    simp only [cop] at hc
    split at hc
    · rename_i k e ht
      split at hc
      · cases hc
        simp only [wstep] at hs
        obtain ⟨hp, rfl, rfl⟩ := anew_some hs
        obtain ⟨S', E'⟩ := S.alloc hp (w' := w.alloc (.map #[] 0)) (ob := .map #[] 0) rfl rfl rfl rfl 0 1 (o := .map []) (by
          refine ⟨fun b => by simp [Mod.put], #[], 0, by simp only [Mod.put, if_true]; exact heap_alloc_new w _, rfl, by simp, by simp⟩)
        refine wrote_value rfl (u := .map (some w.heap.size)) (by simp [Instr.makeMap]) ?_ S' E'
        have := Conc.mp (M := M.put p w.heap.size 0 0 1) (l := p) (.inr rfl)
        simpa [Mod.put] using this
      · cases hc
    · cases hc
  | makeSlice t n c =>
    simp only [cop] at hc
    split at hc
    · rename_i e ht
      split at hc
      · rename_i i z n' c' hi hz hn hcc
        split at hc
        · rename_i hcond
          cases hc
          simp only [wstep] at hs
          obtain ⟨w', M', F', u, r1, r2, r3, r4⟩ := amksl_ok (P := P) S ht hi hz hcond.1 hcond.2.1 hcond.2.2 (copd_ok hn hρ) (copd_ok hcc hρ) hs
          exact wrote_value rfl r1 r2 r3 r4
        · cases hc
      · cases hc
    · cases hc
  | mapUpdate t m k x =>
    simp only [cop] at hc
    split at hc
    · rename_i kt e ht
      split at hc
      · rename_i lk m' k' x' hk hm hkk hx
        cases hc
        simp only [wstep] at hs
        obtain ⟨hw, rfl⟩ := withAny_some hs
        obtain ⟨w', r1, r2, r3⟩ := mset_ok (P := P) S ht hk (copd_ok hm hρ) (copd_ok hkk hρ) (copd_ok hx hρ) hw
        exact wrote_skip rfl r1 r2 r3
      · cases hc
    · cases hc
  | makeFunc f x y =>
    cases f with
    | func f =>
      simp only [cop] at hc
      split at hc
      · cases hc; simp [wstep] at hs
      · cases hc
    | _ => simp [cop] at hc
  | call c =>
    obtain ⟨callee, args, argTypes⟩ := c
    cases callee with
    | value f =>
      simp only [cop] at hc
      split at hc
      · cases hc; simp [wstep] at hs
      · cases hc
    | invoke r m => simp [cop] at hc
    | builtin b =>
      cases b with
      | append =>
        simp only [cop] at hc
        split at hc
        · rename_i t t' s x hts hargs
          split at hc
          · rename_i htt
            subst htt
            split at hc
            · rename_i e ht
              split at hc
              · rename_i i z s' x' hi hz hss hx
                split at hc
                · rename_i hcond
                  cases hc
                  simp only [wstep] at hs
                  split at hs
                  · cases hs
                  · rename_i xs hxs
                    split at hs
                    · rename_i hr
                      obtain ⟨uz, hz1, hz2, i', hi', hiz⟩ := run_zeroCells (P := P) w hz M
                      rw [hi] at hi'; cases hi'
                      have hzs : uz.cells.size = i.size := by have := hz2.length; simp at this; omega
                      obtain ⟨w', M', F', u, r1, r2, r3, r4⟩ := aapp_ok (P := P) (ty := type) S ht hi hiz rfl hzs hcond.2.2 hcond.2.1 (copd_ok hss hρ) (copd_ok hx hρ) hxs hr hs
                      have ha : args.map a.eval = #[a.eval s, a.eval x] := by apply Array.ext'; simp [hargs]
                      have ht2 : argTypes = #[t', t'] := by apply Array.ext'; simpa using hts
                      subst ht2
                      exact ⟨.value u, w', M', F', u, by simp [execOp, resolve, invoke, builtin, ha, r1], .inl rfl, r2, r3, r4⟩
                    · cases hs
                · cases hc
              · cases hc
            · cases hc
          · cases hc
        · cases hc
      | copy =>
        simp only [cop] at hc
        split at hc
        · rename_i t t' s x hts hargs
          split at hc
          · rename_i htt
            subst htt
            split at hc
            · rename_i e ht
              split at hc
              · rename_i n s' x' hi hss hx
                split at hc
                · rename_i h0
                  cases hc
                  simp only [wstep] at hs
                  split at hs
                  · cases hs
                  · rename_i xs hxs
                    split at hs
                    · rename_i hr
                      obtain ⟨w', M', F', u, r1, r2, r3, r4⟩ := acpy_ok (P := P) (ty := type) S ht hi h0 (copd_ok hss hρ) (copd_ok hx hρ) hxs hr hs
                      have ha : args.map a.eval = #[a.eval s, a.eval x] := by apply Array.ext'; simp [hargs]
                      have ht2 : argTypes = #[t', t'] := by apply Array.ext'; simpa using hts
                      subst ht2
                      exact ⟨.value u, w', M', F', u, by simp [execOp, resolve, invoke, builtin, ha, r1], .inl rfl, r2, r3, r4⟩
                    · cases hs
                · cases hc
              · cases hc
            · cases hc
          · cases hc
        · cases hc
      | delete =>
        simp only [cop] at hc
        split at hc
        · rename_i t m k hts hargs
          split at hc
          · rename_i kt e ht
            split at hc
            · rename_i lk m' k' hk hm hkk
              cases hc
              simp only [wstep] at hs
              obtain ⟨hw, rfl⟩ := withAny_some hs
              obtain ⟨w', r1, r2, r3⟩ := del_ok (P := P) (ty := type) S ht hk hts (copd_ok hm hρ) (copd_ok hkk hρ) hw
              have ha : args.map a.eval = #[a.eval m, a.eval k] := by apply Array.ext'; simp [hargs]
              exact ⟨.value (.tuple #[]), w', M, F, .tuple #[], by simp [execOp, resolve, invoke, builtin, ha, r1], .inl rfl, .any _, r2, r3⟩
            · cases hc
          · cases hc
        · cases hc
      | clear =>
        simp only [cop] at hc
        split at hc
        · rename_i t m hts hargs
          split at hc
          · rename_i kt e m' ht hm
            cases hc
            simp only [wstep] at hs
            obtain ⟨hw, rfl⟩ := withAny_some hs
            obtain ⟨w', r1, r2, r3⟩ := clr_ok (P := P) (ty := type) S ht hts (copd_ok hm hρ) hw
            have ha : args.map a.eval = #[a.eval m] := by apply Array.ext'; simp [hargs]
            exact ⟨.value (.tuple #[]), w', M, F, .tuple #[], by simp [execOp, resolve, invoke, builtin, ha, r1], .inl rfl, .any _, r2, r3⟩
          · rename_i e m' ht hm
            split at hc
            · rename_i sz z hsz hz
              split at hc
              · rename_i hcc
                cases hc
                simp only [wstep] at hs
                obtain ⟨hw, rfl⟩ := withAny_some hs
                obtain ⟨w', r1, r2, r3⟩ := aclrs_ok (P := P) (ty := type) S hts ht hsz hz hcc.1 hcc.2 (copd_ok hm hρ) hw
                have ha : args.map a.eval = #[a.eval m] := by apply Array.ext'; simp [hargs]
                exact ⟨.value (.tuple #[]), w', M, F, .tuple #[], by simp [execOp, resolve, invoke, builtin, ha, r1], .inl rfl, .any _, r2, r3⟩
              · cases hc
            · cases hc
          · cases hc
        · cases hc
      | len =>
        simp only [cop] at hc
        split at hc
        · split at hc
          · obtain ⟨y, hy, rfl⟩ := opt_map hc; simp [wstep] at hs
          · obtain ⟨y, hy, rfl⟩ := opt_map hc; simp [wstep] at hs
          · cases hc; simp [wstep] at hs
          · obtain ⟨y, hy, rfl⟩ := opt_map hc; simp [wstep] at hs
          · cases hc
        · cases hc
      | min => obtain ⟨y, hy, rfl⟩ := opt_map hc; simp [wstep] at hs
      | max => obtain ⟨y, hy, rfl⟩ := opt_map hc; simp [wstep] at hs
      | _ => simp [cop] at hc
  | _ =>
    first
    | (simp [cop] at hc; done)
    | (simp only [cop] at hc
       repeat' (split at hc)
       all_goals first | (cases hc; done) | (cases hc; simp [wstep] at hs; done) | (obtain ⟨y, hy, rfl⟩ := opt_map hc; simp [wstep] at hs))

theorem astep_ok (S : Sim w.heap M F A) {o : Oper} {io : IOp} (hc : cop P o = some io) {p : Nat} {v : AV} {A' : AHeap} (hs : astep ρ A p io = some (v, A')) (hρ : ConcL M ρ a.tmps.toList) : Wrote P M F A a w o v A' := by
  unfold astep at hs
  split at hs
  · rename_i v' hn
    cases hs
    obtain ⟨u, h1, h2⟩ := nstep_ok w hc hn hρ
    exact ⟨.value u, w, M, F, u, h1, .inl rfl, h2, S, .refl _ _ _ _⟩
  · split at hs
    · rename_i v' hr
      cases hs
      obtain ⟨u, h1, h2⟩ := rstep_ok S hc hr hρ
      exact ⟨.value u, w, M, F, u, h1, .inl rfl, h2, S, .refl _ _ _ _⟩
    · exact wstep_ok S hc hs hρ
end
end Go.SB
