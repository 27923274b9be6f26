/- Framework, part I: nstep is right. Conditions: none. -/
import Derived.Test.YtkkccabchhnebaaFwH
set_option linter.unusedVariables false
set_option linter.unusedSimpArgs false
namespace Go.SB
section
variable {P : Program} {M : Mod} {ρ : List AV} {a : Act} (w : World)

theorem quiet_of {o : Oper} {v : AV} {s : Sem Value} {u : Value} (he : execOp a.eval o = (do pure (.value (← s)))) (h : s.run P w = .ok u w) (hc : Conc M v u) : Quiet P M a w o v :=
  ⟨u, by rw [he]; simp [h], hc⟩

theorem mapC {xs : List Operand} {ys : List Opd} (hρ : ConcL M ρ a.tmps.toList) (h : copds xs = some ys) : ConcL M (ys.map (·.get ρ)) (xs.map a.eval) := copds_ok hρ h

set_option maxHeartbeats 1600000 in
theorem nstep_ok {o : Oper} {io : IOp} (hc : cop P o = some io) {v : AV} (hs : nstep ρ io = some v) (hρ : ConcL M ρ a.tmps.toList) : Quiet P M a w o v := by
  obtain ⟨dst, op, type, pos, after, guard⟩ := o
  cases op with
  | move x =>
    obtain ⟨y, hy, rfl⟩ := opt_map hc
    simp only [nstep] at hs; cases hs
    exact ⟨a.eval x, rfl, copd_ok hy hρ⟩
  | assign x =>
    obtain ⟨y, hy, rfl⟩ := opt_map hc
    simp only [nstep] at hs; cases hs
    exact ⟨a.eval x, rfl, copd_ok hy hρ⟩
  | pick c x y =>
    simp only [cop] at hc
    split at hc
    · rename_i c' x' y' h1 h2 h3
      cases hc
      simp only [nstep] at hs
      split at hs
      · rename_i b hb
        cases hs
        have e := copd_ok h1 hρ
        rw [hb] at e
        have e := conc_bool e
        cases b
        · exact ⟨a.eval y, by simp [execOp, e, asBool], by simpa using copd_ok h3 hρ⟩
        · exact ⟨a.eval x, by simp [execOp, e, asBool], by simpa using copd_ok h2 hρ⟩
      · cases hs
    · cases hc
  | build t ps =>
    simp only [cop] at hc
    split at hc
    · cases hc
    · rename_i z hz
      split at hc
      · rename_i fs hu
        split at hc
        · rename_i hf
          obtain ⟨qs, hq, rfl⟩ := opt_map hc
          simp only [nstep] at hs
          split at hs
          · rename_i r hr
            cases hs
            obtain ⟨u, h1, h2⟩ := build_struct_ok (P := P) (v := .any) w hρ hz hu hf hq hr
            exact quiet_of w rfl h1 h2
          · cases hs
        · cases hc
      · rename_i len el hu
        split at hc
        · rename_i size hsz
          split at hc
          · rename_i h0
            obtain ⟨qs, hq, rfl⟩ := opt_map hc
            simp only [nstep] at hs
            split at hs
            · rename_i r hr
              cases hs
              obtain ⟨u, h1, h2⟩ := build_array_ok (P := P) (v := .any) w hρ hz hu hsz h0 hq hr
              exact quiet_of w rfl h1 h2
            · cases hs
          · cases hc
        · cases hc
      · cases hc
  | nilCheck x =>
    obtain ⟨y, hy, rfl⟩ := opt_map hc
    simp only [nstep] at hs
    have e := copd_ok hy hρ
    split at hs
    · rename_i l o hx
      cases hs; rw [hx] at e
      refine ⟨a.eval x, ?_, e⟩
      generalize he : a.eval x = u at e
      cases e with | ptr hD => simp [execOp, he]
    · rename_i l i o hx
      cases hs; rw [hx] at e
      refine ⟨a.eval x, ?_, e⟩
      generalize he : a.eval x = u at e
      cases e with | eptr hD => simp [execOp, he]
    · rename_i cs hx
      cases hs; rw [hx] at e
      refine ⟨a.eval x, ?_, e⟩
      generalize he : a.eval x = u at e
      cases e with | pp => simp [execOp, he]
    · rename_i f x1 x2 hx
      cases hs; rw [hx] at e
      refine ⟨a.eval x, ?_, e⟩
      generalize he : a.eval x = u at e
      cases e with | fn => simp [execOp, he]
    · cases hs
  | binOp op t x y yt =>
    simp only [cop] at hc
    split at hc
    · rename_i x' y' hx hy
      have cx := copd_ok hx hρ
      have cy := copd_ok hy hρ
      have fin : ∀ {v}, AV.bin op (x'.get ρ) (y'.get ρ) = some v → Quiet P M a w ⟨dst, .binOp op t x y yt, type, pos, after, guard⟩ v := by
        intro v hv
        obtain ⟨u, h1, h2⟩ := bin_ok (P := P) (t := t) w cx cy hv
        have h3 := guard_ok (P := P) (t := t) (x := x) (y := y) (uy := a.eval y) w cx hv
        refine ⟨u, ?_, h2⟩
        simp [execOp, h3, h1]
      split at hc
      · cases hc; exact fin (by simpa [nstep] using hs)
      · cases hc; exact fin (by simpa [nstep] using hs)
      · split at hc
        · rename_i neg hneg
          obtain ⟨e, he, rfl⟩ := opt_map hc
          simp only [nstep] at hs
          split at hs
          · rename_i r hr
            cases hs
            obtain ⟨h1, h2⟩ := eqv_ok (P := P) (ox := x) (oy := y) w hneg he cx cy hr
            exact ⟨_, by simp [execOp, h1, h2], .bool _⟩
          · cases hs
        · cases hc
    · cases hc
  | unOp op t x =>
    obtain ⟨y, hy, rfl⟩ := opt_map hc
    simp only [nstep] at hs
    have e := copd_ok hy hρ
    unfold AV.unop at hs
    split at hs
    · rename_i k n hx
      cases hs; rw [hx] at e
      exact ⟨_, by simp [execOp, conc_int e, Op.unary, Op.intArith], .int _ _⟩
    · rename_i k n hx
      cases hs; rw [hx] at e
      exact ⟨_, by simp [execOp, conc_int e, Op.unary, Op.intBits, ibits], .int _ _⟩
    · rename_i b hx
      cases hs; rw [hx] at e
      exact ⟨_, by simp [execOp, conc_bool e, Op.unary], .bool _⟩
    · cases hs
  | convert s d x =>
    simp only [cop] at hc
    split at hc
    · rename_i k' k y h1 h2 hy
      cases hc
      have e := copd_ok hy hρ
      simp only [nstep] at hs
      split at hs
      · rename_i k2 n hx
        cases hs; rw [hx] at e
        refine ⟨.int k (k.wrap n), ?_, .int _ _⟩
        simp [execOp, conc_int e, convert, run_underlying h1, run_underlying h2, Conv.intToInt]
      · cases hs
    · rename_i y h1 h2 hy
      cases hc
      have e := copd_ok hy hρ
      simp only [nstep] at hs
      split at hs
      · rename_i s' hx
        cases hs; rw [hx] at e
        refine ⟨.string ⟨s'.toArray⟩, ?_, .str _⟩
        simp [execOp, conc_str e, convert, run_underlying h1, run_underlying h2]
      · cases hs
    · cases hc
  | makeFunc f x y =>
    cases f with
    | func f =>
      simp only [cop] at hc
      split at hc
      · rename_i x' y' hx hy
        cases hc
        simp only [nstep] at hs; cases hs
        refine ⟨.func (.func f) (x.map a.eval) (y.map a.eval), rfl, .fn ?_ ?_⟩
        · simpa using mapC hρ hx
        · simpa using mapC hρ hy
      · cases hc
    | _ => simp [cop] at hc
  | slice t x lo hi mx =>
    simp only [cop] at hc
    split at hc
    · rename_i hu
      split at hc
      · rename_i x' lo' hi' hx hlo hhi
        cases hc
        simp only [nstep] at hs
        have e := copd_ok hx hρ
        have hs0 := hs
        unfold AV.slcs at hs
        split at hs
        · rename_i s hxs
          rw [hxs] at e hs0
          obtain ⟨u, h1, h2⟩ := slc_str_ok (P := P) w hu (opd3 hρ hlo) (opd3 hρ hhi) hs0
          refine ⟨u, ?_, h2⟩
          simp only [execOp, conc_str e, Option.map_none, Sem.run_bind, h1, Result.andThen_ok, Sem.run_pure]
        · cases hs
      · cases hc
    · rename_i el hu
      split at hc
      · rename_i x' lo' hi' mx' sz hx hlo hhi hmx hsz
        cases hc
        simp only [nstep] at hs
        obtain ⟨u, h1, h2⟩ := slc_slice_ok (P := P) w hu hsz (copd_ok hx hρ) (opd3 hρ hlo) (opd3 hρ hhi) (opd3 hρ hmx) hs
        exact quiet_of w rfl h1 h2
      · cases hc
    · cases hc
  | fieldAddr t x i =>
    simp only [cop] at hc
    split at hc
    · rename_i fs hu
      split at hc
      · rename_i f hf
        split at hc
        · rename_i n x' hn hx
          split at hc
          · rename_i h0
            cases hc
            simp only [nstep] at hs
            obtain ⟨ad, e, hsp, hcc⟩ := faddr_conc (copd_ok hx hρ) hs
            refine ⟨_, ?_, hcc⟩
            simp [execOp, e, Instr.fieldAt, run_underlying hu, hf, Instr.sureAddr, fieldPlace, run_elemSize w hn, show ¬ n = 0 by omega]
          · cases hc
        · cases hc
      · cases hc
    · cases hc
  | field t x i =>
    simp only [cop] at hc
    split at hc
    · rename_i fs hu
      split at hc
      · rename_i f hf
        split at hc
        · rename_i n x' hn hx
          cases hc
          simp only [nstep] at hs
          have e := copd_ok hx hρ
          unfold AV.fld at hs
          split at hs
          · rename_i cs hcs
            rw [hcs] at e
            generalize he : a.eval x = u at e
            cases e with
            | @agg _ us hL =>
              obtain ⟨u, h1, h2⟩ := run_part w hn hL hs
              refine ⟨u, ?_, h2⟩
              simp [execOp, he, Instr.field, run_underlying hu, hf, asAgg, h1]
          · cases hs
        · cases hc
      · cases hc
    · cases hc
  | indexAddr t x i =>
    simp only [cop] at hc
    split at hc
    · rename_i el hu
      split at hc
      · rename_i n x' i' hn hx hi
        cases hc
        simp only [nstep] at hs
        obtain ⟨u, h1, h2⟩ := iaddr_ok (P := P) w hu hn (copd_ok hx hρ) (copd_ok hi hρ) hs
        exact quiet_of w rfl h1 h2
      · cases hc
    · rename_i len el hu
      split at hc
      · rename_i n x' i' hn hx hi
        cases hc
        simp only [nstep] at hs
        obtain ⟨u, h1, h2⟩ := iaddra_ok (P := P) w hu hn (copd_ok hx hρ) (copd_ok hi hρ) hs
        exact quiet_of w rfl h1 h2
      · cases hc
    · cases hc
  | index t x i =>
    simp only [cop] at hc
    split at hc
    · rename_i hu
      split at hc
      · rename_i x' i' hx hi
        cases hc
        simp only [nstep] at hs
        obtain ⟨u, h1, h2⟩ := idxs_ok (P := P) w hu (copd_ok hx hρ) (copd_ok hi hρ) hs
        exact quiet_of w rfl h1 h2
      · cases hc
    · rename_i len el hu
      split at hc
      · rename_i n g x' i' hn hg hx hi
        cases hc
        simp only [nstep] at hs
        obtain ⟨u, h1, h2⟩ := idxa_ok (P := P) w hu hn hg (copd_ok hx hρ) (copd_ok hi hρ) hs
        exact quiet_of w rfl h1 h2
      · cases hc
    · cases hc
  | makeInterface t x =>
    simp only [cop] at hc
    split at hc
    · cases hc
    · rename_i d y hu hd hy
      cases hc
      simp only [nstep] at hs; cases hs
      refine ⟨.iface t (a.eval x), ?_, .ifc (copd_ok hy hρ)⟩
      simp only [execOp, Instr.makeInterface, Sem.run_bind, run_underlying hd, Result.andThen_ok]
      cases d <;> first | rfl | (exact absurd hd (hu _))
    · cases hc
  | extract x i =>
    obtain ⟨y, hy, rfl⟩ := opt_map hc
    simp only [nstep] at hs
    have e := copd_ok hy hρ
    split at hs
    · rename_i vs hvs
      rw [hvs] at e
      generalize he : a.eval x = u at e
      cases e with
      | @tup _ us hL =>
        obtain ⟨u, h1, h2⟩ := hL.get hs
        rw [Array.getElem?_toList] at h1
        exact ⟨u, by simp [execOp, he, Instr.extract, h1], h2⟩
    · cases hs
  | call c =>
    obtain ⟨callee, args, argTypes⟩ := c
    cases callee with
    | value f =>
      simp only [cop] at hc
      split at hc
      · cases hc; simp [nstep] at hs
      · cases hc
    | invoke r m => simp [cop] at hc
    | builtin b =>
      cases b with
      | len =>
        simp only [cop] at hc
        split at hc
        · rename_i t ht
          split at hc
          · rename_i x hu hx
            obtain ⟨y, hy, rfl⟩ := opt_map hc
            simp only [nstep] at hs
            have e := copd_ok hy hρ
            have ha : args.map a.eval = #[a.eval x] := by apply Array.ext'; simp [hx]
            unfold AV.lenst at hs
            split at hs
            · rename_i s' hys
              rw [hys] at e
              cases hs
              refine ⟨.int .i64 s'.length, ?_, .int _ _⟩
              have e1 : (ByteArray.mk s'.toArray).size = s'.length := rfl
              simp [execOp, resolve, invoke, builtin, ha, Builtin.len_, ht, run_underlying hu, goInt, conc_str e, e1]
            · cases hs
          · rename_i el x hu hx
            obtain ⟨y, hy, rfl⟩ := opt_map hc
            simp only [nstep] at hs
            have e := copd_ok hy hρ
            have ha : args.map a.eval = #[a.eval x] := by apply Array.ext'; simp [hx]
            have run : ∀ ad n c, a.eval x = .slice ad n c → v = .int .i64 n → Quiet P M a w ⟨dst, .call ⟨.builtin .len, args, argTypes⟩, type, pos, after, guard⟩ v := by
              intro ad n c e1 e2
              subst e2
              refine ⟨.int .i64 n, ?_, .int _ _⟩
              simp [execOp, resolve, invoke, builtin, ha, Builtin.len_, ht, run_underlying hu, goInt, e1]
            generalize he : a.eval x = ux at e
            unfold AV.lens at hs
            split at hs
            · rename_i hys; rw [hys] at e; cases hs; cases e
              · exact run _ _ _ he rfl
              · exact run _ _ _ he rfl
            · rename_i hys; rw [hys] at e; cases hs; cases e; exact run _ _ _ he rfl
            · rename_i hys; rw [hys] at e; cases hs; cases e; exact run _ _ _ he rfl
            · rename_i hys; rw [hys] at e; cases hs; cases e
              · exact run _ _ _ he rfl
              · exact run _ _ _ he rfl
            · cases hs
          · rename_i n el x hu hx
            cases hc
            simp only [nstep] at hs; cases hs
            refine ⟨.int .i64 n, ?_, .int _ _⟩
            have ha : args.map a.eval = #[a.eval x] := by apply Array.ext'; simp [hx]
            simp [execOp, resolve, invoke, builtin, ha, Builtin.len_, ht, run_underlying hu, goInt]
          · rename_i x hu hx
            obtain ⟨y, hy, rfl⟩ := opt_map hc
            simp [nstep] at hs
          · cases hc
        · cases hc
      | min =>
        obtain ⟨ys, hy, rfl⟩ := opt_map hc
        simp only [nstep] at hs
        have e := mapC hρ hy
        split at hs
        · cases hs
        · rename_i x r hxr
          rw [hxr] at e
          generalize he : args.toList.map a.eval = us at e
          cases e with
          | cons hx t =>
            obtain ⟨u, h1, h2⟩ := fold_ok (P := P) w (fun x y v ux uy a b c => mn2_ok w x y v ux uy a b c) t hx hs
            refine ⟨u, ?_, h2⟩
            simp [execOp, resolve, invoke, builtin, Builtin.min_, he, h1]
      | max =>
        obtain ⟨ys, hy, rfl⟩ := opt_map hc
        simp only [nstep] at hs
        have e := mapC hρ hy
        split at hs
        · cases hs
        · rename_i x r hxr
          rw [hxr] at e
          generalize he : args.toList.map a.eval = us at e
          cases e with
          | cons hx t =>
            obtain ⟨u, h1, h2⟩ := fold_ok (P := P) w (fun x y v ux uy a b c => mx2_ok w x y v ux uy a b c) t hx hs
            refine ⟨u, ?_, h2⟩
            simp [execOp, resolve, invoke, builtin, Builtin.max_, he, h1]
      | append =>
        simp only [cop] at hc
        repeat' (split at hc)
        all_goals first | (cases hc; done) | (cases hc; simp [nstep] at hs)
      | copy =>
        simp only [cop] at hc
        repeat' (split at hc)
        all_goals first | (cases hc; done) | (cases hc; simp [nstep] at hs)
      | delete =>
        simp only [cop] at hc
        repeat' (split at hc)
        all_goals first | (cases hc; done) | (cases hc; simp [nstep] at hs)
      | clear =>
        simp only [cop] at hc
        repeat' (split at hc)
        all_goals first | (cases hc; done) | (cases hc; simp [nstep] at hs)
      | _ => simp [cop] at hc
  | _ =>
    first
    | (simp [cop] at hc; done)
    | (simp only [cop] at hc
       repeat' (split at hc)
       all_goals first | (cases hc; done) | (cases hc; simp [nstep] at hs; done) | (obtain ⟨y, hy, rfl⟩ := opt_map hc; simp [nstep] at hs))
end
end Go.SB
