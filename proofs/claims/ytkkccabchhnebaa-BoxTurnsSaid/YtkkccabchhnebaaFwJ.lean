/- Framework, part J: operations that read memory. Conditions: none. -/
import Derived.Test.YtkkccabchhnebaaFwI
import Derived.Laws.Cells
set_option linter.unusedVariables false
set_option linter.unusedSimpArgs false
namespace Go.SB
section
variable {P : Program} {M : Mod} {F : Nat → Nat → Prop} {A : AHeap} {ρ : List AV} {a : Act} {w : World}

theorem rdN_addr {x : AV} {n : Nat} {r : List AV} (h : rdN A x n = some r) {u : Value} (hx : Conc M x u) : (∃ ad, u = .pointer (some ad)) ∧ (∀ v, x ≠ .raw v) ∧ x ≠ .any := by
  unfold rdN at h
  split at h
  · cases hx; exact ⟨⟨_, rfl⟩, by simp, by simp⟩
  · cases hx; exact ⟨⟨_, rfl⟩, by simp, by simp⟩
  · cases hx; exact ⟨⟨_, rfl⟩, by simp, by simp⟩
  · cases h

theorem loadVar_ok (S : Sim w.heap M F A) {t : TypeId} {n : Option Nat} (hn : aggOf P t = some n) {x : AV} {ad : Addr} (hx : Conc M x (.pointer (some ad))) {v : AV}
    (h : aload A n x = some v) :
    ∃ u, (loadVar t ad).run P w = .ok u w ∧ Conc M v u := by
  obtain ⟨h1, h2⟩ := run_aggOf (P := P) w hn
  cases n with
  | none =>
    simp only [aload] at h
    split at h
    · rename_i v' hr
      cases h
      obtain ⟨-, q1, q2⟩ := rdN_addr hr hx
      obtain ⟨us, hL, hl, hsp, hc⟩ := S.rd hx q1 q2 hr
      cases hL with
      | cons hv t =>
        cases t
        rename_i u
        have := hc 0 u (by simp)
        rw [show ad.add 0 = ad from rfl] at this
        exact ⟨u, by simp [loadVar, h1, this], hv⟩
    · cases h
  | some k =>
    simp only [aload] at h
    split at h
    · rename_i vs hr
      cases h
      obtain ⟨-, q1, q2⟩ := rdN_addr hr hx
      obtain ⟨us, hL, hl, hsp, hc⟩ := S.rd hx q1 q2 hr
      have hld := run_loadCells_list (P := P) w ad us hc
      rw [hl] at hld
      refine ⟨.agg us.toArray, ?_, .agg (by simpa using hL)⟩
      simp [loadVar, h1, h2 k rfl, hld]
    · cases h

theorem keyOk_kind {t : TypeId} {lk : LK} (hk : keyOk P t = some lk) : ∃ d, P.underlying t = some d ∧ ((lk = .int ∧ ∃ k, d = .int k) ∨ (lk = .str ∧ d = .string)) := by
  unfold keyOk at hk
  split at hk
  · rename_i k hu; cases hk; exact ⟨_, hu, .inl ⟨rfl, _, rfl⟩⟩
  · rename_i hu; cases hk; exact ⟨_, hu, .inr ⟨rfl, rfl⟩⟩
  · cases hk

theorem checkKey_ok {t : TypeId} {lk : LK} (hk : keyOk P t = some lk) (b : Bool) (n : Nat) (v : Value) : (Instr.checkKey b (n + 1) t v).run P w = .ok () w := by
  obtain ⟨d, hu, ⟨-, k, rfl⟩ | ⟨-, rfl⟩⟩ := keyOk_kind hk
  · simp [Instr.checkKey, run_underlying hu]
  · simp [Instr.checkKey, run_underlying hu]

theorem checkKey_ok' {t : TypeId} {lk : LK} (hk : keyOk P t = some lk) (b : Bool) (v : Value) : (Instr.checkKey b 10000 t v).run P w = .ok () w := checkKey_ok hk b 9999 v

theorem sameNow_ok {d : TypeDesc} {lk : LK} (hd : (lk = .int ∧ ∃ k, d = .int k) ∨ (lk = .str ∧ d = .string)) {x y : AV} {ux uy : Value} (hx : Conc M x ux) (hy : Conc M y uy) {b : Bool} (h : AV.eqK lk x y = some b) :
    Instr.sameNow d ux uy = some b := by
  unfold AV.eqK at h
  split at h
  · rename_i k n k' n'
    split at h
    · rename_i e; subst e
      cases h
      rw [conc_int hx, conc_int hy]
      rcases hd with ⟨-, k0, rfl⟩ | ⟨hh, -⟩
      · simp [Instr.sameNow]
      · cases hh
    · cases h
  · rcases hd with ⟨hh, -⟩ | ⟨hh, -⟩ <;> cases hh
  · rename_i s s'
    cases h
    rw [conc_str hx, conc_str hy]
    rcases hd with ⟨hh, -⟩ | ⟨-, rfl⟩
    · cases hh
    · simp only [Instr.sameNow, beq_toListBytes, ByteArray.toList_mk]
  · cases h

theorem findNow_ok {d : TypeDesc} {lk : LK} (hd : (lk = .int ∧ ∃ k, d = .int k) ∨ (lk = .str ∧ d = .string)) {x : AV} {ux : Value} (hx : Conc M x ux) :
    ∀ {es : List (AV × AV)} {ents : List MapEntry} {i : Nat} {r : Option (Nat × AV)}, ents.length = es.length →
      (∀ (j : Nat) (k v : AV), es[j]? = some (k, v) → ∃ en : MapEntry, ents[j]? = some en ∧ Conc M k en.key ∧ Conc M v en.val) → mfind lk x es i = some r →
      (r = none ∧ Instr.findNow d ux ents i = some none) ∨ ∃ j v u, r = some (i + j, v) ∧ Instr.findNow d ux ents i = some (some (i + j, u)) ∧ Conc M v u ∧
        ∃ k en, es[j]? = some (k, v) ∧ ents[j]? = some en ∧ AV.eqK lk x k = some true ∧ Conc M k en.key
  | [], [], i, r, _, _, h => by simp only [mfind] at h; cases h; exact .inl ⟨rfl, rfl⟩
  | [], _ :: _, _, _, hl, _, _ => by simp at hl
  | _ :: _, [], _, _, hl, _, _ => by simp at hl
  | (k, v) :: es, en :: ents, i, r, hl, hp, h => by
    obtain ⟨en', h0, hk, hv⟩ := hp 0 k v (by simp)
    simp at h0; subst h0
    simp only [mfind] at h
    split at h
    · rename_i he
      cases h
      have := sameNow_ok hd hx hk he
      exact .inr ⟨0, v, en.val, rfl, by simp [Instr.findNow, this], hv, k, en, by simp, by simp, he, hk⟩
    · rename_i he
      have := sameNow_ok hd hx hk he
      rcases findNow_ok hd hx (es := es) (ents := ents) (by simpa using hl) (fun j k v hj => hp (j + 1) k v (by simpa using hj)) h with ⟨rfl, q⟩ | ⟨j, v', u, rfl, q, qc, k', en', q1, q2, q3⟩
      · exact .inl ⟨rfl, by simp [Instr.findNow, this, q]⟩
      · refine .inr ⟨j + 1, v', u, by rw [show i + 1 + j = i + (j + 1) by omega], ?_, qc, k', en', by simpa using q1, by simpa using q2, q3⟩
        simp only [Instr.findNow, this]
        rw [q, show i + 1 + j = i + (j + 1) by omega]
    · cases h

theorem findKey_ok {kt : TypeId} {lk : LK} (hk : keyOk P kt = some lk) {x : AV} {ux : Value} (hx : Conc M x ux) {es : List (AV × AV)} {ents : Array MapEntry} (hl : ents.size = es.length)
    (hp : ∀ (j : Nat) (k v : AV), es[j]? = some (k, v) → ∃ en : MapEntry, ents[j]? = some en ∧ Conc M k en.key ∧ Conc M v en.val) {r : Option (Nat × AV)} (h : mfind lk x es 0 = some r) :
    (r = none ∧ (Instr.findKey kt ux ents.toList).run P w = .ok none w) ∨ ∃ j v u, r = some (j, v) ∧ (Instr.findKey kt ux ents.toList).run P w = .ok (some (j, u)) w ∧ Conc M v u ∧
        ∃ k en, es[j]? = some (k, v) ∧ ents[j]? = some en ∧ AV.eqK lk x k = some true ∧ Conc M k en.key := by
  obtain ⟨d, hu, hd⟩ := keyOk_kind hk
  rcases findNow_ok hd hx (es := es) (ents := ents.toList) (by simpa using hl) (by simpa using hp) h with ⟨rfl, q⟩ | ⟨j, v, u, rfl, q, qc, k, en, q1, q2, q3⟩
  · exact .inl ⟨rfl, by simp [Instr.findKey, run_underlying hu, q]⟩
  · refine .inr ⟨j, v, u, by simp, by simp [Instr.findKey, run_underlying hu, q], qc, k, en, q1, by simpa using q2, q3⟩

theorem lookup_ok (S : Sim w.heap M F A) {t kt el : TypeId} {lk : LK} {z : AV} (hu : P.underlying t = some (.map kt el)) (hk : keyOk P kt = some lk) (hz : zeroOf P el = some z) {ok : Bool} {m k v : AV} {um uk : Value}
    (hm : Conc M m um) (hkc : Conc M k uk)
    (h : alookup A lk z ok m k = some v) : ∃ u, (Instr.lookup t um uk ok).run P w = .ok u w ∧ Conc M v u := by
  obtain ⟨uz, hz1, hz2⟩ := run_zeroOf (P := P) w hz M
  obtain ⟨d, hkd, hkk⟩ := keyOk_kind hk
  have fin : ∀ (x : AV) (ux : Value) (b : Bool), Conc M x ux → Conc M (bif ok then .tup [x, .bool b] else x) (if ok then .tuple #[ux, .bool b] else ux) := by
    intro x ux b hx
    cases ok
    · simpa using hx
    · simp only [if_true, cond_true]; exact .tup (.cons hx (.cons (.bool _) .nil))
  cases m <;> simp only [alookup] at h <;> first | (cases h; done) | skip
  case nilm =>
    cases h
    cases hm
    refine ⟨_, ?_, fin z uz false hz2⟩
    have hc := checkKey_ok' (P := P) (w := w) hk true uk
    simp [Instr.lookup, run_underlying hu, hc, Instr.findKey, hkd, run_underlying hkd, Instr.findNow, hz1]
  case mp l =>
    split at h
    · rename_i es hA
      cases hm with
      | mp hD =>
        obtain ⟨-, hF, ents, clock, g1, g2, g3, g4⟩ := S.holds l _ hA
        have hg : (getObj (M.blk l)).run P w = .ok (.map ents clock) w := by simp [getObj, Sem.run, g1]
        have hc := checkKey_ok' (P := P) (w := w) hk ents.isEmpty uk
        split at h
        · rename_i j v' hf
          cases h
          rcases findKey_ok (P := P) (w := w) hk hkc g2 g3 hf with ⟨hh, -⟩ | ⟨j', v2, u, hh, q, qc, -⟩
          · cases hh
          · cases hh
            refine ⟨_, ?_, fin _ u true qc⟩
            simp [Instr.lookup, run_underlying hu, hg, hc, q]
        · rename_i hf
          cases h
          rcases findKey_ok (P := P) (w := w) hk hkc g2 g3 hf with ⟨-, q⟩ | ⟨j', v2, u, hh, q, qc, -⟩
          · refine ⟨_, ?_, fin z uz false hz2⟩
            simp [Instr.lookup, run_underlying hu, hg, hc, q, hz1]
          · cases hh
        · cases h
    · cases h

theorem rstep_ok (S : Sim w.heap M F A) {o : Oper} {io : IOp} (hc : cop P o = some io) {v : AV} (hs : rstep ρ A io = some v) (hρ : ConcL M ρ a.tmps.toList) : Quiet P M a w o v := by
  obtain ⟨dst, op, type, pos, after, guard⟩ := o
  cases op with
  | load t x =>
    simp only [cop] at hc
    split at hc
    · rename_i n y hn hy
      cases hc
      have e := copd_ok hy hρ
      simp only [rstep] at hs
      have hA : ∃ k r, rdN A (y.get ρ) k = some r := by
        cases n with
        | none =>
          simp only [aload] at hs
          split at hs
          · exact ⟨_, _, ‹_›⟩
          · cases hs
        | some n =>
          simp only [aload] at hs
          split at hs
          · exact ⟨_, _, ‹_›⟩
          · cases hs
      obtain ⟨k, r, hr⟩ := hA
      obtain ⟨⟨ad, had⟩, -, -⟩ := rdN_addr hr e
      rw [had] at e
      obtain ⟨u, h1, h2⟩ := loadVar_ok (P := P) S hn e (v := v) hs
      refine ⟨u, ?_, h2⟩
      simp [execOp, Instr.loadAt, had, Instr.sureAddr, h1]
    · cases hc
  | lookup t m k ok =>
    simp only [cop] at hc
    split at hc
    · rename_i kt el hu
      split at hc
      · rename_i lk z m' k' hk hz hm hkk
        cases hc
        simp only [rstep] at hs
        obtain ⟨u, h1, h2⟩ := lookup_ok (P := P) S hu hk hz (copd_ok hm hρ) (copd_ok hkk hρ) hs
        exact quiet_of w rfl h1 h2
      · cases hc
    · cases hc
  | call c =>
    obtain ⟨callee, args, argTypes⟩ := c
    cases callee with
    | value f =>
      simp only [cop] at hc
      split at hc
      · cases hc; simp [rstep] at hs
      · cases hc
    | invoke r m => simp [cop] at hc
    | builtin b =>
      cases b with
      | len =>
        simp only [cop] at hc
        split at hc
        · rename_i t ht
          split at hc
          · obtain ⟨y, hy, rfl⟩ := opt_map hc; simp [rstep] at hs
          · obtain ⟨y, hy, rfl⟩ := opt_map hc; simp [rstep] at hs
          · cases hc; simp [rstep] at hs
          · rename_i kt el x hu hx
            obtain ⟨y, hy, rfl⟩ := opt_map hc
            simp only [rstep] at hs
            have e := copd_ok hy hρ
            have ha : args.map a.eval = #[a.eval x] := by apply Array.ext'; simp [hx]
            generalize he : a.eval x = ux at e
            generalize y.get ρ = ay at e hs
            cases e <;> simp only [alenm] at hs <;> first | (cases hs; done) | skip
            · cases hs
              refine ⟨.int .i64 0, ?_, .int _ _⟩
              simp [execOp, resolve, invoke, builtin, ha, Builtin.len_, ht, run_underlying hu, goInt, he]
            · rename_i l hD
              split at hs
              · rename_i es hA
                cases hs
                obtain ⟨-, hF, ents, clock, g1, g2, g3, g4⟩ := S.holds l _ hA
                have hg : (getObj (M.blk l)).run P w = .ok (.map ents clock) w := by simp [getObj, Sem.run, g1]
                refine ⟨.int .i64 es.length, ?_, .int _ _⟩
                simp [execOp, resolve, invoke, builtin, ha, Builtin.len_, ht, run_underlying hu, goInt, he, hg, g2]
              · cases hs
          · cases hc
        · cases hc
      | min => obtain ⟨y, hy, rfl⟩ := opt_map hc; simp [rstep] at hs
      | max => obtain ⟨y, hy, rfl⟩ := opt_map hc; simp [rstep] at hs
      | append | copy | delete | clear =>
        simp only [cop] at hc
        repeat' (split at hc)
        all_goals first | (cases hc; done) | (cases hc; simp [rstep] at hs)
      | _ => simp [cop] at hc
  | makeFunc f x y =>
    cases f with
    | func f =>
      simp only [cop] at hc
      split at hc
      · cases hc; simp [rstep] at hs
      · cases hc
    | _ => simp [cop] at hc
  | _ =>
    first
    | (simp [cop] at hc; done)
    | (simp only [cop] at hc
       repeat' (split at hc)
       all_goals first | (cases hc; done) | (cases hc; simp [rstep] at hs; done) | (obtain ⟨y, hy, rfl⟩ := opt_map hc; simp [rstep] at hs))
end
end Go.SB
