/- HcC, put together. Conditions: none. -/
import Derived.Test.YtapoilcpollmpaaNHcB
/- Framework, part HcC: the blocks that are read out of a region do what the region does. -/
section
set_option linter.unusedVariables false
set_option linter.unusedSimpArgs false
namespace Go.SB

def hasGd (σ : List Ent) (gd : Option (Nat × Bool)) (i : Nat) : Bool := match entOf σ i with | some n => n.gd == gd | none => false
def demG (σ : List Ent) (gd : Option (Nat × Bool)) (ts : List Nat) : List Nat := ts.filter (hasGd σ gd)
def demT (σ : List Ent) (gd : Option (Nat × Bool)) : Opd → List Nat
  | .t i => demG σ gd [i]
  | .c _ => []
/-- The entries without which the operation has no value. -/
def demOp (σ : List Ent) (o : IOper) : List Nat :=
  match o.op with
  | .mv x => demT σ o.guard x
  | .pick (.t c) a b => bif o.guard.isNone || hasGd σ o.guard c then demG σ o.guard [c] ++ demT σ (some (c, true)) a ++ demT σ (some (c, false)) b else []
  | op => demG σ o.guard (tempsOf op)
def dems (σ : List Ent) (o : IOper) : List Nat := (match o.guard with | some (t, _) => (match entOf σ t with | some _ => [t] | none => []) | none => []) ++ demOp σ o

def inf : HE → Bool
  | .v _ | .c _ => true
  | _ => false

def asOf (V : List Nat) (σ : List Ent) : List (Nat × HE) := V.zipIdx.filterMap fun (t, j) => (entOf σ t).map fun n => (j, n.e)
def rqOf (V : List Nat) (σ : List Ent) (D : List Nat) : List HE := (σ.filter fun n => !D.contains n.t && !V.contains n.t).map (·.e)
def blk (V : List Nat) (σ : List Ent) (D : List Nat) (f : Option HF) : HS := ⟨asOf V σ, rqOf V σ D, f⟩

def ckOf (V : List Nat) : List IOper → Option (List (HE × Nat))
  | [] => some []
  | c :: cs => match mkEnt V [] c, ckOf V cs with
    | some n, some l => (match V.idxOf? n.t with | some j => some ((n.e, j) :: l) | none => none)
    | _, _ => none

def mkF (V : List Nat) (σ : List Ent) (o : IOper) (cks : List IOper) : Option HF :=
  match lookL V σ o.guard (tempsOf o.op), ckOf V cks with
  | some xs, some ck => match o.guard with
    | none => some ⟨o.dst.bind fun d => V.idxOf? d, none, o.slot, o.op.mapO (reIdx (tempsOf o.op)), xs, ck⟩
    | some (t, w) => match lookE V σ (.t t) with
      | some c => some ⟨o.dst.bind fun d => V.idxOf? d, some (c, w), o.slot, o.op.mapO (reIdx (tempsOf o.op)), xs, ck⟩
      | none => none
  | _, _ => none

def pureOp (op : IOp) : Bool := match op.cls with | .pure | .read => true | _ => false

def dstOk (o : IOper) (N : Nat) : Bool := match o.dst with | some d => Nat.blt d N | none => true

def decOps (V : List Nat) (N : Nat) : List (IOper × List IOper) → List Ent → List Nat → Option (List HS)
  | [], σ, D => some (match σ with | [] => [] | _ => [blk V σ D none])
  | (o, cks) :: os, σ, D => match pureOp o.op with
    | true => match mkEnt V σ o with
      | some n => bif newT σ n.t o.guard && Nat.blt n.t N && !D.contains n.t && !(dems σ o).contains n.t then decOps V N os (n :: σ) ((bif inf n.e then [n.t] else []) ++ dems σ o ++ D) else none
      | none => none
    | false => match mkF V σ o cks with
      | some f => bif dstOk o N then (match decOps V N os [] [] with
        | some ss => some (blk V σ (dems σ o ++ D) (some f) :: ss)
        | none => none) else none
      | none => none

section
variable {P : Program} {V : List Nat} {N : Nat} {ρ' ρ : List AV} {A : AHeap} {σ : List Ent} {p0 : Nat}

def Suc (ρ' : List AV) (A : AHeap) (e : HE) : Prop := ∃ v, hev ρ' A e = some v

/-- How an entry's expression is made of what stands under its guard. -/
def Str (V : List Nat) (σ : List Ent) : Prop := ∀ i n, entOf σ i = some n → (n.gd = none → n.x = n.e) ∧ ∀ t w, n.gd = some (t, w) → ∃ c, lookE V σ (.t t) = some c ∧ n.e = .g c w n.x

theorem suc_g {c x : HE} {w : Bool} : Suc ρ' A (.g c w x) ↔ (∃ b, hev ρ' A c = some (.bool b) ∧ (b = w → Suc ρ' A x)) ∨ ∃ vs, hev ρ' A c = some (.tup vs) := by
  unfold Suc
  constructor
  · rintro ⟨v, hv⟩
    simp only [hev] at hv
    split at hv
    · rename_i b hb
      refine .inl ⟨b, hb, fun e => ?_⟩
      rw [if_pos e] at hv; exact ⟨v, hv⟩
    · rename_i vs hb; exact .inr ⟨vs, hb⟩
    · cases hv
  · rintro (⟨b, hb, hx⟩ | ⟨vs, hb⟩)
    · by_cases e : b = w
      · obtain ⟨v, hv⟩ := hx e
        exact ⟨v, by simp only [hev, hb]; rw [if_pos e, hv]⟩
      · exact ⟨.tup [], by simp only [hev, hb]; rw [if_neg e]⟩
    · exact ⟨.tup [], by simp only [hev, hb]⟩

theorem suc_i {c x y : HE} (h : Suc ρ' A (.i c x y)) : (hev ρ' A c = some (.bool true) ∧ Suc ρ' A x) ∨ (hev ρ' A c = some (.bool false) ∧ Suc ρ' A y) := by
  obtain ⟨v, hv⟩ := h
  simp only [hev] at hv
  split at hv
  · rename_i hb; exact .inl ⟨hb, v, hv⟩
  · rename_i hb; exact .inr ⟨hb, v, hv⟩
  · cases hv

theorem hasGd_spec {gd : Option (Nat × Bool)} {i : Nat} (h : hasGd σ gd i = true) : ∃ n, entOf σ i = some n ∧ n.gd = gd := by
  unfold hasGd at h
  split at h
  · rename_i n hn; exact ⟨n, hn, by simpa using h⟩
  · cases h

/-- What stands for it under the guard. -/
def Ent.y (n : Ent) (gd : Option (Nat × Bool)) : HE := bif gd.isSome then n.x else n.e

theorem lookG_gd {gd : Option (Nat × Bool)} {i : Nat} {n : Ent} (hn : entOf σ i = some n) (hg : n.gd = gd) : lookG V σ gd (.t i) = some (n.y gd) := by
  simp only [lookG, hn, Ent.y]
  subst hg
  simp

theorem lookL_suc {gd : Option (Nat × Bool)} : ∀ {ts : List Nat} {xs : List HE}, lookL V σ gd ts = some xs → (∃ vs, hevL ρ' A xs = some vs) → ∀ i ∈ ts, hasGd σ gd i = true → ∀ m, entOf σ i = some m → Suc ρ' A (m.y gd)
  | [], _, _, _, i, hi, _, _, _ => by cases hi
  | t :: ts, xs, h, hs, i, hi, hg, m, hm => by
    simp only [lookL] at h
    split at h
    · rename_i x ys hx hy
      cases h
      obtain ⟨vs, hvs⟩ := hs
      simp only [hevL] at hvs
      split at hvs
      · rename_i v hv
        split at hvs
        · rename_i vs' hvs'
          rcases List.mem_cons.1 hi with e | e
          · subst e
            obtain ⟨n, hn, hgd⟩ := hasGd_spec hg
            rw [hm] at hn; cases hn
            rw [lookG_gd hm hgd] at hx
            cases hx
            exact ⟨v, hv⟩
          · exact lookL_suc hy ⟨_, hvs'⟩ i e hg m hm
        · cases hvs
      · cases hvs
    · cases h

/-- From what stands under the guard to the whole. -/
theorem suc_full (hS : Str V σ) {gd : Option (Nat × Bool)} {m : Ent} {i : Nat} (hm : entOf σ i = some m) (hgd : m.gd = gd)
    (h : ∀ t w c, gd = some (t, w) → lookE V σ (.t t) = some c → Suc ρ' A (.g c w m.x)) (h0 : gd = none → Suc ρ' A (m.y gd)) : Suc ρ' A m.e := by
  obtain ⟨h1, h2⟩ := hS i m hm
  cases gd with
  | none => simpa [Ent.y] using h0 rfl
  | some tw =>
    obtain ⟨t, w⟩ := tw
    obtain ⟨c, hc, he⟩ := h2 t w hgd
    rw [he]
    exact h t w c rfl hc

theorem demG_mem {gd : Option (Nat × Bool)} {ts : List Nat} {i : Nat} : i ∈ demG σ gd ts ↔ i ∈ ts ∧ hasGd σ gd i = true := by
  unfold demG; rw [List.mem_filter]

/-- Under one guard: whoever the whole needs. -/
theorem gd_suc (hS : Str V σ) {gd : Option (Nat × Bool)} {x : HE} {i : Nat} {m : Ent} (hm : entOf σ i = some m) (hg : hasGd σ gd i = true)
    (hx : gd = none → Suc ρ' A x) (hx' : ∀ t w c, gd = some (t, w) → lookE V σ (.t t) = some c → Suc ρ' A (.g c w x)) (hy : Suc ρ' A x → Suc ρ' A (m.y gd)) : Suc ρ' A m.e := by
  obtain ⟨n, hn, hgd⟩ := hasGd_spec hg
  rw [hm] at hn; cases hn
  refine suc_full hS hm hgd (fun t w c h1 h2 => ?_) (fun h0 => hy (hx h0))
  have := hx' t w c h1 h2
  rw [suc_g] at this ⊢
  rcases this with ⟨b, hb, hbx⟩ | ht
  · refine .inl ⟨b, hb, fun e => ?_⟩
    have := hy (hbx e)
    subst h1
    simpa [Ent.y] using this
  · exact .inr ht

theorem genE_suc {gd : Option (Nat × Bool)} {op : IOp} {x : HE} (h : genE V σ gd op = some x) (hx : Suc ρ' A x) {i : Nat} (hi : i ∈ tempsOf op) (hg : hasGd σ gd i = true) {m : Ent} (hm : entOf σ i = some m) : Suc ρ' A (m.y gd) := by
  unfold genE at h
  cases hl : lookL V σ gd (tempsOf op) with
  | none => rw [hl] at h; cases h
  | some xs =>
    rw [hl] at h; cases h
    obtain ⟨v, hv⟩ := hx
    simp only [hev] at hv
    split at hv
    · rename_i vs hvs; exact lookL_suc hl ⟨vs, hvs⟩ i hi hg m hm
    · cases hv

theorem dem_suc (hS : Str V σ) {o : IOper} {x : HE} (h : mkE V σ o.guard o.op = some x) (hx : o.guard = none → Suc ρ' A x)
    (hx' : ∀ t w c, o.guard = some (t, w) → lookE V σ (.t t) = some c → Suc ρ' A (.g c w x)) {i : Nat} (hi : i ∈ demOp σ o) {m : Ent} (hm : entOf σ i = some m) : Suc ρ' A m.e := by
  unfold demOp at hi
  unfold mkE at h
  split at hi
  · rename_i y hop
    rw [hop] at h
    simp only [] at h
    cases y with
    | c a => cases hi
    | t k =>
      simp only [demT, demG_mem, List.mem_cons, List.not_mem_nil, or_false] at hi
      obtain ⟨rfl, hg⟩ := hi
      refine gd_suc hS hm hg hx hx' fun hxs => ?_
      obtain ⟨n, hn, hgd⟩ := hasGd_spec hg
      rw [hm] at hn; cases hn
      rw [lookG_gd hm hgd] at h
      cases h; exact hxs
  · rename_i c a b hop
    rw [hop] at h
    simp only [] at h
    split at h
    · rename_i c' a' b' hc ha hb
      cases h
      cases hcond : (o.guard.isNone || hasGd σ o.guard c) with
      | false => rw [hcond] at hi; cases hi
      | true =>
        rw [hcond] at hi
        simp only [cond_true, List.mem_append] at hi
        have hself : i ∈ demG σ o.guard [c] → Suc ρ' A m.e := by
          intro hi
          simp only [demG_mem, List.mem_cons, List.not_mem_nil, or_false] at hi
          obtain ⟨rfl, hg⟩ := hi
          refine gd_suc hS hm hg hx hx' fun hxs => ?_
          obtain ⟨n, hn, hgd⟩ := hasGd_spec hg
          rw [hm] at hn; cases hn
          rw [lookG_gd hm hgd] at hc
          cases hc
          rcases suc_i hxs with ⟨hh, _⟩ | ⟨hh, _⟩ <;> exact ⟨_, hh⟩
        -- the part that is asked under c
        have part : ∀ (w : Bool) (q : Opd) (q' : HE), lookP V σ o.guard (c, w) q = some q' → (∀ {e : HE}, Suc ρ' A (.i e a' b') → (hev ρ' A e = some (.bool w) ∧ Suc ρ' A q') ∨ hev ρ' A e = some (.bool (!w))) → i ∈ demT σ (some (c, w)) q → Suc ρ' A m.e := by
          intro w q q' hq hiq hi
          cases q with
          | c v => cases hi
          | t k =>
            simp only [demT, demG_mem, List.mem_cons, List.not_mem_nil, or_false] at hi
            obtain ⟨rfl, hg⟩ := hi
            obtain ⟨n, hn, hgd⟩ := hasGd_spec hg
            rw [hm] at hn; cases hn
            simp only [lookP, hm, hgd, if_true] at hq
            cases hq
            obtain ⟨_, h2⟩ := hS i m hm
            obtain ⟨ec, hec, hme⟩ := h2 c w hgd
            rw [hme, suc_g]
            have fin : ∀ {e : HE}, hev ρ' A ec = hev ρ' A e → Suc ρ' A (.i e a' b') → (∃ b, hev ρ' A ec = some (.bool b) ∧ (b = w → Suc ρ' A m.x)) ∨ ∃ vs, hev ρ' A ec = some (.tup vs) := by
              intro e he hs
              rcases hiq hs with ⟨q1, q2⟩ | q1
              · exact .inl ⟨w, he.trans q1, fun _ => q2⟩
              · exact .inl ⟨!w, he.trans q1, fun e => by cases w <;> cases e⟩
            cases hgo : o.guard with
            | none =>
              rw [hgo] at hc
              have : lookG V σ none (.t c) = lookE V σ (.t c) := by
                simp only [lookG, lookE]
                split <;> simp
              rw [this, hec] at hc
              cases hc
              exact fin rfl (hx hgo)
            | some tw =>
              obtain ⟨t, w'⟩ := tw
              rw [hgo] at hcond
              simp only [Option.isNone_some, Bool.false_or] at hcond
              obtain ⟨mc, hmc, hmcg⟩ := hasGd_spec hcond
              obtain ⟨_, h2⟩ := hS c mc hmc
              obtain ⟨et, het, hmce⟩ := h2 t w' hmcg
              rw [hgo, lookG_gd hmc hmcg] at hc
              simp only [Ent.y, Option.isSome_some, cond_true, Option.some.injEq] at hc
              simp only [lookE, hmc, Option.some.injEq] at hec
              have := hx' t w' et hgo het
              rw [suc_g] at this
              rcases this with ⟨b, hb, hbx⟩ | ⟨vs, hb⟩
              · by_cases e : b = w'
                · refine fin (e := c') ?_ (hbx e)
                  rw [← hec, hmce, ← hc]; simp only [hev, hb]; rw [if_pos e]
                · refine .inr ⟨[], ?_⟩
                  rw [← hec, hmce]; simp only [hev, hb]; rw [if_neg e]
              · refine .inr ⟨[], ?_⟩
                rw [← hec, hmce]; simp only [hev, hb]
        rcases hi with (hi | hi) | hi
        · exact hself hi
        · exact part true a a' ha (fun {e} hs => by rcases suc_i hs with h | h; exact .inl h; exact .inr h.1) hi
        · exact part false b b' hb (fun {e} hs => by rcases suc_i hs with h | h; exact .inr h.1; exact .inl h) hi
    · cases h
  · rename_i op h1 h2
    rw [demG_mem] at hi
    have hge : genE V σ o.guard o.op = some x := by
      split at h
      · rename_i y he; exact absurd he (h1 y)
      · rename_i c a b he; exact absurd he (h2 c a b)
      · exact h
    exact gd_suc hS hm hi.2 hx hx' fun hxs => genE_suc hge hxs hi.1 hi.2 hm

theorem mkEnt_suc (hS : Str V σ) {o : IOper} {n : Ent} (h : mkEnt V σ o = some n) (hn : Suc ρ' A n.e) {i : Nat} (hi : i ∈ dems σ o) {m : Ent} (hm : entOf σ i = some m) : Suc ρ' A m.e := by
  unfold dems at hi
  unfold mkEnt at h
  split at h
  · cases h
  rename_i d hd
  split at h
  · rename_i hg
    cases hx : mkE V σ none o.op with
    | none => rw [hx] at h; cases h
    | some x =>
      rw [hx] at h; cases h
      rw [hg] at hi
      simp only [List.nil_append] at hi
      refine dem_suc hS (by rw [hg]; exact hx) (fun _ => hn) (fun t w c h => by rw [hg] at h; cases h) hi hm
  · rename_i t w hg
    split at h
    · rename_i c x hc hx
      cases h
      rw [hg] at hi
      simp only [List.mem_append] at hi
      rcases hi with hi | hi
      · split at hi
        · rename_i n' hn'
          simp only [List.mem_cons, List.not_mem_nil, or_false] at hi
          subst hi
          rw [hm] at hn'; cases hn'
          simp only [lookE, hm, Option.some.injEq] at hc
          rw [hc]
          rw [suc_g] at hn
          rcases hn with ⟨b, hb, _⟩ | ⟨vs, hb⟩ <;> exact ⟨_, hb⟩
        · cases hi
      · refine dem_suc hS (by rw [hg]; exact hx) (fun h => by rw [hg] at h; cases h) (fun t' w' c' h hc' => ?_) hi hm
        rw [hg] at h; cases h
        rw [hc] at hc'; cases hc'
        exact hn
    · cases h
end
end Go.SB
end
