/- Framework, part Sd: numbering anew behind the frame rule. Conditions: none. -/
import Derived.Test.YtkkccabchhnebaaFwSc
set_option linter.unusedVariables false
set_option linter.unusedSimpArgs false
namespace Go.SB

mutual
theorem AV.ren_rn (f : Nat → Option Nat) (h : Nat → Nat) : ∀ (v : AV), AV.ren f (AV.ren (rn h) v) = AV.ren (fun l => f (h l)) v
  | .int _ _ | .bool _ | .str _ | .nilp | .nils | .nilm | .nilf | .nili | .es | .raw _ | .any => rfl
  | .ptr l o => rfl
  | .eptr l i o => rfl
  | .sl l z lo n t => rfl
  | .mp l => rfl
  | .fn g a b => by simp only [AV.ren, AV.renL_rn f h a, AV.renL_rn f h b]
  | .ifc t x => by simp only [AV.ren, AV.ren_rn f h x]
  | .agg cs => by simp only [AV.ren, AV.renL_rn f h cs]
  | .tup cs => by simp only [AV.ren, AV.renL_rn f h cs]
  | .pp cs => by simp only [AV.ren, AV.renL_rn f h cs]
  | .ps z xs => by simp only [AV.ren, AV.renLL_rn f h xs]
theorem AV.renL_rn (f : Nat → Option Nat) (h : Nat → Nat) : ∀ (vs : List AV), AV.renL f (AV.renL (rn h) vs) = AV.renL (fun l => f (h l)) vs
  | [] => rfl
  | v :: vs => by simp only [AV.renL, AV.ren_rn f h v, AV.renL_rn f h vs]
theorem AV.renLL_rn (f : Nat → Option Nat) (h : Nat → Nat) : ∀ (vs : List (List AV)), AV.renLL f (AV.renLL (rn h) vs) = AV.renLL (fun l => f (h l)) vs
  | [] => rfl
  | v :: vs => by simp only [AV.renLL, AV.renL_rn f h v, AV.renLL_rn f h vs]
end
theorem AO.ren_rn (f : Nat → Option Nat) (h : Nat → Nat) (o : AO) : AO.ren f (AO.ren (rn h) o) = AO.ren (fun l => f (h l)) o := by
  cases o with
  | cells vs => simp only [AO.ren, List.map_map]; congr 1; exact List.map_congr_left fun v _ => AV.ren_rn f h v
  | arr es => simp only [AO.ren, List.map_map]; congr 1; exact List.map_congr_left fun e _ => by simp only [Function.comp, List.map_map]; exact List.map_congr_left fun v _ => AV.ren_rn f h v
  | map es => simp only [AO.ren, List.map_map]; congr 1; exact List.map_congr_left fun e _ => by simp only [Function.comp, AV.ren_rn]
  | opq R => rfl
  | dead => rfl

theorem idxOf_map {h : Nat → Nat} (hi : ∀ a b, h a = h b → a = b) (k : Nat) : ∀ (ks : List Nat), (ks.map h).idxOf? (h k) = ks.idxOf? k
  | [] => rfl
  | x :: xs => by
    rw [List.map_cons, idxOf_cons, idxOf_cons, idxOf_map hi k xs]
    by_cases e : x = k
    · rw [if_pos e, if_pos (by rw [e])]
    · rw [if_neg e, if_neg (fun h => e (hi _ _ h))]
theorem okKeep_iff {ks : List Nat} : okKeep 0 ks = true ↔ ks.Nodup := by
  refine ⟨fun h => (okKeep_spec h).1, ?_⟩
  induction ks with
  | nil => intro _; rfl
  | cons k ks ih =>
    intro h
    obtain ⟨h1, h2⟩ := List.nodup_cons.1 h
    simp [okKeep, ih h2, h1]
/-- What was kept of the small heap can be kept of the great one. -/
theorem fold_frame {js ks : List Nat} {A B : AHeap} (hnd : js.Nodup) (hlt : ∀ j ∈ js, j < B.length) (hlen : js.length ≤ A.length) :
    foldA 0 (ks.map (place js B.length)) (putAll (rn (place js B.length)) B js A) = foldA 0 ks A := by
  have hinj : ∀ a b, place js B.length a = place js B.length b → a = b := fun a b h => place_inj hnd hlt h
  unfold foldA
  simp only [List.take_zero, List.nil_append, List.map_map]
  refine List.map_congr_left fun k _ => ?_
  simp only [Function.comp]
  have hget : (putAll (rn (place js B.length)) B js A)[place js B.length k]? = (A[k]?).map fun o => o.map (AO.ren (rn (place js B.length))) := by
    rw [putAll_get _ js B A hnd hlt hlen]
    by_cases hk : k < js.length
    · have hp : place js B.length k = js[k] := by unfold place; rw [if_pos hk]; simp [List.getD, hk]
      rw [hp, if_pos (hlt _ (List.getElem_mem hk))]
      have this : js.idxOf? js[k] = some k := by
        have hup := unplace_place (top := B.length) hnd hlt k
        rw [hp] at hup
        unfold unplace at hup
        rwa [if_pos (hlt _ (List.getElem_mem hk))] at hup
      rw [this]
    · have hp : place js B.length k = B.length + (k - js.length) := by unfold place; rw [if_neg hk]
      rw [hp, if_neg (by omega)]
      congr 2
      omega
  rw [hget]
  cases A[k]? with
  | none => rfl
  | some o =>
    cases o with
    | none => rfl
    | some o =>
      simp only [Option.map_some, Option.join_some]
      rw [AO.ren_rn]
      congr 2
      funext l
      unfold fnew
      simp only [Nat.not_lt_zero, if_false]
      rw [idxOf_map hinj]
end Go.SB
