/- QfF, put together. Conditions: none. -/
import Derived.Test.YtapoilcpollmpaaNQfE
/- ring: what is in it. -/
section
namespace Go.Proofs.Ytapoilcpollmpaa
open Go.SB
set_option linter.unusedSimpArgs false

/-- What is in it, the first ahead. -/
def Rg.all (r : Rg) : List Fr := (List.range r.many.toNat).map fun i => r.cells.getD ((r.frm.toNat + i) % r.cells.length) Fr.zero
theorem Rg.all_len (r : Rg) : r.all.length = r.many.toNat := by simp [Rg.all]
theorem tmN {a : Int} {n : Nat} (ha : 0 ≤ a) : (a.tmod n).toNat = a.toNat % n := by
  obtain ⟨m, rfl⟩ : ∃ m : Nat, a = m := ⟨a.toNat, by omega⟩
  rw [Int.tmod_eq_emod_of_nonneg ha, Int.toNat_natCast]
  exact Int.toNat_natCast (m % n)
theorem put_ok' {r : Rg} (h : RgOk r) (f : Fr) (hl : r.lost < 1099511627776) : RgOk (r.put f) := by
  have hc := h.c
  have hf := h.f
  have hm := h.m
  have hlo := h.l
  unfold Rg.put
  split
  · exact ⟨hc, hf, hm, by simp only []; omega⟩
  · exact ⟨by simpa using hc, by simpa using hf, by simp only [List.length_set]; omega, hlo⟩
theorem take_ok' {r : Rg} (h : RgOk r) : RgOk r.take := by
  have hc := h.c
  have hf := h.f
  have hm := h.m
  unfold Rg.take
  split
  · exact h
  · refine ⟨hc, ?_, by simp only []; omega, h.l⟩
    simp only []
    obtain ⟨p, hp, e⟩ := tm_lt hc.1 (show 0 ≤ r.frm + 1 by omega)
    rw [e]; omega
theorem put_len {r : Rg} (f : Fr) : (r.put f).cells.length = r.cells.length := by unfold Rg.put; split <;> simp
theorem put_all {r : Rg} (h : RgOk r) (f : Fr) : (r.put f).all = if r.many = r.cells.length then r.all else r.all ++ [f] := by
  have hc := h.c
  have hf := h.f
  have hm := h.m
  by_cases hfull : r.many = r.cells.length
  · rw [if_pos hfull]
    simp only [Rg.put, if_pos hfull, Rg.all]
  · rw [if_neg hfull]
    simp only [Rg.put, if_neg hfull, Rg.all, List.length_set]
    rw [show (r.many + 1).toNat = r.many.toNat + 1 by omega, List.range_succ, List.map_append, tmN (by omega), show (r.frm + r.many).toNat = r.frm.toNat + r.many.toNat by omega]
    have hlt : (r.frm.toNat + r.many.toNat) % r.cells.length < r.cells.length := Nat.mod_lt _ hc.1
    congr 1
    · refine List.map_congr_left fun i hi => ?_
      have hi := List.mem_range.1 hi
      have hne : (r.frm.toNat + r.many.toNat) % r.cells.length ≠ (r.frm.toNat + i) % r.cells.length := fun e => by
        have e1 : (r.many.toNat - i) % r.cells.length = 0 := by
          have := Nat.sub_mod_eq_zero_of_mod_eq e
          rwa [show r.frm.toNat + r.many.toNat - (r.frm.toNat + i) = r.many.toNat - i by omega] at this
        rw [Nat.mod_eq_of_lt (by omega)] at e1
        omega
      simp only [List.getD]
      rw [List.getElem?_set_ne hne]
    · simp only [List.map_cons, List.map_nil, List.getD]
      rw [List.getElem?_set_self hlt]; rfl
theorem take_all {r : Rg} (h : RgOk r) (hm0 : r.many ≠ 0) : r.all = r.first :: r.take.all := by
  have hc := h.c
  have hf := h.f
  have hm := h.m
  unfold Rg.first Rg.take
  rw [if_neg hm0, if_neg hm0]
  unfold Rg.all
  simp only []
  rw [show r.many.toNat = (r.many - 1).toNat + 1 by omega, List.range_succ_eq_map, List.map_cons, List.map_map]
  congr 1
  · rw [Nat.add_zero, Nat.mod_eq_of_lt (by omega)]
  · refine List.map_congr_left fun i _ => ?_
    simp only [Function.comp_apply]
    rw [tmN (by omega), show (r.frm + 1).toNat = r.frm.toNat + 1 by omega, Nat.mod_add_mod, show r.frm.toNat + 1 + i = r.frm.toNat + i.succ by omega]
theorem take0 {r : Rg} (h : r.many = 0) : r.take = r := by unfold Rg.take; rw [if_pos h]
theorem take_lost {r : Rg} : r.take.lost = r.lost := by unfold Rg.take; split <;> rfl
theorem take_many {r : Rg} : r.take.many = if r.many = 0 then 0 else r.many - 1 := by unfold Rg.take; split <;> simp_all
theorem put_lost {r : Rg} (f : Fr) : (r.put f).lost = if r.many = r.cells.length then r.lost + 1 else r.lost := by unfold Rg.put; split <;> rfl
theorem new_ok' (n : Int) : RgOk (Rg.new n) := by
  have := roomI_b n
  exact ⟨by simp [Rg.new]; omega, by simp [Rg.new]; omega, by simp [Rg.new]; omega, by simp [Rg.new]⟩
theorem new_all (n : Int) : (Rg.new n).all = [] := rfl
end Go.Proofs.Ytapoilcpollmpaa
end
