/- Both disks go the same way. No condition. -/
import Derived.Test.YtdlgmddegldcjaaPart13
set_option linter.unusedVariables false
set_option linter.unusedSimpArgs false
namespace Go.WL.T5
open Go.WL Go.Proofs
def toP (r : Rk) : Pk := ⟨r.s ++ r.m, r.s.length, r.room, r.armed, r.dead, r.h⟩
def WFq (r : Rk) : Prop := WFr r ∧ (r.dead = false → r.h = [])
theorem wfk_of {r : Rk} (h : WFq r) : WFk (toP r) := by
  obtain ⟨⟨w1, w2, w3, w4, w5⟩, _⟩ := h
  refine ⟨w1, w2, ?_, ?_, ?_, w4, w5⟩
  · show (((r.s ++ r.m).length : Nat) : Int) ≤ r.room
    rw [List.length_append]; omega
  · show (0 : Int) ≤ (r.s.length : Int)
    omega
  · show ((r.s.length : Nat) : Int) ≤ (((r.s ++ r.m).length : Nat) : Int)
    rw [List.length_append]; omega
theorem step_to (r : Rk) : stepP (toP r) = (toP (stepR r).1, (stepR r).2) := by
  unfold stepP stepR toP
  simp only
  split
  · rfl
  · split <;> rfl
theorem app_to (r : Rk) (x : List UInt8) : appP (toP r) x = (toP (appR r x).1, (appR r x).2) := by
  unfold appP appR
  rw [step_to]
  obtain ⟨s, m, h, room, armed, dead⟩ := r
  have hl : (s ++ m).length = s.length + m.length := List.length_append
  simp only [toP, hl]
  by_cases h1 : dead = true
  · rw [if_pos h1, if_pos h1]
  rw [if_neg h1, if_neg h1]
  by_cases h2 : room - s.length - m.length < x.length
  · rw [if_pos h2, if_pos (by omega)]
  rw [if_neg h2, if_neg (by omega)]
  by_cases h3 : x = []
  · rw [if_pos h3, if_pos h3]
  rw [if_neg h3, if_neg h3]
  unfold stepR
  simp only
  split <;> (try split) <;> simp_all
theorem sync_to (r : Rk) : syncP (toP r) = (toP (syncR r).1, (syncR r).2) := by
  unfold syncP syncR
  rw [step_to]
  obtain ⟨s, m, h, room, armed, dead⟩ := r
  have hl : (s ++ m).length = s.length + m.length := List.length_append
  simp only [toP, hl]
  by_cases h1 : dead = true
  · rw [if_pos h1, if_pos h1]
  rw [if_neg h1, if_neg h1]
  unfold stepR
  simp only
  split <;> (try split) <;> simp_all
theorem cut_to (r : Rk) (n : Int) : cutP (toP r) n = (toP (cutR r n).1, (cutR r n).2) := by
  unfold cutP cutR
  rw [step_to]
  obtain ⟨s, m, h, room, armed, dead⟩ := r
  have hl : (s ++ m).length = s.length + m.length := List.length_append
  simp only [toP, hl]
  by_cases h1 : dead = true
  · rw [if_pos h1, if_pos h1]
  rw [if_neg h1, if_neg h1]
  by_cases h2 : n < 0 ∨ ((s.length + m.length : Nat) : Int) < n
  · rw [if_pos h2, if_pos h2]
  rw [if_neg h2, if_neg h2]
  have hn : (n.toNat : Int) = n := by omega
  have hk : ((List.take n.toNat (s ++ m)).length : Int) = n := by rw [List.length_take, hl]; omega
  unfold stepR
  simp only
  split <;> (try split) <;> simp_all
theorem crash_to (r : Rk) (n : Int) : crashP (toP r) n = toP (crashRr r n) := by
  obtain ⟨s, m, h, room, armed, dead⟩ := r
  unfold crashP crashRr toP
  simp only
  have e1 : ((s ++ m ++ h).length : Int) - s.length = ((m ++ h).length : Int) := by
    rw [List.append_assoc, List.length_append]; omega
  rw [e1]
  obtain ⟨j, hj⟩ : ∃ j : Nat, min (max n 0) ((m ++ h).length : Int) = (j : Int) := ⟨(min (max n 0) ((m ++ h).length : Int)).toNat, by omega⟩
  have hj2 : j ≤ (m ++ h).length := by omega
  rw [hj]
  have e2 : (((s.length : Nat) : Int) + (j : Int)).toNat = s.length + j := by omega
  rw [e2, Int.toNat_natCast, List.append_assoc, List.take_append, List.take_of_length_le (by omega), Nat.add_sub_cancel_left]
  simp only [List.append_nil, List.length_append, List.length_take] at *
  rw [Nat.min_eq_left (by omega)]
  congr 1
end Go.WL.T5
