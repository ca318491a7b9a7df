/- Both disks go the same way: acts. No condition. -/
import Derived.Test.YtdlgmddegldcjaaPart14
import Derived.Test.YtdlgmddegldcjaaPart15
set_option linter.unusedVariables false
set_option linter.unusedSimpArgs false
namespace Go.WL.T5
open Go.WL Go.Proofs
theorem do_to (r : Rk) (d : Int) (B : List UInt8) (n : Int) : doP (toP r) d B n = toP (doR r d B n) := by
  unfold doP doR
  rw [app_to, sync_to, cut_to, crash_to]
  by_cases h0 : d = 0
  · rw [if_pos h0, if_pos h0]
  rw [if_neg h0, if_neg h0]
  by_cases h1 : d = 1
  · rw [if_pos h1, if_pos h1]
  rw [if_neg h1, if_neg h1]
  by_cases h2 : d = 2
  · rw [if_pos h2, if_pos h2]
  rw [if_neg h2, if_neg h2]
  by_cases h3 : d = 3
  · rw [if_pos h3, if_pos h3]
    have : max n (-1) = if n < 0 then -1 else n := by split <;> omega
    rw [this]
    rfl
  rw [if_neg h3, if_neg h3]
  split <;> rfl
theorem ok_to (r : Rk) (d : Int) (B : List UInt8) (n : Int) : doOk (toP r) r d B n = true := by
  unfold doOk
  rw [app_to, sync_to, cut_to]
  simp
theorem wfq_step {r : Rk} (h : WFr r) : WFr (stepR r).1 := by
  obtain ⟨w1, w2, w3, w4, w5⟩ := h
  unfold stepR
  split
  · exact ⟨w1, w2, w3, w4, w5⟩
  · split
    · exact ⟨w1, w2, w3, by show -1 ≤ r.armed - 1; omega, by show r.armed - 1 < _; omega⟩
    · exact ⟨w1, w2, w3, w4, w5⟩
theorem step_alive (r : Rk) : (stepR r).2 = true → (stepR r).1.dead = r.dead := by
  unfold stepR
  split
  · intro e; cases e
  · split <;> intro _ <;> rfl
theorem step_dead (r : Rk) : ¬ (stepR r).2 = true → (stepR r).1.dead = true := by
  unfold stepR
  split
  · intro _; rfl
  · split <;> intro e <;> exact absurd rfl e
theorem step_f (r : Rk) : (stepR r).1.s = r.s ∧ (stepR r).1.m = r.m ∧ (stepR r).1.h = r.h ∧ (stepR r).1.room = r.room := by
  unfold stepR
  split
  · exact ⟨rfl, rfl, rfl, rfl⟩
  · split <;> exact ⟨rfl, rfl, rfl, rfl⟩
theorem wfq_do {r : Rk} {d : Int} {B : List UInt8} {n : Int} (h : WFq r) (hn : n < 9223372036854775808) : WFq (doR r d B n) := by
  obtain ⟨hw, hd⟩ := h
  have hs := wfq_step hw
  obtain ⟨f1, f2, f3, f4⟩ := step_f r
  have ha := step_alive r
  have hdd := step_dead r
  obtain ⟨w1, w2, w3, w4, w5⟩ := hw
  have hw : WFr r := ⟨w1, w2, w3, w4, w5⟩
  obtain ⟨v1, v2, v3, v4, v5⟩ := hs
  unfold doR
  by_cases h0 : d = 0
  · rw [if_pos h0]
    unfold appR
    by_cases h1 : r.dead = true
    · rw [if_pos h1]; exact ⟨hw, hd⟩
    rw [if_neg h1]
    have hh := hd (by simpa using h1)
    by_cases h2 : r.room - r.s.length - r.m.length < B.length
    · rw [if_pos h2]; exact ⟨hw, hd⟩
    rw [if_neg h2]
    by_cases h3 : B = []
    · rw [if_pos h3]; exact ⟨hw, hd⟩
    rw [if_neg h3]
    by_cases h4 : (stepR r).2 = true
    · rw [if_pos h4]
      refine ⟨⟨v1, v2, ?_, v4, v5⟩, fun _ => by show (stepR r).1.h = []; rw [f3]; exact hh⟩
      show (((stepR r).1.s.length + (r.m ++ B).length + (stepR r).1.h.length : Nat) : Int) ≤ (stepR r).1.room
      rw [f1, f3, f4, hh, List.length_append]
      simp only [List.length_nil]
      omega
    · rw [if_neg h4]
      refine ⟨⟨v1, v2, ?_, v4, v5⟩, fun e => ?_⟩
      · show (((stepR r).1.s.length + (stepR r).1.m.length + B.length : Nat) : Int) ≤ (stepR r).1.room
        rw [f1, f2, f4]
        omega
      · have e : (stepR r).1.dead = false := e
        rw [hdd h4] at e; cases e
  rw [if_neg h0]
  by_cases h1 : d = 1
  · rw [if_pos h1]
    unfold syncR
    by_cases h1 : r.dead = true
    · rw [if_pos h1]; exact ⟨hw, hd⟩
    rw [if_neg h1]
    have hh := hd (by simpa using h1)
    by_cases h4 : (stepR r).2 = true
    · rw [if_pos h4]
      refine ⟨⟨v1, v2, ?_, v4, v5⟩, fun _ => by show (stepR r).1.h = []; rw [f3]; exact hh⟩
      show (((r.s ++ r.m).length + 0 + (stepR r).1.h.length : Nat) : Int) ≤ (stepR r).1.room
      rw [f3, f4, List.length_append]
      omega
    · rw [if_neg h4]
      refine ⟨⟨v1, v2, v3, v4, v5⟩, fun e => ?_⟩
      have e : (stepR r).1.dead = false := e
      rw [hdd h4] at e; cases e
  rw [if_neg h1]
  by_cases h2 : d = 2
  · rw [if_pos h2]
    unfold cutR
    by_cases h1 : r.dead = true
    · rw [if_pos h1]; exact ⟨hw, hd⟩
    rw [if_neg h1]
    have hh := hd (by simpa using h1)
    by_cases h3 : n < 0 ∨ ((r.s.length + r.m.length : Nat) : Int) < n
    · rw [if_pos h3]; exact ⟨hw, hd⟩
    rw [if_neg h3]
    by_cases h4 : (stepR r).2 = true
    · rw [if_pos h4]
      refine ⟨⟨v1, v2, ?_, v4, v5⟩, fun _ => by show (stepR r).1.h = []; rw [f3]; exact hh⟩
      show ((((r.s ++ r.m).take n.toNat).length + 0 + (stepR r).1.h.length : Nat) : Int) ≤ (stepR r).1.room
      rw [f3, f4, List.length_take, List.length_append]
      omega
    · rw [if_neg h4]
      refine ⟨⟨v1, v2, v3, v4, v5⟩, fun e => ?_⟩
      have e : (stepR r).1.dead = false := e
      rw [hdd h4] at e; cases e
  rw [if_neg h2]
  by_cases h3 : d = 3
  · rw [if_pos h3]
    refine ⟨⟨w1, w2, w3, ?_, ?_⟩, hd⟩
    · show -1 ≤ if n < 0 then -1 else n
      split <;> omega
    · show (if n < 0 then -1 else n) < _
      split <;> omega
  rw [if_neg h3]
  split
  · refine ⟨⟨w1, w2, ?_, by show (-1 : Int) ≤ -1; omega, by show (-1 : Int) < _; omega⟩, fun _ => rfl⟩
    show (((r.s ++ (r.m ++ r.h).take _).length + 0 + 0 : Nat) : Int) ≤ r.room
    rw [List.length_append, List.length_take, List.length_append]
    omega
  · exact ⟨hw, hd⟩
end Go.WL.T5
