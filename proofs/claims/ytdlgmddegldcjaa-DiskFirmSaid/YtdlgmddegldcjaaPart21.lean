/- What is safe stays: in plain words. No condition. -/
import Derived.Test.YtdlgmddegldcjaaPart16
set_option linter.unusedVariables false
set_option linter.unusedSimpArgs false
namespace Go.WL.T5
open Go.WL Go.Proofs
def allR (r : Rk) : List UInt8 := r.s ++ r.m ++ r.h
theorem step_same (r : Rk) : allR (stepR r).1 = allR r := by
  obtain ⟨f1, f2, f3, _⟩ := step_f r
  unfold allR
  rw [f1, f2, f3]
theorem firm_all {r : Rk} {d : Int} {B : List UInt8} {n : Int} (hq : WFq r) (h2 : d ≠ 2) (h4 : d ≠ 4) (hr : ((allR r).length + B.length : Nat) ≤ r.room) : allR (doR r d B n) = if d = 0 ∧ r.dead = false then allR r ++ B else allR r := by
  obtain ⟨f1, f2, f3, f4⟩ := step_f r
  obtain ⟨_, hd⟩ := hq
  have hl : (allR r).length = r.s.length + r.m.length + r.h.length := by unfold allR; rw [List.length_append, List.length_append]
  by_cases h0 : d = 0
  · by_cases h1 : r.dead = true
    · rw [if_neg (fun e => by rw [h1] at e; cases e.2)]
      unfold doR appR
      rw [if_pos h0, if_pos h1]
    · have h1' : r.dead = false := by simpa using h1
      have hh := hd h1'
      rw [if_pos (And.intro h0 h1')]
      have hh0 : r.h.length = 0 := by rw [hh]; rfl
      unfold doR appR
      rw [if_pos h0, if_neg h1, if_neg (by omega)]
      by_cases h3 : B = []
      · rw [if_pos h3, h3, List.append_nil]
      rw [if_neg h3]
      by_cases h5 : (stepR r).2 = true
      · rw [if_pos h5]
        unfold allR
        show (stepR r).1.s ++ (r.m ++ B) ++ (stepR r).1.h = _
        rw [f1, f3, hh]
        simp
      · rw [if_neg h5]
        unfold allR
        show (stepR r).1.s ++ (stepR r).1.m ++ B = _
        rw [f1, f2, hh]
        simp
  rw [if_neg (fun e : d = 0 ∧ r.dead = false => h0 e.1)]
  unfold doR
  rw [if_neg h0]
  by_cases h1 : d = 1
  · rw [if_pos h1]
    unfold syncR
    by_cases h1 : r.dead = true
    · rw [if_pos h1]
    rw [if_neg h1]
    by_cases h5 : (stepR r).2 = true
    · rw [if_pos h5]
      unfold allR
      show (r.s ++ r.m) ++ [] ++ (stepR r).1.h = _
      rw [f3, List.append_nil]
    · rw [if_neg h5]
      exact step_same r
  rw [if_neg h1, if_neg h2]
  by_cases h3 : d = 3
  · rw [if_pos h3]; rfl
  rw [if_neg h3, if_neg h4]
theorem firm_s {r : Rk} {d : Int} {B : List UInt8} {n : Int} (hq : WFq r) (h2 : d ≠ 2) : (∃ t, (doR r d B n).s = r.s ++ t) ∧ ((doR r d B n).dead = true → (doR r d B n).s = r.s) := by
  obtain ⟨f1, f2, f3, f4⟩ := step_f r
  have ha := step_alive r
  unfold doR
  by_cases h0 : d = 0
  · rw [if_pos h0]
    have : (appR r B).1.s = r.s := by
      unfold appR
      split
      · rfl
      · split
        · rfl
        · split
          · rfl
          · split
            · exact f1
            · exact f1
    exact ⟨⟨[], by rw [this, List.append_nil]⟩, fun _ => this⟩
  rw [if_neg h0]
  by_cases h1 : d = 1
  · rw [if_pos h1]
    unfold syncR
    by_cases h1 : r.dead = true
    · rw [if_pos h1]; exact ⟨⟨[], by simp⟩, fun _ => rfl⟩
    rw [if_neg h1]
    by_cases h5 : (stepR r).2 = true
    · rw [if_pos h5]
      refine ⟨⟨r.m, rfl⟩, fun e => ?_⟩
      have e : (stepR r).1.dead = true := e
      rw [ha h5] at e
      exact absurd e h1
    · rw [if_neg h5]
      exact ⟨⟨[], by show (stepR r).1.s = _; rw [f1, List.append_nil]⟩, fun _ => f1⟩
  rw [if_neg h1, if_neg h2]
  by_cases h3 : d = 3
  · rw [if_pos h3]; exact ⟨⟨[], by simp⟩, fun _ => rfl⟩
  rw [if_neg h3]
  split
  · exact ⟨⟨_, rfl⟩, fun e => by cases e⟩
  · exact ⟨⟨[], by simp⟩, fun _ => rfl⟩
theorem firm_room {r : Rk} {d : Int} {B : List UInt8} {n : Int} : (doR r d B n).room = r.room := by
  obtain ⟨f1, f2, f3, f4⟩ := step_f r
  unfold doR appR syncR cutR
  repeat (first | rfl | exact f4 | split)
theorem firm_len {r : Rk} {d : Int} {B : List UInt8} {n : Int} (hq : WFq r) (h2 : d ≠ 2) (hr : ((allR r).length + B.length : Nat) ≤ r.room) : (allR (doR r d B n)).length ≤ (allR r).length + B.length := by
  by_cases h4 : d = 4
  · subst h4
    show (allR (crashRr r n)).length ≤ _
    unfold crashRr allR
    simp only [List.append_nil, List.length_append, List.length_take]
    omega
  · rw [firm_all hq h2 h4 hr]
    split
    · rw [List.length_append]; omega
    · omega
end Go.WL.T5
