/- Depths by the reference. No condition. -/
import Derived.Test.YtkcflejbhfaihaaDoorPart17
set_option linter.unusedVariables false
set_option linter.unusedSimpArgs false
namespace Go.WL.T4
open Go.WL Go.Proofs
set_option maxRecDepth 20000
set_option maxHeartbeats 8000000
theorem c_depthR_aux (m0 a0 : Nat) (h1 : 1 ≤ m0) (h2 : m0 ≤ 1048576) (h3 : a0 < m0) (d : Nat) (hd : d = (sidesF m0 m0 a0).length) :
    FnOK Tryd.prog D 53 [(AV.sc (.int .i64 ((m0 : Int)))), (AV.sc (.int .i64 ((a0 : Int))))] [] (fun r st => r = (AV.sc (.int .i64 ((d : Int)))) ∧ st = []) := by
  refine fnok_of_W hmix tabOK Tryd.func53 rfl rfl (Nat.le_of_ble_eq_true rfl) ?_
  conv => whnf
  refine Branch.of (fun hh => ?_) (fun hh => ?_)
  · exfalso; simp only [gt_iff_lt, ge_iff_le, decide_eq_true_eq, decide_eq_false_iff_not, beq_iff_eq, beq_eq_false_iff_ne, bne_iff_ne, bne_eq_false_iff_eq, ne_eq] at hh; first | done | omega | (simp at hh; done)
  try rw [hh]
  clear hh
  conv => whnf
  refine Branch.of (fun hh => ?_) (fun hh => ?_)
  · exfalso; simp only [gt_iff_lt, ge_iff_le, decide_eq_true_eq, decide_eq_false_iff_not, beq_iff_eq, beq_eq_false_iff_ne, bne_iff_ne, bne_eq_false_iff_eq, ne_eq] at hh; first | done | omega | (simp at hh; done)
  try rw [hh]
  clear hh
  conv => whnf
  refine Branch.of (fun hh => ?_) (fun hh => ?_)
  · exfalso; simp only [gt_iff_lt, ge_iff_le, decide_eq_true_eq, decide_eq_false_iff_not, beq_iff_eq, beq_eq_false_iff_ne, bne_iff_ne, bne_eq_false_iff_eq, ne_eq] at hh; first | done | omega | (simp at hh; done)
  try rw [hh]
  clear hh
  conv => whnf
  refine ⟨false, [0, 1, 5], fun τ => ∃ (m a k : Nat), 1 ≤ m ∧ m ≤ m0 ∧ a < m ∧ k + m ≤ m0 + 0 ∧ k + (sidesF m0 m a).length = d ∧ τ = ⟨39, [(0, (AV.sc (.int .i64 ((m : Int))))), (1, (AV.sc (.int .i64 ((a : Int))))), (5, (AV.sc (.int .i64 ((k : Int)))))], ⟨[], [], 0⟩⟩, fun τ => (slotI τ 0).toNat, ?_, ?_⟩
  · conv => whnf
    exact ⟨m0, a0, 0, h1, Nat.le_refl _, h3, by omega, by omega, rfl⟩
  rintro τ ⟨m, a, k, g1, g2, g3, g4, g5, rfl⟩
  conv => whnf
  refine Branch.of (fun e1 => ?_) (fun e1 => ?_) <;> rw [e1] <;> conv => whnf
  · simp only [gt_iff_lt, decide_eq_true_eq] at e1
    have hh := hf_lt m (by omega)
    have hp := hf_pos m
    have e0 : sidesF m0 m a = if m = 1 then [] else if a < hf m then sidesF (m0 - 1) (hf m) a ++ [true] else sidesF (m0 - 1) (m - hf m) (a - hf m) ++ [false] := by
      conv => lhs; rw [show m0 = m0 - 1 + 1 by omega]
      rfl
    rw [if_neg (by omega)] at e0
    refine (c_halfR m (by omega) (by omega)).mono fun r st e => ?_
    obtain ⟨rfl, rfl⟩ := e
    conv => whnf
    refine Branch.of (fun e2 => ?_) (fun e2 => ?_) <;> rw [e2] <;> conv => whnf
    · simp only [decide_eq_true_eq] at e2
      have e2 : a < hf m := by omega
      rw [if_pos e2, sidesF_more (m0 - 1) m0 (hf m) a (by omega) e2 (by omega) (by omega)] at e0
      have e3 := congrArg List.length e0
      rw [List.length_append, List.length_singleton] at e3
      rw [w64 (x := (k : Int) + 1) (by omega) (by omega)]
      refine ⟨⟨hf m, a, k + 1, by omega, by omega, e2, by omega, by omega, rfl⟩, ?_⟩
      show ((hf m : Int)).toNat < ((m : Int)).toNat
      omega
    · simp only [decide_eq_false_iff_not] at e2
      have e2 : ¬ a < hf m := by omega
      rw [if_neg e2, sidesF_more (m0 - 1) m0 (m - hf m) (a - hf m) (by omega) (by omega) (by omega) (by omega)] at e0
      have e3 := congrArg List.length e0
      rw [List.length_append, List.length_singleton] at e3
      rw [w64 (x := (k : Int) + 1) (by omega) (by omega), w64 (x := (m : Int) - (hf m : Int)) (by omega) (by omega), w64 (x := (a : Int) - (hf m : Int)) (by omega) (by omega), show (m : Int) - (hf m : Int) = ((m - hf m : Nat) : Int) by omega, show (a : Int) - (hf m : Int) = ((a - hf m : Nat) : Int) by omega]
      refine ⟨⟨m - hf m, a - hf m, k + 1, by omega, by omega, by omega, by omega, by omega, rfl⟩, ?_⟩
      show (((m - hf m : Nat) : Int)).toNat < ((m : Int)).toNat
      omega
  · simp only [gt_iff_lt, decide_eq_false_iff_not] at e1
    have e : m = 1 := by omega
    subst e
    have e0 : sidesF m0 1 a = [] := by
      rw [show m0 = m0 - 1 + 1 by omega]
      rfl
    rw [e0] at g5
    have g5 : k = d := by simpa using g5
    subst g5
    refine ⟨false, [], ?_⟩
    conv => whnf
    exact ⟨rfl, rfl⟩
theorem c_depthR_no (m a : Int) (h : isPlace m a = false) : FnOK Tryd.prog D 53 [(AV.sc (.int .i64 (m))), (AV.sc (.int .i64 (a)))] [] (fun r st => r = (AV.sc (.int .i64 (0))) ∧ st = []) := by
  have hno : ¬ (1 ≤ m ∧ m ≤ 1048576 ∧ 0 ≤ a ∧ a < m) := by
    rintro ⟨g1, g2, g3, g4⟩
    rw [show isPlace m a = true by unfold isPlace; rw [decide_eq_true g1, decide_eq_true g2, decide_eq_true g3, decide_eq_true g4]; rfl] at h
    cases h
  refine fnok_of_W hmix tabOK Tryd.func53 rfl rfl (Nat.le_of_ble_eq_true rfl) ?_
  conv => whnf
  refine Branch.of (fun h1 => ?_) (fun h1 => ?_) <;> rw [h1] <;> conv => whnf
  · refine ⟨false, [], ?_⟩
    conv => whnf
    exact ⟨rfl, rfl⟩
  refine Branch.of (fun h2 => ?_) (fun h2 => ?_) <;> rw [h2] <;> conv => whnf
  · refine ⟨false, [], ?_⟩
    conv => whnf
    exact ⟨rfl, rfl⟩
  refine Branch.of (fun h3 => ?_) (fun h3 => ?_) <;> rw [h3] <;> conv => whnf
  · refine ⟨false, [], ?_⟩
    conv => whnf
    exact ⟨rfl, rfl⟩
  refine Branch.of (fun h4 => ?_) (fun h4 => ?_) <;> rw [h4] <;> conv => whnf
  · refine ⟨false, [], ?_⟩
    conv => whnf
    exact ⟨rfl, rfl⟩
  · simp only [gt_iff_lt, ge_iff_le, decide_eq_false_iff_not] at h1 h2 h3 h4
    exfalso
    exact hno ⟨by omega, by omega, by omega, by omega⟩
theorem c_depthR (m a : Int) : FnOK Tryd.prog D 53 [(AV.sc (.int .i64 (m))), (AV.sc (.int .i64 (a)))] [] (fun r st => r = (AV.sc (.int .i64 ((depB m a : Int)))) ∧ st = []) := by
  cases h : isPlace m a
  · have e : depB m a = 0 := by unfold depB; rw [if_neg (by rw [h]; simp)]
    rw [e]
    exact c_depthR_no m a h
  · obtain ⟨m', a', rfl, rfl, h1, h2, h3⟩ := place_facts h
    refine c_depthR_aux m' a' h1 h2 h3 (depB m' a') ?_
    unfold depB
    rw [if_pos h]
    rfl
end Go.WL.T4
