/- Quorums. No condition. -/
import Derived.Test.YtdpplgkhfclhgaaPart02
import Derived.Test.YtdpplgkhfclhgaaWordsD
set_option linter.unusedVariables false
set_option linter.unusedSimpArgs false
namespace Go.WL.T8
open Go.WL Go.Proofs
set_option maxRecDepth 20000
set_option maxHeartbeats 4000000
def isNode (i : Int) : Bool := decide (1 ≤ i) && decide (i ≤ 21)
theorem c_node (i : Int) : FnOK Try.prog D 39 [(AV.sc (.int .i64 (i)))] [] (fun r st => r = (AV.sc (.bool (isNode i))) ∧ st = []) := by
  refine fnok_of_W hmix tabOK Try.func39 rfl rfl (Nat.le_of_ble_eq_true rfl) ?_
  conv => whnf
  refine Branch.of (fun h1 => ?_) (fun h1 => ?_) <;> rw [h1] <;> conv => whnf
  · refine ⟨false, [], ?_⟩
    conv => whnf
    refine ⟨?_, rfl⟩
    congr 2
    unfold isNode
    rw [show decide (1 ≤ i) = true from h1, Bool.true_and]
  · refine ⟨false, [], ?_⟩
    conv => whnf
    refine ⟨?_, rfl⟩
    congr 2
    unfold isNode
    rw [show decide (1 ≤ i) = false from h1, Bool.false_and]
def quo (n : Int) : Int := if isNode n = true ∧ n.toNat % 2 = 1 then ((n.toNat / 2 + 1 : Nat) : Int) else 0
theorem c_quorum (n : Int) : FnOK Try.prog D 25 [(AV.sc (.int .i64 (n)))] [] (fun r st => r = (AV.sc (.int .i64 (quo n))) ∧ st = []) := by
  refine fnok_of_W hmix tabOK Try.func25 rfl rfl (Nat.le_of_ble_eq_true rfl) ?_
  conv => whnf
  refine (c_node n).mono fun r st e => ?_
  obtain ⟨rfl, rfl⟩ := e
  conv => whnf
  cases hn : isNode n
  · conv => whnf
    refine ⟨false, [], ?_⟩
    conv => whnf
    refine ⟨?_, rfl⟩
    unfold quo
    rw [if_neg (by rw [hn]; simp)]
  · conv => whnf
    have hb := hn
    simp only [isNode, Bool.and_eq_true, decide_eq_true_eq] at hb
    obtain ⟨m, rfl⟩ := Int.eq_ofNat_of_zero_le (show 0 ≤ n by omega)
    refine ⟨by omega, ?_⟩
    conv => whnf
    rw [show Int.tmod (m : Int) 2 = ((m % 2 : Nat) : Int) from rfl]
    refine Branch.of (fun h2 => ?_) (fun h2 => ?_) <;> rw [h2] <;> conv => whnf
    · refine ⟨false, [], ?_⟩
      conv => whnf
      refine ⟨?_, rfl⟩
      unfold quo
      rw [if_neg]
      simp only [beq_iff_eq] at h2
      rw [Int.toNat_natCast]
      omega
    · simp only [beq_eq_false_iff_ne, ne_eq] at h2
      refine ⟨by omega, ?_⟩
      conv => whnf
      rw [show Int.tdiv (m : Int) 2 = ((m / 2 : Nat) : Int) from rfl, w64 (x := ((m / 2 : Nat) : Int)) (by omega) (by omega), w64 (x := ((m / 2 : Nat) : Int) + 1) (by omega) (by omega)]
      refine ⟨false, [], ?_⟩
      conv => whnf
      refine ⟨?_, rfl⟩
      unfold quo
      rw [if_pos ⟨hn, by rw [Int.toNat_natCast]; omega⟩, Int.toNat_natCast]
      rfl
theorem c_quorumR (n : Int) : FnOK Try.prog D 11 [(AV.sc (.int .i64 (n)))] [] (fun r st => r = (AV.sc (.int .i64 (quo n))) ∧ st = []) := by
  refine fnok_of_W hmix tabOK Try.func11 rfl rfl (Nat.le_of_ble_eq_true rfl) ?_
  conv => whnf
  refine ⟨false, [0, 3], fun τ => ∃ f : Nat, f ≤ 11 ∧ (∀ g : Nat, g < f → n ≠ 2 * (g : Int) + 1) ∧ τ = ⟨15, [(0, (AV.sc (.int .i64 (n)))), (3, (AV.sc (.int .i64 ((f : Int)))))], ⟨[], [], 0⟩⟩, fun τ => 11 - (slotI τ 3).toNat, ?_, ?_⟩
  · conv => whnf
    exact ⟨0, by omega, by simp, rfl⟩
  rintro τ ⟨f, hf, hall, rfl⟩
  conv => whnf
  refine Branch.of (fun h1 => ?_) (fun h1 => ?_) <;> rw [h1] <;> conv => whnf
  · simp only [decide_eq_true_eq] at h1
    rw [w64 (x := 2 * (f : Int)) (by omega) (by omega), w64 (x := 2 * (f : Int) + 1) (by omega) (by omega)]
    refine Branch.of (fun h2 => ?_) (fun h2 => ?_) <;> rw [h2] <;> conv => whnf
    · simp only [beq_iff_eq] at h2
      rw [w64 (x := (f : Int) + 1) (by omega) (by omega)]
      refine ⟨false, [], ?_⟩
      conv => whnf
      refine ⟨?_, rfl⟩
      unfold quo
      rw [if_pos ⟨by simp [isNode]; omega, by omega⟩, show ((n.toNat / 2 + 1 : Nat) : Int) = (f : Int) + 1 by omega]
    · simp only [beq_eq_false_iff_ne, ne_eq] at h2
      rw [w64 (x := (f : Int) + 1) (by omega) (by omega)]
      refine ⟨⟨f + 1, by omega, fun g hg => ?_, rfl⟩, ?_⟩
      · by_cases e : g = f
        · rw [e]; exact h2
        · exact hall g (by omega)
      · show 11 - ((f : Int) + 1).toNat < 11 - (f : Int).toNat
        omega
  · simp only [decide_eq_false_iff_not] at h1
    refine ⟨false, [], ?_⟩
    conv => whnf
    refine ⟨?_, rfl⟩
    unfold quo
    rw [if_neg]
    rintro ⟨h2, h3⟩
    simp only [isNode, Bool.and_eq_true, decide_eq_true_eq] at h2
    exact hall (n.toNat / 2) (by omega) (by omega)
end Go.WL.T8
