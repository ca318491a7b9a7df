/- Accounts: which there may be; what is found. No condition. -/
import Derived.Test.YtdlgmddegldcjaaPart02
import Derived.Test.YtdlgmddegldcjaaWordsD
set_option linter.unusedVariables false
set_option linter.unusedSimpArgs false
namespace Go.WL.T5
open Go.WL Go.Proofs
set_option maxRecDepth 20000
set_option maxHeartbeats 8000000
def cmpI (a b : Int) : Int := if a < b then -1 else if b < a then 1 else 0
theorem cmpI_lt (a b : Int) : decide (cmpI a b < 0) = ilt a b := by
  unfold cmpI ilt
  by_cases h : a < b
  · simp [h]
  · by_cases k : b < a <;> simp [h, k]
theorem cmpI_eq (a b : Int) : (cmpI a b == 0) = decide (a = b) := by
  unfold cmpI
  by_cases h : a < b
  · have : a ≠ b := by omega
    simp [h, this]
  · by_cases k : b < a
    · have : a ≠ b := by omega
      simp [h, k, this]
    · have : a = b := by omega
      simp [this]
theorem c_isnan (a : Int) : FnOK Try.prog D 138 [(AV.sc (.int .i64 (a)))] [] (fun r st => r = (AV.sc (.bool (false))) ∧ st = []) := by
  refine fnok_of_W hmix tabOK Try.func138 rfl rfl (Nat.le_of_ble_eq_true rfl) ?_
  conv => whnf
  refine ⟨false, [], ?_⟩
  conv => whnf
  refine ⟨?_, rfl⟩
  simp
theorem c_cmpI (a b : Int) : FnOK Try.prog D 132 [(AV.sc (.int .i64 (a))), (AV.sc (.int .i64 (b)))] [] (fun r st => r = (AV.sc (.int .i64 (cmpI a b))) ∧ st = []) := by
  refine fnok_of_W hmix tabOK Try.func132 rfl rfl (Nat.le_of_ble_eq_true rfl) ?_
  conv => whnf
  refine (c_isnan a).mono fun r st e => ?_
  obtain ⟨rfl, rfl⟩ := e
  conv => whnf
  refine (c_isnan b).mono fun r st e => ?_
  obtain ⟨rfl, rfl⟩ := e
  conv => whnf
  refine Branch.of (fun h1 => ?_) (fun h1 => ?_) <;> rw [h1] <;> conv => whnf
  · simp only [decide_eq_true_eq] at h1
    refine ⟨false, [], ?_⟩
    conv => whnf
    refine ⟨?_, rfl⟩
    unfold cmpI
    rw [if_pos h1]
  simp only [decide_eq_false_iff_not] at h1
  refine Branch.of (fun h2 => ?_) (fun h2 => ?_) <;> rw [h2] <;> conv => whnf
  · simp only [gt_iff_lt, decide_eq_true_eq] at h2
    refine ⟨false, [], ?_⟩
    conv => whnf
    refine ⟨?_, rfl⟩
    unfold cmpI
    rw [if_neg h1, if_pos h2]
  · simp only [gt_iff_lt, decide_eq_false_iff_not] at h2
    refine ⟨false, [], ?_⟩
    conv => whnf
    refine ⟨?_, rfl⟩
    unfold cmpI
    rw [if_neg h1, if_neg h2]
theorem c_afind1 (x : Ac) (k : Int) : FnOK Try.prog D 131 [(AV.st [.sc (.int .i64 (x).id), .sc (.int .i64 (x).n), .sc (.int .i64 (x).b)]), (AV.sc (.int .i64 (k)))] [] (fun r st => r = (AV.sc (.int .i64 (cmpI x.id k))) ∧ st = []) := by
  refine fnok_of_W hmix tabOK Try.func131 rfl rfl (Nat.le_of_ble_eq_true rfl) ?_
  conv => whnf
  refine (c_cmpI x.id k).mono fun r st e => ?_
  obtain ⟨rfl, rfl⟩ := e
  conv => whnf
  refine ⟨false, [], ?_⟩
  conv => whnf
  exact ⟨rfl, rfl⟩
end Go.WL.T5
