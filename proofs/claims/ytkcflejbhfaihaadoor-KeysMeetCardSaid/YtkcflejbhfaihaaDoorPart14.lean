/- Keys' law. No condition. -/
import Derived.Test.YtkcflejbhfaihaaDoorPart13
set_option linter.unusedVariables false
set_option linter.unusedSimpArgs false
namespace Go.WL.T4b
open Go.WL Go.Proofs
set_option maxRecDepth 20000
set_option maxHeartbeats 8000000
theorem tag27 : tagB 2 7 [1, 2] ≠ z32 := by decide +kernel
theorem c_awake4_aux (T : List UInt8) (hT : T.length = 32) (hne : T ≠ z32)
    (ct : FnOK Tryd.prog D 38 [(AV.sc (.int .i64 (2))), (AV.sc (.int .u8 (7))), .sl .lf [.sl .lf [(AV.sc (.int .u8 (1)))] .ex, .sl .lf [(AV.sc (.int .u8 (2)))] .ex] .ex] [] (fun r st => r = .ar 32 .lf (by8 T) ∧ st = []))
    (cq : FnOK Tryd.prog D 44 [(AV.sc (.int .i64 (5)))] [] (fun r st => r = (AV.sc (.int .i64 (3))) ∧ st = []))
    (cc : FnOK Tryd.prog D 42 [(AV.sc (.int .i64 (2))), (AV.sc (.int .u8 (7))), .ar 32 .lf (by8 T), .sl .lf [.sl .lf [(AV.sc (.int .u8 (1))), (AV.sc (.int .u8 (2)))] .ex] .ex] [] (fun r st => r = (AV.sc (.bool (true))) ∧ st = [])) :
    FnOK Tryd.prog D 37 [] [] (fun r st => r = (AV.sc (.bool (true))) ∧ st = []) := by
  refine fnok_of_W hmix tabOK Tryd.func37 rfl rfl (Nat.le_of_ble_eq_true rfl) ?_
  conv => whnf
  refine (ct).mono fun r st e => ?_
  obtain ⟨rfl, rfl⟩ := e
  conv => whnf
  refine (cq).mono fun r st e => ?_
  obtain ⟨rfl, rfl⟩ := e
  conv => whnf
  refine (cc).mono fun r st e => ?_
  obtain ⟨rfl, rfl⟩ := e
  conv => whnf
  refine ⟨T, z32, rfl, z32_is.symm, ?_⟩
  conv => whnf
  refine ⟨false, [], ?_⟩
  conv => whnf
  refine ⟨?_, rfl⟩
  rw [show (T == z32) = false by rw [beq_eq_false_iff_ne]; exact hne]
  rfl
theorem c_awake4 : FnOK Tryd.prog D 37 [] [] (fun r st => r = (AV.sc (.bool (true))) ∧ st = []) := by
  have ct := c_tag 2 7 [[1], [2]] (by simp) (by simp) (m := .ex) (.inl rfl) (xs := [.sl .lf [(AV.sc (.int .u8 (1)))] .ex, .sl .lf [(AV.sc (.int .u8 (2)))] .ex]) (.cons (.sl (.inl rfl) (Weaks.refl _)) (.cons (.sl (.inl rfl) (Weaks.refl _)) .nil))
  rw [show [[1], [2]].flatten = ([1, 2] : List UInt8) from rfl] at ct
  have cc := c_check 2 7 (tagB 2 7 [1, 2]) [[1, 2]] true (tagB_len _ _ _) (by simp) (by simp) (fun _ => by rw [show [[1, 2]].flatten = ([1, 2] : List UInt8) from rfl, beq_self_eq_true]) (fun h => by revert h; decide) (m := .ex) (.inl rfl) (xs := [.sl .lf [(AV.sc (.int .u8 (1))), (AV.sc (.int .u8 (2)))] .ex]) (.cons (.sl (.inl rfl) (Weaks.refl _)) .nil)
  exact c_awake4_aux (tagB 2 7 [1, 2]) (tagB_len _ _ _) tag27 ct (c_quorum 5) cc
end Go.WL.T4b
