/- Prove; light; awake of the laws of merkle. No condition. -/
import Derived.Test.YtkcflejbhfaihaaDoorPart22
set_option linter.unusedVariables false
set_option linter.unusedSimpArgs false
namespace Go.WL.T4
open Go.WL Go.Proofs
set_option maxRecDepth 20000
set_option maxHeartbeats 8000000
theorem c_Prove_no (l : List (List UInt8)) (a : Int) (h : a < 0 ∨ (l.length : Int) ≤ a) :
    FnOK Tryd.prog D 49 [.sl .lf (byL l) .ro, (AV.sc (.int .i64 (a)))] [] (fun r st => r = .tup [.sl (.ar 32 .lf) [] (.own 0), (AV.sc (.int .i64 (1)))] ∧ st = []) := by
  refine fnok_of_W hmix tabOK Tryd.func49 rfl rfl (Nat.le_of_ble_eq_true rfl) ?_
  conv => whnf
  refine Branch.of (fun h1 => ?_) (fun h1 => ?_) <;> rw [h1] <;> conv => whnf
  · refine ⟨true, [], ?_⟩
    conv => whnf
    exact ⟨rfl, rfl⟩
  rw [lenL]
  refine Branch.of (fun h2 => ?_) (fun h2 => ?_) <;> rw [h2] <;> conv => whnf
  · refine ⟨true, [], ?_⟩
    conv => whnf
    exact ⟨rfl, rfl⟩
  · simp only [ge_iff_le, decide_eq_false_iff_not] at h1 h2
    omega
theorem c_Prove (l : List (List UInt8)) (a : Nat) (hal : a < l.length) (X : List (List UInt8))
    (cp : FnOK Tryd.prog D 73 [.sl .lf (byL l) .ro, (AV.sc (.int .i64 ((a : Int))))] [] (fun r st => r = .sl (.ar 32 .lf) (byH X) (.own 0) ∧ st = [])) :
    FnOK Tryd.prog D 49 [.sl .lf (byL l) .ro, (AV.sc (.int .i64 ((a : Int))))] [] (fun r st => r = .tup [.sl (.ar 32 .lf) (byH X) (.own 0), (AV.sc (.int .i64 (0)))] ∧ st = []) := by
  have hlen := lenL l
  refine fnok_of_W hmix tabOK Tryd.func49 rfl rfl (Nat.le_of_ble_eq_true rfl) ?_
  conv => whnf
  rw [hlen]
  refine Branch.of (fun h2 => ?_) (fun h2 => ?_) <;> rw [h2] <;> conv => whnf
  · simp only [ge_iff_le, decide_eq_true_eq] at h2
    omega
  refine (cp).mono fun r st e => ?_
  obtain ⟨rfl, rfl⟩ := e
  conv => whnf
  refine ⟨false, [], ?_⟩
  conv => whnf
  exact ⟨rfl, rfl⟩
theorem c_awake26_aux (p R : List UInt8) (hz : R.length = 32)
    (cP : FnOK Tryd.prog D 49 [.sl .lf [.sl .lf [(AV.sc (.int .u8 (1)))] .ex, .sl .lf [(AV.sc (.int .u8 (2)))] .ex] .ex, (AV.sc (.int .i64 (1)))] [] (fun r st => r = .tup [.sl (.ar 32 .lf) (byH [p]) (.own 0), (AV.sc (.int .i64 (0)))] ∧ st = []))
    (cR : FnOK Tryd.prog D 50 [.sl .lf [.sl .lf [(AV.sc (.int .u8 (1)))] .ex, .sl .lf [(AV.sc (.int .u8 (2)))] .ex] .ex] [] (fun r st => r = .ar 32 .lf (by8 R) ∧ st = []))
    (c0 : FnOK Tryd.prog D 50 [.sl .lf [] .ex] [] (fun r st => r = .ar 32 .lf (by8 z32) ∧ st = []))
    (cy : FnOK Tryd.prog D 55 [.ar 32 .lf (by8 R), (AV.sc (.int .i64 (2))), (AV.sc (.int .i64 (1))), .sl .lf [(AV.sc (.int .u8 (2)))] .ex, .sl (.ar 32 .lf) (byH [p]) .ro] [] (fun r st => r = (AV.sc (.bool (true))) ∧ st = []))
    (cn : FnOK Tryd.prog D 55 [.ar 32 .lf (by8 R), (AV.sc (.int .i64 (2))), (AV.sc (.int .i64 (0))), .sl .lf [(AV.sc (.int .u8 (2)))] .ex, .sl (.ar 32 .lf) (byH [p]) .ro] [] (fun r st => r = (AV.sc (.bool (false))) ∧ st = [])) :
    FnOK Tryd.prog D 48 [] [] (fun r st => r = (AV.sc (.bool (true))) ∧ st = []) := by
  refine fnok_of_W hmix tabOK Tryd.func48 rfl rfl (Nat.le_of_ble_eq_true rfl) ?_
  conv => whnf
  refine (cP).mono fun r st e => ?_
  obtain ⟨rfl, rfl⟩ := e
  conv => whnf
  refine (cR).mono fun r st e => ?_
  obtain ⟨rfl, rfl⟩ := e
  conv => whnf
  refine (cy).mono fun r st e => ?_
  obtain ⟨rfl, rfl⟩ := e
  conv => whnf
  refine (cR).mono fun r st e => ?_
  obtain ⟨rfl, rfl⟩ := e
  conv => whnf
  refine (cn).mono fun r st e => ?_
  obtain ⟨rfl, rfl⟩ := e
  conv => whnf
  refine (c0).mono fun r st e => ?_
  obtain ⟨rfl, rfl⟩ := e
  conv => whnf
  refine ⟨z32, z32, rfl, z32_is.symm, ?_⟩
  conv => whnf
  refine ⟨false, [], ?_⟩
  conv => whnf
  refine ⟨?_, rfl⟩
  congr 2
def pr12 : List (List UInt8) := proveF 2 [[1], [2]] 1
def rt12 : List UInt8 := rootF 2 [[1], [2]]
theorem pr12_is : pr12 = [leafB [1]] := by decide +kernel
theorem chk12 : (isPlace 2 1 && ([leafB [1]].length == depB 2 1) && (chkF (sidesF (Int.toNat 2) (Int.toNat 2) (Int.toNat 1)) [leafB [1]] (leafB [2]) == rt12)) = true := by decide +kernel
theorem chk12n : (isPlace 2 0 && ([leafB [1]].length == depB 2 0) && (chkF (sidesF (Int.toNat 2) (Int.toNat 2) (Int.toNat 0)) [leafB [1]] (leafB [2]) == rt12)) = false := by decide +kernel
theorem weak12 : Weaks [.sl .lf [(AV.sc (.int .u8 (1)))] .ex, .sl .lf [(AV.sc (.int .u8 (2)))] .ex] (byL [[1], [2]]) := .cons (.sl (.inl rfl) (Weaks.refl _)) (.cons (.sl (.inl rfl) (Weaks.refl _)) .nil)
theorem c_awake26 : FnOK Tryd.prog D 48 [] [] (fun r st => r = (AV.sc (.bool (true))) ∧ st = []) := by
  have ht : ∀ t ∈ ([[1], [2]] : List (List UInt8)), t.length < 10000000 := by
    intro t h
    simp at h
    rcases h with rfl | rfl <;> decide
  have cp := c_prove 2 [[1], [2]] 1 (by decide) (by decide) (by decide) (by decide) ht
  rw [show proveF 2 [[1], [2]] 1 = [leafB [1]] from pr12_is] at cp
  have cP := (c_Prove [[1], [2]] 1 (by decide) [leafB [1]] cp).weak (.cons (.sl (.inl rfl) weak12) (.cons (Weak.refl _) .nil))
  have cR := (c_root 2 [[1], [2]] (by decide) (by decide) ht).weak (.cons (.sl (.inl rfl) weak12) .nil)
  have c0 := (c_root 0 [] (by decide) (by decide) (by simp)).weak (.cons (.sl (.inl rfl) .nil) .nil)
  have cy := c_chk rt12 [2] 2 1 [leafB [1]] (rootF_len _ _) (by decide) (by decide) (by intro p h; simp at h; rw [h]; exact shaB_len _)
  rw [chk12] at cy
  have cn := c_chk rt12 [2] 2 0 [leafB [1]] (rootF_len _ _) (by decide) (by decide) (by intro p h; simp at h; rw [h]; exact shaB_len _)
  rw [chk12n] at cn
  exact c_awake26_aux (leafB [1]) rt12 (rootF_len _ _) cP cR c0 (cy.weak (.cons (Weak.refl _) (.cons (Weak.refl _) (.cons (Weak.refl _) (.cons (.sl (.inl rfl) (Weaks.refl _)) (.cons (Weak.refl _) .nil))))))
    (cn.weak (.cons (Weak.refl _) (.cons (Weak.refl _) (.cons (Weak.refl _) (.cons (.sl (.inl rfl) (Weaks.refl _)) (.cons (Weak.refl _) .nil))))))
end Go.WL.T4
