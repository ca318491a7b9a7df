/- Bytes: the same, copied; a number's. No condition. -/
import Derived.Test.YtcmdkiejkheahaaDoorPart02
import Derived.Test.YtcmdkiejkheahaaDoorWordsD
set_option linter.unusedVariables false
set_option linter.unusedSimpArgs false
namespace Go.WL.T6d
open Go.WL Go.Proofs
set_option maxRecDepth 20000
set_option maxHeartbeats 4000000
theorem len8 (b : List UInt8) : (by8 b).length = b.length := by simp [by8]
theorem at8 {b : List UInt8} {i : Nat} (h : i < b.length) : (by8 b)[((i : Nat) : Int).toNat]? = some ((AV.sc (.int .u8 ((b[i].toNat : Int))))) := by simp [by8, h]
theorem ne8 (x y : UInt8) : (((x.toNat : Nat) : Int) != ((y.toNat : Nat) : Int)) = (x != y) := by
  by_cases h : x = y
  · subst h; simp
  · have : ((x.toNat : Nat) : Int) ≠ ((y.toNat : Nat) : Int) := fun e => h (UInt8.toNat_inj.1 (by omega))
    rw [bne_iff_ne .. |>.2 this, bne_iff_ne .. |>.2 h]
theorem c_same0 (a b : List UInt8) (ha : a.length < 9223372036854775807) : FnOK Tryd.prog D 18 [(AV.sl .lf (by8 (a)) .ro), (AV.sl .lf (by8 (b)) .ro)] [] (fun r st => r = (AV.sc (.bool (a == b))) ∧ st = []) := by
  refine fnok_of_W hmix tabOK Tryd.func18 rfl rfl (Nat.le_of_ble_eq_true rfl) ?_
  conv => whnf
  rw [len8, len8]
  refine Branch.of (fun h => ?_) (fun h => ?_) <;> rw [h] <;> conv => whnf
  · refine ⟨false, [], ?_⟩
    conv => whnf
    refine ⟨?_, rfl⟩
    have hne : a.length ≠ b.length := by
      simp only [bne_iff_ne, ne_eq] at h
      omega
    rw [show (a == b) = false from beq_eq_false_iff_ne.2 fun e => hne (by rw [e])]
  have hl : a.length = b.length := by
    simp only [bne_eq_false_iff_eq] at h
    omega
  refine ⟨false, [0, 1, 5], fun τ => ∃ i : Nat, i ≤ a.length ∧ a.take i = b.take i ∧ τ = ⟨26, [(0, (AV.sl .lf (by8 (a)) .ro)), (1, (AV.sl .lf (by8 (b)) .ro)), (5, (AV.sc (.int .i64 ((i : Int)))))], ⟨[], [], 0⟩⟩, fun τ => a.length - (slotI τ 5).toNat, ?_, ?_⟩
  · conv => whnf
    exact ⟨0, Nat.zero_le _, by simp, rfl⟩
  · rintro τ ⟨i, i1, i2, rfl⟩
    conv => whnf
    rw [len8]
    refine Branch.of (fun h2 => ?_) (fun h2 => ?_) <;> rw [h2] <;> conv => whnf
    · simp only [decide_eq_true_eq] at h2
      have ia : i < a.length := by omega
      have ib : i < b.length := by omega
      refine ⟨tabF18R6, by decide +kernel, ?_⟩
      conv => whnf
      refine ⟨by omega, _, at8 ia, ?_⟩
      conv => whnf
      refine ⟨by omega, _, at8 ib, ?_⟩
      conv => whnf
      rw [ne8]
      generalize hx : a[i] = x
      generalize hy : b[i] = y
      refine Branch.of (fun h3 => ?_) (fun h3 => ?_) <;> rw [h3] <;> conv => whnf
      · refine ⟨false, [], ?_⟩
        conv => whnf
        refine ⟨?_, rfl⟩
        have hne : a ≠ b := by
          intro e
          subst e
          rw [hx] at hy
          subst hy
          simp at h3
        rw [show (a == b) = false from beq_eq_false_iff_ne.2 hne]
      · rw [w64 (x := (i : Int) + 1) (by omega) (by omega)]
        refine ⟨⟨i + 1, by omega, ?_, rfl⟩, ?_⟩
        · rw [List.take_succ_eq_append_getElem ia, List.take_succ_eq_append_getElem ib, i2, hx, hy]
          simp only [bne_eq_false_iff_eq] at h3
          rw [h3]
        · show a.length - ((i : Int) + 1).toNat < a.length - (i : Int).toNat
          omega
    · simp only [decide_eq_false_iff_not] at h2
      refine ⟨false, [], ?_⟩
      conv => whnf
      refine ⟨?_, rfl⟩
      have e : i = a.length := by omega
      subst e
      rw [List.take_length, hl, List.take_length] at i2
      rw [i2, beq_self_eq_true]
theorem c_same (a b : List UInt8) (ha : a.length < 9223372036854775807) {m1 m2 : Mark} (h1 : m1 = .ex ∨ m1 = .ro) (h2 : m2 = .ex ∨ m2 = .ro) : FnOK Tryd.prog D 18 [.sl .lf (by8 a) m1, .sl .lf (by8 b) m2] [] (fun r st => r = (AV.sc (.bool (a == b))) ∧ st = []) :=
  (c_same0 a b ha).weak (.cons (.sl h1 (Weaks.refl _)) (.cons (.sl h2 (Weaks.refl _)) .nil))
theorem c_clone0 (b : List UInt8) (hb : b.length < 4294967296) : FnOK Tryd.prog D 67 [(AV.sl .lf (by8 (b)) .ro)] [] (fun r st => r = (AV.sl .lf (by8 (b)) (.own 0)) ∧ st = []) := by
  refine fnok_of_W hmix tabOK Tryd.func67 rfl rfl (Nat.le_of_ble_eq_true rfl) ?_
  conv => whnf
  intro nl hnl
  conv => whnf
  refine Branch.of (fun h => ?_) (fun h => ?_) <;> rw [h] <;> conv => whnf
  · have hb0 : b = [] := by
      by_cases c : by8 b = []
      · simpa [by8] using c
      · rw [hnl c] at h; exact absurd h (by simp)
    subst hb0
    refine ⟨true, [], ?_⟩
    conv => whnf
    exact ⟨rfl, rfl⟩
  · refine ⟨by rw [len8]; simp; omega, ?_⟩
    conv => whnf
    refine ⟨false, [], ?_⟩
    conv => whnf
    exact ⟨rfl, rfl⟩
end Go.WL.T6d
