/- Receipts: what may be, their bytes, what is got. No condition. -/
import Derived.Test.YtkcflejbhfaihaaDoorPart27
import Derived.Test.YtkcflejbhfaihaaDoorWordsC
set_option linter.unusedVariables false
set_option linter.unusedSimpArgs false
namespace Go.WL.T4
open Go.WL Go.Proofs
set_option maxRecDepth 20000
set_option maxHeartbeats 4000000
def part (l : List UInt8) (i : Nat) : List UInt8 := l.take i ++ List.replicate (32 - i) 0
theorem part_len (l : List UInt8) (i : Nat) (h : 32 ≤ l.length) (hi : i ≤ 32) : (part l i).length = 32 := by simp [part]; omega
theorem part_set (l : List UInt8) (i : Nat) (h : i < l.length) (hi : i < 32) : (by8 (part l i)).set i ((AV.sc (.int .u8 ((l[i].toNat : Int))))) = by8 (part l (i + 1)) := by
  have e : (part l i).set i l[i] = part l (i + 1) := by
    unfold part
    rw [List.take_succ_eq_append_getElem h, List.append_assoc]
    have h1 : (l.take i).length = i := by simp; omega
    rw [List.set_append_right _ _ (by omega), h1, Nat.sub_self]
    congr 1
    rw [show 32 - i = (32 - (i + 1)) + 1 by omega, List.replicate_succ]
    rfl
  rw [← e]
  simp [by8]
end Go.WL.T4
namespace Go.WL.T4
open Go.WL Go.Proofs
set_option maxRecDepth 20000
set_option maxHeartbeats 8000000
theorem c_within (n lo hi : Int) : FnOK Tryd.prog D 105 [(AV.sc (.int .i64 (n))), (AV.sc (.int .i64 (lo))), (AV.sc (.int .i64 (hi)))] [] (fun r st => r = (AV.sc (.bool (decide (lo ≤ n ∧ n ≤ hi)))) ∧ st = []) := by
  refine fnok_of_W hmix tabOK Tryd.func105 rfl rfl (Nat.le_of_ble_eq_true rfl) ?_
  conv => whnf
  refine Branch.of (fun h => ?_) (fun h => ?_) <;> rw [h] <;> conv => whnf
  · simp only [ge_iff_le, decide_eq_true_eq] at h
    refine ⟨false, [], ?_⟩
    conv => whnf
    refine ⟨?_, rfl⟩
    congr 2
    simp [h]
  · simp only [ge_iff_le, decide_eq_false_iff_not] at h
    refine ⟨false, [], ?_⟩
    conv => whnf
    refine ⟨?_, rfl⟩
    congr 2
    simp [h]
@[irreducible] def mayR (h p c : Int) : Bool := decide (1 ≤ h ∧ h ≤ 1099511627776 ∧ 0 ≤ p ∧ p ≤ 7 ∧ 0 ≤ c ∧ c ≤ 20)
theorem mayR_eq (h p c : Int) : mayR h p c = decide (1 ≤ h ∧ h ≤ 1099511627776 ∧ 0 ≤ p ∧ p ≤ 7 ∧ 0 ≤ c ∧ c ≤ 20) := by unfold mayR; rfl
theorem c_may (g : List UInt8) (h p c : Int) : FnOK Tryd.prog D 98 [.st [.ar 32 .lf (by8 g), (AV.sc (.int .i64 (h))), (AV.sc (.int .i64 (p))), (AV.sc (.int .i64 (c)))]] [] (fun r st => r = (AV.sc (.bool (mayR h p c))) ∧ st = []) := by
  rw [mayR_eq]
  refine fnok_of_W hmix tabOK Tryd.func98 rfl rfl (Nat.le_of_ble_eq_true rfl) ?_
  conv => whnf
  refine (c_within h 1 1099511627776).mono fun r st e => ?_
  obtain ⟨rfl, rfl⟩ := e
  conv => whnf
  refine Branch.of (fun h1 => ?_) (fun h1 => ?_) <;> rw [h1] <;> conv => whnf
  · simp only [decide_eq_true_eq] at h1
    refine (c_within p 0 7).mono fun r st e => ?_
    obtain ⟨rfl, rfl⟩ := e
    conv => whnf
    refine Branch.of (fun h2 => ?_) (fun h2 => ?_) <;> rw [h2] <;> conv => whnf
    · simp only [decide_eq_true_eq] at h2
      refine (c_within c 0 20).mono fun r st e => ?_
      obtain ⟨rfl, rfl⟩ := e
      conv => whnf
      refine ⟨false, [], ?_⟩
      conv => whnf
      refine ⟨?_, rfl⟩
      congr 2
      rw [decide_eq_decide]
      omega
    · simp only [decide_eq_false_iff_not] at h2
      refine ⟨false, [], ?_⟩
      conv => whnf
      refine ⟨?_, rfl⟩
      congr 2
      exact (decide_eq_false (by omega)).symm
  · simp only [decide_eq_false_iff_not] at h1
    refine ⟨false, [], ?_⟩
    conv => whnf
    refine ⟨?_, rfl⟩
    congr 2
    exact (decide_eq_false (by omega)).symm
theorem c_refmay (g : List UInt8) (h p c : Int) : FnOK Tryd.prog D 60 [.st [.ar 32 .lf (by8 g), (AV.sc (.int .i64 (h))), (AV.sc (.int .i64 (p))), (AV.sc (.int .i64 (c)))]] [] (fun r st => r = (AV.sc (.bool (mayR h p c))) ∧ st = []) := by
  rw [mayR_eq]
  refine fnok_of_W hmix tabOK Tryd.func60 rfl rfl (Nat.le_of_ble_eq_true rfl) ?_
  conv => whnf
  refine Branch.of (fun h1 => ?_) (fun h1 => ?_) <;> rw [h1] <;> conv => whnf
  rotate_left
  · refine ⟨false, [], ?_⟩
    conv => whnf
    simp only [ge_iff_le, decide_eq_false_iff_not] at h1
    refine ⟨?_, rfl⟩
    congr 2
    exact (decide_eq_false (by omega)).symm
  refine Branch.of (fun h2 => ?_) (fun h2 => ?_) <;> rw [h2] <;> conv => whnf
  rotate_left
  · refine ⟨false, [], ?_⟩
    conv => whnf
    simp only [ge_iff_le, decide_eq_false_iff_not] at h2
    refine ⟨?_, rfl⟩
    congr 2
    exact (decide_eq_false (by omega)).symm
  refine Branch.of (fun h3 => ?_) (fun h3 => ?_) <;> rw [h3] <;> conv => whnf
  rotate_left
  · refine ⟨false, [], ?_⟩
    conv => whnf
    simp only [ge_iff_le, decide_eq_false_iff_not] at h3
    refine ⟨?_, rfl⟩
    congr 2
    exact (decide_eq_false (by omega)).symm
  refine Branch.of (fun h4 => ?_) (fun h4 => ?_) <;> rw [h4] <;> conv => whnf
  rotate_left
  · refine ⟨false, [], ?_⟩
    conv => whnf
    simp only [ge_iff_le, decide_eq_false_iff_not] at h4
    refine ⟨?_, rfl⟩
    congr 2
    exact (decide_eq_false (by omega)).symm
  refine Branch.of (fun h5 => ?_) (fun h5 => ?_) <;> rw [h5] <;> conv => whnf
  rotate_left
  · refine ⟨false, [], ?_⟩
    conv => whnf
    simp only [ge_iff_le, decide_eq_false_iff_not] at h5
    refine ⟨?_, rfl⟩
    congr 2
    exact (decide_eq_false (by omega)).symm
  refine ⟨false, [], ?_⟩
  conv => whnf
  simp only [ge_iff_le, decide_eq_true_eq] at h1 h2 h3 h4 h5
  refine ⟨?_, rfl⟩
  congr 2
  rw [decide_eq_decide]
  omega
theorem c_hbytes (g : List UInt8) (hg : g.length = 32) : FnOK Tryd.prog D 82 [.ar 32 .lf (by8 g)] [] (fun r st => r = (AV.sl .lf (by8 (g)) (.own 0)) ∧ st = []) := by
  refine fnok_of_W hmix tabOK Tryd.func82 rfl rfl (Nat.le_of_ble_eq_true rfl) ?_
  conv => whnf
  refine ⟨true, [1, 3, 4], fun τ => ∃ i : Nat, i ≤ 32 ∧ τ = ⟨17, [(1, .pt 0 []), (3, (AV.sl .lf (by8 (g.take i)) (.own 0))), (4, (AV.sc (.int .i64 ((i : Int)))))], ⟨[(.ar 32 .lf (by8 g), false)], [0], 1⟩⟩, fun τ => 32 - (slotI τ 4).toNat, ?_, ?_⟩
  · conv => whnf
    exact ⟨0, by omega, rfl⟩
  · rintro τ ⟨i, hi, rfl⟩
    conv => whnf
    refine Branch.of (fun h3 => ?_) (fun h3 => ?_) <;> rw [h3] <;> conv => whnf
    · simp only [decide_eq_true_eq] at h3
      have ih : i < g.length := by omega
      refine ⟨by omega, by omega, ?_⟩
      conv => whnf
      refine ⟨_, at8 ih, ?_⟩
      conv => whnf
      refine ⟨by rw [len8]; simp; omega, ?_⟩
      conv => whnf
      rw [w64 (x := (i : Int) + 1) (by omega) (by omega), snoc8 (g.take i) (n := g[i].toNat) g[i].toNat_lt]
      refine ⟨⟨i + 1, by omega, ?_⟩, ?_⟩
      · rw [UInt8.ofNat_toNat, ← List.take_succ_eq_append_getElem ih]
        rfl
      · show 32 - ((i : Int) + 1).toNat < 32 - (i : Int).toNat
        omega
    · simp only [decide_eq_false_iff_not] at h3
      have e : i = 32 := by omega
      subst e
      rw [← hg, List.take_length]
      refine ⟨false, [], ?_⟩
      conv => whnf
      exact ⟨rfl, rfl⟩
end Go.WL.T4
