/- A reader reads texts and hashes. No condition. -/
import Derived.Test.YtcmdkiejkheahaaDoorPart08
set_option linter.unusedVariables false
set_option linter.unusedSimpArgs false
namespace Go.WL.T6d
open Go.WL Go.Proofs
set_option maxRecDepth 20000
set_option maxHeartbeats 4000000
theorem rupto_len (b : List UInt8) (w : Bool) (top : Int) : (rupto b w top).2.1.length ≤ b.length := by
  unfold rupto
  split
  · simp
  · exact rnum_len b false
theorem rupto_le (b : List UInt8) (w : Bool) (top : Int) (h : 0 ≤ top) : ((rupto b w top).1 : Int) ≤ top := by
  unfold rupto
  split
  · simpa using h
  · rename_i c
    omega
theorem c_rtext (b : List UInt8) (w : Bool) (hb : b.length < 4000000000) : FnOK Tryd.prog D 77 [.pt 0 []] [.st [(AV.sl .lf (by8 (b)) .ro), (AV.sc (.bool (w)))]] (fun r st => r = (AV.sl .lf (by8 ((rtext b w).1)) (.own 0)) ∧ st = [.st [(AV.sl .lf (by8 ((rtext b w).2.1)) .ro), (AV.sc (.bool ((rtext b w).2.2)))]]) := by
  cases w with
  | true =>
    rw [show rtext b true = ([], b, true) from if_pos (.inl rfl)]
    refine fnok_of_W hmix tabOK Tryd.func77 rfl rfl (Nat.le_of_ble_eq_true rfl) ?_
    conv => whnf
    refine (c_off b true).mono fun r st e => ?_
    obtain ⟨rfl, rfl⟩ := e
    conv => whnf
    refine ⟨true, [], ?_⟩
    conv => whnf
    exact ⟨rfl, rfl⟩
  | false =>
    have hm := rupto_le b false 65536 (by decide)
    have hl := rupto_len b false 65536
    have c1 := c_upto b false 65536 (by decide) (by omega)
    have hr : rtext b false = if (rupto b false 65536).2.2 = true ∨ (rupto b false 65536).1 > (rupto b false 65536).2.1.length then ([], b, true)
      else ((rupto b false 65536).2.1.take (rupto b false 65536).1, (rupto b false 65536).2.1.drop (rupto b false 65536).1, false) := by
      unfold rtext
      simp
    rw [hr]
    generalize rupto b false 65536 = x at hm hl c1
    obtain ⟨n, b', w'⟩ := x
    simp only at hm hl c1 ⊢
    refine fnok_of_W hmix tabOK Tryd.func77 rfl rfl (Nat.le_of_ble_eq_true rfl) ?_
    conv => whnf
    refine (c_off b false).mono fun r st e => ?_
    obtain ⟨rfl, rfl⟩ := e
    conv => whnf
    refine c1.mono fun r st e => ?_
    obtain ⟨rfl, rfl⟩ := e
    conv => whnf
    cases w' with
    | true =>
      rw [if_pos (.inl rfl)]
      conv => whnf
      refine ⟨true, [], ?_⟩
      conv => whnf
      exact ⟨rfl, rfl⟩
    | false =>
      conv => whnf
      rw [len8]
      refine Branch.of (fun h => ?_) (fun h => ?_) <;> rw [h] <;> conv => whnf
      · simp only [gt_iff_lt, decide_eq_true_eq] at h
        rw [if_pos (.inr (by omega))]
        refine ⟨true, [], ?_⟩
        conv => whnf
        exact ⟨rfl, rfl⟩
      simp only [gt_iff_lt, decide_eq_false_iff_not] at h
      rw [if_neg (by simp; omega)]
      refine ⟨by omega, ?_⟩
      conv => whnf
      refine ⟨by omega, by rw [len8]; omega, ?_⟩
      conv => whnf
      rw [Int.toNat_natCast, Nat.sub_zero, List.drop_zero, by8_take]
      refine (c_clone0 (b'.take n) (by simp; omega)).mono fun r st e => ?_
      obtain ⟨rfl, rfl⟩ := e
      conv => whnf
      refine ⟨by omega, ?_⟩
      conv => whnf
      refine ⟨by rw [len8]; omega, by rw [len8]; omega, ?_⟩
      conv => whnf
      rw [Int.toNat_natCast, by8_cut n b']
      refine ⟨false, [], ?_⟩
      conv => whnf
      exact ⟨rfl, rfl⟩
theorem c_rhash (b : List UInt8) (w : Bool) (hb : b.length < 4000000000) : FnOK Tryd.prog D 80 [.pt 0 []] [.st [(AV.sl .lf (by8 (b)) .ro), (AV.sc (.bool (w)))]] (fun r st => r = .ar 32 .lf (by8 (rhash b w).1) ∧ st = [.st [(AV.sl .lf (by8 ((rhash b w).2.1)) .ro), (AV.sc (.bool ((rhash b w).2.2)))]]) := by
  cases w with
  | true =>
    rw [show rhash b true = (List.replicate 32 0, b, true) from if_pos (.inl rfl)]
    refine fnok_of_W hmix tabOK Tryd.func80 rfl rfl (Nat.le_of_ble_eq_true rfl) ?_
    conv => whnf
    refine (c_off b true).mono fun r st e => ?_
    obtain ⟨rfl, rfl⟩ := e
    conv => whnf
    refine ⟨false, [], ?_⟩
    conv => whnf
    exact ⟨rfl, rfl⟩
  | false =>
    have hr : rhash b false = if b.length < 32 then (List.replicate 32 0, b, true) else (b.take 32, b.drop 32, false) := by
      unfold rhash
      simp
    rw [hr]
    refine fnok_of_W hmix tabOK Tryd.func80 rfl rfl (Nat.le_of_ble_eq_true rfl) ?_
    conv => whnf
    refine (c_off b false).mono fun r st e => ?_
    obtain ⟨rfl, rfl⟩ := e
    conv => whnf
    rw [len8]
    refine Branch.of (fun h => ?_) (fun h => ?_) <;> rw [h] <;> conv => whnf
    · simp only [decide_eq_true_eq] at h
      rw [if_pos (by omega)]
      refine ⟨false, [], ?_⟩
      conv => whnf
      exact ⟨rfl, rfl⟩
    simp only [decide_eq_false_iff_not] at h
    rw [if_neg (by omega)]
    refine ⟨tabF80R7, by decide +kernel, ?_⟩
    conv => whnf
    refine ⟨by omega, by omega, ?_⟩
    conv => whnf
    refine ⟨by omega, ?_⟩
    conv => whnf
    refine ⟨by rw [len8]; omega, by rw [len8]; omega, ?_⟩
    conv => whnf
    refine ⟨false, [], ?_⟩
    conv => whnf
    refine ⟨?_, ?_⟩
    · congr 1
      show _ = by8 (b.take 32)
      rw [List.take_zero, List.nil_append, by8_take, len8, Nat.min_eq_right (by omega), List.drop_of_length_le (by simp), List.append_nil]
    · rw [show Int.toNat 32 = 32 from rfl, by8_cut 32 b]
end Go.WL.T6d
