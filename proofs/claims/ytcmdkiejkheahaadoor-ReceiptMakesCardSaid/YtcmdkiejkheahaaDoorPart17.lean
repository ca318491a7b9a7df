/- OctetOne: one form; no reader reads nothing. No condition. -/
import Derived.Test.YtcmdkiejkheahaaDoorPart08
import Derived.Test.YtcmdkiejkheahaaDoorWordsD
set_option linter.unusedVariables false
set_option linter.unusedSimpArgs false
namespace Go.WL.T6d
open Go.WL Go.Proofs
set_option maxRecDepth 20000
set_option maxHeartbeats 8000000
theorem n_num : FnOK Tryd.prog D 114 [.sc (.pointer none)] [] (fun r st => r = (AV.sc (.int .u64 (0))) ∧ st = []) := by
  refine fnok_of_W hmix tabOK Tryd.func114 rfl rfl (Nat.le_of_ble_eq_true rfl) ?_
  conv => whnf
  refine c_offnil.mono fun r st e => ?_
  obtain ⟨rfl, rfl⟩ := e
  conv => whnf
  refine ⟨false, [], ?_⟩
  conv => whnf
  exact ⟨rfl, rfl⟩
theorem n_upto (top : Int) : FnOK Tryd.prog D 76 [.sc (.pointer none), (AV.sc (.int .i64 (top)))] [] (fun r st => r = (AV.sc (.int .i64 (0))) ∧ st = []) := by
  refine fnok_of_W hmix tabOK Tryd.func76 rfl rfl (Nat.le_of_ble_eq_true rfl) ?_
  conv => whnf
  refine c_offnil.mono fun r st e => ?_
  obtain ⟨rfl, rfl⟩ := e
  conv => whnf
  refine ⟨false, [], ?_⟩
  conv => whnf
  exact ⟨rfl, rfl⟩
theorem n_text : FnOK Tryd.prog D 77 [.sc (.pointer none)] [] (fun r st => r = .sl .lf [] .ex ∧ st = []) := by
  refine fnok_of_W hmix tabOK Tryd.func77 rfl rfl (Nat.le_of_ble_eq_true rfl) ?_
  conv => whnf
  refine c_offnil.mono fun r st e => ?_
  obtain ⟨rfl, rfl⟩ := e
  conv => whnf
  refine ⟨false, [], ?_⟩
  conv => whnf
  exact ⟨rfl, rfl⟩
theorem n_hash : FnOK Tryd.prog D 80 [.sc (.pointer none)] [] (fun r st => r = .ar 32 .lf (by8 (List.replicate 32 0)) ∧ st = []) := by
  refine fnok_of_W hmix tabOK Tryd.func80 rfl rfl (Nat.le_of_ble_eq_true rfl) ?_
  conv => whnf
  refine c_offnil.mono fun r st e => ?_
  obtain ⟨rfl, rfl⟩ := e
  conv => whnf
  refine ⟨false, [], ?_⟩
  conv => whnf
  exact ⟨rfl, rfl⟩
theorem n_left : FnOK Tryd.prog D 22 [.sc (.pointer none)] [] (fun r st => r = (AV.sc (.int .i64 (0))) ∧ st = []) := by
  refine fnok_of_W hmix tabOK Tryd.func22 rfl rfl (Nat.le_of_ble_eq_true rfl) ?_
  conv => whnf
  refine ⟨false, [], ?_⟩
  conv => whnf
  exact ⟨rfl, rfl⟩
theorem n_wrong : FnOK Tryd.prog D 78 [.sc (.pointer none)] [] (fun r st => r = (AV.sc (.bool (true))) ∧ st = []) := by
  refine fnok_of_W hmix tabOK Tryd.func78 rfl rfl (Nat.le_of_ble_eq_true rfl) ?_
  conv => whnf
  refine c_offnil.mono fun r st e => ?_
  obtain ⟨rfl, rfl⟩ := e
  conv => whnf
  refine ⟨false, [], ?_⟩
  conv => whnf
  exact ⟨rfl, rfl⟩
theorem n_done : FnOK Tryd.prog D 81 [.sc (.pointer none)] [] (fun r st => r = (AV.sc (.bool (false))) ∧ st = []) := by
  refine fnok_of_W hmix tabOK Tryd.func81 rfl rfl (Nat.le_of_ble_eq_true rfl) ?_
  conv => whnf
  refine c_offnil.mono fun r st e => ?_
  obtain ⟨rfl, rfl⟩ := e
  conv => whnf
  refine ⟨false, [], ?_⟩
  conv => whnf
  exact ⟨rfl, rfl⟩
theorem one_num (b : List UInt8) (h : (rnum b false).2.2 = false) : num (rnum b false).1 = b.take (b.length - (rnum b false).2.1.length) ∧ (rnum b false).2.1.length ≤ b.length := by
  unfold rnum at h ⊢
  by_cases h0 : (rdn b 0 0).2 = 0
  · simp [h0] at h
  · obtain ⟨m, e1, _, e3⟩ := rdn_back b 0 0 h0
    have hs := rdn_size b 0 0
    simp only [Bool.false_eq_true, if_false, h0, List.length_drop]
    rw [Nat.sub_zero] at e1
    rw [e3, Nat.zero_add, Nat.pow_zero, Nat.mul_one, ← e1, show b.length - (b.length - (rdn b 0 0).2) = (rdn b 0 0).2 by omega]
    exact ⟨rfl, by omega⟩
theorem num_suffix (b : List UInt8) (h : (rnum b false).2.2 = false) : (rnum b false).2.1 = b.drop (b.length - (rnum b false).2.1.length) := by
  unfold rnum at h ⊢
  by_cases h0 : (rdn b 0 0).2 = 0
  · simp [h0] at h
  · have hs := rdn_size b 0 0
    simp only [Bool.false_eq_true, if_false, h0, List.length_drop]
    rw [show b.length - (b.length - (rdn b 0 0).2) = (rdn b 0 0).2 by omega]
theorem one_text (b : List UInt8) (h : (rtext b false).2.2 = false) : num (rtext b false).1.length ++ (rtext b false).1 = b.take (b.length - (rtext b false).2.1.length) ∧ (rtext b false).2.1.length ≤ b.length ∧ (rtext b false).1.length ≤ 65536 := by
  unfold rtext at h ⊢
  by_cases c : (false = true) ∨ (rupto b false 65536).2.2 = true ∨ (rupto b false 65536).1 > (rupto b false 65536).2.1.length
  · rw [if_pos c] at h; simp at h
  · rw [if_neg c]
    simp only [Bool.false_eq_true, false_or, not_or, Bool.not_eq_true, Nat.not_lt, gt_iff_lt] at c
    obtain ⟨c1, c2⟩ := c
    have hle := rupto_le b false 65536 (by decide)
    have hr : rupto b false 65536 = rnum b false := by
      unfold rupto at c1 ⊢
      split
      · rename_i k
        rw [if_pos k] at c1
        simp at c1
      · rfl
    rw [hr] at c1 c2 hle ⊢
    have ho := one_num b c1
    have hsuf := num_suffix b
    generalize rnum b false = x at c1 c2 hle ho hsuf
    obtain ⟨n, b', w'⟩ := x
    simp only at c1 c2 hle ho hsuf ⊢
    have hn : (b'.take n).length = n := by simp; omega
    obtain ⟨ho1, ho2⟩ := ho
    have hb' : b' = b.drop (b.length - b'.length) := hsuf c1
    rw [hn]
    refine ⟨?_, by simp; omega, by omega⟩
    rw [ho1, List.length_drop]
    generalize b'.length = k at *
    rw [hb']
    rw [← List.take_add]
    congr 1
    omega
end Go.WL.T6d
