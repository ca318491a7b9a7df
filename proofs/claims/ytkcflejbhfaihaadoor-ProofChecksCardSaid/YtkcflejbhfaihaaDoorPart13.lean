/- Half of some; the length of a number's bits. No condition. -/
import Derived.Test.YtkcflejbhfaihaaDoorWordsC
import Derived.Test.YtkcflejbhfaihaaDoorPart02
set_option linter.unusedVariables false
set_option linter.unusedSimpArgs false
namespace Go.WL.T4
open Go.WL Go.Proofs
set_option maxRecDepth 20000
set_option maxHeartbeats 8000000
/-- How many bits a number below 256 has. -/
def bl8 (n : Nat) : Nat := if n = 0 then 0 else Nat.log2 n + 1
theorem log_div (x k : Nat) (h : 2 ^ k ≤ x) : Nat.log2 x = Nat.log2 (x / 2 ^ k) + k := by
  have hx : x ≠ 0 := by have := Nat.two_pow_pos k; omega
  have hd : x / 2 ^ k ≠ 0 := by
    have := Nat.div_pos h (Nat.two_pow_pos k)
    omega
  have h1 := (Nat.le_log2 hd).1 (Nat.le_refl _)
  have h2 : x / 2 ^ k < 2 ^ (Nat.log2 (x / 2 ^ k) + 1) := (Nat.log2_lt hd).1 (Nat.lt_succ_self _)
  have h3 : 2 ^ (Nat.log2 (x / 2 ^ k) + k) ≤ x := by
    rw [Nat.pow_add]
    exact (Nat.le_div_iff_mul_le (Nat.two_pow_pos k)).1 h1
  have h4 : x < 2 ^ (Nat.log2 (x / 2 ^ k) + k + 1) := by
    rw [show Nat.log2 (x / 2 ^ k) + k + 1 = Nat.log2 (x / 2 ^ k) + 1 + k by omega, Nat.pow_add]
    exact (Nat.div_lt_iff_lt_mul (Nat.two_pow_pos k)).1 h2
  have h5 := (Nat.le_log2 hx).2 h3
  have h6 := (Nat.log2_lt hx).2 h4
  omega
theorem shrU (x k : Nat) : Int.fdiv (x : Int) (2 ^ k) = ((x / 2 ^ k : Nat) : Int) := by
  rw [show (2 : Int) ^ k = ((2 ^ k : Nat) : Int) by simp, Int.fdiv_eq_ediv_of_nonneg _ (Int.natCast_nonneg _)]
  rfl
theorem bl8_le : ∀ j : Fin 256, bl8 j.val ≤ 8 ∧ (UInt8.ofNat (bl8 j.val)).toNat = bl8 j.val := by decide +kernel
theorem bl8_int (y k : Nat) (h0 : 0 < y) (h1 : y < 256) (hk : k < 100) : IntKind.i64.wrap ((k : Int) + IntKind.i64.wrap ((UInt8.ofNat (bl8 y)).toNat : Int)) = ((Nat.log2 y + 1 + k : Nat) : Int) := by
  have hb := bl8_le ⟨y, h1⟩
  dsimp only at hb
  rw [hb.2, w64 (x := ((bl8 y : Nat) : Int)) (by omega) (by omega), w64 (by have := hb.1; omega) (by have := hb.1; omega)]
  have : bl8 y = Nat.log2 y + 1 := by unfold bl8; rw [if_neg (by omega)]
  omega
theorem c_len64 (x : Nat) (h0 : 0 < x) (hx : x < 16777216) : FnOK Tryd.prog D 104 [(AV.sc (.int .u64 ((x : Int))))] [] (fun r st => r = (AV.sc (.int .i64 (((Nat.log2 x + 1 : Nat) : Int)))) ∧ st = []) := by
  refine fnok_of_W hmix tabOK Tryd.func104 rfl rfl (Nat.le_of_ble_eq_true rfl) ?_
  conv => whnf
  refine Branch.of (fun hh => ?_) (fun hh => ?_)
  · exfalso; simp only [gt_iff_lt, ge_iff_le, decide_eq_true_eq, decide_eq_false_iff_not, beq_iff_eq, beq_eq_false_iff_ne, bne_iff_ne, bne_eq_false_iff_eq, ne_eq] at hh; first | done | omega | (simp at hh; done)
  try rw [hh]
  clear hh
  conv => whnf
  refine Branch.of (fun h1 => ?_) (fun h1 => ?_) <;> rw [h1] <;> conv => whnf
  · simp only [ge_iff_le, decide_eq_true_eq] at h1
    refine ⟨by omega, ?_⟩
    conv => whnf
    rw [show Int.fdiv (x : Int) (2 ^ min (Int.toNat 16) IntKind.u64.bits) = ((x / 2 ^ 16 : Nat) : Int) from shrU x 16]
    have e := log_div x 16 (by omega)
    refine Branch.of (fun hh => ?_) (fun hh => ?_)
    · exfalso; simp only [gt_iff_lt, ge_iff_le, decide_eq_true_eq, decide_eq_false_iff_not, beq_iff_eq, beq_eq_false_iff_ne, bne_iff_ne, bne_eq_false_iff_eq, ne_eq] at hh; first | done | omega | (simp at hh; done)
    try rw [hh]
    clear hh
    conv => whnf
    rw [wu8 (x := ((x / 2 ^ 16 : Nat) : Int)) (by omega) (by omega), show IntKind.i64.wrap (0 + 16) = ((16 : Nat) : Int) by decide]
    refine ⟨by omega, UInt8.ofNat (bl8 (x / 2 ^ 16)), ?_, ?_⟩
    · rw [Int.toNat_natCast, ByteArray.toList_eq]
      suffices h : ∀ j : Fin 256, _[j.val]? = some (UInt8.ofNat (bl8 j.val)) from h ⟨x / 2 ^ 16, by omega⟩
      decide +kernel
    conv => whnf
    rw [bl8_int (x / 2 ^ 16) 16 (by omega) (by omega) (by omega)]
    refine ⟨false, [], ?_⟩
    conv => whnf
    exact ⟨by first | rfl | (congr 3; omega), rfl⟩
  · simp only [ge_iff_le, decide_eq_false_iff_not] at h1
    refine Branch.of (fun h2 => ?_) (fun h2 => ?_) <;> rw [h2] <;> conv => whnf
    · simp only [ge_iff_le, decide_eq_true_eq] at h2
      refine ⟨by omega, ?_⟩
      conv => whnf
      rw [show Int.fdiv (x : Int) (2 ^ min (Int.toNat 8) IntKind.u64.bits) = ((x / 2 ^ 8 : Nat) : Int) from shrU x 8]
      have e := log_div x 8 (by omega)
      rw [wu8 (x := ((x / 2 ^ 8 : Nat) : Int)) (by omega) (by omega), show IntKind.i64.wrap (0 + 8) = ((8 : Nat) : Int) by decide]
      refine ⟨by omega, UInt8.ofNat (bl8 (x / 2 ^ 8)), ?_, ?_⟩
      · rw [Int.toNat_natCast, ByteArray.toList_eq]
        suffices h : ∀ j : Fin 256, _[j.val]? = some (UInt8.ofNat (bl8 j.val)) from h ⟨x / 2 ^ 8, by omega⟩
        decide +kernel
      conv => whnf
      rw [bl8_int (x / 2 ^ 8) 8 (by omega) (by omega) (by omega)]
      refine ⟨false, [], ?_⟩
      conv => whnf
      exact ⟨by first | rfl | (congr 3; omega), rfl⟩
    · simp only [ge_iff_le, decide_eq_false_iff_not] at h2
      rw [wu8 (x := (x : Int)) (by omega) (by omega)]
      refine ⟨by omega, UInt8.ofNat (bl8 (x)), ?_, ?_⟩
      · rw [Int.toNat_natCast, ByteArray.toList_eq]
        suffices h : ∀ j : Fin 256, _[j.val]? = some (UInt8.ofNat (bl8 j.val)) from h ⟨x, by omega⟩
        decide +kernel
      conv => whnf
      rw [show (0 : Int) = ((0 : Nat) : Int) from rfl, bl8_int (x) 0 (by omega) (by omega) (by omega)]
      refine ⟨false, [], ?_⟩
      conv => whnf
      exact ⟨by first | rfl | (congr 3; omega), rfl⟩
theorem c_len (x : Nat) (h0 : 0 < x) (hx : x < 16777216) : FnOK Tryd.prog D 94 [(AV.sc (.int .u64 ((x : Int))))] [] (fun r st => r = (AV.sc (.int .i64 (((Nat.log2 x + 1 : Nat) : Int)))) ∧ st = []) := by
  refine fnok_of_W hmix tabOK Tryd.func94 rfl rfl (Nat.le_of_ble_eq_true rfl) ?_
  conv => whnf
  refine (c_len64 x h0 hx).mono fun r st e => ?_
  obtain ⟨rfl, rfl⟩ := e
  conv => whnf
  refine ⟨false, [], ?_⟩
  conv => whnf
  exact ⟨rfl, rfl⟩
/-- How many of some, two at least, are the first ones. -/
def hf (n : Nat) : Nat := 2 ^ Nat.log2 (n - 1)
theorem hf_pos (n : Nat) : 0 < hf n := Nat.two_pow_pos _
theorem hf_lt (n : Nat) (h : 2 ≤ n) : hf n < n := by
  have := (Nat.le_log2 (show n - 1 ≠ 0 by omega)).1 (Nat.le_refl _)
  unfold hf
  omega
theorem log_lt (x : Nat) (h0 : 0 < x) (hx : x < 16777216) : Nat.log2 x < 24 := (Nat.log2_lt (by omega)).2 hx
theorem c_half (n : Nat) (h2 : 2 ≤ n) (hn : n < 16777216) : FnOK Tryd.prog D 75 [(AV.sc (.int .i64 ((n : Int))))] [] (fun r st => r = (AV.sc (.int .i64 ((hf n : Int)))) ∧ st = []) := by
  have hl := log_lt (n - 1) (by omega) (by omega)
  have e1 : (n : Int) - 1 = ((n - 1 : Nat) : Int) := by omega
  refine fnok_of_W hmix tabOK Tryd.func75 rfl rfl (Nat.le_of_ble_eq_true rfl) ?_
  conv => whnf
  rw [w64 (x := (n : Int) - 1) (by omega) (by omega), e1, wu64 (x := ((n - 1 : Nat) : Int)) (by omega) (by omega)]
  refine (c_len (n - 1) (by omega) (by omega)).mono fun r st e => ?_
  obtain ⟨rfl, rfl⟩ := e
  conv => whnf
  have e2 : ((Nat.log2 (n - 1) + 1 : Nat) : Int) - 1 = ((Nat.log2 (n - 1) : Nat) : Int) := by omega
  rw [w64 (x := ((Nat.log2 (n - 1) + 1 : Nat) : Int) - 1) (by omega) (by omega), e2]
  repeat (refine And.intro (by first | omega) ?_; conv => whnf)
  have e3 : IntKind.i64.wrap (1 * 2 ^ min (((Nat.log2 (n - 1) : Nat) : Int)).toNat IntKind.i64.bits) = (hf n : Int) := by
    have h3 := hf_lt n h2
    rw [Int.toNat_natCast, Nat.min_eq_left (by show _ ≤ 64; omega), Int.one_mul, show (2 : Int) ^ Nat.log2 (n - 1) = ((2 ^ Nat.log2 (n - 1) : Nat) : Int) by simp]
    show IntKind.i64.wrap ((hf n : Nat) : Int) = ((hf n : Nat) : Int)
    exact w64 (by omega) (by omega)
  rw [e3]
  refine ⟨false, [], ?_⟩
  conv => whnf
  exact ⟨rfl, rfl⟩
theorem c_halfR (n : Nat) (h2 : 2 ≤ n) (hn : n < 16777216) : FnOK Tryd.prog D 78 [(AV.sc (.int .i64 ((n : Int))))] [] (fun r st => r = (AV.sc (.int .i64 ((hf n : Int)))) ∧ st = []) := by
  refine fnok_of_W hmix tabOK Tryd.func78 rfl rfl (Nat.le_of_ble_eq_true rfl) ?_
  conv => whnf
  refine ⟨false, [0, 3], fun τ => ∃ (j k : Nat), k = 2 ^ j ∧ k ≤ n - 1 ∧ τ = ⟨11, [(0, (AV.sc (.int .i64 ((n : Int))))), (3, (AV.sc (.int .i64 ((k : Int)))))], ⟨[], [], 0⟩⟩, fun τ => n - (slotI τ 3).toNat, ?_, ?_⟩
  · conv => whnf
    exact ⟨0, 1, rfl, by omega, rfl⟩
  rintro τ ⟨j, k, hk, hkn, rfl⟩
  have hk0 : 0 < k := by rw [hk]; exact Nat.two_pow_pos _
  conv => whnf
  rw [w64 (x := 2 * (k : Int)) (by omega) (by omega)]
  refine Branch.of (fun h1 => ?_) (fun h1 => ?_) <;> rw [h1] <;> conv => whnf
  · simp only [decide_eq_true_eq] at h1
    rw [w64 (x := 2 * (k : Int)) (by omega) (by omega), show 2 * (k : Int) = ((2 * k : Nat) : Int) by omega]
    refine ⟨⟨j + 1, 2 * k, by rw [hk, Nat.pow_succ, Nat.mul_comm], by omega, rfl⟩, ?_⟩
    show n - (((2 * k : Nat) : Int)).toNat < n - ((k : Int)).toNat
    omega
  · simp only [decide_eq_false_iff_not] at h1
    refine ⟨false, [], ?_⟩
    conv => whnf
    refine ⟨?_, rfl⟩
    have h3 : Nat.log2 (n - 1) = j := by
      have h4 := (Nat.le_log2 (show n - 1 ≠ 0 by omega) (k := j)).2 (by omega)
      have h5 := (Nat.log2_lt (show n - 1 ≠ 0 by omega) (k := j + 1)).2 (by rw [Nat.pow_succ]; omega)
      omega
    unfold hf
    rw [h3, hk]
end Go.WL.T4
