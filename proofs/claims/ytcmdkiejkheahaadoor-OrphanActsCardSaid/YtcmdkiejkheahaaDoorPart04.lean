/- Bytes of numbers and texts, by the program and by the reference. No condition. -/
import Derived.Test.YtcmdkiejkheahaaDoorPart03
set_option linter.unusedVariables false
set_option linter.unusedSimpArgs false
namespace Go.WL.T6d
open Go.WL Go.Proofs
set_option maxRecDepth 20000
set_option maxHeartbeats 4000000
theorem c_clone (b : List UInt8) (hb : b.length < 4294967296) {m : Mark} (h : m = .ex ∨ m = .ro) : FnOK Tryd.prog D 67 [.sl .lf (by8 b) m] [] (fun r st => r = (AV.sl .lf (by8 (b)) (.own 0)) ∧ st = []) :=
  (c_clone0 b hb).weak (.cons (.sl h (Weaks.refl _)) .nil)
/-- A number's bytes. -/
def num (n : Nat) : List UInt8 := if n < 128 then [UInt8.ofNat n] else UInt8.ofNat (128 + n % 128) :: num (n / 128)
termination_by n
decreasing_by omega
theorem num_low {n : Nat} (h : n < 128) : num n = [UInt8.ofNat n] := by rw [num, if_pos h]
theorem num_high {n : Nat} (h : ¬ n < 128) : num n = UInt8.ofNat (128 + n % 128) :: num (n / 128) := by rw [num, if_neg h]
theorem num_len : ∀ (k n : Nat), n < 128 ^ k → 0 < k → (num n).length ≤ k
  | 0, n, _, hk => absurd hk (by omega)
  | k + 1, n, h, _ => by
    by_cases c : n < 128
    · rw [num_low c]; simp
    · rw [num_high c, List.length_cons]
      have hk : 0 < k := by
        cases k with
        | zero => rw [Nat.zero_add, Nat.pow_one] at h; omega
        | succ k => omega
      have : n / 128 < 128 ^ k := by
        rw [Nat.pow_succ] at h
        exact Nat.div_lt_of_lt_mul (by rw [Nat.mul_comm]; exact h)
      have := num_len k (n / 128) this hk
      omega
theorem num_ten {n : Nat} (h : n < 18446744073709551616) : (num n).length ≤ 10 := num_len 10 n (Nat.lt_of_lt_of_le h (by decide)) (by decide)
theorem sc8 {n : Nat} (h : n < 256) : (AV.sc (.int .u8 ((n : Nat) : Int))) = AV.sc (.int .u8 (((UInt8.ofNat n).toNat : Nat) : Int)) := by
  congr 3
  simp
  omega
theorem w8n {n : Nat} (h : n < 256) : IntKind.u8.wrap ((n : Nat) : Int) = ((n : Nat) : Int) := wu8 (by omega) (by omega)
theorem c_refnum (n : Nat) (hn : n < 18446744073709551616) : FnOK Tryd.prog D 74 [(AV.sc (.int .u64 ((n : Int))))] [] (fun r st => r = (AV.sl .lf (by8 (num n)) (.own 0)) ∧ st = []) := by
  induction n using Nat.strongRecOn with
  | ind n ih =>
  refine fnok_of_W hmix tabOK Tryd.func74 rfl rfl (Nat.le_of_ble_eq_true rfl) ?_
  conv => whnf
  refine Branch.of (fun h => ?_) (fun h => ?_) <;> rw [h] <;> conv => whnf
  · simp only [decide_eq_true_eq] at h
    have h' : n < 128 := by omega
    rw [w8n (n := n) (by omega), sc8 (n := n) (by omega)]
    refine ⟨true, [], ?_⟩
    conv => whnf
    refine ⟨?_, rfl⟩
    rw [num_low h']
    rfl
  · simp only [decide_eq_false_iff_not] at h
    have h' : ¬ n < 128 := by omega
    refine ⟨by omega, ?_⟩
    conv => whnf
    refine ⟨by omega, ?_⟩
    conv => whnf
    rw [Int.tdiv_eq_ediv_of_nonneg (by omega), Int.tmod_eq_emod_of_nonneg (by omega), show ((n : Int) / 128) = ((n / 128 : Nat) : Int) by omega, wu64 (x := ((n / 128 : Nat) : Int)) (by omega) (by omega)]
    refine (ih (n / 128) (by omega) (by omega)).mono fun r st e => ?_
    obtain ⟨rfl, rfl⟩ := e
    conv => whnf
    have hl := num_ten (n := n / 128) (by omega)
    refine ⟨by rw [len8]; simp; omega, ?_⟩
    conv => whnf
    refine ⟨false, [], ?_⟩
    conv => whnf
    refine ⟨?_, rfl⟩
    rw [show (128 + (n : Int) % 128) = ((128 + n % 128 : Nat) : Int) by omega, wu64 (x := ((128 + n % 128 : Nat) : Int)) (by omega) (by omega), w8n (n := 128 + n % 128) (by omega), sc8 (n := 128 + n % 128) (by omega), num_high h']
    rfl
theorem or8 {n : Nat} : IntKind.u8.wrap ((BitVec.ofInt IntKind.u8.bits (IntKind.u8.wrap ((n : Nat) : Int)) ||| BitVec.ofInt IntKind.u8.bits 128).toNat : Int) = ((128 + n % 128 : Nat) : Int) := by
  have each : ∀ c, c < 256 → (BitVec.ofInt 8 ((c : Nat) : Int) ||| BitVec.ofInt 8 128).toNat = 128 + c % 128 := by decide +kernel
  have e : IntKind.u8.wrap ((n : Nat) : Int) = ((n % 256 : Nat) : Int) := by
    simp [IntKind.wrap, IntKind.signed, IntKind.bits]
  rw [e]
  show IntKind.u8.wrap ((BitVec.ofInt 8 ((n % 256 : Nat) : Int) ||| BitVec.ofInt 8 128).toNat : Int) = _
  rw [each (n % 256) (by omega), w8n (by omega)]
  omega
theorem snoc8 (b : List UInt8) {n : Nat} (h : n < 256) : by8 b ++ [AV.sc (.int .u8 ((n : Nat) : Int))] = by8 (b ++ [UInt8.ofNat n]) := by
  rw [sc8 h]; simp [by8]
theorem c_num (b : List UInt8) (n : Nat) (hb : b.length < 4000000000) (hn : n < 18446744073709551616) {m : Mark} (hm : m = .ex ∨ m = .ro) : FnOK Tryd.prog D 68 [.sl .lf (by8 b) m, (AV.sc (.int .u64 ((n : Int))))] [] (fun r st => r = (AV.sl .lf (by8 (b ++ num n)) (.own 0)) ∧ st = []) := by
  suffices h : FnOK Tryd.prog D 68 [(AV.sl .lf (by8 (b)) .ro), (AV.sc (.int .u64 ((n : Int))))] [] (fun r st => r = (AV.sl .lf (by8 (b ++ num n)) (.own 0)) ∧ st = []) from h.weak (.cons (.sl hm (Weaks.refl _)) (.cons (.refl _) .nil))
  refine fnok_of_W hmix tabOK Tryd.func68 rfl rfl (Nat.le_of_ble_eq_true rfl) ?_
  conv => whnf
  refine (c_clone0 b (by omega)).mono fun r st e => ?_
  obtain ⟨rfl, rfl⟩ := e
  conv => whnf
  have hten := num_ten hn
  refine ⟨false, [1, 5], fun τ => ∃ (k : Nat) (p : List UInt8), p ++ num k = num n ∧ k ≤ n ∧ τ = ⟨23, [(1, (AV.sc (.int .u64 ((k : Int))))), (5, (AV.sl .lf (by8 (b ++ p)) (.own 0)))], ⟨[], [0], 1⟩⟩, fun τ => (slotI τ 1).toNat, ?_, ?_⟩
  · conv => whnf
    exact ⟨n, [], rfl, Nat.le_refl _, by rw [List.append_nil]; rfl⟩
  · rintro τ ⟨k, p, k1, k2, rfl⟩
    have hp : p.length ≤ 10 := by
      have := congrArg List.length k1
      simp at this
      omega
    conv => whnf
    refine Branch.of (fun h => ?_) (fun h => ?_) <;> rw [h] <;> conv => whnf
    · simp only [ge_iff_le, decide_eq_true_eq] at h
      have h' : ¬ k < 128 := by omega
      refine ⟨by rw [len8]; simp; omega, ?_⟩
      conv => whnf
      refine ⟨by omega, ?_⟩
      conv => whnf
      rw [or8 (n := k), snoc8 (b ++ p) (n := 128 + k % 128) (by omega)]
      have hd : Int.fdiv (k : Int) (2 ^ min (Int.toNat 7) IntKind.u64.bits) = ((k / 128 : Nat) : Int) := by
        rw [show ((2 : Int) ^ min (Int.toNat 7) IntKind.u64.bits) = 128 from rfl, Int.fdiv_eq_ediv_of_nonneg _ (by decide)]
        omega
      rw [hd]
      refine ⟨⟨k / 128, p ++ [UInt8.ofNat (128 + k % 128)], ?_, by omega, by rw [List.append_assoc]⟩, ?_⟩
      · rw [List.append_assoc, ← k1, num_high h']
        rfl
      · show (((k / 128 : Nat) : Int)).toNat < (k : Int).toNat
        omega
    · simp only [ge_iff_le, decide_eq_false_iff_not] at h
      have h' : k < 128 := by omega
      refine ⟨by rw [len8]; simp; omega, ?_⟩
      conv => whnf
      rw [w8n (n := k) (by omega), snoc8 (b ++ p) (n := k) (by omega)]
      refine ⟨false, [], ?_⟩
      conv => whnf
      refine ⟨?_, rfl⟩
      rw [List.append_assoc, ← num_low h', k1]
theorem min64 (a b : Nat) : (if ((a : Nat) : Int) ≤ ((b : Nat) : Int) then ((a : Nat) : Int) else ((b : Nat) : Int)) = ((min a b : Nat) : Int) := by
  split <;> omega
theorem by8_take (k : Nat) (b : List UInt8) : (by8 b).take k = by8 (b.take k) := by simp [by8]
theorem by8_app (a b : List UInt8) : by8 a ++ by8 b = by8 (a ++ b) := by simp [by8]
theorem cut_text (t : List UInt8) : t.take (min t.length 65536) = t.take 65536 := by
  by_cases h : t.length ≤ 65536
  · rw [Nat.min_eq_left h, List.take_of_length_le (Nat.le_refl _), List.take_of_length_le h]
  · rw [Nat.min_eq_right (by omega)]
theorem c_text0 (b t : List UInt8) (hb : b.length < 3000000000) (ht : t.length < 9223372036854775807) : FnOK Tryd.prog D 69 [(AV.sl .lf (by8 (b)) .ro), (AV.sl .lf (by8 (t)) .ro)] [] (fun r st => r = (AV.sl .lf (by8 (b ++ (num (t.take 65536).length ++ t.take 65536))) (.own 0)) ∧ st = []) := by
  refine fnok_of_W hmix tabOK Tryd.func69 rfl rfl (Nat.le_of_ble_eq_true rfl) ?_
  conv => whnf
  rw [len8, show min ((t.length : Nat) : Int) 65536 = ((min t.length 65536 : Nat) : Int) by omega]
  refine ⟨by omega, ?_⟩
  conv => whnf
  refine ⟨by omega, by omega, ?_⟩
  conv => whnf
  rw [Int.toNat_natCast, Nat.sub_zero, List.drop_zero, by8_take, cut_text]
  have hl : (t.take 65536).length ≤ 65536 := by simp; omega
  generalize t.take 65536 = u at hl
  rw [len8, wu64 (x := ((u.length : Nat) : Int)) (by omega) (by omega)]
  refine (c_num b u.length (by omega) (by omega) (.inr rfl)).mono fun r st e => ?_
  obtain ⟨rfl, rfl⟩ := e
  conv => whnf
  have hn := num_ten (n := u.length) (by omega)
  refine ⟨by rw [len8, len8]; simp; omega, ?_⟩
  conv => whnf
  rw [by8_app]
  refine ⟨false, [], ?_⟩
  conv => whnf
  exact ⟨by rw [List.append_assoc], rfl⟩
theorem c_hash0 (b h : List UInt8) (hb : b.length < 3000000000) (hh : h.length = 32) : FnOK Tryd.prog D 85 [(AV.sl .lf (by8 (b)) .ro), .ar 32 .lf (by8 h)] [] (fun r st => r = (AV.sl .lf (by8 (b ++ h)) (.own 0)) ∧ st = []) := by
  refine fnok_of_W hmix tabOK Tryd.func85 rfl rfl (Nat.le_of_ble_eq_true rfl) ?_
  conv => whnf
  refine ⟨tabF85R1, by decide +kernel, ?_⟩
  conv => whnf
  refine ⟨_, _, c_clone0 b (by omega), ?_⟩
  conv => whnf
  refine ⟨by omega, by omega, ?_⟩
  conv => whnf
  rw [show List.take (32 - 0) (List.drop 0 (by8 h)) = by8 h by rw [List.drop_zero, List.take_of_length_le (by rw [len8]; omega)], by8_app]
  refine ⟨by rw [len8, len8]; omega, ?_⟩
  conv => whnf
  refine ⟨false, [], ?_⟩
  conv => whnf
  exact ⟨rfl, rfl⟩
theorem c_reftext0 (t : List UInt8) (ht : t.length < 4000000000) : FnOK Tryd.prog D 75 [(AV.sl .lf (by8 (t)) .ro)] [] (fun r st => r = (AV.sl .lf (by8 (num t.length ++ t)) (.own 0)) ∧ st = []) := by
  refine fnok_of_W hmix tabOK Tryd.func75 rfl rfl (Nat.le_of_ble_eq_true rfl) ?_
  conv => whnf
  rw [len8, wu64 (x := ((t.length : Nat) : Int)) (by omega) (by omega)]
  refine (c_refnum t.length (by omega)).mono fun r st e => ?_
  obtain ⟨rfl, rfl⟩ := e
  conv => whnf
  have hn := num_ten (n := t.length) (by omega)
  refine ⟨by rw [len8, len8]; omega, ?_⟩
  conv => whnf
  rw [by8_app]
  refine ⟨false, [], ?_⟩
  conv => whnf
  exact ⟨rfl, rfl⟩
end Go.WL.T6d
