/- Bytes of numbers and texts, by the program and by the reference. No condition. -/
import Derived.Test.YtdlgmddegldcjaaPart07
set_option linter.unusedVariables false
set_option linter.unusedSimpArgs false
namespace Go.WL.T5
open Go.WL Go.Proofs
set_option maxRecDepth 20000
set_option maxHeartbeats 4000000
theorem c_clone (b : List UInt8) (hb : b.length < 4294967296) {m : Mark} (h : m = .ex ∨ m = .ro) : FnOK Try.prog D 78 [.sl .lf (by8 b) m] [] (fun r st => r = (AV.sl .lf (by8 (b)) (.own 0)) ∧ st = []) :=
  (c_clone0 b hb).weak (.cons (.sl h (Weaks.refl _)) .nil)
/-- A number's bytes. -/
def num (n : Nat) : List UInt8 := if n < 128 then [UInt8.ofNat n] else UInt8.ofNat (128 + n % 128) :: num (n / 128)
termination_by n
decreasing_by omega
theorem num_low {n : Nat} (h : n < 128) : num n = [UInt8.ofNat n] := by rw [num, if_pos h]
theorem num_high {n : Nat} (h : ¬ n < 128) : num n = UInt8.ofNat (128 + n % 128) :: num (n / 128) := by rw [num, if_neg h]
theorem num_len : ∀ (k n : Nat), n < 128 ^ k → 0 < k → (num n).length ≤ k
  | 0, n, _, hk => absurd hk (by omega)
  | k + 1, n, h, _ => by
    by_cases c : n < 128
    · rw [num_low c]; simp
    · rw [num_high c, List.length_cons]
      have hk : 0 < k := by
        cases k with
        | zero => rw [Nat.zero_add, Nat.pow_one] at h; omega
        | succ k => omega
      have : n / 128 < 128 ^ k := by
        rw [Nat.pow_succ] at h
        exact Nat.div_lt_of_lt_mul (by rw [Nat.mul_comm]; exact h)
      have := num_len k (n / 128) this hk
      omega
theorem num_ten {n : Nat} (h : n < 18446744073709551616) : (num n).length ≤ 10 := num_len 10 n (Nat.lt_of_lt_of_le h (by decide)) (by decide)
theorem sc8 {n : Nat} (h : n < 256) : (AV.sc (.int .u8 ((n : Nat) : Int))) = AV.sc (.int .u8 (((UInt8.ofNat n).toNat : Nat) : Int)) := by
  congr 3
  simp
  omega
theorem w8n {n : Nat} (h : n < 256) : IntKind.u8.wrap ((n : Nat) : Int) = ((n : Nat) : Int) := wu8 (by omega) (by omega)
theorem or8 {n : Nat} : IntKind.u8.wrap ((BitVec.ofInt IntKind.u8.bits (IntKind.u8.wrap ((n : Nat) : Int)) ||| BitVec.ofInt IntKind.u8.bits 128).toNat : Int) = ((128 + n % 128 : Nat) : Int) := by
  have each : ∀ c, c < 256 → (BitVec.ofInt 8 ((c : Nat) : Int) ||| BitVec.ofInt 8 128).toNat = 128 + c % 128 := by decide +kernel
  have e : IntKind.u8.wrap ((n : Nat) : Int) = ((n % 256 : Nat) : Int) := by
    simp [IntKind.wrap, IntKind.signed, IntKind.bits]
  rw [e]
  show IntKind.u8.wrap ((BitVec.ofInt 8 ((n % 256 : Nat) : Int) ||| BitVec.ofInt 8 128).toNat : Int) = _
  rw [each (n % 256) (by omega), w8n (by omega)]
  omega
theorem snoc8 (b : List UInt8) {n : Nat} (h : n < 256) : by8 b ++ [AV.sc (.int .u8 ((n : Nat) : Int))] = by8 (b ++ [UInt8.ofNat n]) := by
  rw [sc8 h]; simp [by8]
theorem min64 (a b : Nat) : (if ((a : Nat) : Int) ≤ ((b : Nat) : Int) then ((a : Nat) : Int) else ((b : Nat) : Int)) = ((min a b : Nat) : Int) := by
  split <;> omega
theorem by8_take (k : Nat) (b : List UInt8) : (by8 b).take k = by8 (b.take k) := by simp [by8]
theorem by8_app (a b : List UInt8) : by8 a ++ by8 b = by8 (a ++ b) := by simp [by8]
theorem cut_text (t : List UInt8) : t.take (min t.length 65536) = t.take 65536 := by
  by_cases h : t.length ≤ 65536
  · rw [Nat.min_eq_left h, List.take_of_length_le (Nat.le_refl _), List.take_of_length_le h]
  · rw [Nat.min_eq_right (by omega)]
end Go.WL.T5
