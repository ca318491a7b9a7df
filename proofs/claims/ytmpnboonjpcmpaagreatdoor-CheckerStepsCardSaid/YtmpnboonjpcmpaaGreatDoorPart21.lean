/- A reader reads texts and hashes. No condition. -/
import Derived.Test.YtmpnboonjpcmpaaGreatDoorPart18
set_option linter.unusedVariables false
set_option linter.unusedSimpArgs false
namespace Go.WL.T7z
open Go.WL Go.Proofs
set_option maxRecDepth 20000
set_option maxHeartbeats 4000000
/-- A number read: and how many bytes it takes; 0: none. -/
def rdn : List UInt8 → Nat → Nat → Nat × Nat
  | [], _, _ => (0, 0)
  | c :: l, i, a => if 10 ≤ i then (0, 0) else if (i = 9 ∧ 1 < c.toNat) ∨ (0 < i ∧ c.toNat = 0) then (0, 0) else
      if c.toNat < 128 then (a + c.toNat * 128 ^ i, i + 1) else rdn l (i + 1) (a + c.toNat % 128 * 128 ^ i)
theorem and127 (c : UInt8) : IntKind.u8.wrap ((BitVec.ofInt IntKind.u8.bits ((c.toNat : Nat) : Int) &&& BitVec.ofInt IntKind.u8.bits 127).toNat : Int) = ((c.toNat % 128 : Nat) : Int) := by
  have each : ∀ c, c < 256 → (BitVec.ofInt 8 ((c : Nat) : Int) &&& BitVec.ofInt 8 127).toNat = c % 128 := by decide +kernel
  show IntKind.u8.wrap ((BitVec.ofInt 8 ((c.toNat : Nat) : Int) &&& BitVec.ofInt 8 127).toNat : Int) = _
  rw [each _ c.toNat_lt, w8n (by omega)]
theorem or64 {a x i : Nat} (ha : a < 128 ^ i) (hx : x * 128 ^ i < 18446744073709551616) (hi : i < 10) : IntKind.u64.wrap ((BitVec.ofInt IntKind.u64.bits ((a : Nat) : Int) ||| BitVec.ofInt IntKind.u64.bits (IntKind.u64.wrap (((x : Nat) : Int) * 2 ^ min (Int.toNat ((7 * i : Nat) : Int)) IntKind.u64.bits))).toNat : Int) = ((a + x * 128 ^ i : Nat) : Int) := by
  have hp : (128 : Nat) ^ i = 2 ^ (7 * i) := by rw [show (128 : Nat) = 2 ^ 7 from rfl, ← Nat.pow_mul]
  have h9 : (128 : Nat) ^ i ≤ 128 ^ 9 := Nat.pow_le_pow_right (by decide) (by omega)
  have e1 : (2 : Int) ^ min (Int.toNat ((7 * i : Nat) : Int)) IntKind.u64.bits = ((128 ^ i : Nat) : Int) := by
    rw [Int.toNat_natCast, Nat.min_eq_left (by show 7 * i ≤ 64; omega), hp]
    simp
  rw [e1, ← Int.natCast_mul, wu64 (x := ((x * 128 ^ i : Nat) : Int)) (by omega) (by omega)]
  show IntKind.u64.wrap ((BitVec.ofInt 64 ((a : Nat) : Int) ||| BitVec.ofInt 64 ((x * 128 ^ i : Nat) : Int)).toNat : Int) = _
  have f1 : (BitVec.ofInt 64 ((a : Nat) : Int)).toNat = a := by
    have : a < 18446744073709551616 := Nat.lt_of_lt_of_le ha (Nat.le_trans h9 (by decide))
    simp; omega
  have f2 : (BitVec.ofInt 64 ((x * 128 ^ i : Nat) : Int)).toNat = x * 128 ^ i := by simp only [BitVec.toNat_ofInt]; omega
  have f3 : a ||| x * 128 ^ i = a + x * 128 ^ i := by
    have := Nat.shiftLeft_add_eq_or_of_lt (i := 7 * i) (b := a) (by rw [← hp]; exact ha) x
    rw [Nat.shiftLeft_eq, ← hp] at this
    rw [Nat.or_comm, ← this, Nat.add_comm]
  have f4 : a + x * 128 ^ i < 18446744073709551616 := by
    rw [← f3]
    exact Nat.or_lt_two_pow (n := 64) (Nat.lt_of_lt_of_le ha (Nat.le_trans h9 (by decide))) hx
  rw [BitVec.toNat_or, f1, f2, f3]
  exact wu64 (by omega) (by omega)
theorem rdn_fits (c : UInt8) (i : Nat) (hi : i < 10) (h : i = 9 → c.toNat ≤ 1) : c.toNat % 128 * 128 ^ i < 18446744073709551616 := by
  by_cases e : i = 9
  · have := h e
    subst e
    have : c.toNat % 128 ≤ 1 := by omega
    omega
  · have h8 : (128 : Nat) ^ i ≤ 128 ^ 8 := Nat.pow_le_pow_right (by decide) (by omega)
    have : c.toNat % 128 ≤ 127 := by omega
    have := Nat.mul_le_mul this h8
    omega
theorem rdn_lt {a x i : Nat} (h : a < 128 ^ i) (hx : x < 128) : a + x * 128 ^ i < 128 ^ (i + 1) := by
  have h2 : (x + 1) * 128 ^ i ≤ 128 * 128 ^ i := Nat.mul_le_mul_right _ (by omega)
  rw [Nat.add_mul, Nat.one_mul] at h2
  rw [Nat.pow_succ, Nat.mul_comm (128 ^ i) 128]
  omega
end Go.WL.T7z
namespace Go.WL.T7z
open Go.WL Go.Proofs
set_option maxRecDepth 20000
set_option maxHeartbeats 4000000
theorem rdn_size : ∀ (l : List UInt8) (i a : Nat), (rdn l i a).2 = 0 ∨ (i + 1 ≤ (rdn l i a).2 ∧ (rdn l i a).2 ≤ i + l.length)
  | [], i, a => .inl rfl
  | c :: l, i, a => by
    rw [rdn]
    split
    · exact .inl rfl
    · split
      · exact .inl rfl
      · split
        · right; simp
        · rcases rdn_size l (i + 1) (a + c.toNat % 128 * 128 ^ i) with h | h
          · exact .inl h
          · right; simp only [List.length_cons]; omega
theorem by8_cut (k : Nat) (b : List UInt8) : ((by8 b).drop k).take ((by8 b).length - k) = by8 (b.drop k) := by
  have e : (by8 b).drop k = by8 (b.drop k) := by simp [by8]
  rw [e, by8_take, List.take_of_length_le]
  rw [len8, List.length_drop]
  exact Nat.le_refl _
/-- What reading a number makes of a reader. -/
def rnum (b : List UInt8) (w : Bool) : Nat × List UInt8 × Bool := if w then (0, b, true) else if (rdn b 0 0).2 = 0 then (0, b, true) else ((rdn b 0 0).1, b.drop (rdn b 0 0).2, false)
end Go.WL.T7z
namespace Go.WL.T7z
open Go.WL Go.Proofs
set_option maxRecDepth 20000
set_option maxHeartbeats 4000000
/-- What reading a number up to one makes of a reader. -/
def rupto (b : List UInt8) (w : Bool) (top : Int) : Nat × List UInt8 × Bool :=
  if w = true ∨ (rnum b false).2.2 = true ∨ top < 0 ∨ ((rnum b false).1 : Int) > top then (0, b, true) else rnum b false
def rtext (b : List UInt8) (w : Bool) : List UInt8 × List UInt8 × Bool :=
  if w = true ∨ (rupto b false 65536).2.2 = true ∨ (rupto b false 65536).1 > (rupto b false 65536).2.1.length then ([], b, true)
  else ((rupto b false 65536).2.1.take (rupto b false 65536).1, (rupto b false 65536).2.1.drop (rupto b false 65536).1, false)
def rhash (b : List UInt8) (w : Bool) : List UInt8 × List UInt8 × Bool :=
  if w = true ∨ b.length < 32 then (List.replicate 32 0, b, true) else (b.take 32, b.drop 32, false)
theorem rdn_max : ∀ (l : List UInt8) (i a : Nat), i ≤ 10 → a < 128 ^ i → (rdn l i a).1 < 18446744073709551616
  | [], i, a, _, _ => by simp [rdn]
  | c :: l, i, a, hi, ha => by
    rw [rdn]
    split
    · simp
    · rename_i h1
      split
      · simp
      · rename_i h2
        have hi10 : i < 10 := by omega
        have hp : (128 : Nat) ^ i ≤ 128 ^ 9 := Nat.pow_le_pow_right (by decide) (by omega)
        have hx := rdn_fits c i hi10 (by omega)
        split
        · rename_i h3
          rw [Nat.mod_eq_of_lt h3] at hx
          by_cases e : i = 9
          · subst e
            have : c.toNat ≤ 1 := by omega
            have : c.toNat * 128 ^ 9 ≤ 1 * 128 ^ 9 := Nat.mul_le_mul_right _ this
            show a + c.toNat * 128 ^ 9 < _
            omega
          · have h8 : (128 : Nat) ^ (i + 1) ≤ 128 ^ 9 := Nat.pow_le_pow_right (by decide) (by omega)
            have := rdn_lt ha h3
            show a + c.toNat * 128 ^ i < _
            omega
        · exact rdn_max l (i + 1) _ (by omega) (rdn_lt ha (by omega))
theorem rnum_max (b : List UInt8) (w : Bool) : (rnum b w).1 < 18446744073709551616 := by
  unfold rnum
  split
  · simp
  · split
    · simp
    · exact rdn_max b 0 0 (by omega) (by decide)
theorem rnum_len (b : List UInt8) (w : Bool) : (rnum b w).2.1.length ≤ b.length := by
  unfold rnum
  split
  · simp
  · split
    · simp
    · simp
end Go.WL.T7z
namespace Go.WL.T7z
open Go.WL Go.Proofs
set_option maxRecDepth 20000
set_option maxHeartbeats 4000000
theorem rupto_len (b : List UInt8) (w : Bool) (top : Int) : (rupto b w top).2.1.length ≤ b.length := by
  unfold rupto
  split
  · simp
  · exact rnum_len b false
theorem rupto_le (b : List UInt8) (w : Bool) (top : Int) (h : 0 ≤ top) : ((rupto b w top).1 : Int) ≤ top := by
  unfold rupto
  split
  · simpa using h
  · rename_i c
    omega
end Go.WL.T7z
