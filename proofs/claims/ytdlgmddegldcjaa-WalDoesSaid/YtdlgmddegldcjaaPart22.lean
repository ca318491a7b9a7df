/- Records: four bytes of a number, and back. No condition. -/
import Derived.Test.YtdlgmddegldcjaaPart21
import Derived.Test.YtdlgmddegldcjaaPart07
set_option linter.unusedVariables false
set_option linter.unusedSimpArgs false
namespace Go.WL.T5
open Go.WL Go.Proofs
set_option maxRecDepth 20000
set_option maxHeartbeats 4000000
/-- A number's four bytes. -/
def b4 (n : Nat) : List UInt8 := [UInt8.ofNat (n / 16777216), UInt8.ofNat (n / 65536), UInt8.ofNat (n / 256), UInt8.ofNat n]
/-- The number that four bytes are. -/
def n4 (a b c d : UInt8) : Nat := a.toNat * 16777216 + b.toNat * 65536 + c.toNat * 256 + d.toNat
theorem b4_len (n : Nat) : (b4 n).length = 4 := rfl
theorem n4_lt (a b c d : UInt8) : n4 a b c d < 4294967296 := by
  have h1 := a.toNat_lt
  have h2 := b.toNat_lt
  have h3 := c.toNat_lt
  have h4 := d.toNat_lt
  unfold n4
  omega
theorem b4_n4 (a b c d : UInt8) : b4 (n4 a b c d) = [a, b, c, d] := by
  have h1 := a.toNat_lt
  have h2 := b.toNat_lt
  have h3 := c.toNat_lt
  have h4 := d.toNat_lt
  have e : ∀ (x : UInt8) (k : Nat), k % 256 = x.toNat → UInt8.ofNat k = x := by
    intro x k h
    apply UInt8.toNat_inj.1
    simp [h]
  unfold b4 n4
  rw [e a, e b, e c, e d] <;> omega
theorem n4_b4 (n : Nat) (h : n < 4294967296) : n4 (UInt8.ofNat (n / 16777216)) (UInt8.ofNat (n / 65536)) (UInt8.ofNat (n / 256)) (UInt8.ofNat n) = n := by
  unfold n4
  simp
  omega
theorem fd (n k : Nat) : Int.fdiv ((n : Nat) : Int) ((k : Nat) : Int) = ((n / k : Nat) : Int) := by
  rw [Int.fdiv_eq_ediv_of_nonneg _ (by omega)]
  omega
theorem w8mK (n : Nat) : IntKind.u8.wrap ((n : Nat) : Int) = ((UInt8.ofNat n).toNat : Int) := by
  simp only [IntKind.wrap, IntKind.signed, IntKind.bits]
  simp
theorem or32n (x k y : Nat) (hy : y < 2 ^ k) (hs : x * 2 ^ k + y < 4294967296) : IntKind.u32.wrap ((BitVec.ofInt IntKind.u32.bits ((x * 2 ^ k : Nat) : Int) ||| BitVec.ofInt IntKind.u32.bits ((y : Nat) : Int)).toNat : Int) = ((x * 2 ^ k + y : Nat) : Int) := by
  have e : (BitVec.ofInt IntKind.u32.bits ((x * 2 ^ k : Nat) : Int) ||| BitVec.ofInt IntKind.u32.bits ((y : Nat) : Int)).toNat = x * 2 ^ k + y := by
    rw [BitVec.toNat_or, BitVec.ofInt_natCast, BitVec.ofInt_natCast, BitVec.toNat_ofNat, BitVec.toNat_ofNat, show (2 : Nat) ^ IntKind.u32.bits = 4294967296 from by decide, Nat.mod_eq_of_lt (by omega), Nat.mod_eq_of_lt (by omega), Nat.mul_comm, ← Nat.two_pow_add_eq_or_of_lt hy, Nat.mul_comm]
  rw [e]
  exact wu32 (by omega) (by omega)
theorem sh32 (x k : Nat) (hk : k ≤ 32) (h : x * 2 ^ k < 4294967296) : IntKind.u32.wrap (((x : Nat) : Int) * 2 ^ min (Int.toNat (k : Int)) IntKind.u32.bits) = ((x * 2 ^ k : Nat) : Int) := by
  rw [Int.toNat_natCast, show min k IntKind.u32.bits = k from Nat.min_eq_left hk]
  rw [show ((x : Nat) : Int) * 2 ^ k = ((x * 2 ^ k : Nat) : Int) by simp]
  exact wu32 (by omega) (by omega)
theorem c_four (n : Nat) : FnOK Try.prog D 109 [(AV.sc (.int .u32 ((n : Int))))] [] (fun r st => r = (AV.sl .lf (by8 (b4 n)) .ex) ∧ st = []) := by
  refine fnok_of_W hmix tabOK Try.func109 rfl rfl (Nat.le_of_ble_eq_true rfl) ?_
  conv => whnf
  repeat (refine And.intro (by first | omega) ?_; conv => whnf)
  refine ⟨false, [], ?_⟩
  conv => whnf
  refine ⟨?_, rfl⟩
  congr 1
  have e24 : (2 : Int) ^ min (Int.toNat 24) IntKind.u32.bits = ((16777216 : Nat) : Int) := by decide
  have e16 : (2 : Int) ^ min (Int.toNat 16) IntKind.u32.bits = ((65536 : Nat) : Int) := by decide
  have e8 : (2 : Int) ^ min (Int.toNat 8) IntKind.u32.bits = ((256 : Nat) : Int) := by decide
  rw [e24, e16, e8, fd, fd, fd, w8mK, w8mK, w8mK, w8mK]
  rfl
theorem c_numberK (a b c d : UInt8) (l : List UInt8) : FnOK Try.prog D 127 [(AV.sl .lf (by8 (a :: b :: c :: d :: l)) .ro)] [] (fun r st => r = (AV.sc (.int .u32 ((n4 a b c d : Int)))) ∧ st = []) := by
  refine fnok_of_W hmix tabOK Try.func127 rfl rfl (Nat.le_of_ble_eq_true rfl) ?_
  conv => whnf
  refine ⟨tabF127R1, by decide +kernel, ?_⟩
  conv => whnf
  repeat (refine And.intro (by first | omega) ?_; conv => whnf)
  refine ⟨_, rfl, ?_⟩
  conv => whnf
  repeat (refine And.intro (by first | omega) ?_; conv => whnf)
  refine ⟨_, rfl, ?_⟩
  conv => whnf
  repeat (refine And.intro (by first | omega) ?_; conv => whnf)
  refine ⟨_, rfl, ?_⟩
  conv => whnf
  repeat (refine And.intro (by first | omega) ?_; conv => whnf)
  refine ⟨_, rfl, ?_⟩
  conv => whnf
  refine ⟨false, [], ?_⟩
  conv => whnf
  refine ⟨?_, rfl⟩
  have h1 := a.toNat_lt
  have h2 := b.toNat_lt
  have h3 := c.toNat_lt
  have h4 := d.toNat_lt
  have w : ∀ x : UInt8, IntKind.u32.wrap (x.toNat : Int) = (x.toNat : Int) := fun x => wu32 (by omega) (by have := x.toNat_lt; omega)
  rw [w, w, w, w]
  have s1 := sh32 a.toNat 24 (by decide) (by omega)
  have s2 := sh32 b.toNat 16 (by decide) (by omega)
  have s3 := sh32 c.toNat 8 (by decide) (by omega)
  have o1 := or32n a.toNat 24 (b.toNat * 2 ^ 16) (by omega) (by omega)
  have o2 := or32n (a.toNat * 2 ^ 8 + b.toNat) 16 (c.toNat * 2 ^ 8) (by omega) (by omega)
  have o3 := or32n (a.toNat * 2 ^ 16 + b.toNat * 2 ^ 8 + c.toNat) 8 d.toNat (by omega) (by omega)
  rw [show ((24 : Nat) : Int) = 24 from rfl] at s1
  rw [show ((16 : Nat) : Int) = 16 from rfl] at s2
  rw [show ((8 : Nat) : Int) = 8 from rfl] at s3
  rw [s1, s2, s3, o1, show a.toNat * 2 ^ 24 + b.toNat * 2 ^ 16 = (a.toNat * 2 ^ 8 + b.toNat) * 2 ^ 16 by omega, o2, show (a.toNat * 2 ^ 8 + b.toNat) * 2 ^ 16 + c.toNat * 2 ^ 8 = (a.toNat * 2 ^ 16 + b.toNat * 2 ^ 8 + c.toNat) * 2 ^ 8 by omega, o3]
  congr 3
  unfold n4
  omega
theorem c_four2 (n : Nat) (h : n < 4294967296) : FnOK Try.prog D 112 [(AV.sc (.int .u32 ((n : Int))))] [] (fun r st => r = (AV.sl .lf (by8 (b4 n)) .ex) ∧ st = []) := by
  refine fnok_of_W hmix tabOK Try.func112 rfl rfl (Nat.le_of_ble_eq_true rfl) ?_
  conv => whnf
  repeat (refine And.intro (by first | omega) ?_; conv => whnf)
  refine ⟨false, [], ?_⟩
  conv => whnf
  refine ⟨?_, rfl⟩
  congr 1
  have q : ∀ k : Nat, 0 < k → IntKind.u32.wrap (Int.tdiv ((n : Nat) : Int) ((k : Nat) : Int)) = ((n / k : Nat) : Int) := fun k hk => by
    rw [show Int.tdiv ((n : Nat) : Int) ((k : Nat) : Int) = ((n / k : Nat) : Int) from rfl]
    have : n / k ≤ n := Nat.div_le_self n k
    generalize n / k = z at this
    exact wu32 (by omega) (by omega)
  have q1 := q 16777216 (by decide)
  have q2 := q 65536 (by decide)
  have q3 := q 256 (by decide)
  have m1 : ∀ k : Nat, Int.tmod ((k : Nat) : Int) 256 = ((k % 256 : Nat) : Int) := fun k => by
    rfl
  rw [show ((16777216 : Nat) : Int) = 16777216 from rfl] at q1
  rw [show ((65536 : Nat) : Int) = 65536 from rfl] at q2
  rw [show ((256 : Nat) : Int) = 256 from rfl] at q3
  rw [q1, q2, q3, m1, m1, m1, w8mK, w8mK, w8mK, w8mK]
  have e : ∀ k : Nat, UInt8.ofNat (k % 256) = UInt8.ofNat k := fun k => by
    apply UInt8.toNat_inj.1
    simp
  rw [e, e, e]
  rfl
end Go.WL.T5
