/- Words of 32 bits, as the machine's numbers. No condition. -/
import Derived.Test.YtdlgmddegldcjaaWordsD
import Derived.Test.YtdlgmddegldcjaaPart02
set_option linter.unusedVariables false
set_option linter.unusedSimpArgs false
namespace Go.WL.T5
open Go.WL Go.Proofs
set_option maxRecDepth 20000
abbrev n32 (b : BitVec 32) : Int := (b.toNat : Int)

theorem ofn32 (a : BitVec 32) : BitVec.ofInt 32 (n32 a) = a := by
  simp [n32]
theorem r32 (a : BitVec 32) : 0 ≤ n32 a ∧ n32 a < 4294967296 := by
  have := a.isLt
  show 0 ≤ (a.toNat : Int) ∧ (a.toNat : Int) < 4294967296
  omega
theorem wn32 (a : BitVec 32) : IntKind.u32.wrap (n32 a) = n32 a := wu32 (r32 a).1 (r32 a).2
theorem xor32 (a b : BitVec 32) : IntKind.u32.wrap ((BitVec.ofInt IntKind.u32.bits (n32 a) ^^^ BitVec.ofInt IntKind.u32.bits (n32 b)).toNat : Int) = n32 (a ^^^ b) := by
  show IntKind.u32.wrap ((BitVec.ofInt 32 (n32 a) ^^^ BitVec.ofInt 32 (n32 b)).toNat : Int) = _
  rw [ofn32, ofn32]
  exact wn32 _
theorem and32 (a b : BitVec 32) : IntKind.u32.wrap ((BitVec.ofInt IntKind.u32.bits (n32 a) &&& BitVec.ofInt IntKind.u32.bits (n32 b)).toNat : Int) = n32 (a &&& b) := by
  show IntKind.u32.wrap ((BitVec.ofInt 32 (n32 a) &&& BitVec.ofInt 32 (n32 b)).toNat : Int) = _
  rw [ofn32, ofn32]
  exact wn32 _
theorem shl32 (a : BitVec 32) (k : Nat) : IntKind.u32.wrap (n32 a * 2 ^ k) = n32 (a <<< k) := by
  simp only [IntKind.wrap, IntKind.signed, IntKind.bits, n32, BitVec.toNat_shiftLeft, Nat.shiftLeft_eq, Bool.false_and, Bool.false_eq_true, if_false]
  norm_cast
theorem c32 (c : UInt8) : IntKind.u32.wrap (c.toNat : Int) = n32 (c.toBitVec.setWidth 32) := by
  have h := c.toNat_lt
  rw [wu32 (by omega) (by omega)]
  simp [n32]
theorem add32 (a b : BitVec 32) : IntKind.u32.wrap (n32 a + n32 b) = n32 (a + b) := by
  simp only [IntKind.wrap, IntKind.signed, IntKind.bits, n32, BitVec.toNat_add, Bool.false_and, Bool.false_eq_true, if_false]
  norm_cast
theorem or32 (a b : BitVec 32) : IntKind.u32.wrap ((BitVec.ofInt IntKind.u32.bits (n32 a) ||| BitVec.ofInt IntKind.u32.bits (n32 b)).toNat : Int) = n32 (a ||| b) := by
  show IntKind.u32.wrap ((BitVec.ofInt 32 (n32 a) ||| BitVec.ofInt 32 (n32 b)).toNat : Int) = _
  rw [ofn32, ofn32]
  exact wn32 _
theorem not32 (a : BitVec 32) : IntKind.u32.wrap ((BitVec.ofInt IntKind.u32.bits 4294967295 ^^^ BitVec.ofInt IntKind.u32.bits (n32 a)).toNat : Int) = n32 (~~~a) := by
  show IntKind.u32.wrap ((BitVec.ofInt 32 4294967295 ^^^ BitVec.ofInt 32 (n32 a)).toNat : Int) = _
  rw [ofn32, show (BitVec.ofInt 32 4294967295 : BitVec 32) = BitVec.allOnes 32 by decide, BitVec.allOnes_xor]
  exact wn32 _
theorem shr32 (a : BitVec 32) (k : Nat) : Int.fdiv (n32 a) (2 ^ k) = n32 (a >>> k) := by
  show Int.fdiv ((a.toNat : Nat) : Int) (2 ^ k) = (((a >>> k).toNat : Nat) : Int)
  rw [BitVec.toNat_ushiftRight, Nat.shiftRight_eq_div_pow, show (2 : Int) ^ k = ((2 ^ k : Nat) : Int) by simp, Int.fdiv_eq_ediv_of_nonneg _ (Int.natCast_nonneg _)]
  rfl
/-- A word, as a value. -/
def w32 (l : List (BitVec 32)) : List AV := l.map fun a => .sc (.int .u32 (n32 a))
theorem w32_len (l : List (BitVec 32)) : (w32 l).length = l.length := by simp [w32]
theorem w32_at {l : List (BitVec 32)} {i : Nat} (h : i < l.length) : (w32 l)[((i : Nat) : Int).toNat]? = some (.sc (.int .u32 (n32 l[i]))) := by simp [w32, h]
/-- A word turned to the right, bit by bit. -/
def ror1 (x : BitVec 32) : BitVec 32 := x >>> 1 ||| x <<< 31
def ror : Nat → BitVec 32 → BitVec 32
  | 0, x => x
  | n + 1, x => ror1 (ror n x)
theorem ror1_bit (x : BitVec 32) (i : Nat) (h : i < 32) : (ror1 x).getLsbD i = x.getLsbD ((i + 1) % 32) := by
  unfold ror1
  simp only [BitVec.getLsbD_or, BitVec.getLsbD_ushiftRight, BitVec.getLsbD_shiftLeft]
  by_cases h1 : i = 31
  · subst h1
    simp
  · rw [Nat.mod_eq_of_lt (by omega)]
    simp [show i < 31 by omega, Nat.add_comm]
theorem ror_bit (n : Nat) (x : BitVec 32) (i : Nat) (h : i < 32) : (ror n x).getLsbD i = x.getLsbD ((i + n) % 32) := by
  induction n generalizing i with
  | zero => rw [ror, Nat.add_zero, Nat.mod_eq_of_lt h]
  | succ n ih =>
    rw [ror, ror1_bit _ _ h, ih _ (Nat.mod_lt _ (by omega))]
    congr 1
    omega
theorem ror_is (n : Nat) (x : BitVec 32) (h0 : 0 < n) (h1 : n < 32) : x <<< (32 - n) ||| x >>> n = ror n x := by
  apply BitVec.eq_of_getLsbD_eq
  intro i hi
  rw [ror_bit n x i hi]
  simp only [BitVec.getLsbD_or, BitVec.getLsbD_ushiftRight, BitVec.getLsbD_shiftLeft]
  by_cases h2 : i + n < 32
  · rw [Nat.mod_eq_of_lt h2]
    simp [show i < 32 - n by omega, Nat.add_comm]
  · rw [show (i + n) % 32 = i - (32 - n) by omega]
    have h3 : ¬ i < 32 - n := by omega
    have h4 : x.getLsbD (n + i) = false := BitVec.getLsbD_of_ge _ _ (by omega)
    simp [hi, h3, h4]
end Go.WL.T5
