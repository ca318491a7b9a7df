/- Words turned: the program's and the reference's. No condition. -/
import Derived.Test.YtcmdkiejkheahaaDoorWordsD
import Derived.Test.YtcmdkiejkheahaaDoorPart02
set_option linter.unusedVariables false
set_option linter.unusedSimpArgs false
namespace Go.WL.T6d
open Go.WL Go.Proofs
set_option maxRecDepth 20000
abbrev n32 (b : BitVec 32) : Int := (b.toNat : Int)

theorem ofn32 (a : BitVec 32) : BitVec.ofInt 32 (n32 a) = a := by
  simp [n32]
theorem r32 (a : BitVec 32) : 0 ≤ n32 a ∧ n32 a < 4294967296 := by
  have := a.isLt
  show 0 ≤ (a.toNat : Int) ∧ (a.toNat : Int) < 4294967296
  omega
theorem wn32 (a : BitVec 32) : IntKind.u32.wrap (n32 a) = n32 a := wu32 (r32 a).1 (r32 a).2
theorem xor32 (a b : BitVec 32) : IntKind.u32.wrap ((BitVec.ofInt IntKind.u32.bits (n32 a) ^^^ BitVec.ofInt IntKind.u32.bits (n32 b)).toNat : Int) = n32 (a ^^^ b) := by
  show IntKind.u32.wrap ((BitVec.ofInt 32 (n32 a) ^^^ BitVec.ofInt 32 (n32 b)).toNat : Int) = _
  rw [ofn32, ofn32]
  exact wn32 _
theorem and32 (a b : BitVec 32) : IntKind.u32.wrap ((BitVec.ofInt IntKind.u32.bits (n32 a) &&& BitVec.ofInt IntKind.u32.bits (n32 b)).toNat : Int) = n32 (a &&& b) := by
  show IntKind.u32.wrap ((BitVec.ofInt 32 (n32 a) &&& BitVec.ofInt 32 (n32 b)).toNat : Int) = _
  rw [ofn32, ofn32]
  exact wn32 _
theorem shl32 (a : BitVec 32) (k : Nat) : IntKind.u32.wrap (n32 a * 2 ^ k) = n32 (a <<< k) := by
  simp only [IntKind.wrap, IntKind.signed, IntKind.bits, n32, BitVec.toNat_shiftLeft, Nat.shiftLeft_eq, Bool.false_and, Bool.false_eq_true, if_false]
  norm_cast
theorem c32 (c : UInt8) : IntKind.u32.wrap (c.toNat : Int) = n32 (c.toBitVec.setWidth 32) := by
  have h := c.toNat_lt
  rw [wu32 (by omega) (by omega)]
  simp [n32]
theorem add32 (a b : BitVec 32) : IntKind.u32.wrap (n32 a + n32 b) = n32 (a + b) := by
  simp only [IntKind.wrap, IntKind.signed, IntKind.bits, n32, BitVec.toNat_add, Bool.false_and, Bool.false_eq_true, if_false]
  norm_cast
theorem or32 (a b : BitVec 32) : IntKind.u32.wrap ((BitVec.ofInt IntKind.u32.bits (n32 a) ||| BitVec.ofInt IntKind.u32.bits (n32 b)).toNat : Int) = n32 (a ||| b) := by
  show IntKind.u32.wrap ((BitVec.ofInt 32 (n32 a) ||| BitVec.ofInt 32 (n32 b)).toNat : Int) = _
  rw [ofn32, ofn32]
  exact wn32 _
theorem not32 (a : BitVec 32) : IntKind.u32.wrap ((BitVec.ofInt IntKind.u32.bits 4294967295 ^^^ BitVec.ofInt IntKind.u32.bits (n32 a)).toNat : Int) = n32 (~~~a) := by
  show IntKind.u32.wrap ((BitVec.ofInt 32 4294967295 ^^^ BitVec.ofInt 32 (n32 a)).toNat : Int) = _
  rw [ofn32, show (BitVec.ofInt 32 4294967295 : BitVec 32) = BitVec.allOnes 32 by decide, BitVec.allOnes_xor]
  exact wn32 _
theorem shr32 (a : BitVec 32) (k : Nat) : Int.fdiv (n32 a) (2 ^ k) = n32 (a >>> k) := by
  show Int.fdiv ((a.toNat : Nat) : Int) (2 ^ k) = (((a >>> k).toNat : Nat) : Int)
  rw [BitVec.toNat_ushiftRight, Nat.shiftRight_eq_div_pow, show (2 : Int) ^ k = ((2 ^ k : Nat) : Int) by simp, Int.fdiv_eq_ediv_of_nonneg _ (Int.natCast_nonneg _)]
  rfl
/-- A word, as a value. -/
def w32 (l : List (BitVec 32)) : List AV := l.map fun a => .sc (.int .u32 (n32 a))
theorem w32_len (l : List (BitVec 32)) : (w32 l).length = l.length := by simp [w32]
theorem w32_at {l : List (BitVec 32)} {i : Nat} (h : i < l.length) : (w32 l)[((i : Nat) : Int).toNat]? = some (.sc (.int .u32 (n32 l[i]))) := by simp [w32, h]
/-- A word turned to the right, bit by bit. -/
def ror1 (x : BitVec 32) : BitVec 32 := x >>> 1 ||| x <<< 31
def ror : Nat → BitVec 32 → BitVec 32
  | 0, x => x
  | n + 1, x => ror1 (ror n x)
theorem ror1_bit (x : BitVec 32) (i : Nat) (h : i < 32) : (ror1 x).getLsbD i = x.getLsbD ((i + 1) % 32) := by
  unfold ror1
  simp only [BitVec.getLsbD_or, BitVec.getLsbD_ushiftRight, BitVec.getLsbD_shiftLeft]
  by_cases h1 : i = 31
  · subst h1
    simp
  · rw [Nat.mod_eq_of_lt (by omega)]
    simp [show i < 31 by omega, Nat.add_comm]
theorem ror_bit (n : Nat) (x : BitVec 32) (i : Nat) (h : i < 32) : (ror n x).getLsbD i = x.getLsbD ((i + n) % 32) := by
  induction n generalizing i with
  | zero => rw [ror, Nat.add_zero, Nat.mod_eq_of_lt h]
  | succ n ih =>
    rw [ror, ror1_bit _ _ h, ih _ (Nat.mod_lt _ (by omega))]
    congr 1
    omega
theorem ror_is (n : Nat) (x : BitVec 32) (h0 : 0 < n) (h1 : n < 32) : x <<< (32 - n) ||| x >>> n = ror n x := by
  apply BitVec.eq_of_getLsbD_eq
  intro i hi
  rw [ror_bit n x i hi]
  simp only [BitVec.getLsbD_or, BitVec.getLsbD_ushiftRight, BitVec.getLsbD_shiftLeft]
  by_cases h2 : i + n < 32
  · rw [Nat.mod_eq_of_lt h2]
    simp [show i < 32 - n by omega, Nat.add_comm]
  · rw [show (i + n) % 32 = i - (32 - n) by omega]
    have h3 : ¬ i < 32 - n := by omega
    have h4 : x.getLsbD (n + i) = false := BitVec.getLsbD_of_ge _ _ (by omega)
    simp [hi, h3, h4]
end Go.WL.T6d
namespace Go.WL.T6d
open Go.WL Go.Proofs
set_option maxRecDepth 20000
set_option maxHeartbeats 4000000
theorem rot_all : ∀ n : Fin 32, 0 < n.val → IntKind.u64.wrap ((BitVec.ofInt IntKind.u64.bits (IntKind.u64.wrap (-((n.val : Nat) : Int))) &&& BitVec.ofInt IntKind.u64.bits 31).toNat : Int) = ((32 - n.val : Nat) : Int) := by decide +kernel
theorem rot_k (n : Nat) (h0 : 0 < n) (h1 : n < 32) : IntKind.u64.wrap ((BitVec.ofInt IntKind.u64.bits (IntKind.u64.wrap (-((n : Nat) : Int))) &&& BitVec.ofInt IntKind.u64.bits 31).toNat : Int) = ((32 - n : Nat) : Int) := rot_all ⟨n, h1⟩ h0
theorem half32 (x : BitVec 32) : IntKind.u32.wrap (Int.tdiv (n32 x) 2) = n32 (x >>> 1) := by
  have h := x.isLt
  rw [show Int.tdiv (n32 x) 2 = ((x.toNat / 2 : Nat) : Int) from rfl, wu32 (by omega) (by omega)]
  show _ = (((x >>> 1).toNat : Nat) : Int)
  rw [BitVec.toNat_ushiftRight, Nat.shiftRight_eq_div_pow]
theorem top32 (x : BitVec 32) : IntKind.u32.wrap (Int.tmod (n32 x) 2 * 2147483648) = n32 (x <<< 31) := by
  have h := x.isLt
  rw [show Int.tmod (n32 x) 2 = ((x.toNat % 2 : Nat) : Int) from rfl, wu32 (by omega) (by omega)]
  show _ = (((x <<< 31).toNat : Nat) : Int)
  rw [BitVec.toNat_shiftLeft, Nat.shiftLeft_eq]
  omega
theorem ror1_add (x : BitVec 32) : x >>> 1 + x <<< 31 = ror1 x := by
  unfold ror1
  rw [BitVec.add_eq_or_of_and_eq_zero]
  apply BitVec.eq_of_getLsbD_eq
  intro i hi
  simp only [BitVec.getLsbD_and, BitVec.getLsbD_ushiftRight, BitVec.getLsbD_shiftLeft, BitVec.getLsbD_zero]
  by_cases h1 : i < 31
  · simp [h1]
  · rw [show i = 31 by omega]
    simp
theorem c_rotl (x : BitVec 32) (n : Nat) (h0 : 0 < n) (h1 : n < 32) : FnOK Tryd.prog D 131 [.sc (.int .u32 (n32 x)), (AV.sc (.int .i64 (-(n : Int))))] [] (fun r st => r = .sc (.int .u32 (n32 (ror n x))) ∧ st = []) := by
  refine fnok_of_W hmix tabOK Tryd.func131 rfl rfl (Nat.le_of_ble_eq_true rfl) ?_
  conv => whnf
  rw [rot_k n h0 h1]
  repeat (refine And.intro (by first | omega) ?_; conv => whnf)
  rw [wu64 (x := 32 - ((32 - n : Nat) : Int)) (by omega) (by omega), show 32 - ((32 - n : Nat) : Int) = (n : Int) by omega]
  repeat (refine And.intro (by first | omega) ?_; conv => whnf)
  refine ⟨false, [], ?_⟩
  conv => whnf
  refine ⟨?_, rfl⟩
  congr 2
  rw [show (((32 - n : Nat) : Int)).toNat = 32 - n by omega, Int.toNat_natCast, show min (32 - n) IntKind.u32.bits = 32 - n from Nat.min_eq_left (by show 32 - n ≤ 32; omega), show min n IntKind.u32.bits = n from Nat.min_eq_left (by show n ≤ 32; omega),
    shl32, shr32, or32, ror_is n x h0 h1]
theorem c_right (x : BitVec 32) (n : Nat) (h0 : 0 < n) (h1 : n < 32) : FnOK Tryd.prog D 126 [.sc (.int .u32 (n32 x)), (AV.sc (.int .i64 ((n : Int))))] [] (fun r st => r = .sc (.int .u32 (n32 (ror n x))) ∧ st = []) := by
  refine fnok_of_W hmix tabOK Tryd.func126 rfl rfl (Nat.le_of_ble_eq_true rfl) ?_
  conv => whnf
  rw [w64 (x := 0 - (n : Int)) (by omega) (by omega), Int.zero_sub]
  refine (c_rotl x n h0 h1).mono fun r st e => ?_
  obtain ⟨rfl, rfl⟩ := e
  conv => whnf
  refine ⟨false, [], ?_⟩
  conv => whnf
  exact ⟨rfl, rfl⟩
theorem c_turn (x : BitVec 32) (n : Nat) (h1 : n < 32) : FnOK Tryd.prog D 127 [.sc (.int .u32 (n32 x)), (AV.sc (.int .i64 ((n : Int))))] [] (fun r st => r = .sc (.int .u32 (n32 (ror n x))) ∧ st = []) := by
  refine fnok_of_W hmix tabOK Tryd.func127 rfl rfl (Nat.le_of_ble_eq_true rfl) ?_
  conv => whnf
  refine ⟨false, [0, 1, 5], fun τ => ∃ i : Nat, i ≤ n ∧ τ = ⟨18, [(0, .sc (.int .u32 (n32 (ror i x)))), (1, (AV.sc (.int .i64 ((n : Int))))), (5, (AV.sc (.int .i64 ((i : Int)))))], ⟨[], [], 0⟩⟩, fun τ => n - (slotI τ 5).toNat, ?_, ?_⟩
  · conv => whnf
    exact ⟨0, Nat.zero_le _, rfl⟩
  rintro τ ⟨i, hi, rfl⟩
  conv => whnf
  refine Branch.of (fun h2 => ?_) (fun h2 => ?_) <;> rw [h2] <;> conv => whnf
  · simp only [decide_eq_true_eq] at h2
    repeat (refine And.intro (by first | omega) ?_; conv => whnf)
    rw [half32, top32, add32, ror1_add, w64 (x := (i : Int) + 1) (by omega) (by omega)]
    refine ⟨⟨i + 1, by omega, rfl⟩, ?_⟩
    show n - ((i : Int) + 1).toNat < n - (i : Int).toNat
    omega
  · simp only [decide_eq_false_iff_not] at h2
    have e : i = n := by omega
    subst e
    refine ⟨false, [], ?_⟩
    conv => whnf
    exact ⟨rfl, rfl⟩
theorem c_shift (x : BitVec 32) (n : Nat) (h1 : n < 32) : FnOK Tryd.prog D 128 [.sc (.int .u32 (n32 x)), (AV.sc (.int .i64 ((n : Int))))] [] (fun r st => r = .sc (.int .u32 (n32 (x >>> n))) ∧ st = []) := by
  refine fnok_of_W hmix tabOK Tryd.func128 rfl rfl (Nat.le_of_ble_eq_true rfl) ?_
  conv => whnf
  refine ⟨false, [0, 1, 5], fun τ => ∃ i : Nat, i ≤ n ∧ τ = ⟨14, [(0, .sc (.int .u32 (n32 (x >>> i)))), (1, (AV.sc (.int .i64 ((n : Int))))), (5, (AV.sc (.int .i64 ((i : Int)))))], ⟨[], [], 0⟩⟩, fun τ => n - (slotI τ 5).toNat, ?_, ?_⟩
  · conv => whnf
    exact ⟨0, Nat.zero_le _, by rw [BitVec.ushiftRight_zero]; rfl⟩
  rintro τ ⟨i, hi, rfl⟩
  conv => whnf
  refine Branch.of (fun h2 => ?_) (fun h2 => ?_) <;> rw [h2] <;> conv => whnf
  · simp only [decide_eq_true_eq] at h2
    repeat (refine And.intro (by first | omega) ?_; conv => whnf)
    rw [half32, w64 (x := (i : Int) + 1) (by omega) (by omega), ← BitVec.shiftRight_add]
    refine ⟨⟨i + 1, by omega, rfl⟩, ?_⟩
    show n - ((i : Int) + 1).toNat < n - (i : Int).toNat
    omega
  · simp only [decide_eq_false_iff_not] at h2
    have e : i = n := by omega
    subst e
    refine ⟨false, [], ?_⟩
    conv => whnf
    exact ⟨rfl, rfl⟩
end Go.WL.T6d
