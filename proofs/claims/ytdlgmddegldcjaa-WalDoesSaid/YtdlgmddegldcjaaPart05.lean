/- What the check of any bytes comes to, by the program and by the reference. No condition. -/
import Derived.Test.YtdlgmddegldcjaaWordsD
import Derived.Test.YtdlgmddegldcjaaPart04
set_option linter.unusedVariables false
set_option linter.unusedSimpArgs false
namespace Go.WL.T5
open Go.WL Go.Proofs
set_option maxRecDepth 20000

/-! ### The check, in bits -/
def poly : BitVec 32 := 0x814141ab#32
def it (n : BitVec 32) : BitVec 32 := (n <<< 1) ^^^ (if n.msb then poly else 0#32)
def its : Nat → BitVec 32 → BitVec 32
  | 0, n => n
  | k + 1, n => it (its k n)
def crcB (n : BitVec 32) (c : UInt8) : BitVec 32 := its 8 (n ^^^ (c.toBitVec.setWidth 32 <<< 24))
def crc (n : BitVec 32) (l : List UInt8) : BitVec 32 := l.foldl crcB n
theorem msb32 (a : BitVec 32) : (n32 (a &&& 0x80000000#32) != 0) = a.msb := by
  have e : a &&& 0x80000000#32 = if a.msb then 0x80000000#32 else 0#32 := by
    rw [show (0x80000000#32 : BitVec 32) = BitVec.twoPow 32 31 by rfl, BitVec.and_twoPow, BitVec.msb_eq_getLsbD_last]
  rw [e]
  cases a.msb <;> rfl
theorem its_add (j k : Nat) (n : BitVec 32) : its (j + k) n = its j (its k n) := by
  induction j with
  | zero => rw [Nat.zero_add]; rfl
  | succ j ih => rw [Nat.succ_add, its, ih, its]
theorem it_xor (a b : BitVec 32) : it (a ^^^ b) = it a ^^^ it b := by
  unfold it
  rw [BitVec.shiftLeft_xor_distrib, BitVec.msb_xor]
  generalize a <<< 1 = x
  generalize b <<< 1 = y
  cases a.msb <;> cases b.msb
  · simp
  · simp
    ac_rfl
  · simp
    ac_rfl
  · simp
    have e : x ^^^ poly ^^^ (y ^^^ poly) = (poly ^^^ poly) ^^^ (x ^^^ y) := by ac_rfl
    rw [e, BitVec.xor_self, BitVec.zero_xor]
theorem its_xor (k : Nat) (a b : BitVec 32) : its k (a ^^^ b) = its k a ^^^ its k b := by
  induction k with
  | zero => rfl
  | succ k ih => rw [its, ih, it_xor]; rfl
theorem crc_xor : ∀ (l m : List UInt8) (a b : BitVec 32), l.length = m.length → crc (a ^^^ b) (List.zipWith (· ^^^ ·) l m) = crc a l ^^^ crc b m
  | [], [], a, b, _ => rfl
  | x :: l, y :: m, a, b, h => by
    simp only [List.zipWith_cons_cons, crc, List.foldl_cons]
    have e : crcB (a ^^^ b) (x ^^^ y) = crcB a x ^^^ crcB b y := by
      unfold crcB
      rw [← its_xor, UInt8.toBitVec_xor, BitVec.setWidth_xor, BitVec.shiftLeft_xor_distrib]
      generalize x.toBitVec.setWidth 32 <<< 24 = p
      generalize y.toBitVec.setWidth 32 <<< 24 = q
      have e : a ^^^ b ^^^ (p ^^^ q) = a ^^^ p ^^^ (b ^^^ q) := by ac_rfl
      rw [e]
    rw [e]
    exact crc_xor l m _ _ (by simpa using h)
theorem crc_append (n : BitVec 32) (l m : List UInt8) : crc n (l ++ m) = crc (crc n l) m := by simp [crc, List.foldl_append]

/-! ### The reference's division, a bit at a time -/
def refb (r : BitVec 32) (b : Bool) : BitVec 32 := it r ^^^ (if b then 1#32 else 0#32)
def bit (c : UInt8) (k : Nat) : Bool := c.toBitVec.getLsbD k
/-- A byte's bits, from the k-th down, shifted in. -/
def refB (r : BitVec 32) (c : UInt8) : Nat → BitVec 32
  | 0 => r
  | k + 1 => refB (refb r (bit c k)) c k
def ref (r : BitVec 32) (l : List UInt8) : BitVec 32 := l.foldl (fun r c => refB r c 8) r
theorem refB_lin (c : UInt8) : ∀ (k : Nat) (a b : BitVec 32), refB (a ^^^ b) c k = its k a ^^^ refB b c k
  | 0, a, b => rfl
  | k + 1, a, b => by
    simp only [refB, refb]
    rw [it_xor, BitVec.xor_assoc, refB_lin c k, its_add k 1]
    rfl
theorem each8 {Q : UInt8 → Prop} (h : ∀ n, n < 256 → Q (UInt8.ofNat n)) (c : UInt8) : Q c := by
  have := h c.toNat c.toNat_lt
  rwa [UInt8.ofNat_toNat] at this
theorem refB_zero : ∀ c : UInt8, refB 0#32 c 8 = c.toBitVec.setWidth 32 := each8 (by decide +kernel)
theorem its24 : ∀ c : UInt8, its 24 (c.toBitVec.setWidth 32) = c.toBitVec.setWidth 32 <<< 24 := each8 (by decide +kernel)
theorem ref_crc : ∀ (l : List UInt8) (r : BitVec 32), its 32 (ref r l) = crc (its 32 r) l
  | [], r => rfl
  | c :: l, r => by
    simp only [ref, crc, List.foldl_cons]
    rw [show l.foldl (fun r c => refB r c 8) (refB r c 8) = ref (refB r c 8) l from rfl, show l.foldl crcB (crcB (its 32 r) c) = crc (crcB (its 32 r) c) l from rfl, ref_crc l]
    congr 1
    have e : refB r c 8 = its 8 r ^^^ c.toBitVec.setWidth 32 := by
      have := refB_lin c 8 r 0#32
      rw [BitVec.xor_zero] at this
      rw [this, refB_zero]
    rw [e, its_xor, crcB, its_xor, ← its24, ← its_add, ← its_add, ← its_add]
/-- With four bytes 0 behind: the check. -/
theorem ref_is (l : List UInt8) : ref 0#32 (l ++ [0, 0, 0, 0]) = crc 0#32 l := by
  have e : ∀ r : BitVec 32, ref r [0, 0, 0, 0] = its 32 r := by
    intro r
    have : ∀ r : BitVec 32, refB r 0 8 = its 8 r := by
      intro r
      have := refB_lin 0 8 r 0#32
      rw [BitVec.xor_zero, refB_zero] at this
      rw [this]
      exact BitVec.xor_zero
    simp only [ref, List.foldl_cons, List.foldl_nil, this, ← its_add]
  rw [ref, List.foldl_append]
  show ref (ref 0#32 l) [0, 0, 0, 0] = _
  rw [e, ref_crc]
  rfl
end Go.WL.T5
