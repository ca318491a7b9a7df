/- Turned bits: in plain words. No condition. -/
import Derived.Test.YtdlgmddegldcjaaPart05
set_option linter.unusedVariables false
set_option linter.unusedSimpArgs false
namespace Go.WL.T5
open Go.WL Go.Proofs
set_option maxRecDepth 20000
/-- A step forgets nothing: the polynomial's lowest bit is 1. -/
theorem it_zero {a : BitVec 32} (h : it a = 0#32) : a = 0#32 := by
  unfold it at h
  have hl : (a <<< 1 ^^^ (if a.msb = true then poly else 0#32)).getLsbD 0 = (if a.msb = true then poly else 0#32).getLsbD 0 := by
    rw [BitVec.getLsbD_xor]
    simp
  rw [h] at hl
  cases hm : a.msb with
  | true =>
    rw [hm] at hl
    exact absurd hl (by decide)
  | false =>
    rw [hm] at h
    have h : a <<< 1 = 0#32 := by simpa using h
    apply BitVec.eq_of_getLsbD_eq
    intro i hi
    by_cases h31 : i = 31
    · subst h31
      rw [BitVec.msb_eq_getLsbD_last] at hm
      simpa using hm
    · have := congrArg (fun x => x.getLsbD (i + 1)) h
      simp only [BitVec.getLsbD_shiftLeft] at this
      simp at this
      have := this (by omega)
      simpa using this
theorem its_zero : ∀ (k : Nat) {a : BitVec 32}, its k a = 0#32 → a = 0#32
  | 0, _, h => h
  | k + 1, _, h => its_zero k (it_zero h)
/-- A byte's bits, the highest first. -/
def bits8 (c : UInt8) : List Bool := [bit c 7, bit c 6, bit c 5, bit c 4, bit c 3, bit c 2, bit c 1, bit c 0]
def bitsOf (l : List UInt8) : List Bool := l.flatMap bits8
theorem ref_bits : ∀ (l : List UInt8) (r : BitVec 32), ref r l = (bitsOf l).foldl refb r
  | [], r => rfl
  | c :: l, r => by
    simp only [ref, List.foldl_cons, bitsOf, List.flatMap_cons, List.foldl_append]
    have := ref_bits l (refB r c 8)
    simp only [ref, bitsOf] at this
    rw [this]
    rfl
theorem fold_false : ∀ (k : Nat) (r : BitVec 32), (List.replicate k false).foldl refb r = its k r
  | 0, r => rfl
  | k + 1, r => by
    rw [List.replicate_succ, List.foldl_cons, fold_false k]
    rw [show refb r false = it r by unfold refb; simp]
    rw [its_add k 1] 
    rfl
/-- Up to 32 bits are what they are. -/
def numB (w : List Bool) : Nat := w.foldl (fun n b => 2 * n + b.toNat) 0
theorem it_small {n : Nat} (h : n < 2147483648) : it (BitVec.ofNat 32 n) = BitVec.ofNat 32 (2 * n) := by
  unfold it
  have : (BitVec.ofNat 32 n).msb = false := by
    rw [BitVec.msb_eq_decide]
    simp
    omega
  rw [this]
  apply BitVec.eq_of_toNat_eq
  simp
  omega
theorem refb_small {n : Nat} (h : n < 2147483648) (b : Bool) : refb (BitVec.ofNat 32 n) b = BitVec.ofNat 32 (2 * n + b.toNat) := by
  unfold refb
  rw [it_small h]
  cases b with
  | false => simp
  | true =>
    apply BitVec.eq_of_toNat_eq
    simp only [if_true, BitVec.toNat_xor, BitVec.toNat_ofNat]
    rw [show true.toNat = 1 from rfl, Nat.mod_eq_of_lt (show 2 * n < 2 ^ 32 by omega), Nat.mod_eq_of_lt (show 1 < 2 ^ 32 by decide), Nat.mod_eq_of_lt (show 2 * n + 1 < 2 ^ 32 by omega)]
    apply Nat.eq_of_testBit_eq
    intro i
    rw [Nat.testBit_xor]
    cases i with
    | zero => simp
    | succ i =>
      rw [Nat.testBit_succ, Nat.testBit_succ, Nat.testBit_succ]
      rw [show (2 * n) / 2 = n by omega, show (2 * n + 1) / 2 = n by omega, show 1 / 2 = 0 from rfl]
      simp
theorem fold_num : ∀ (w : List Bool) (n k : Nat), n < 2 ^ k → k + w.length ≤ 32 → w.foldl refb (BitVec.ofNat 32 n) = BitVec.ofNat 32 (w.foldl (fun n b => 2 * n + b.toNat) n) ∧ w.foldl (fun n b => 2 * n + b.toNat) n < 2 ^ (k + w.length)
  | [], n, k, hn, _ => ⟨rfl, by simpa using hn⟩
  | b :: w, n, k, hn, hk => by
    simp only [List.length_cons] at hk
    have hb : b.toNat ≤ 1 := by cases b <;> decide
    have h31 : (2 : Nat) ^ k ≤ 2 ^ 31 := Nat.pow_le_pow_right (by decide) (by omega)
    have h1 : n < 2147483648 := Nat.lt_of_lt_of_le hn h31
    have h2 : 2 * n + b.toNat < 2 ^ (k + 1) := by rw [Nat.pow_succ]; omega
    obtain ⟨e1, e2⟩ := fold_num w (2 * n + b.toNat) (k + 1) h2 (by omega)
    simp only [List.foldl_cons, List.length_cons]
    rw [refb_small h1, e1]
    exact ⟨rfl, by rw [show k + (w.length + 1) = k + 1 + w.length by omega]; exact e2⟩
theorem num_mono : ∀ (w : List Bool) (n : Nat), 0 < n → 0 < w.foldl (fun n b => 2 * n + b.toNat) n
  | [], n, h => h
  | b :: w, n, h => num_mono w (2 * n + b.toNat) (by omega)
theorem num_pos : ∀ (w : List Bool), true ∈ w → 0 < numB w
  | [], h => by simp at h
  | b :: w, h => by
    unfold numB
    simp only [List.foldl_cons]
    cases b with
    | true => exact num_mono w _ (by decide)
    | false =>
      have : true ∈ w := by simpa using h
      exact num_pos w this
/-- Bits that are turned within 32 in a row are not forgotten. -/
theorem burst (a : Nat) (w : List Bool) (c : Nat) (l : List UInt8) (hw : w.length ≤ 32) (ht : true ∈ w) (hl : bitsOf l = List.replicate a false ++ w ++ List.replicate c false) : crc 0#32 l ≠ 0#32 := by
  intro h
  have e0 : its 32 (ref 0#32 l) = crc (its 32 0#32) l := ref_crc l 0#32
  have z : ∀ k, its k 0#32 = 0#32 := by
    intro k
    induction k with
    | zero => rfl
    | succ k ih => rw [its, ih]; rfl
  rw [z, h] at e0
  have e1 := its_zero 32 e0
  rw [ref_bits, hl, List.foldl_append, List.foldl_append, fold_false, fold_false, z] at e1
  have e2 := its_zero c e1
  obtain ⟨e3, e4⟩ := fold_num w 0 0 (by decide) (by omega)
  rw [show (0#32 : BitVec 32) = BitVec.ofNat 32 0 from rfl, e3] at e2
  have hp := num_pos w ht
  have hlt : numB w < 2 ^ 32 := Nat.lt_of_lt_of_le (by simpa [numB] using e4) (Nat.pow_le_pow_right (by decide) hw)
  have := congrArg BitVec.toNat e2
  rw [BitVec.toNat_ofNat, BitVec.toNat_ofNat] at this
  have e5 : w.foldl (fun n b => 2 * n + b.toNat) 0 = numB w := rfl
  rw [e5, Nat.mod_eq_of_lt hlt] at this
  simp at this
  omega
theorem burst0 (n : Nat) (l : List UInt8) (hl : bitsOf l = List.replicate n false) : crc 0#32 l = 0#32 := by
  have e0 : its 32 (ref 0#32 l) = crc (its 32 0#32) l := ref_crc l 0#32
  have z : ∀ k, its k 0#32 = 0#32 := by
    intro k
    induction k with
    | zero => rfl
    | succ k ih => rw [its, ih]; rfl
  rw [z, ref_bits, hl, fold_false, z, z] at e0
  exact e0.symm
end Go.WL.T5
