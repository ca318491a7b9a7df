/- Turned bits change the check: in plain words. No condition. -/
import Derived.Test.YtdlgmddegldcjaaPart31
set_option linter.unusedVariables false
set_option linter.unusedSimpArgs false
namespace Go.WL.T5
open Go.WL Go.Proofs
set_option maxRecDepth 20000
theorem flip_zip (b E : List UInt8) (k : Nat) (h : E.length = b.length) : List.zipWith (· ^^^ ·) b (flip1 E k) = flip1 (List.zipWith (· ^^^ ·) b E) k := by
  unfold flip1
  apply List.ext_getElem?
  intro j
  by_cases e : k / 8 = j
  · subst e
    by_cases hj : k / 8 < b.length
    · rw [List.getElem?_zipWith, List.getElem?_set_self (by rw [h]; exact hj), List.getElem?_set_self (by rw [List.length_zipWith, h]; omega), List.getElem?_eq_getElem hj]
      rw [List.getD_eq_getElem?_getD, List.getD_eq_getElem?_getD, List.getElem?_zipWith, List.getElem?_eq_getElem hj, List.getElem?_eq_getElem (by rw [h]; exact hj)]
      simp only [Option.getD_some]
      rw [UInt8.xor_assoc]
    · rw [List.getElem?_eq_none (by rw [List.length_zipWith]; omega), List.getElem?_eq_none (by rw [List.length_set, List.length_zipWith]; omega)]
  · rw [List.getElem?_zipWith, List.getElem?_set_ne e, List.getElem?_set_ne e, List.getElem?_zipWith]
theorem turn_zip (b : List UInt8) (f bits : Nat) : ∀ i, turn b f bits i = List.zipWith (· ^^^ ·) b (turn (List.replicate b.length 0) f bits i)
  | 0 => by
    show b = List.zipWith (· ^^^ ·) b (List.replicate b.length 0)
    apply List.ext_getElem?
    intro j
    rw [List.getElem?_zipWith, List.getElem?_replicate]
    by_cases hj : j < b.length
    · rw [List.getElem?_eq_getElem hj, if_pos hj]
      simp
    · rw [List.getElem?_eq_none (by omega)]
  | i + 1 => by
    have ih := turn_zip b f bits i
    unfold turn
    rw [List.length_replicate]
    split
    · rw [flip_zip _ _ _ (by rw [turn_len, List.length_replicate]), ← ih]
    · exact ih
theorem crc_turn (s : BitVec 32) (b : List UInt8) (f bits i : Nat) : crc s (turn b f bits i) = crc s b ^^^ crc 0#32 (turn (List.replicate b.length 0) f bits i) := by
  have := crc_xor b (turn (List.replicate b.length 0) f bits i) s 0#32 (by rw [turn_len, List.length_replicate])
  rw [BitVec.xor_zero] at this
  rw [turn_zip, this]
theorem zeros_at (n j : Nat) : (bitsOf (List.replicate n 0))[j]? = if j < 8 * n then some false else none := by
  rw [bits_at, List.getElem?_replicate]
  by_cases h : j < 8 * n
  · rw [if_pos h, if_pos (by omega), Option.map_some]
    congr 1
    unfold bit
    simp
  · rw [if_neg h, if_neg (by omega)]
    rfl
theorem turn_bits (n f bits : Nat) (hf : f ≤ 8 * n) : bitsOf (turn (List.replicate n 0) f bits 32) = List.replicate f false ++ (List.range (min 32 (8 * n - f))).map (fun i => bits.testBit i) ++ List.replicate (8 * n - f - min 32 (8 * n - f)) false := by
  apply List.ext_getElem?
  intro j
  rw [turn_at, zeros_at]
  by_cases h1 : j < f
  · rw [if_pos (by omega), decide_eq_false (show ¬ (f ≤ j ∧ j < f + 32) by omega), List.append_assoc, List.getElem?_append_left (by simpa using h1), List.getElem?_replicate, if_pos h1]
    rfl
  · by_cases h2 : j < f + min 32 (8 * n - f)
    · rw [if_pos (by omega), decide_eq_true (show f ≤ j ∧ j < f + 32 by omega), List.getElem?_append_left (by simp; omega), List.getElem?_append_right (by simp; omega), List.length_replicate, List.getElem?_map, List.getElem?_range (by omega)]
      simp
    · rw [List.getElem?_append_right (by simp; omega)]
      by_cases h3 : j < 8 * n
      · rw [if_pos h3, decide_eq_false (show ¬ (f ≤ j ∧ j < f + 32) by omega), List.getElem?_replicate, if_pos (by simp; omega)]
        rfl
      · rw [if_neg h3, List.getElem?_eq_none (by simp; omega)]
        rfl
/-- Turned bits: where there is one, the check is another; where there is none, the bytes are the same. -/
def anyT (n f bits : Nat) : Nat → Bool
  | 0 => false
  | i + 1 => anyT n f bits i || (decide (f + i < 8 * n) && bits.testBit i)
theorem anyT_iff (n f bits : Nat) : ∀ i, anyT n f bits i = true ↔ ∃ k, k < i ∧ f + k < 8 * n ∧ bits.testBit k = true
  | 0 => by simp [anyT]
  | i + 1 => by
    rw [anyT, Bool.or_eq_true, anyT_iff n f bits i, Bool.and_eq_true, decide_eq_true_eq]
    constructor
    · rintro (⟨k, h1, h2⟩ | h)
      · exact ⟨k, by omega, h2⟩
      · exact ⟨i, by omega, h⟩
    · rintro ⟨k, h1, h2⟩
      by_cases e : k = i
      · subst e; exact .inr h2
      · exact .inl ⟨k, by omega, h2⟩
theorem turn_none (b : List UInt8) (f bits : Nat) : ∀ i, anyT b.length f bits i = false → turn b f bits i = b
  | 0, _ => rfl
  | i + 1, h => by
    rw [anyT, Bool.or_eq_false_iff] at h
    unfold turn
    rw [if_neg, turn_none b f bits i h.1]
    intro e
    have := h.2
    rw [decide_eq_true e.1, e.2] at this
    cases this
theorem turn_some (s : BitVec 32) (b : List UInt8) (f bits : Nat) (hf : f ≤ 8 * b.length) (h : anyT b.length f bits 32 = true) : crc s (turn b f bits 32) ≠ crc s b := by
  obtain ⟨k, h1, h2, h3⟩ := (anyT_iff _ _ _ _).1 h
  rw [crc_turn]
  have hb := burst f ((List.range (min 32 (8 * b.length - f))).map (fun i => bits.testBit i)) _ (turn (List.replicate b.length 0) f bits 32) (by simp; omega) (List.mem_map.2 ⟨k, List.mem_range.2 (by omega), h3⟩) (turn_bits b.length f bits hf)
  intro e
  apply hb
  have e2 := congrArg (fun x => crc s b ^^^ x) e
  simp only [BitVec.xor_self] at e2
  rw [← BitVec.xor_assoc, BitVec.xor_self, BitVec.zero_xor] at e2
  exact e2
end Go.WL.T5
