/- Turned bits of bytes: in plain words. No condition. -/
import Derived.Test.YtdlgmddegldcjaaPart30
set_option linter.unusedVariables false
set_option linter.unusedSimpArgs false
namespace Go.WL.T5
open Go.WL Go.Proofs
set_option maxRecDepth 20000
theorem bits_len (l : List UInt8) : (bitsOf l).length = 8 * l.length := by
  induction l with
  | nil => rfl
  | cons c l ih =>
    simp only [bitsOf, List.flatMap_cons, List.length_append] at *
    rw [ih]
    simp [bits8]
    omega
theorem bits_at : ∀ (l : List UInt8) (k : Nat), (bitsOf l)[k]? = (l[k / 8]?).map fun c => bit c (7 - k % 8)
  | [], k => by simp [bitsOf]
  | c :: l, k => by
    show (bits8 c ++ bitsOf l)[k]? = _
    by_cases h : k < 8
    · rw [List.getElem?_append_left (by simpa [bits8] using h), show k / 8 = 0 by omega, List.getElem?_cons_zero]
      match k, h with
      | 0, _ => rfl
      | 1, _ => rfl
      | 2, _ => rfl
      | 3, _ => rfl
      | 4, _ => rfl
      | 5, _ => rfl
      | 6, _ => rfl
      | 7, _ => rfl
    · rw [List.getElem?_append_right (by simp [bits8]; omega), show (bits8 c).length = 8 from rfl, bits_at l (k - 8), show k / 8 = (k - 8) / 8 + 1 by omega, List.getElem?_cons_succ, show (k - 8) % 8 = k % 8 by omega]
def mask (a : Nat) : UInt8 := UInt8.ofNat (2 ^ a)
theorem bit_flip (c : UInt8) : ∀ a, a < 8 → ∀ b, b < 8 → bit (c ^^^ mask a) b = (bit c b != decide (a = b)) := by
  revert c
  exact each8 (by decide +kernel)
/-- One bit is turned. -/
def flip1 (l : List UInt8) (k : Nat) : List UInt8 := l.set (k / 8) (l.getD (k / 8) 0 ^^^ mask (7 - k % 8))
theorem flip_len (l : List UInt8) (k : Nat) : (flip1 l k).length = l.length := List.length_set
theorem flip_at (l : List UInt8) (k j : Nat) (hk : k < 8 * l.length) : (bitsOf (flip1 l k))[j]? = ((bitsOf l)[j]?).map fun x => x != decide (j = k) := by
  rw [bits_at, bits_at]
  unfold flip1
  have hk8 : k / 8 < l.length := by omega
  by_cases h : j / 8 = k / 8
  · rw [h, List.getElem?_set_self hk8, List.getElem?_eq_getElem hk8]
    simp only [Option.map_some, Option.some.injEq]
    rw [List.getD_eq_getElem?_getD, List.getElem?_eq_getElem hk8, Option.getD_some, bit_flip _ _ (by omega) _ (by omega)]
    congr 1
    rw [decide_eq_decide]
    omega
  · rw [List.getElem?_set_ne (fun e => h e.symm), Option.map_map]
    congr 1
    funext c
    simp only [Function.comp]
    rw [decide_eq_false (show ¬ j = k by intro e; rw [e] at h; exact h rfl)]
    simp
/-- Which bits are turned, from one on, the first i of a number's. -/
def turn (b : List UInt8) (f bits : Nat) : Nat → List UInt8
  | 0 => b
  | i + 1 => if f + i < 8 * b.length ∧ bits.testBit i = true then flip1 (turn b f bits i) (f + i) else turn b f bits i
theorem turn_len (b : List UInt8) (f bits : Nat) : ∀ i, (turn b f bits i).length = b.length
  | 0 => rfl
  | i + 1 => by
    unfold turn
    split
    · rw [flip_len, turn_len b f bits i]
    · exact turn_len b f bits i
theorem turn_at (b : List UInt8) (f bits : Nat) : ∀ (i j : Nat), (bitsOf (turn b f bits i))[j]? = ((bitsOf b)[j]?).map fun x => x != (decide (f ≤ j ∧ j < f + i) && bits.testBit (j - f))
  | 0, j => by
    show (bitsOf b)[j]? = _
    rw [decide_eq_false (show ¬ (f ≤ j ∧ j < f + 0) by omega)]
    simp
  | i + 1, j => by
    have ih := turn_at b f bits i j
    unfold turn
    split
    · rename_i h
      rw [flip_at _ _ _ (by rw [turn_len]; exact h.1), ih, Option.map_map]
      congr 1
      funext x
      simp only [Function.comp]
      by_cases e : j = f + i
      · rw [decide_eq_true e, decide_eq_false (show ¬ (f ≤ j ∧ j < f + i) by omega), decide_eq_true (show f ≤ j ∧ j < f + (i + 1) by omega), show j - f = i by omega, h.2]
        simp
      · rw [decide_eq_false e]
        by_cases e2 : f ≤ j ∧ j < f + i
        · rw [decide_eq_true e2, decide_eq_true (show f ≤ j ∧ j < f + (i + 1) by omega)]
          simp
        · rw [decide_eq_false e2, decide_eq_false (show ¬ (f ≤ j ∧ j < f + (i + 1)) by omega)]
          simp
    · rename_i h
      rw [ih]
      by_cases hj : j < 8 * b.length
      · congr 1
        funext x
        by_cases e : j = f + i
        · have : bits.testBit i = false := by
            cases hb : bits.testBit i with
            | false => rfl
            | true => exact absurd ⟨by omega, hb⟩ h
          rw [decide_eq_false (show ¬ (f ≤ j ∧ j < f + i) by omega), show j - f = i by omega, this]
          simp
        · have : (f ≤ j ∧ j < f + i) ↔ (f ≤ j ∧ j < f + (i + 1)) := by omega
          rw [decide_eq_decide.2 this]
      · rw [List.getElem?_eq_none (by rw [bits_len]; omega)]
        rfl
end Go.WL.T5
