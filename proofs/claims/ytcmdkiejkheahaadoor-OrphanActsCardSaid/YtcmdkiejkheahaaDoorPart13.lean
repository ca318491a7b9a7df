/- What the program's reader reads is what the reference's does. No condition. -/
import Derived.Test.YtcmdkiejkheahaaDoorPart12
set_option linter.unusedVariables false
set_option linter.unusedSimpArgs false
namespace Go.WL.T6d
open Go.WL Go.Proofs
set_option maxRecDepth 20000
set_option maxHeartbeats 8000000
theorem fupto_rupto (B : List UInt8) (at_ : Nat) (w : Bool) (top : Int) : rupto (B.drop at_) w top = ((fupto B at_ w top).1, B.drop (fupto B at_ w top).2.1, (fupto B at_ w top).2.2) := by
  unfold rupto fupto
  cases w with
  | true =>
    have : (fnum B at_ true).2.2 = true := by unfold fnum; simp
    simp [this]
  | false =>
    rw [fnum_rnum B at_ false]
    simp only [Bool.false_eq_true, false_or]
    split
    · rfl
    · rfl
theorem ftext_rtext (B : List UInt8) (at_ : Nat) (w : Bool) : rtext (B.drop at_) w = ((ftext B at_ w).1, B.drop (ftext B at_ w).2.1, (ftext B at_ w).2.2) := by
  unfold rtext ftext
  cases w with
  | true =>
    have : (fupto B at_ true 65536).2.2 = true := by
      have h : (fnum B at_ true).2.2 = true := by unfold fnum; simp
      unfold fupto
      simp [h]
    simp [this]
  | false =>
    rw [fupto_rupto B at_ false]
    simp only [Bool.false_eq_true, false_or, List.length_drop]
    split
    · rfl
    · simp [List.drop_drop]
theorem fhash_rhash (B : List UInt8) (at_ : Nat) (w : Bool) : rhash (B.drop at_) w = ((fhash B at_ w).1, B.drop (fhash B at_ w).2.1, (fhash B at_ w).2.2) := by
  unfold rhash fhash
  simp only [List.length_drop]
  split
  · rfl
  · simp [List.drop_drop]
theorem ftext_at (B : List UInt8) (at_ : Nat) (w : Bool) (h : at_ ≤ B.length) : (ftext B at_ w).2.1 ≤ B.length := by
  have := fupto_at B at_ w 65536 h
  unfold ftext
  split
  · exact h
  · rename_i c
    show _ + _ ≤ _
    omega
theorem fhash_at (B : List UInt8) (at_ : Nat) (w : Bool) (h : at_ ≤ B.length) : (fhash B at_ w).2.1 ≤ B.length := by
  unfold fhash
  split
  · exact h
  · rename_i c
    show _ + _ ≤ _
    omega
theorem ftext_len (B : List UInt8) (at_ : Nat) (w : Bool) : (ftext B at_ w).1.length ≤ B.length := by
  unfold ftext
  split
  · simp
  · simp; omega
theorem empty_at (B : List UInt8) (a : Nat) (h : a ≤ B.length) : (B.drop a).isEmpty = (((a : Nat) : Int) == ((B.length : Nat) : Int)) := by
  by_cases e : a = B.length
  · subst e; simp
  · have h1 : (((a : Nat) : Int) == ((B.length : Nat) : Int)) = false := by simp; omega
    rw [h1]
    cases hd : B.drop a with
    | nil =>
      have := congrArg List.length hd
      simp at this
      omega
    | cons x l => rfl
end Go.WL.T6d
