/- OctetBack: what is put is read. No condition. -/
import Derived.Test.YtcmdkiejkheahaaDoorPart09
set_option linter.unusedVariables false
set_option linter.unusedSimpArgs false
namespace Go.WL.T6d
open Go.WL Go.Proofs
set_option maxRecDepth 20000
set_option maxHeartbeats 4000000
theorem rdn_num (rest : List UInt8) (m i a : Nat) (h : m * 128 ^ i < 18446744073709551616) (hi : i < 10) (h0 : i = 0 ∨ 0 < m) : rdn (num m ++ rest) i a = (a + m * 128 ^ i, i + (num m).length) := by
  induction m using Nat.strongRecOn generalizing i a with
  | ind m ih =>
  by_cases c : m < 128
  · rw [num_low c, List.cons_append, rdn, if_neg (by omega)]
    have e : (UInt8.ofNat m).toNat = m := by simp; omega
    rw [e, if_neg, if_pos c]
    · rfl
    · intro k
      rcases k with ⟨k1, k2⟩ | ⟨k1, k2⟩
      · subst k1
        have : 2 * 128 ^ 9 ≤ m * 128 ^ 9 := Nat.mul_le_mul_right _ k2
        omega
      · omega
  · have e : (UInt8.ofNat (128 + m % 128)).toNat = 128 + m % 128 := by simp; omega
    have hi8 : i < 9 := by
      refine Nat.lt_of_not_le fun k => ?_
      have e9 : i = 9 := by omega
      subst e9
      have : 128 * 128 ^ 9 ≤ m * 128 ^ 9 := Nat.mul_le_mul_right _ (by omega)
      omega
    have hm : m / 128 * 128 ^ (i + 1) + m % 128 * 128 ^ i = m * 128 ^ i := by
      rw [Nat.pow_succ, ← Nat.mul_assoc, Nat.mul_right_comm, ← Nat.add_mul]
      congr 1
      omega
    rw [num_high c, List.cons_append, rdn, if_neg (by omega), e, if_neg (by omega), if_neg (by omega), show (128 + m % 128) % 128 = m % 128 by omega, ih (m / 128) (by omega) (i + 1) _ (by omega) (by omega) (.inr (by omega))]
    rw [List.length_cons]
    congr 1 <;> omega
theorem num_pos (n : Nat) : 0 < (num n).length := by
  by_cases c : n < 128
  · rw [num_low c]; simp
  · rw [num_high c]; simp
theorem rnum_num (n : Nat) (rest : List UInt8) (hn : n < 18446744073709551616) : rnum (num n ++ rest) false = (n, rest, false) := by
  have h := rdn_num rest n 0 0 (by omega) (by omega) (.inl rfl)
  have hp := num_pos n
  unfold rnum
  rw [h, if_neg (by simp)]
  simp only [Nat.zero_add, Nat.pow_zero, Nat.mul_one]
  rw [if_neg (by omega), List.drop_append_of_le_length (Nat.le_refl _), List.drop_length, List.nil_append]
theorem rtext_text (t rest : List UInt8) (ht : t.length ≤ 65536) : rtext (num t.length ++ (t ++ rest)) false = (t, rest, false) := by
  have h := rnum_num t.length (t ++ rest) (by omega)
  have hu : rupto (num t.length ++ (t ++ rest)) false 65536 = (t.length, t ++ rest, false) := by
    unfold rupto
    rw [h, if_neg (by simp; omega)]
  unfold rtext
  rw [hu, if_neg (by simp)]
  simp
theorem rhash_hash (h rest : List UInt8) (hh : h.length = 32) : rhash (h ++ rest) false = (h, rest, false) := by
  unfold rhash
  rw [if_neg (by simp; omega), ← hh]
  simp
/-- Of one that is put: its bytes, and how it lies. -/
def enc (p : Nat × List UInt8 × List UInt8) : List UInt8 := num p.1 ++ (num p.2.1.length ++ (p.2.1 ++ p.2.2))
def encs (l : List (Nat × List UInt8 × List UInt8)) : List UInt8 := l.flatMap enc
def okP (p : Nat × List UInt8 × List UInt8) : Prop := p.1 < 18446744073709551616 ∧ p.2.2.length = 32
theorem enc_len {p : Nat × List UInt8 × List UInt8} (h : okP p) (ht : p.2.1.length ≤ 300) : (enc p).length ≤ 352 := by
  have h1 := num_ten h.1
  have h2 := num_ten (n := p.2.1.length) (by omega)
  have h3 := h.2
  unfold enc
  simp
  omega
theorem encs_len : ∀ l : List (Nat × List UInt8 × List UInt8), (∀ p ∈ l, okP p) → (∀ p ∈ l, p.2.1.length ≤ 300) → (encs l).length ≤ 352 * l.length
  | [], _, _ => by simp [encs]
  | p :: l, h1, h2 => by
    have := encs_len l (fun q hq => h1 q (List.mem_cons_of_mem _ hq)) (fun q hq => h2 q (List.mem_cons_of_mem _ hq))
    have := enc_len (h1 p (by simp)) (h2 p (by simp))
    simp only [encs, List.flatMap_cons, List.length_append, List.length_cons] at *
    omega
end Go.WL.T6d
