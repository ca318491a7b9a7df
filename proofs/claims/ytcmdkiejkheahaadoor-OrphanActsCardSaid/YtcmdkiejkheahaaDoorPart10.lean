/- A number's one form: what is read of bytes is what was put, and no other. No condition. -/
import Derived.Test.YtcmdkiejkheahaaDoorPart08
set_option linter.unusedVariables false
set_option linter.unusedSimpArgs false
namespace Go.WL.T6d
open Go.WL Go.Proofs
set_option maxHeartbeats 4000000
def val : List UInt8 → Nat
  | [] => 0
  | c :: l => c.toNat % 128 + 128 * val l
theorem val_snoc : ∀ (l : List UInt8) (c : UInt8), val (l ++ [c]) = val l + c.toNat % 128 * 128 ^ l.length
  | [], c => by simp [val]
  | x :: l, c => by
    simp only [List.cons_append, val, val_snoc l c, List.length_cons, Nat.pow_succ]
    rw [Nat.mul_add, ← Nat.mul_assoc 128, Nat.mul_comm 128 (c.toNat % 128), Nat.mul_assoc, Nat.mul_comm 128 (128 ^ l.length)]
    omega
theorem val_num (n : Nat) : val (num n) = n := by
  induction n using Nat.strongRecOn with
  | ind n ih =>
  by_cases c : n < 128
  · rw [num_low c]
    simp [val]
    omega
  · rw [num_high c, val, ih (n / 128) (by omega)]
    simp
    omega
theorem num_shape (n : Nat) : ∃ (p : List UInt8) (c : UInt8), num n = p ++ [c] ∧ (∀ x ∈ p, 128 ≤ x.toNat) ∧ c.toNat < 128 := by
  induction n using Nat.strongRecOn with
  | ind n ih =>
  by_cases c : n < 128
  · exact ⟨[], UInt8.ofNat n, by rw [num_low c]; rfl, by simp, by simp; omega⟩
  · obtain ⟨p, d, h1, h2, h3⟩ := ih (n / 128) (by omega)
    refine ⟨UInt8.ofNat (128 + n % 128) :: p, d, by rw [num_high c, h1]; rfl, fun x hx => ?_, h3⟩
    rcases List.mem_cons.1 hx with rfl | hx
    · simp; omega
    · exact h2 x hx
theorem rdn_ten : ∀ (l : List UInt8) (i a : Nat), (rdn l i a).2 ≤ 10
  | [], i, a => by simp [rdn]
  | c :: l, i, a => by
    rw [rdn]
    split
    · simp
    · split
      · simp
      · split
        · simp; omega
        · exact rdn_ten l _ _
theorem rdn_back : ∀ (l : List UInt8) (i a : Nat), (rdn l i a).2 ≠ 0 → ∃ m, l.take ((rdn l i a).2 - i) = num m ∧ (0 < i → 0 < m) ∧ (rdn l i a).1 = a + m * 128 ^ i
  | [], i, a, h => by simp [rdn] at h
  | c :: l, i, a, h => by
    rw [rdn] at h ⊢
    split at h
    · simp at h
    · rename_i h1
      rw [if_neg h1]
      split at h
      · simp at h
      · rename_i h2
        rw [if_neg h2]
        split at h
        · rename_i h3
          rw [if_pos h3]
          refine ⟨c.toNat, ?_, fun hi => by omega, rfl⟩
          rw [num_low h3]
          simp
        · rename_i h3
          rw [if_neg h3]
          obtain ⟨m, e1, e2, e3⟩ := rdn_back l (i + 1) _ h
          have hs := rdn_size l (i + 1) (a + c.toNat % 128 * 128 ^ i)
          have hm := e2 (by omega)
          have hc := c.toNat_lt
          refine ⟨c.toNat % 128 + 128 * m, ?_, fun _ => by omega, ?_⟩
          · rw [num_high (by omega)]
            have k1 : (c.toNat % 128 + 128 * m) / 128 = m := by omega
            have k2 : (c.toNat % 128 + 128 * m) % 128 = c.toNat % 128 := by omega
            rw [k1, k2, ← e1]
            have k3 : UInt8.ofNat (128 + c.toNat % 128) = c := by
              apply UInt8.toNat_inj.1
              simp
              omega
            rw [k3]
            have k4 : (rdn l (i + 1) (a + c.toNat % 128 * 128 ^ i)).2 - i = ((rdn l (i + 1) (a + c.toNat % 128 * 128 ^ i)).2 - (i + 1)) + 1 := by omega
            rw [k4, List.take_succ_cons]
          · rw [e3, Nat.pow_succ, Nat.add_mul]
            have : m * (128 ^ i * 128) = 128 * m * 128 ^ i := by
              rw [Nat.mul_comm (128 ^ i) 128, ← Nat.mul_assoc, Nat.mul_comm m 128]
            omega
/-- The first byte below 128 ends a number. -/
theorem first_low {l : List UInt8} {i m s : Nat} (hs : l.take s = num m) (hsl : s ≤ l.length) (hi : i < l.length) (hb : ∀ x ∈ l.take i, 128 ≤ x.toNat) (hc : l[i].toNat < 128) : s = i + 1 := by
  obtain ⟨p, c, h1, h2, h3⟩ := num_shape m
  rw [h1] at hs
  have hsp : s = p.length + 1 := by
    have := congrArg List.length hs
    simp at this
    omega
  subst hsp
  have hp : p.length < l.length := by omega
  have e1 : l.take p.length = p ∧ l[p.length] = c := by
    rw [List.take_succ_eq_append_getElem hp] at hs
    have := List.append_inj' hs rfl
    exact ⟨this.1, by simpa using this.2⟩
  rcases Nat.lt_trichotomy i p.length with h | h | h
  · have : l[i] ∈ p := by
      rw [← e1.1]
      exact List.mem_iff_getElem?.2 ⟨i, by rw [List.getElem?_take_of_lt h, List.getElem?_eq_getElem hi]⟩
    have := h2 _ this
    omega
  · omega
  · have : l[p.length] ∈ l.take i := List.mem_iff_getElem?.2 ⟨p.length, by rw [List.getElem?_take_of_lt h, List.getElem?_eq_getElem hp]⟩
    have := hb _ this
    rw [e1.2] at this
    omega
theorem rdn_yes {l : List UInt8} {i n : Nat} (h : l.take (i + 1) = num n) (hi : i < l.length) (hn : n < 18446744073709551616) : rdn l 0 0 = (n, i + 1) := by
  have := rdn_num (l.drop (i + 1)) n 0 0 (by omega) (by omega) (.inl rfl)
  rw [← h, List.take_append_drop] at this
  rw [this]
  simp
  omega
theorem rdn_no {l : List UInt8} {i n : Nat} (hi : i < l.length) (hb : ∀ x ∈ l.take i, 128 ≤ x.toNat) (hc : l[i].toNat < 128) (hn : n = val (l.take (i + 1)) % 18446744073709551616) (h : l.take (i + 1) ≠ num n) : (rdn l 0 0).2 = 0 := by
  refine Decidable.not_not.1 fun hne => ?_
  obtain ⟨m, e1, _, e3⟩ := rdn_back l 0 0 hne
  have hs := rdn_size l 0 0
  have hmax := rdn_max l 0 0 (by omega) (by decide)
  rw [Nat.sub_zero] at e1
  have es := first_low e1 (by omega) hi hb hc
  rw [es] at e1
  rw [e1, val_num] at hn
  have : n = m := by omega
  exact h (by rw [e1, this])
theorem rdn_none {l : List UInt8} {i : Nat} (hi : i = 10 ∨ i = l.length) (hb : ∀ x ∈ l.take i, 128 ≤ x.toNat) : (rdn l 0 0).2 = 0 := by
  refine Decidable.not_not.1 fun hne => ?_
  obtain ⟨m, e1, _, _⟩ := rdn_back l 0 0 hne
  have hs := rdn_size l 0 0
  have ht := rdn_ten l 0 0
  rw [Nat.sub_zero] at e1
  obtain ⟨p, c, h1, h2, h3⟩ := num_shape m
  rw [h1] at e1
  have hc : c ∈ l.take i := by
    have : c ∈ l.take (rdn l 0 0).2 := by rw [e1]; simp
    exact List.mem_of_mem_take (i := (rdn l 0 0).2) (by rw [List.take_take, Nat.min_eq_left (by omega)]; exact this)
  have := hb c hc
  omega
end Go.WL.T6d
