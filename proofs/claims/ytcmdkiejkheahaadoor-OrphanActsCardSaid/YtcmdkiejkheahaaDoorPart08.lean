/- OctetBack: what is put is read. No condition. -/
import Derived.Test.YtcmdkiejkheahaaDoorPart07
set_option linter.unusedVariables false
set_option linter.unusedSimpArgs false
namespace Go.WL.T6d
open Go.WL Go.Proofs
set_option maxRecDepth 20000
set_option maxHeartbeats 4000000
theorem rupto_len (b : List UInt8) (w : Bool) (top : Int) : (rupto b w top).2.1.length ≤ b.length := by
  unfold rupto
  split
  · simp
  · exact rnum_len b false
theorem rupto_le (b : List UInt8) (w : Bool) (top : Int) (h : 0 ≤ top) : ((rupto b w top).1 : Int) ≤ top := by
  unfold rupto
  split
  · simpa using h
  · rename_i c
    omega
theorem c_rtext (b : List UInt8) (w : Bool) (hb : b.length < 4000000000) : FnOK Tryd.prog D 77 [.pt 0 []] [.st [(AV.sl .lf (by8 (b)) .ro), (AV.sc (.bool (w)))]] (fun r st => r = (AV.sl .lf (by8 ((rtext b w).1)) (.own 0)) ∧ st = [.st [(AV.sl .lf (by8 ((rtext b w).2.1)) .ro), (AV.sc (.bool ((rtext b w).2.2)))]]) := by
  cases w with
  | true =>
    rw [show rtext b true = ([], b, true) from if_pos (.inl rfl)]
    refine fnok_of_W hmix tabOK Tryd.func77 rfl rfl (Nat.le_of_ble_eq_true rfl) ?_
    conv => whnf
    refine (c_off b true).mono fun r st e => ?_
    obtain ⟨rfl, rfl⟩ := e
    conv => whnf
    refine ⟨true, [], ?_⟩
    conv => whnf
    exact ⟨rfl, rfl⟩
  | false =>
    have hm := rupto_le b false 65536 (by decide)
    have hl := rupto_len b false 65536
    have c1 := c_upto b false 65536 (by decide) (by omega)
    have hr : rtext b false = if (rupto b false 65536).2.2 = true ∨ (rupto b false 65536).1 > (rupto b false 65536).2.1.length then ([], b, true)
      else ((rupto b false 65536).2.1.take (rupto b false 65536).1, (rupto b false 65536).2.1.drop (rupto b false 65536).1, false) := by
      unfold rtext
      simp
    rw [hr]
    generalize rupto b false 65536 = x at hm hl c1
    obtain ⟨n, b', w'⟩ := x
    simp only at hm hl c1 ⊢
    refine fnok_of_W hmix tabOK Tryd.func77 rfl rfl (Nat.le_of_ble_eq_true rfl) ?_
    conv => whnf
    refine (c_off b false).mono fun r st e => ?_
    obtain ⟨rfl, rfl⟩ := e
    conv => whnf
    refine c1.mono fun r st e => ?_
    obtain ⟨rfl, rfl⟩ := e
    conv => whnf
    cases w' with
    | true =>
      rw [if_pos (.inl rfl)]
      conv => whnf
      refine ⟨true, [], ?_⟩
      conv => whnf
      exact ⟨rfl, rfl⟩
    | false =>
      conv => whnf
      rw [len8]
      refine Branch.of (fun h => ?_) (fun h => ?_) <;> rw [h] <;> conv => whnf
      · simp only [gt_iff_lt, decide_eq_true_eq] at h
        rw [if_pos (.inr (by omega))]
        refine ⟨true, [], ?_⟩
        conv => whnf
        exact ⟨rfl, rfl⟩
      simp only [gt_iff_lt, decide_eq_false_iff_not] at h
      rw [if_neg (by simp; omega)]
      refine ⟨by omega, ?_⟩
      conv => whnf
      refine ⟨by omega, by rw [len8]; omega, ?_⟩
      conv => whnf
      rw [Int.toNat_natCast, Nat.sub_zero, List.drop_zero, by8_take]
      refine (c_clone0 (b'.take n) (by simp; omega)).mono fun r st e => ?_
      obtain ⟨rfl, rfl⟩ := e
      conv => whnf
      refine ⟨by omega, ?_⟩
      conv => whnf
      refine ⟨by rw [len8]; omega, by rw [len8]; omega, ?_⟩
      conv => whnf
      rw [Int.toNat_natCast, by8_cut n b']
      refine ⟨false, [], ?_⟩
      conv => whnf
      exact ⟨rfl, rfl⟩
theorem c_rhash (b : List UInt8) (w : Bool) (hb : b.length < 4000000000) : FnOK Tryd.prog D 80 [.pt 0 []] [.st [(AV.sl .lf (by8 (b)) .ro), (AV.sc (.bool (w)))]] (fun r st => r = .ar 32 .lf (by8 (rhash b w).1) ∧ st = [.st [(AV.sl .lf (by8 ((rhash b w).2.1)) .ro), (AV.sc (.bool ((rhash b w).2.2)))]]) := by
  cases w with
  | true =>
    rw [show rhash b true = (List.replicate 32 0, b, true) from if_pos (.inl rfl)]
    refine fnok_of_W hmix tabOK Tryd.func80 rfl rfl (Nat.le_of_ble_eq_true rfl) ?_
    conv => whnf
    refine (c_off b true).mono fun r st e => ?_
    obtain ⟨rfl, rfl⟩ := e
    conv => whnf
    refine ⟨false, [], ?_⟩
    conv => whnf
    exact ⟨rfl, rfl⟩
  | false =>
    have hr : rhash b false = if b.length < 32 then (List.replicate 32 0, b, true) else (b.take 32, b.drop 32, false) := by
      unfold rhash
      simp
    rw [hr]
    refine fnok_of_W hmix tabOK Tryd.func80 rfl rfl (Nat.le_of_ble_eq_true rfl) ?_
    conv => whnf
    refine (c_off b false).mono fun r st e => ?_
    obtain ⟨rfl, rfl⟩ := e
    conv => whnf
    rw [len8]
    refine Branch.of (fun h => ?_) (fun h => ?_) <;> rw [h] <;> conv => whnf
    · simp only [decide_eq_true_eq] at h
      rw [if_pos (by omega)]
      refine ⟨false, [], ?_⟩
      conv => whnf
      exact ⟨rfl, rfl⟩
    simp only [decide_eq_false_iff_not] at h
    rw [if_neg (by omega)]
    refine ⟨tabF80R7, by decide +kernel, ?_⟩
    conv => whnf
    refine ⟨by omega, by omega, ?_⟩
    conv => whnf
    refine ⟨by omega, ?_⟩
    conv => whnf
    refine ⟨by rw [len8]; omega, by rw [len8]; omega, ?_⟩
    conv => whnf
    refine ⟨false, [], ?_⟩
    conv => whnf
    refine ⟨?_, ?_⟩
    · congr 1
      show _ = by8 (b.take 32)
      rw [List.take_zero, List.nil_append, by8_take, len8, Nat.min_eq_right (by omega), List.drop_of_length_le (by simp), List.append_nil]
    · rw [show Int.toNat 32 = 32 from rfl, by8_cut 32 b]
end Go.WL.T6d
namespace Go.WL.T6d
open Go.WL Go.Proofs
set_option maxRecDepth 20000
set_option maxHeartbeats 4000000
theorem rdn_num (rest : List UInt8) (m i a : Nat) (h : m * 128 ^ i < 18446744073709551616) (hi : i < 10) (h0 : i = 0 ∨ 0 < m) : rdn (num m ++ rest) i a = (a + m * 128 ^ i, i + (num m).length) := by
  induction m using Nat.strongRecOn generalizing i a with
  | ind m ih =>
  by_cases c : m < 128
  · rw [num_low c, List.cons_append, rdn, if_neg (by omega)]
    have e : (UInt8.ofNat m).toNat = m := by simp; omega
    rw [e, if_neg, if_pos c]
    · rfl
    · intro k
      rcases k with ⟨k1, k2⟩ | ⟨k1, k2⟩
      · subst k1
        have : 2 * 128 ^ 9 ≤ m * 128 ^ 9 := Nat.mul_le_mul_right _ k2
        omega
      · omega
  · have e : (UInt8.ofNat (128 + m % 128)).toNat = 128 + m % 128 := by simp; omega
    have hi8 : i < 9 := by
      refine Nat.lt_of_not_le fun k => ?_
      have e9 : i = 9 := by omega
      subst e9
      have : 128 * 128 ^ 9 ≤ m * 128 ^ 9 := Nat.mul_le_mul_right _ (by omega)
      omega
    have hm : m / 128 * 128 ^ (i + 1) + m % 128 * 128 ^ i = m * 128 ^ i := by
      rw [Nat.pow_succ, ← Nat.mul_assoc, Nat.mul_right_comm, ← Nat.add_mul]
      congr 1
      omega
    rw [num_high c, List.cons_append, rdn, if_neg (by omega), e, if_neg (by omega), if_neg (by omega), show (128 + m % 128) % 128 = m % 128 by omega, ih (m / 128) (by omega) (i + 1) _ (by omega) (by omega) (.inr (by omega))]
    rw [List.length_cons]
    congr 1 <;> omega
theorem num_pos (n : Nat) : 0 < (num n).length := by
  by_cases c : n < 128
  · rw [num_low c]; simp
  · rw [num_high c]; simp
theorem rnum_num (n : Nat) (rest : List UInt8) (hn : n < 18446744073709551616) : rnum (num n ++ rest) false = (n, rest, false) := by
  have h := rdn_num rest n 0 0 (by omega) (by omega) (.inl rfl)
  have hp := num_pos n
  unfold rnum
  rw [h, if_neg (by simp)]
  simp only [Nat.zero_add, Nat.pow_zero, Nat.mul_one]
  rw [if_neg (by omega), List.drop_append_of_le_length (Nat.le_refl _), List.drop_length, List.nil_append]
theorem rtext_text (t rest : List UInt8) (ht : t.length ≤ 65536) : rtext (num t.length ++ (t ++ rest)) false = (t, rest, false) := by
  have h := rnum_num t.length (t ++ rest) (by omega)
  have hu : rupto (num t.length ++ (t ++ rest)) false 65536 = (t.length, t ++ rest, false) := by
    unfold rupto
    rw [h, if_neg (by simp; omega)]
  unfold rtext
  rw [hu, if_neg (by simp)]
  simp
theorem rhash_hash (h rest : List UInt8) (hh : h.length = 32) : rhash (h ++ rest) false = (h, rest, false) := by
  unfold rhash
  rw [if_neg (by simp; omega), ← hh]
  simp
/-- Of one that is put: its bytes, and how it lies. -/
def enc (p : Nat × List UInt8 × List UInt8) : List UInt8 := num p.1 ++ (num p.2.1.length ++ (p.2.1 ++ p.2.2))
def encs (l : List (Nat × List UInt8 × List UInt8)) : List UInt8 := l.flatMap enc
def okP (p : Nat × List UInt8 × List UInt8) : Prop := p.1 < 18446744073709551616 ∧ p.2.2.length = 32
theorem enc_len {p : Nat × List UInt8 × List UInt8} (h : okP p) (ht : p.2.1.length ≤ 300) : (enc p).length ≤ 352 := by
  have h1 := num_ten h.1
  have h2 := num_ten (n := p.2.1.length) (by omega)
  have h3 := h.2
  unfold enc
  simp
  omega
theorem encs_len : ∀ l : List (Nat × List UInt8 × List UInt8), (∀ p ∈ l, okP p) → (∀ p ∈ l, p.2.1.length ≤ 300) → (encs l).length ≤ 352 * l.length
  | [], _, _ => by simp [encs]
  | p :: l, h1, h2 => by
    have := encs_len l (fun q hq => h1 q (List.mem_cons_of_mem _ hq)) (fun q hq => h2 q (List.mem_cons_of_mem _ hq))
    have := enc_len (h1 p (by simp)) (h2 p (by simp))
    simp only [encs, List.flatMap_cons, List.length_append, List.length_cons] at *
    omega
end Go.WL.T6d
