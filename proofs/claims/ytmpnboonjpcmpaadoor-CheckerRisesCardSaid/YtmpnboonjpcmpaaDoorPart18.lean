/- OctetBack: what is put is read. No condition. -/
import Derived.Test.YtmpnboonjpcmpaaDoorPart17
set_option linter.unusedVariables false
set_option linter.unusedSimpArgs false
namespace Go.WL.T7
open Go.WL Go.Proofs
set_option maxRecDepth 20000
set_option maxHeartbeats 4000000
theorem rdn_size : ∀ (l : List UInt8) (i a : Nat), (rdn l i a).2 = 0 ∨ (i + 1 ≤ (rdn l i a).2 ∧ (rdn l i a).2 ≤ i + l.length)
  | [], i, a => .inl rfl
  | c :: l, i, a => by
    rw [rdn]
    split
    · exact .inl rfl
    · split
      · exact .inl rfl
      · split
        · right; simp
        · rcases rdn_size l (i + 1) (a + c.toNat % 128 * 128 ^ i) with h | h
          · exact .inl h
          · right; simp only [List.length_cons]; omega
theorem by8_cut (k : Nat) (b : List UInt8) : ((by8 b).drop k).take ((by8 b).length - k) = by8 (b.drop k) := by
  have e : (by8 b).drop k = by8 (b.drop k) := by simp [by8]
  rw [e, by8_take, List.take_of_length_le]
  rw [len8, List.length_drop]
  exact Nat.le_refl _
/-- What reading a number makes of a reader. -/
def rnum (b : List UInt8) (w : Bool) : Nat × List UInt8 × Bool := if w then (0, b, true) else if (rdn b 0 0).2 = 0 then (0, b, true) else ((rdn b 0 0).1, b.drop (rdn b 0 0).2, false)
theorem c_rnum (b : List UInt8) (w : Bool) (hb : b.length < 9223372036854775807) : FnOK Tryd.prog D 162 [.pt 0 []] [.st [(AV.sl .lf (by8 (b)) .ro), (AV.sc (.bool (w)))]] (fun r st => r = (AV.sc (.int .u64 (((rnum b w).1 : Int)))) ∧ st = [.st [(AV.sl .lf (by8 ((rnum b w).2.1)) .ro), (AV.sc (.bool ((rnum b w).2.2)))]]) := by
  cases w with
  | true =>
    refine fnok_of_W hmix tabOK Tryd.func162 rfl rfl (Nat.le_of_ble_eq_true rfl) ?_
    conv => whnf
    refine (c_off b true).mono fun r st e => ?_
    obtain ⟨rfl, rfl⟩ := e
    conv => whnf
    refine ⟨false, [], ?_⟩
    conv => whnf
    exact ⟨rfl, rfl⟩
  | false =>
    refine fnok_of_W hmix tabOK Tryd.func162 rfl rfl (Nat.le_of_ble_eq_true rfl) ?_
    conv => whnf
    refine (c_off b false).mono fun r st e => ?_
    obtain ⟨rfl, rfl⟩ := e
    conv => whnf
    refine (c_number b hb).mono fun r st e => ?_
    obtain ⟨rfl, rfl⟩ := e
    have hs := rdn_size b 0 0
    have hr : rnum b false = if (rdn b 0 0).2 = 0 then (0, b, true) else ((rdn b 0 0).1, b.drop (rdn b 0 0).2, false) := rfl
    rw [hr]
    generalize (rdn b 0 0).2 = s at hs
    generalize (rdn b 0 0).1 = n
    conv => whnf
    refine Branch.of (fun h => ?_) (fun h => ?_) <;> rw [h] <;> conv => whnf
    · simp only [beq_iff_eq] at h
      have h0 : s = 0 := by omega
      rw [if_pos h0]
      refine ⟨false, [], ?_⟩
      conv => whnf
      exact ⟨rfl, rfl⟩
    · simp only [beq_eq_false_iff_ne, ne_eq] at h
      have h0 : ¬ s = 0 := by omega
      rw [if_neg h0]
      refine ⟨by omega, ?_⟩
      conv => whnf
      refine ⟨by rw [len8]; omega, by rw [len8]; omega, ?_⟩
      conv => whnf
      rw [Int.toNat_natCast, by8_cut s b]
      refine ⟨false, [], ?_⟩
      conv => whnf
      exact ⟨rfl, rfl⟩
end Go.WL.T7
namespace Go.WL.T7
open Go.WL Go.Proofs
set_option maxRecDepth 20000
set_option maxHeartbeats 4000000
/-- What reading a number up to one makes of a reader. -/
def rupto (b : List UInt8) (w : Bool) (top : Int) : Nat × List UInt8 × Bool :=
  if w = true ∨ (rnum b false).2.2 = true ∨ top < 0 ∨ ((rnum b false).1 : Int) > top then (0, b, true) else rnum b false
def rtext (b : List UInt8) (w : Bool) : List UInt8 × List UInt8 × Bool :=
  if w = true ∨ (rupto b false 65536).2.2 = true ∨ (rupto b false 65536).1 > (rupto b false 65536).2.1.length then ([], b, true)
  else ((rupto b false 65536).2.1.take (rupto b false 65536).1, (rupto b false 65536).2.1.drop (rupto b false 65536).1, false)
def rhash (b : List UInt8) (w : Bool) : List UInt8 × List UInt8 × Bool :=
  if w = true ∨ b.length < 32 then (List.replicate 32 0, b, true) else (b.take 32, b.drop 32, false)
theorem rdn_max : ∀ (l : List UInt8) (i a : Nat), i ≤ 10 → a < 128 ^ i → (rdn l i a).1 < 18446744073709551616
  | [], i, a, _, _ => by simp [rdn]
  | c :: l, i, a, hi, ha => by
    rw [rdn]
    split
    · simp
    · rename_i h1
      split
      · simp
      · rename_i h2
        have hi10 : i < 10 := by omega
        have hp : (128 : Nat) ^ i ≤ 128 ^ 9 := Nat.pow_le_pow_right (by decide) (by omega)
        have hx := rdn_fits c i hi10 (by omega)
        split
        · rename_i h3
          rw [Nat.mod_eq_of_lt h3] at hx
          by_cases e : i = 9
          · subst e
            have : c.toNat ≤ 1 := by omega
            have : c.toNat * 128 ^ 9 ≤ 1 * 128 ^ 9 := Nat.mul_le_mul_right _ this
            show a + c.toNat * 128 ^ 9 < _
            omega
          · have h8 : (128 : Nat) ^ (i + 1) ≤ 128 ^ 9 := Nat.pow_le_pow_right (by decide) (by omega)
            have := rdn_lt ha h3
            show a + c.toNat * 128 ^ i < _
            omega
        · exact rdn_max l (i + 1) _ (by omega) (rdn_lt ha (by omega))
theorem rnum_max (b : List UInt8) (w : Bool) : (rnum b w).1 < 18446744073709551616 := by
  unfold rnum
  split
  · simp
  · split
    · simp
    · exact rdn_max b 0 0 (by omega) (by decide)
theorem rnum_len (b : List UInt8) (w : Bool) : (rnum b w).2.1.length ≤ b.length := by
  unfold rnum
  split
  · simp
  · split
    · simp
    · simp
theorem c_upto (b : List UInt8) (w : Bool) (top : Int) (ht : -9223372036854775808 ≤ top ∧ top < 9223372036854775808) (hb : b.length < 9223372036854775807) : FnOK Tryd.prog D 120 [.pt 0 [], (AV.sc (.int .i64 (top)))] [.st [(AV.sl .lf (by8 (b)) .ro), (AV.sc (.bool (w)))]] (fun r st => r = (AV.sc (.int .i64 (((rupto b w top).1 : Int)))) ∧ st = [.st [(AV.sl .lf (by8 ((rupto b w top).2.1)) .ro), (AV.sc (.bool ((rupto b w top).2.2)))]]) := by
  cases w with
  | true =>
    rw [show rupto b true top = (0, b, true) from if_pos (.inl rfl)]
    refine fnok_of_W hmix tabOK Tryd.func120 rfl rfl (Nat.le_of_ble_eq_true rfl) ?_
    conv => whnf
    refine (c_off b true).mono fun r st e => ?_
    obtain ⟨rfl, rfl⟩ := e
    conv => whnf
    refine ⟨false, [], ?_⟩
    conv => whnf
    exact ⟨rfl, rfl⟩
  | false =>
    have hm := rnum_max b false
    have hr : rupto b false top = if (rnum b false).2.2 = true ∨ top < 0 ∨ ((rnum b false).1 : Int) > top then (0, b, true) else rnum b false := by
      unfold rupto
      simp
    have c1 := c_rnum b false hb
    rw [hr]
    generalize rnum b false = x at hm c1
    obtain ⟨n, b', w'⟩ := x
    simp only at hm c1 ⊢
    refine fnok_of_W hmix tabOK Tryd.func120 rfl rfl (Nat.le_of_ble_eq_true rfl) ?_
    conv => whnf
    refine (c_off b false).mono fun r st e => ?_
    obtain ⟨rfl, rfl⟩ := e
    conv => whnf
    refine c1.mono fun r st e => ?_
    obtain ⟨rfl, rfl⟩ := e
    conv => whnf
    cases w' with
    | true =>
      rw [if_pos (.inl rfl)]
      conv => whnf
      refine ⟨false, [], ?_⟩
      conv => whnf
      exact ⟨rfl, rfl⟩
    | false =>
      conv => whnf
      refine Branch.of (fun h => ?_) (fun h => ?_) <;> rw [h] <;> conv => whnf
      · simp only [decide_eq_true_eq] at h
        rw [if_pos (.inr (.inl h))]
        refine ⟨false, [], ?_⟩
        conv => whnf
        exact ⟨rfl, rfl⟩
      simp only [decide_eq_false_iff_not] at h
      rw [wu64 (x := top) (by omega) (by omega)]
      refine Branch.of (fun h2 => ?_) (fun h2 => ?_) <;> rw [h2] <;> conv => whnf
      · simp only [gt_iff_lt, decide_eq_true_eq] at h2
        rw [if_pos (.inr (.inr h2))]
        refine ⟨false, [], ?_⟩
        conv => whnf
        exact ⟨rfl, rfl⟩
      simp only [gt_iff_lt, decide_eq_false_iff_not] at h2
      rw [if_neg (by simp; omega), w64 (x := ((n : Nat) : Int)) (by omega) (by omega)]
      refine ⟨false, [], ?_⟩
      conv => whnf
      exact ⟨rfl, rfl⟩
end Go.WL.T7
namespace Go.WL.T7
open Go.WL Go.Proofs
set_option maxRecDepth 20000
set_option maxHeartbeats 4000000
theorem rupto_len (b : List UInt8) (w : Bool) (top : Int) : (rupto b w top).2.1.length ≤ b.length := by
  unfold rupto
  split
  · simp
  · exact rnum_len b false
theorem rupto_le (b : List UInt8) (w : Bool) (top : Int) (h : 0 ≤ top) : ((rupto b w top).1 : Int) ≤ top := by
  unfold rupto
  split
  · simpa using h
  · rename_i c
    omega
theorem c_rtext (b : List UInt8) (w : Bool) (hb : b.length < 4000000000) : FnOK Tryd.prog D 121 [.pt 0 []] [.st [(AV.sl .lf (by8 (b)) .ro), (AV.sc (.bool (w)))]] (fun r st => r = (AV.sl .lf (by8 ((rtext b w).1)) (.own 0)) ∧ st = [.st [(AV.sl .lf (by8 ((rtext b w).2.1)) .ro), (AV.sc (.bool ((rtext b w).2.2)))]]) := by
  cases w with
  | true =>
    rw [show rtext b true = ([], b, true) from if_pos (.inl rfl)]
    refine fnok_of_W hmix tabOK Tryd.func121 rfl rfl (Nat.le_of_ble_eq_true rfl) ?_
    conv => whnf
    refine (c_off b true).mono fun r st e => ?_
    obtain ⟨rfl, rfl⟩ := e
    conv => whnf
    refine ⟨true, [], ?_⟩
    conv => whnf
    exact ⟨rfl, rfl⟩
  | false =>
    have hm := rupto_le b false 65536 (by decide)
    have hl := rupto_len b false 65536
    have c1 := c_upto b false 65536 (by decide) (by omega)
    have hr : rtext b false = if (rupto b false 65536).2.2 = true ∨ (rupto b false 65536).1 > (rupto b false 65536).2.1.length then ([], b, true)
      else ((rupto b false 65536).2.1.take (rupto b false 65536).1, (rupto b false 65536).2.1.drop (rupto b false 65536).1, false) := by
      unfold rtext
      simp
    rw [hr]
    generalize rupto b false 65536 = x at hm hl c1
    obtain ⟨n, b', w'⟩ := x
    simp only at hm hl c1 ⊢
    refine fnok_of_W hmix tabOK Tryd.func121 rfl rfl (Nat.le_of_ble_eq_true rfl) ?_
    conv => whnf
    refine (c_off b false).mono fun r st e => ?_
    obtain ⟨rfl, rfl⟩ := e
    conv => whnf
    refine c1.mono fun r st e => ?_
    obtain ⟨rfl, rfl⟩ := e
    conv => whnf
    cases w' with
    | true =>
      rw [if_pos (.inl rfl)]
      conv => whnf
      refine ⟨true, [], ?_⟩
      conv => whnf
      exact ⟨rfl, rfl⟩
    | false =>
      conv => whnf
      rw [len8]
      refine Branch.of (fun h => ?_) (fun h => ?_) <;> rw [h] <;> conv => whnf
      · simp only [gt_iff_lt, decide_eq_true_eq] at h
        rw [if_pos (.inr (by omega))]
        refine ⟨true, [], ?_⟩
        conv => whnf
        exact ⟨rfl, rfl⟩
      simp only [gt_iff_lt, decide_eq_false_iff_not] at h
      rw [if_neg (by simp; omega)]
      refine ⟨by omega, ?_⟩
      conv => whnf
      refine ⟨by omega, by rw [len8]; omega, ?_⟩
      conv => whnf
      rw [Int.toNat_natCast, Nat.sub_zero, List.drop_zero, by8_take]
      refine (c_clone0 (b'.take n) (by simp; omega)).mono fun r st e => ?_
      obtain ⟨rfl, rfl⟩ := e
      conv => whnf
      refine ⟨by omega, ?_⟩
      conv => whnf
      refine ⟨by rw [len8]; omega, by rw [len8]; omega, ?_⟩
      conv => whnf
      rw [Int.toNat_natCast, by8_cut n b']
      refine ⟨false, [], ?_⟩
      conv => whnf
      exact ⟨rfl, rfl⟩
end Go.WL.T7
namespace Go.WL.T7
open Go.WL Go.Proofs
set_option maxRecDepth 20000
set_option maxHeartbeats 4000000
theorem rdn_num (rest : List UInt8) (m i a : Nat) (h : m * 128 ^ i < 18446744073709551616) (hi : i < 10) (h0 : i = 0 ∨ 0 < m) : rdn (num m ++ rest) i a = (a + m * 128 ^ i, i + (num m).length) := by
  induction m using Nat.strongRecOn generalizing i a with
  | ind m ih =>
  by_cases c : m < 128
  · rw [num_low c, List.cons_append, rdn, if_neg (by omega)]
    have e : (UInt8.ofNat m).toNat = m := by simp; omega
    rw [e, if_neg, if_pos c]
    · rfl
    · intro k
      rcases k with ⟨k1, k2⟩ | ⟨k1, k2⟩
      · subst k1
        have : 2 * 128 ^ 9 ≤ m * 128 ^ 9 := Nat.mul_le_mul_right _ k2
        omega
      · omega
  · have e : (UInt8.ofNat (128 + m % 128)).toNat = 128 + m % 128 := by simp; omega
    have hi8 : i < 9 := by
      refine Nat.lt_of_not_le fun k => ?_
      have e9 : i = 9 := by omega
      subst e9
      have : 128 * 128 ^ 9 ≤ m * 128 ^ 9 := Nat.mul_le_mul_right _ (by omega)
      omega
    have hm : m / 128 * 128 ^ (i + 1) + m % 128 * 128 ^ i = m * 128 ^ i := by
      rw [Nat.pow_succ, ← Nat.mul_assoc, Nat.mul_right_comm, ← Nat.add_mul]
      congr 1
      omega
    rw [num_high c, List.cons_append, rdn, if_neg (by omega), e, if_neg (by omega), if_neg (by omega), show (128 + m % 128) % 128 = m % 128 by omega, ih (m / 128) (by omega) (i + 1) _ (by omega) (by omega) (.inr (by omega))]
    rw [List.length_cons]
    congr 1 <;> omega
theorem num_pos (n : Nat) : 0 < (num n).length := by
  by_cases c : n < 128
  · rw [num_low c]; simp
  · rw [num_high c]; simp
theorem rnum_num (n : Nat) (rest : List UInt8) (hn : n < 18446744073709551616) : rnum (num n ++ rest) false = (n, rest, false) := by
  have h := rdn_num rest n 0 0 (by omega) (by omega) (.inl rfl)
  have hp := num_pos n
  unfold rnum
  rw [h, if_neg (by simp)]
  simp only [Nat.zero_add, Nat.pow_zero, Nat.mul_one]
  rw [if_neg (by omega), List.drop_append_of_le_length (Nat.le_refl _), List.drop_length, List.nil_append]
theorem rtext_text (t rest : List UInt8) (ht : t.length ≤ 65536) : rtext (num t.length ++ (t ++ rest)) false = (t, rest, false) := by
  have h := rnum_num t.length (t ++ rest) (by omega)
  have hu : rupto (num t.length ++ (t ++ rest)) false 65536 = (t.length, t ++ rest, false) := by
    unfold rupto
    rw [h, if_neg (by simp; omega)]
  unfold rtext
  rw [hu, if_neg (by simp)]
  simp
theorem rhash_hash (h rest : List UInt8) (hh : h.length = 32) : rhash (h ++ rest) false = (h, rest, false) := by
  unfold rhash
  rw [if_neg (by simp; omega), ← hh]
  simp
/-- Of one that is put: its bytes, and how it lies. -/
def enc (p : Nat × List UInt8 × List UInt8) : List UInt8 := num p.1 ++ (num p.2.1.length ++ (p.2.1 ++ p.2.2))
def encs (l : List (Nat × List UInt8 × List UInt8)) : List UInt8 := l.flatMap enc
def okP (p : Nat × List UInt8 × List UInt8) : Prop := p.1 < 18446744073709551616 ∧ p.2.2.length = 32
theorem enc_len {p : Nat × List UInt8 × List UInt8} (h : okP p) (ht : p.2.1.length ≤ 300) : (enc p).length ≤ 352 := by
  have h1 := num_ten h.1
  have h2 := num_ten (n := p.2.1.length) (by omega)
  have h3 := h.2
  unfold enc
  simp
  omega
theorem encs_len : ∀ l : List (Nat × List UInt8 × List UInt8), (∀ p ∈ l, okP p) → (∀ p ∈ l, p.2.1.length ≤ 300) → (encs l).length ≤ 352 * l.length
  | [], _, _ => by simp [encs]
  | p :: l, h1, h2 => by
    have := encs_len l (fun q hq => h1 q (List.mem_cons_of_mem _ hq)) (fun q hq => h2 q (List.mem_cons_of_mem _ hq))
    have := enc_len (h1 p (by simp)) (h2 p (by simp))
    simp only [encs, List.flatMap_cons, List.length_append, List.length_cons] at *
    omega
end Go.WL.T7
