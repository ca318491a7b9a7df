/- A reader reads numbers up to one, texts, hashes. No condition. -/
import Derived.Test.YtcmdkiejkheahaaDoorPart06
set_option linter.unusedVariables false
set_option linter.unusedSimpArgs false
namespace Go.WL.T6d
open Go.WL Go.Proofs
set_option maxRecDepth 20000
set_option maxHeartbeats 4000000
theorem rdn_size : ∀ (l : List UInt8) (i a : Nat), (rdn l i a).2 = 0 ∨ (i + 1 ≤ (rdn l i a).2 ∧ (rdn l i a).2 ≤ i + l.length)
  | [], i, a => .inl rfl
  | c :: l, i, a => by
    rw [rdn]
    split
    · exact .inl rfl
    · split
      · exact .inl rfl
      · split
        · right; simp
        · rcases rdn_size l (i + 1) (a + c.toNat % 128 * 128 ^ i) with h | h
          · exact .inl h
          · right; simp only [List.length_cons]; omega
theorem by8_cut (k : Nat) (b : List UInt8) : ((by8 b).drop k).take ((by8 b).length - k) = by8 (b.drop k) := by
  have e : (by8 b).drop k = by8 (b.drop k) := by simp [by8]
  rw [e, by8_take, List.take_of_length_le]
  rw [len8, List.length_drop]
  exact Nat.le_refl _
/-- What reading a number makes of a reader. -/
def rnum (b : List UInt8) (w : Bool) : Nat × List UInt8 × Bool := if w then (0, b, true) else if (rdn b 0 0).2 = 0 then (0, b, true) else ((rdn b 0 0).1, b.drop (rdn b 0 0).2, false)
theorem c_rnum (b : List UInt8) (w : Bool) (hb : b.length < 9223372036854775807) : FnOK Tryd.prog D 114 [.pt 0 []] [.st [(AV.sl .lf (by8 (b)) .ro), (AV.sc (.bool (w)))]] (fun r st => r = (AV.sc (.int .u64 (((rnum b w).1 : Int)))) ∧ st = [.st [(AV.sl .lf (by8 ((rnum b w).2.1)) .ro), (AV.sc (.bool ((rnum b w).2.2)))]]) := by
  cases w with
  | true =>
    refine fnok_of_W hmix tabOK Tryd.func114 rfl rfl (Nat.le_of_ble_eq_true rfl) ?_
    conv => whnf
    refine (c_off b true).mono fun r st e => ?_
    obtain ⟨rfl, rfl⟩ := e
    conv => whnf
    refine ⟨false, [], ?_⟩
    conv => whnf
    exact ⟨rfl, rfl⟩
  | false =>
    refine fnok_of_W hmix tabOK Tryd.func114 rfl rfl (Nat.le_of_ble_eq_true rfl) ?_
    conv => whnf
    refine (c_off b false).mono fun r st e => ?_
    obtain ⟨rfl, rfl⟩ := e
    conv => whnf
    refine (c_number b hb).mono fun r st e => ?_
    obtain ⟨rfl, rfl⟩ := e
    have hs := rdn_size b 0 0
    have hr : rnum b false = if (rdn b 0 0).2 = 0 then (0, b, true) else ((rdn b 0 0).1, b.drop (rdn b 0 0).2, false) := rfl
    rw [hr]
    generalize (rdn b 0 0).2 = s at hs
    generalize (rdn b 0 0).1 = n
    conv => whnf
    refine Branch.of (fun h => ?_) (fun h => ?_) <;> rw [h] <;> conv => whnf
    · simp only [beq_iff_eq] at h
      have h0 : s = 0 := by omega
      rw [if_pos h0]
      refine ⟨false, [], ?_⟩
      conv => whnf
      exact ⟨rfl, rfl⟩
    · simp only [beq_eq_false_iff_ne, ne_eq] at h
      have h0 : ¬ s = 0 := by omega
      rw [if_neg h0]
      refine ⟨by omega, ?_⟩
      conv => whnf
      refine ⟨by rw [len8]; omega, by rw [len8]; omega, ?_⟩
      conv => whnf
      rw [Int.toNat_natCast, by8_cut s b]
      refine ⟨false, [], ?_⟩
      conv => whnf
      exact ⟨rfl, rfl⟩
end Go.WL.T6d
namespace Go.WL.T6d
open Go.WL Go.Proofs
set_option maxRecDepth 20000
set_option maxHeartbeats 4000000
/-- What reading a number up to one makes of a reader. -/
def rupto (b : List UInt8) (w : Bool) (top : Int) : Nat × List UInt8 × Bool :=
  if w = true ∨ (rnum b false).2.2 = true ∨ top < 0 ∨ ((rnum b false).1 : Int) > top then (0, b, true) else rnum b false
def rtext (b : List UInt8) (w : Bool) : List UInt8 × List UInt8 × Bool :=
  if w = true ∨ (rupto b false 65536).2.2 = true ∨ (rupto b false 65536).1 > (rupto b false 65536).2.1.length then ([], b, true)
  else ((rupto b false 65536).2.1.take (rupto b false 65536).1, (rupto b false 65536).2.1.drop (rupto b false 65536).1, false)
def rhash (b : List UInt8) (w : Bool) : List UInt8 × List UInt8 × Bool :=
  if w = true ∨ b.length < 32 then (List.replicate 32 0, b, true) else (b.take 32, b.drop 32, false)
theorem rdn_max : ∀ (l : List UInt8) (i a : Nat), i ≤ 10 → a < 128 ^ i → (rdn l i a).1 < 18446744073709551616
  | [], i, a, _, _ => by simp [rdn]
  | c :: l, i, a, hi, ha => by
    rw [rdn]
    split
    · simp
    · rename_i h1
      split
      · simp
      · rename_i h2
        have hi10 : i < 10 := by omega
        have hp : (128 : Nat) ^ i ≤ 128 ^ 9 := Nat.pow_le_pow_right (by decide) (by omega)
        have hx := rdn_fits c i hi10 (by omega)
        split
        · rename_i h3
          rw [Nat.mod_eq_of_lt h3] at hx
          by_cases e : i = 9
          · subst e
            have : c.toNat ≤ 1 := by omega
            have : c.toNat * 128 ^ 9 ≤ 1 * 128 ^ 9 := Nat.mul_le_mul_right _ this
            show a + c.toNat * 128 ^ 9 < _
            omega
          · have h8 : (128 : Nat) ^ (i + 1) ≤ 128 ^ 9 := Nat.pow_le_pow_right (by decide) (by omega)
            have := rdn_lt ha h3
            show a + c.toNat * 128 ^ i < _
            omega
        · exact rdn_max l (i + 1) _ (by omega) (rdn_lt ha (by omega))
theorem rnum_max (b : List UInt8) (w : Bool) : (rnum b w).1 < 18446744073709551616 := by
  unfold rnum
  split
  · simp
  · split
    · simp
    · exact rdn_max b 0 0 (by omega) (by decide)
theorem rnum_len (b : List UInt8) (w : Bool) : (rnum b w).2.1.length ≤ b.length := by
  unfold rnum
  split
  · simp
  · split
    · simp
    · simp
theorem c_upto (b : List UInt8) (w : Bool) (top : Int) (ht : -9223372036854775808 ≤ top ∧ top < 9223372036854775808) (hb : b.length < 9223372036854775807) : FnOK Tryd.prog D 76 [.pt 0 [], (AV.sc (.int .i64 (top)))] [.st [(AV.sl .lf (by8 (b)) .ro), (AV.sc (.bool (w)))]] (fun r st => r = (AV.sc (.int .i64 (((rupto b w top).1 : Int)))) ∧ st = [.st [(AV.sl .lf (by8 ((rupto b w top).2.1)) .ro), (AV.sc (.bool ((rupto b w top).2.2)))]]) := by
  cases w with
  | true =>
    rw [show rupto b true top = (0, b, true) from if_pos (.inl rfl)]
    refine fnok_of_W hmix tabOK Tryd.func76 rfl rfl (Nat.le_of_ble_eq_true rfl) ?_
    conv => whnf
    refine (c_off b true).mono fun r st e => ?_
    obtain ⟨rfl, rfl⟩ := e
    conv => whnf
    refine ⟨false, [], ?_⟩
    conv => whnf
    exact ⟨rfl, rfl⟩
  | false =>
    have hm := rnum_max b false
    have hr : rupto b false top = if (rnum b false).2.2 = true ∨ top < 0 ∨ ((rnum b false).1 : Int) > top then (0, b, true) else rnum b false := by
      unfold rupto
      simp
    have c1 := c_rnum b false hb
    rw [hr]
    generalize rnum b false = x at hm c1
    obtain ⟨n, b', w'⟩ := x
    simp only at hm c1 ⊢
    refine fnok_of_W hmix tabOK Tryd.func76 rfl rfl (Nat.le_of_ble_eq_true rfl) ?_
    conv => whnf
    refine (c_off b false).mono fun r st e => ?_
    obtain ⟨rfl, rfl⟩ := e
    conv => whnf
    refine c1.mono fun r st e => ?_
    obtain ⟨rfl, rfl⟩ := e
    conv => whnf
    cases w' with
    | true =>
      rw [if_pos (.inl rfl)]
      conv => whnf
      refine ⟨false, [], ?_⟩
      conv => whnf
      exact ⟨rfl, rfl⟩
    | false =>
      conv => whnf
      refine Branch.of (fun h => ?_) (fun h => ?_) <;> rw [h] <;> conv => whnf
      · simp only [decide_eq_true_eq] at h
        rw [if_pos (.inr (.inl h))]
        refine ⟨false, [], ?_⟩
        conv => whnf
        exact ⟨rfl, rfl⟩
      simp only [decide_eq_false_iff_not] at h
      rw [wu64 (x := top) (by omega) (by omega)]
      refine Branch.of (fun h2 => ?_) (fun h2 => ?_) <;> rw [h2] <;> conv => whnf
      · simp only [gt_iff_lt, decide_eq_true_eq] at h2
        rw [if_pos (.inr (.inr h2))]
        refine ⟨false, [], ?_⟩
        conv => whnf
        exact ⟨rfl, rfl⟩
      simp only [gt_iff_lt, decide_eq_false_iff_not] at h2
      rw [if_neg (by simp; omega), w64 (x := ((n : Nat) : Int)) (by omega) (by omega)]
      refine ⟨false, [], ?_⟩
      conv => whnf
      exact ⟨rfl, rfl⟩
theorem c_left (b : List UInt8) (w : Bool) : FnOK Tryd.prog D 22 [.pt 0 []] [.st [(AV.sl .lf (by8 (b)) .ro), (AV.sc (.bool (w)))]] (fun r st => r = (AV.sc (.int .i64 ((b.length : Int)))) ∧ st = [.st [(AV.sl .lf (by8 (b)) .ro), (AV.sc (.bool (w)))]]) := by
  refine fnok_of_W hmix tabOK Tryd.func22 rfl rfl (Nat.le_of_ble_eq_true rfl) ?_
  conv => whnf
  rw [len8]
  refine ⟨false, [], ?_⟩
  conv => whnf
  exact ⟨rfl, rfl⟩
theorem c_wrong (b : List UInt8) (w : Bool) : FnOK Tryd.prog D 78 [.pt 0 []] [.st [(AV.sl .lf (by8 (b)) .ro), (AV.sc (.bool (w)))]] (fun r st => r = (AV.sc (.bool (w))) ∧ st = [.st [(AV.sl .lf (by8 (b)) .ro), (AV.sc (.bool (w)))]]) := by
  refine fnok_of_W hmix tabOK Tryd.func78 rfl rfl (Nat.le_of_ble_eq_true rfl) ?_
  conv => whnf
  refine (c_off b w).mono fun r st e => ?_
  obtain ⟨rfl, rfl⟩ := e
  conv => whnf
  refine ⟨false, [], ?_⟩
  conv => whnf
  exact ⟨rfl, rfl⟩
end Go.WL.T6d
