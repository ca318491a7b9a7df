/- What the check of any bytes comes to, by the reference. No condition. -/
import Derived.Test.YtdlgmddegldcjaaPart06
set_option linter.unusedVariables false
set_option linter.unusedSimpArgs false
namespace Go.WL.T5
open Go.WL Go.Proofs
set_option maxRecDepth 20000
set_option maxHeartbeats 1000000
def bi (b : Bool) : Nat := if b then 1 else 0
theorem even_xor (a : Nat) (b : Bool) : (2 * a) ^^^ bi b = 2 * a + bi b := by
  cases b with
  | false => exact Nat.xor_zero _
  | true =>
    show (2 * a) ^^^ 1 = 2 * a + 1
    apply Nat.eq_of_testBit_eq
    intro i
    cases i with
    | zero => simp [Nat.testBit_zero, Nat.add_mod]
    | succ i =>
      have e1 : (2 * a + 1) / 2 = a := by omega
      have e2 : (2 * a) / 2 = a := by omega
      rw [Nat.testBit_xor, Nat.testBit_succ, Nat.testBit_succ (x := 1), Nat.testBit_succ (x := 2 * a + 1), e1, e2]
      simp
theorem low_toNat (r : BitVec 32) (b : Bool) : (r <<< 1 ^^^ (if b then 1#32 else 0#32)).toNat = r.toNat * 2 % 4294967296 + bi b := by
  rw [BitVec.toNat_xor, BitVec.toNat_shiftLeft, Nat.shiftLeft_eq]
  have e1 : (if b then 1#32 else 0#32 : BitVec 32).toNat = bi b := by cases b <;> rfl
  have e2 : r.toNat * 2 ^ 1 % 2 ^ 32 = 2 * (r.toNat % 2147483648) := by omega
  rw [e1, e2, even_xor]
theorem refb_low (r : BitVec 32) (b : Bool) (h : r.toNat * 2 + bi b < 4294967296) : n32 (refb r b) = n32 r * 2 + (bi b : Int) := by
  have hm : r.msb = false := by
    rw [BitVec.msb_eq_decide]
    have : bi b ≤ 1 := by cases b <;> decide
    simp
    omega
  have e : refb r b = r <<< 1 ^^^ (if b then 1#32 else 0#32) := by
    unfold refb it
    rw [hm]
    simp
  show ((refb r b).toNat : Int) = (r.toNat : Int) * 2 + bi b
  rw [e, low_toNat]
  omega
theorem xor64 (a b : Nat) (ha : a < 18446744073709551616) (hb : b < 18446744073709551616) : IntKind.u64.wrap ((BitVec.ofInt IntKind.u64.bits (a : Int) ^^^ BitVec.ofInt IntKind.u64.bits (b : Int)).toNat : Int) = ((a ^^^ b : Nat) : Int) := by
  show IntKind.u64.wrap ((BitVec.ofInt 64 (a : Int) ^^^ BitVec.ofInt 64 (b : Int)).toNat : Int) = _
  have h : a ^^^ b < 2 ^ 64 := Nat.xor_lt_two_pow ha hb
  rw [BitVec.toNat_xor]
  have e1 : (BitVec.ofInt 64 (a : Int)).toNat = a := by simp; omega
  have e2 : (BitVec.ofInt 64 (b : Int)).toNat = b := by simp; omega
  rw [e1, e2]
  exact wu64 (by omega) (by omega)
theorem refb_high (r : BitVec 32) (b : Bool) (h : 4294967296 ≤ r.toNat * 2 + bi b) : IntKind.u64.wrap ((BitVec.ofInt IntKind.u64.bits (IntKind.u64.wrap ((n32 r * 2 + (bi b : Int)) - 4294967296)) ^^^ BitVec.ofInt IntKind.u64.bits 2168537515).toNat : Int) = n32 (refb r b) := by
  have hb : bi b ≤ 1 := by cases b <;> decide
  have hm : r.msb = true := by
    rw [BitVec.msb_eq_decide]
    simp
    omega
  have hr := r.isLt
  have e0 : (n32 r * 2 + (bi b : Int)) - 4294967296 = ((r.toNat * 2 % 4294967296 + bi b : Nat) : Int) := by
    show (r.toNat : Int) * 2 + bi b - 4294967296 = _
    omega
  rw [e0, wu64 (x := ((r.toNat * 2 % 4294967296 + bi b : Nat) : Int)) (by omega) (by omega), show (2168537515 : Int) = ((2168537515 : Nat) : Int) from rfl, xor64 _ _ (by omega) (by omega), ← low_toNat, show (2168537515 : Nat) = poly.toNat from rfl, ← BitVec.toNat_xor]
  congr 2
  unfold refb it
  rw [hm, if_pos rfl]
  generalize r <<< 1 = x
  ac_rfl
theorem bit_at (c : UInt8) (k : Nat) : (Int.fdiv (c.toNat : Int) (2 ^ min k IntKind.u8.bits)).tmod 2 = (bi (bit c k) : Int) := by
  have e : ((2 : Int) ^ min k IntKind.u8.bits) = ((2 ^ min k 8 : Nat) : Int) := by simp [IntKind.bits]
  rw [e, Int.fdiv_eq_ediv_of_nonneg _ (Int.natCast_nonneg _), ← Int.natCast_ediv, Int.tmod_eq_emod_of_nonneg (Int.natCast_nonneg _)]
  have hb : bit c k = decide (c.toNat / 2 ^ k % 2 = 1) := by
    rw [bit, BitVec.getLsbD, ← Nat.testBit_eq_decide_div_mod_eq]
    rfl
  have hc := c.toNat_lt
  by_cases h : k ≤ 8
  · rw [Nat.min_eq_left h, hb]
    by_cases h2 : c.toNat / 2 ^ k % 2 = 1
    · simp only [h2, decide_true, bi, if_true]; omega
    · simp only [h2, decide_false, bi, Bool.false_eq_true, if_false]; omega
  · rw [Nat.min_eq_right (by omega), hb]
    have h3 : c.toNat / 2 ^ k = 0 := Nat.div_eq_of_lt (Nat.lt_of_lt_of_le hc (by show 2 ^ 8 ≤ 2 ^ k; exact Nat.pow_le_pow_right (by omega) (by omega)))
    have h4 : c.toNat / 2 ^ 8 = 0 := Nat.div_eq_of_lt hc
    rw [h3, h4]
    rfl
theorem ref_snoc (r : BitVec 32) (l : List UInt8) (c : UInt8) : ref r (l ++ [c]) = refB (ref r l) c 8 := by simp [ref, List.foldl_append]
theorem wn32' (a : BitVec 32) : IntKind.u32.wrap (n32 a) = n32 a := wn32 a
theorem c_refcrc (b : List UInt8) (hl : b.length < 1000000) : FnOK Try.prog D 113 [(AV.sl .lf (by8 (b)) .ro)] [] (fun r st => r = (AV.sc (.int .u32 (n32 (crc 0#32 b)))) ∧ st = []) := by
  refine fnok_of_W hmix tabOK Try.func113 rfl rfl (Nat.le_of_ble_eq_true rfl) ?_
  conv => whnf
  refine ⟨by rw [by8_len]; simp; omega, ?_⟩
  conv => whnf
  refine ⟨by simp [by8_len]; omega, ?_⟩
  conv => whnf
  generalize ha : b ++ [0, 0, 0, 0] = all
  have hal : all.length = b.length + 4 := by rw [← ha]; simp
  have hA : ∀ x y : List AV, x = [] → y = [.sc (.int .u8 0), .sc (.int .u8 0), .sc (.int .u8 0), .sc (.int .u8 0)] → x ++ by8 b ++ y = by8 all := by
    rintro _ _ rfl rfl
    rw [← ha]
    simp [by8]
  refine ⟨false, [3, 4, 5], fun τ => ∃ i : Nat, i ≤ all.length ∧ τ = ⟨41, [(3, .sc (.int .u64 (n32 (ref 0#32 (all.take i))))), (4, .sl .lf (by8 all) (.own 0)), (5, .sc (.int .i64 (i : Int)))], ⟨[], [0], 1⟩⟩, fun τ => all.length - (slotI τ 5).toNat, ?_, ?_⟩
  · conv => whnf
    refine ⟨0, Nat.zero_le _, ?_⟩
    rw [show (List.replicate 0 (AV.sc (.int .u8 0)) ++ by8 b ++ [.sc (.int .u8 0), .sc (.int .u8 0), .sc (.int .u8 0), .sc (.int .u8 0)]) = by8 all from hA _ _ rfl rfl]
    rfl
  · rintro τ ⟨i, hi, rfl⟩
    conv => whnf
    rw [by8_len]
    refine Branch.of (fun h => ?_) (fun h => ?_) <;> rw [h] <;> conv => whnf
    · simp only [decide_eq_true_eq] at h
      have hi' : i < all.length := by omega
      generalize hr : ref 0#32 (all.take i) = r0
      generalize hc : all[i] = c
      refine ⟨false, [3, 4, 5, 6], fun τ => ∃ (m : Nat) (r : BitVec 32), m ≤ 8 ∧ refB r c m = refB r0 c 8 ∧ τ = ⟨41, [(3, .sc (.int .u64 (n32 r))), (4, .sl .lf (by8 all) (.own 0)), (5, .sc (.int .i64 (i : Int))), (6, .sc (.int .i64 ((m : Int) - 1)))], ⟨[], [0], 1⟩⟩, fun τ => (slotI τ 6 + 1).toNat, ?_, ?_⟩
      · conv => whnf
        exact ⟨8, r0, Nat.le_refl _, rfl, rfl⟩
      · rintro τ ⟨m, r, hm, hr2, rfl⟩
        conv => whnf
        refine Branch.of (fun h2 => ?_) (fun h2 => ?_) <;> rw [h2] <;> conv => whnf
        · simp only [ge_iff_le, decide_eq_true_eq] at h2
          obtain ⟨k, rfl⟩ : ∃ k, m = k + 1 := ⟨m - 1, by omega⟩
          rw [show (((k + 1 : Nat) : Int) - 1) = (k : Int) by omega]
          refine ⟨by omega, .sc (.int .u8 (c.toNat : Int)), by rw [by8, List.getElem?_map, Int.toNat_natCast, List.getElem?_eq_getElem hi', hc]; rfl, ?_⟩
          conv => whnf
          rw [wu64 (x := (k : Int)) (by omega) (by omega)]
          refine ⟨by omega, ?_⟩
          conv => whnf
          refine ⟨by omega, ?_⟩
          conv => whnf
          have hb := bit_at c k
          have hb1 : bi (bit c k) ≤ 1 := by cases bit c k <;> decide
          have hr := r32 r
          rw [Int.toNat_natCast, hb, wu64 (x := n32 r * 2) (by omega) (by omega), wu64 (x := (bi (bit c k) : Int)) (by omega) (by omega), wu64 (x := n32 r * 2 + (bi (bit c k) : Int)) (by omega) (by omega)]
          have hs : refB (refb r (bit c k)) c k = refB r0 c 8 := hr2
          refine Branch.of (fun h4 => ?_) (fun h4 => ?_)
          · conv => whnf
            simp only [ge_iff_le, decide_eq_true_eq] at h4
            rw [refb_high r (bit c k) (by have : n32 r = (r.toNat : Int) := rfl; omega), w64 (x := (k : Int) - 1) (by omega) (by omega)]
            refine ⟨⟨k, refb r (bit c k), by omega, hs, rfl⟩, ?_⟩
            show ((k : Int) - 1 + 1).toNat < ((k : Int) + 1).toNat
            omega
          · conv => whnf
            simp only [ge_iff_le, decide_eq_false_iff_not] at h4
            rw [← refb_low r (bit c k) (by have : n32 r = (r.toNat : Int) := rfl; omega), w64 (x := (k : Int) - 1) (by omega) (by omega)]
            refine ⟨⟨k, refb r (bit c k), by omega, hs, rfl⟩, ?_⟩
            show ((k : Int) - 1 + 1).toNat < ((k : Int) + 1).toNat
            omega
        · simp only [ge_iff_le, decide_eq_false_iff_not] at h2
          have hm0 : m = 0 := by omega
          subst hm0
          rw [w64 (x := (i : Int) + 1) (by omega) (by omega)]
          refine ⟨⟨i + 1, by omega, ?_⟩, ?_⟩
          · have : ref 0#32 (all.take (i + 1)) = r := by
              rw [List.take_succ_eq_append_getElem hi', ref_snoc, hr, hc, ← hr2]
              rfl
            rw [this]
            rfl
          · show all.length - ((i : Int) + 1).toNat < all.length - (i : Int).toNat
            omega
    · simp only [decide_eq_false_iff_not] at h
      have hia : i = all.length := by omega
      subst hia
      rw [List.take_length, ← ha, ref_is, wn32']
      refine ⟨false, [], ?_⟩
      conv => whnf
      refine ⟨?_, rfl⟩
      congr 2
end Go.WL.T5
