/- What the check of any bytes comes to, by the reference. No condition. -/
import Derived.Test.YtdpplgkhfclhgaaPart07
import Derived.Test.YtdpplgkhfclhgaaPart06
set_option linter.unusedVariables false
set_option linter.unusedSimpArgs false
namespace Go.WL.T8
open Go.WL Go.Proofs
set_option maxRecDepth 20000
set_option maxHeartbeats 4000000
/-- Bytes in a box of c2 places, of which cap are the slice's. -/
def OKB (b : List UInt8) (cap c2 : Nat) (L : List AV) : Prop := b.length ≤ cap ∧ cap ≤ c2 ∧ L.length = c2 ∧ L.take b.length = by8 b
theorem c_concatBx (ps : List (List UInt8)) (hl : ps.length < 1000000) (ht : tot ps < 1000000000) (h0 : 0 < tot ps) : FnOK Try.prog D 22 [.sl .lf (ps.map (fun b => (AV.sl .lf (by8 (b)) .ro))) .ro] [] (fun r st => ∃ cap L, OKB ps.flatten cap cap L ∧ r = .bs 0 [] .lf 0 ps.flatten.length cap ∧ st = [.ar cap .lf L]) := by
  refine fnok_of_Ws [33] hmix tabOK Try.func22 rfl rfl (Nat.le_of_ble_eq_true rfl) ?_
  conv => whnf
  refine ⟨false, [0, 3, 9, 10, 11], fun τ => ∃ i : Nat, i ≤ ps.length ∧ τ = ⟨36, [(0, .sl .lf (ps.map fun b => (AV.sl .lf (by8 (b)) .ro)) .ro), (3, (AV.sc (.int .i64 ((tot (ps.take i) : Int))))), (9, .sl .lf (ps.map fun b => (AV.sl .lf (by8 (b)) .ro)) .ro), (10, (AV.sc (.int .i64 ((ps.length : Int))))), (11, (AV.sc (.int .i64 ((i : Int)))))], ⟨[], [], 0⟩⟩, fun τ => ps.length - (slotI τ 11).toNat, ?_, ?_⟩
  · conv => whnf
    rw [List.length_map]
    exact ⟨0, by omega, rfl⟩
  rintro τ ⟨i, hi, rfl⟩
  conv => whnf
  refine Branch.of (fun h3 => ?_) (fun h3 => ?_) <;> rw [h3] <;> conv => whnf
  · simp only [decide_eq_true_eq] at h3
    have ih : i < ps.length := by omega
    have t1 := tot_snoc ps i ih
    have t2 := tot_le ps (i + 1)
    refine ⟨by omega, _, ro_atK ih, ?_⟩
    conv => whnf
    rw [len8, w64 (x := (tot (ps.take i) : Int) + (ps[i].length : Int)) (by omega) (by omega)]
    conv => whnf
    rw [w64 (x := (i : Int) + 1) (by omega) (by omega)]
    refine ⟨⟨i + 1, by omega, ?_⟩, ?_⟩
    · rw [t1]
      rfl
    · show ps.length - ((i : Int) + 1).toNat < ps.length - (i : Int).toNat
      omega
  simp only [decide_eq_false_iff_not] at h3
  have e : i = ps.length := by omega
  subst e
  rw [List.take_length]
  refine (c_grow (tot ps) (by omega) (by omega)).mono fun r st e => ?_
  obtain ⟨cap, zs, hc, hz, rfl, rfl⟩ := e
  conv => whnf
  refine ⟨false, [6, 25, 26, 27], fun τ => ∃ (i : Nat) (zs : List AV), i ≤ ps.length ∧ zs.length = cap ∧ zs.take (tot (ps.take i)) = by8 (ps.take i).flatten ∧ τ = ⟨36, [(6, .bs 0 [] .lf 0 (tot (ps.take i)) cap), (25, .sl .lf (ps.map fun b => (AV.sl .lf (by8 (b)) .ro)) .ro), (26, (AV.sc (.int .i64 ((ps.length : Int))))), (27, (AV.sc (.int .i64 ((i : Int)))))], ⟨[(.ar cap .lf zs, false)], [], 0⟩⟩, fun τ => ps.length - (slotI τ 27).toNat, ?_, ?_⟩
  · conv => whnf
    rw [List.length_map]
    exact ⟨0, zs, by omega, hz, by simp [tot, by8], rfl⟩
  rintro τ ⟨i, zs, hi, hz, hzs, rfl⟩
  conv => whnf
  refine Branch.of (fun h4 => ?_) (fun h4 => ?_) <;> rw [h4] <;> conv => whnf
  · simp only [decide_eq_true_eq] at h4
    have ih : i < ps.length := by omega
    have t1 := tot_snoc ps i ih
    have t2 := tot_le ps (i + 1)
    refine ⟨by omega, _, ro_atK ih, ?_⟩
    conv => whnf
    refine Branch.yes (b := Nat.ble (tot (ps.take i) + (by8 ps[i]).length) cap) (Nat.ble_eq_true_of_le (by rw [len8]; omega)) ?_
    conv => whnf
    rw [len8]
    rw [w64 (x := (i : Int) + 1) (by omega) (by omega)]
    refine ⟨⟨i + 1, zs.take (0 + tot (ps.take i)) ++ by8 ps[i] ++ zs.drop (0 + tot (ps.take i) + ps[i].length), by omega, ?_, ?_, ?_⟩, ?_⟩
    rotate_left 2
    · rw [t1]
      rfl
    · show ps.length - ((i : Int) + 1).toNat < ps.length - (i : Int).toNat
      omega
    · simp only [List.length_append, List.length_take, List.length_drop, len8]
      omega
    · rw [t1, Nat.zero_add, hzs, List.take_succ_eq_append_getElem ih, List.flatten_append, by8_app]
      rw [List.take_append_of_le_length (by rw [len8, List.length_append, tot_flat]; omega), List.take_of_length_le (by rw [len8, List.length_append, tot_flat]; omega)]
      simp
  · simp only [decide_eq_false_iff_not] at h4
    have e : i = ps.length := by omega
    subst e
    rw [List.take_length] at hzs ⊢
    refine ⟨false, [0], ?_⟩
    conv => whnf
    exact ⟨cap, zs, ⟨by rw [tot_flat]; exact hc, Nat.le_refl _, hz, by rw [tot_flat]; exact hzs⟩, by rw [tot_flat], rfl⟩
end Go.WL.T8
namespace Go.WL.T8
open Go.WL Go.Proofs
set_option maxRecDepth 20000
set_option maxHeartbeats 1000000
def bi (b : Bool) : Nat := if b then 1 else 0
theorem even_xor (a : Nat) (b : Bool) : (2 * a) ^^^ bi b = 2 * a + bi b := by
  cases b with
  | false => exact Nat.xor_zero _
  | true =>
    show (2 * a) ^^^ 1 = 2 * a + 1
    apply Nat.eq_of_testBit_eq
    intro i
    cases i with
    | zero => simp [Nat.testBit_zero, Nat.add_mod]
    | succ i =>
      have e1 : (2 * a + 1) / 2 = a := by omega
      have e2 : (2 * a) / 2 = a := by omega
      rw [Nat.testBit_xor, Nat.testBit_succ, Nat.testBit_succ (x := 1), Nat.testBit_succ (x := 2 * a + 1), e1, e2]
      simp
theorem low_toNat (r : BitVec 32) (b : Bool) : (r <<< 1 ^^^ (if b then 1#32 else 0#32)).toNat = r.toNat * 2 % 4294967296 + bi b := by
  rw [BitVec.toNat_xor, BitVec.toNat_shiftLeft, Nat.shiftLeft_eq]
  have e1 : (if b then 1#32 else 0#32 : BitVec 32).toNat = bi b := by cases b <;> rfl
  have e2 : r.toNat * 2 ^ 1 % 2 ^ 32 = 2 * (r.toNat % 2147483648) := by omega
  rw [e1, e2, even_xor]
theorem refb_low (r : BitVec 32) (b : Bool) (h : r.toNat * 2 + bi b < 4294967296) : n32 (refb r b) = n32 r * 2 + (bi b : Int) := by
  have hm : r.msb = false := by
    rw [BitVec.msb_eq_decide]
    have : bi b ≤ 1 := by cases b <;> decide
    simp
    omega
  have e : refb r b = r <<< 1 ^^^ (if b then 1#32 else 0#32) := by
    unfold refb it
    rw [hm]
    simp
  show ((refb r b).toNat : Int) = (r.toNat : Int) * 2 + bi b
  rw [e, low_toNat]
  omega
theorem xor64 (a b : Nat) (ha : a < 18446744073709551616) (hb : b < 18446744073709551616) : IntKind.u64.wrap ((BitVec.ofInt IntKind.u64.bits (a : Int) ^^^ BitVec.ofInt IntKind.u64.bits (b : Int)).toNat : Int) = ((a ^^^ b : Nat) : Int) := by
  show IntKind.u64.wrap ((BitVec.ofInt 64 (a : Int) ^^^ BitVec.ofInt 64 (b : Int)).toNat : Int) = _
  have h : a ^^^ b < 2 ^ 64 := Nat.xor_lt_two_pow ha hb
  rw [BitVec.toNat_xor]
  have e1 : (BitVec.ofInt 64 (a : Int)).toNat = a := by simp; omega
  have e2 : (BitVec.ofInt 64 (b : Int)).toNat = b := by simp; omega
  rw [e1, e2]
  exact wu64 (by omega) (by omega)
theorem refb_high (r : BitVec 32) (b : Bool) (h : 4294967296 ≤ r.toNat * 2 + bi b) : IntKind.u64.wrap ((BitVec.ofInt IntKind.u64.bits (IntKind.u64.wrap ((n32 r * 2 + (bi b : Int)) - 4294967296)) ^^^ BitVec.ofInt IntKind.u64.bits 2168537515).toNat : Int) = n32 (refb r b) := by
  have hb : bi b ≤ 1 := by cases b <;> decide
  have hm : r.msb = true := by
    rw [BitVec.msb_eq_decide]
    simp
    omega
  have hr := r.isLt
  have e0 : (n32 r * 2 + (bi b : Int)) - 4294967296 = ((r.toNat * 2 % 4294967296 + bi b : Nat) : Int) := by
    show (r.toNat : Int) * 2 + bi b - 4294967296 = _
    omega
  rw [e0, wu64 (x := ((r.toNat * 2 % 4294967296 + bi b : Nat) : Int)) (by omega) (by omega), show (2168537515 : Int) = ((2168537515 : Nat) : Int) from rfl, xor64 _ _ (by omega) (by omega), ← low_toNat, show (2168537515 : Nat) = poly.toNat from rfl, ← BitVec.toNat_xor]
  congr 2
  unfold refb it
  rw [hm, if_pos rfl]
  generalize r <<< 1 = x
  ac_rfl
theorem bit_at (c : UInt8) (k : Nat) : (Int.fdiv (c.toNat : Int) (2 ^ min k IntKind.u8.bits)).tmod 2 = (bi (bit c k) : Int) := by
  have e : ((2 : Int) ^ min k IntKind.u8.bits) = ((2 ^ min k 8 : Nat) : Int) := by simp [IntKind.bits]
  rw [e, Int.fdiv_eq_ediv_of_nonneg _ (Int.natCast_nonneg _), ← Int.natCast_ediv, Int.tmod_eq_emod_of_nonneg (Int.natCast_nonneg _)]
  have hb : bit c k = decide (c.toNat / 2 ^ k % 2 = 1) := by
    rw [bit, BitVec.getLsbD, ← Nat.testBit_eq_decide_div_mod_eq]
    rfl
  have hc := c.toNat_lt
  by_cases h : k ≤ 8
  · rw [Nat.min_eq_left h, hb]
    by_cases h2 : c.toNat / 2 ^ k % 2 = 1
    · simp only [h2, decide_true, bi, if_true]; omega
    · simp only [h2, decide_false, bi, Bool.false_eq_true, if_false]; omega
  · rw [Nat.min_eq_right (by omega), hb]
    have h3 : c.toNat / 2 ^ k = 0 := Nat.div_eq_of_lt (Nat.lt_of_lt_of_le hc (by show 2 ^ 8 ≤ 2 ^ k; exact Nat.pow_le_pow_right (by omega) (by omega)))
    have h4 : c.toNat / 2 ^ 8 = 0 := Nat.div_eq_of_lt hc
    rw [h3, h4]
    rfl
theorem ref_snoc (r : BitVec 32) (l : List UInt8) (c : UInt8) : ref r (l ++ [c]) = refB (ref r l) c 8 := by simp [ref, List.foldl_append]
theorem wn32' (a : BitVec 32) : IntKind.u32.wrap (n32 a) = n32 a := wn32 a
end Go.WL.T8
