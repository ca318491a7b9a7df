/- A reader's first steps. No condition. -/
import Derived.Test.YtcmdkiejkheahaaDoorPart04
set_option linter.unusedVariables false
set_option linter.unusedSimpArgs false
namespace Go.WL.T6d
open Go.WL Go.Proofs
set_option maxRecDepth 20000
set_option maxHeartbeats 4000000
theorem c_read0 (b : List UInt8) (hb : b.length < 4294967296) : FnOK Tryd.prog D 20 [(AV.sl .lf (by8 (b)) .ro)] [] (fun r st => r = .pt 0 [] ∧ st = [.st [(AV.sl .lf (by8 (b)) .ro), (AV.sc (.bool (false)))]]) := by
  refine fnok_of_W hmix tabOK Tryd.func20 rfl rfl (Nat.le_of_ble_eq_true rfl) ?_
  conv => whnf
  refine (c_clone0 b hb).mono fun r st e => ?_
  obtain ⟨rfl, rfl⟩ := e
  conv => whnf
  refine ⟨false, [0], ?_⟩
  conv => whnf
  exact ⟨rfl, rfl⟩
theorem c_off (b : List UInt8) (w : Bool) : FnOK Tryd.prog D 113 [.pt 0 []] [.st [(AV.sl .lf (by8 (b)) .ro), (AV.sc (.bool (w)))]] (fun r st => r = (AV.sc (.bool (w))) ∧ st = [.st [(AV.sl .lf (by8 (b)) .ro), (AV.sc (.bool (w)))]]) := by
  refine fnok_of_W hmix tabOK Tryd.func113 rfl rfl (Nat.le_of_ble_eq_true rfl) ?_
  conv => whnf
  refine ⟨false, [], ?_⟩
  conv => whnf
  exact ⟨rfl, rfl⟩
theorem c_offnil : FnOK Tryd.prog D 113 [.sc (.pointer none)] [] (fun r st => r = (AV.sc (.bool (true))) ∧ st = []) := by
  refine fnok_of_W hmix tabOK Tryd.func113 rfl rfl (Nat.le_of_ble_eq_true rfl) ?_
  conv => whnf
  refine ⟨false, [], ?_⟩
  conv => whnf
  exact ⟨rfl, rfl⟩
theorem c_done (b : List UInt8) (w : Bool) : FnOK Tryd.prog D 81 [.pt 0 []] [.st [(AV.sl .lf (by8 (b)) .ro), (AV.sc (.bool (w)))]] (fun r st => r = (AV.sc (.bool (!w && b.isEmpty))) ∧ st = [.st [(AV.sl .lf (by8 (b)) .ro), (AV.sc (.bool (w)))]]) := by
  refine fnok_of_W hmix tabOK Tryd.func81 rfl rfl (Nat.le_of_ble_eq_true rfl) ?_
  conv => whnf
  cases w with
  | true =>
    refine (c_off b true).mono fun r st e => ?_
    obtain ⟨rfl, rfl⟩ := e
    conv => whnf
    refine ⟨false, [], ?_⟩
    conv => whnf
    exact ⟨rfl, rfl⟩
  | false =>
    refine (c_off b false).mono fun r st e => ?_
    obtain ⟨rfl, rfl⟩ := e
    conv => whnf
    rw [len8]
    refine ⟨false, [], ?_⟩
    conv => whnf
    refine ⟨?_, rfl⟩
    congr 2
    cases b <;> simp <;> omega
/-- A number read: and how many bytes it takes; 0: none. -/
def rdn : List UInt8 → Nat → Nat → Nat × Nat
  | [], _, _ => (0, 0)
  | c :: l, i, a => if 10 ≤ i then (0, 0) else if (i = 9 ∧ 1 < c.toNat) ∨ (0 < i ∧ c.toNat = 0) then (0, 0) else
      if c.toNat < 128 then (a + c.toNat * 128 ^ i, i + 1) else rdn l (i + 1) (a + c.toNat % 128 * 128 ^ i)
theorem and127 (c : UInt8) : IntKind.u8.wrap ((BitVec.ofInt IntKind.u8.bits ((c.toNat : Nat) : Int) &&& BitVec.ofInt IntKind.u8.bits 127).toNat : Int) = ((c.toNat % 128 : Nat) : Int) := by
  have each : ∀ c, c < 256 → (BitVec.ofInt 8 ((c : Nat) : Int) &&& BitVec.ofInt 8 127).toNat = c % 128 := by decide +kernel
  show IntKind.u8.wrap ((BitVec.ofInt 8 ((c.toNat : Nat) : Int) &&& BitVec.ofInt 8 127).toNat : Int) = _
  rw [each _ c.toNat_lt, w8n (by omega)]
theorem or64 {a x i : Nat} (ha : a < 128 ^ i) (hx : x * 128 ^ i < 18446744073709551616) (hi : i < 10) : IntKind.u64.wrap ((BitVec.ofInt IntKind.u64.bits ((a : Nat) : Int) ||| BitVec.ofInt IntKind.u64.bits (IntKind.u64.wrap (((x : Nat) : Int) * 2 ^ min (Int.toNat ((7 * i : Nat) : Int)) IntKind.u64.bits))).toNat : Int) = ((a + x * 128 ^ i : Nat) : Int) := by
  have hp : (128 : Nat) ^ i = 2 ^ (7 * i) := by rw [show (128 : Nat) = 2 ^ 7 from rfl, ← Nat.pow_mul]
  have h9 : (128 : Nat) ^ i ≤ 128 ^ 9 := Nat.pow_le_pow_right (by decide) (by omega)
  have e1 : (2 : Int) ^ min (Int.toNat ((7 * i : Nat) : Int)) IntKind.u64.bits = ((128 ^ i : Nat) : Int) := by
    rw [Int.toNat_natCast, Nat.min_eq_left (by show 7 * i ≤ 64; omega), hp]
    simp
  rw [e1, ← Int.natCast_mul, wu64 (x := ((x * 128 ^ i : Nat) : Int)) (by omega) (by omega)]
  show IntKind.u64.wrap ((BitVec.ofInt 64 ((a : Nat) : Int) ||| BitVec.ofInt 64 ((x * 128 ^ i : Nat) : Int)).toNat : Int) = _
  have f1 : (BitVec.ofInt 64 ((a : Nat) : Int)).toNat = a := by
    have : a < 18446744073709551616 := Nat.lt_of_lt_of_le ha (Nat.le_trans h9 (by decide))
    simp; omega
  have f2 : (BitVec.ofInt 64 ((x * 128 ^ i : Nat) : Int)).toNat = x * 128 ^ i := by simp only [BitVec.toNat_ofInt]; omega
  have f3 : a ||| x * 128 ^ i = a + x * 128 ^ i := by
    have := Nat.shiftLeft_add_eq_or_of_lt (i := 7 * i) (b := a) (by rw [← hp]; exact ha) x
    rw [Nat.shiftLeft_eq, ← hp] at this
    rw [Nat.or_comm, ← this, Nat.add_comm]
  have f4 : a + x * 128 ^ i < 18446744073709551616 := by
    rw [← f3]
    exact Nat.or_lt_two_pow (n := 64) (Nat.lt_of_lt_of_le ha (Nat.le_trans h9 (by decide))) hx
  rw [BitVec.toNat_or, f1, f2, f3]
  exact wu64 (by omega) (by omega)
theorem rdn_fits (c : UInt8) (i : Nat) (hi : i < 10) (h : i = 9 → c.toNat ≤ 1) : c.toNat % 128 * 128 ^ i < 18446744073709551616 := by
  by_cases e : i = 9
  · have := h e
    subst e
    have : c.toNat % 128 ≤ 1 := by omega
    omega
  · have h8 : (128 : Nat) ^ i ≤ 128 ^ 8 := Nat.pow_le_pow_right (by decide) (by omega)
    have : c.toNat % 128 ≤ 127 := by omega
    have := Nat.mul_le_mul this h8
    omega
theorem rdn_lt {a x i : Nat} (h : a < 128 ^ i) (hx : x < 128) : a + x * 128 ^ i < 128 ^ (i + 1) := by
  have h2 : (x + 1) * 128 ^ i ≤ 128 * 128 ^ i := Nat.mul_le_mul_right _ (by omega)
  rw [Nat.add_mul, Nat.one_mul] at h2
  rw [Nat.pow_succ, Nat.mul_comm (128 ^ i) 128]
  omega
theorem c_number (b : List UInt8) (hb : b.length < 9223372036854775807) : FnOK Tryd.prog D 129 [(AV.sl .lf (by8 (b)) .ro)] [] (fun r st => r = .tup [(AV.sc (.int .u64 (((rdn b 0 0).1 : Int)))), (AV.sc (.int .i64 (((rdn b 0 0).2 : Int))))] ∧ st = []) := by
  refine fnok_of_W hmix tabOK Tryd.func129 rfl rfl (Nat.le_of_ble_eq_true rfl) ?_
  conv => whnf
  refine ⟨false, [0, 4, 5], fun τ => ∃ (i a : Nat), i ≤ b.length ∧ i ≤ 10 ∧ a < 128 ^ i ∧ rdn (b.drop i) i a = rdn b 0 0 ∧ τ = ⟨48, [(0, (AV.sl .lf (by8 (b)) .ro)), (4, (AV.sc (.int .u64 ((a : Int))))), (5, (AV.sc (.int .i64 ((i : Int)))))], ⟨[], [], 0⟩⟩, fun τ => 11 - (slotI τ 5).toNat, ?_, ?_⟩
  · conv => whnf
    exact ⟨0, 0, Nat.zero_le _, by omega, by decide, by rw [List.drop_zero], rfl⟩
  · rintro τ ⟨i, a, i1, i2, i3, i4, rfl⟩
    conv => whnf
    rw [len8]
    have stop : ∀ x : Nat × Nat, rdn b 0 0 = x → x = (0, 0) → (AV.tup [(AV.sc (.int .u64 (0))), (AV.sc (.int .i64 (0)))] : AV) = .tup [(AV.sc (.int .u64 (((rdn b 0 0).1 : Int)))), (AV.sc (.int .i64 (((rdn b 0 0).2 : Int))))] := by
      rintro x h1 rfl
      rw [h1]
      rfl
    refine Branch.of (fun h => ?_) (fun h => ?_) <;> rw [h] <;> conv => whnf
    · simp only [decide_eq_true_eq] at h
      have ib : i < b.length := by omega
      have hdr : b.drop i = b[i] :: b.drop (i + 1) := List.drop_eq_getElem_cons ib
      rw [hdr] at i4
      refine Branch.of (fun h2 => ?_) (fun h2 => ?_) <;> rw [h2] <;> conv => whnf
      · simp only [decide_eq_true_eq] at h2
        have hi10 : i < 10 := by omega
        refine ⟨by omega, _, at8 ib, ?_⟩
        generalize b[i] = c at i4
        rw [rdn, if_neg (by omega)] at i4
        conv => whnf
        refine Branch.of (fun h3 => ?_) (fun h3 => ?_) <;> rw [h3] <;> conv => whnf
        · simp only [beq_iff_eq] at h3
          have h9 : i = 9 := by omega
          refine Branch.of (fun h4 => ?_) (fun h4 => ?_) <;> rw [h4] <;> conv => whnf
          · simp only [gt_iff_lt, decide_eq_true_eq] at h4
            refine ⟨false, [], ?_⟩
            conv => whnf
            rw [if_pos (by omega)] at i4
            exact ⟨stop _ i4.symm rfl, rfl⟩
          · simp only [gt_iff_lt, decide_eq_false_iff_not] at h4
            rw [show decide ((i : Int) > 0) = true from decide_eq_true (by omega)]
            conv => whnf
            refine Branch.of (fun h5 => ?_) (fun h5 => ?_) <;> rw [h5] <;> conv => whnf
            · simp only [beq_iff_eq] at h5
              refine ⟨false, [], ?_⟩
              conv => whnf
              rw [if_pos (by omega)] at i4
              exact ⟨stop _ i4.symm rfl, rfl⟩
            · simp only [beq_eq_false_iff_ne, ne_eq] at h5
              have hbad : ¬ ((i = 9 ∧ 1 < c.toNat) ∨ (0 < i ∧ c.toNat = 0)) := by omega
              rw [if_neg hbad] at i4
              rw [w64 (x := 7 * (i : Int)) (by omega) (by omega), show (7 * (i : Int)) = ((7 * i : Nat) : Int) by omega]
              refine ⟨by omega, ?_⟩
              conv => whnf
              have hx : c.toNat % 128 * 128 ^ i < 18446744073709551616 := rdn_fits c i hi10 (by omega)
              rw [and127 c, wu64 (x := ((c.toNat % 128 : Nat) : Int)) (by omega) (by omega), or64 (a := a) (x := c.toNat % 128) (i := i) i3 hx hi10]
              refine Branch.of (fun h8 => ?_) (fun h8 => ?_) <;> rw [h8] <;> conv => whnf
              · simp only [decide_eq_true_eq] at h8
                have hc : c.toNat < 128 := by omega
                rw [w64 (x := (i : Int) + 1) (by omega) (by omega)]
                refine ⟨false, [], ?_⟩
                conv => whnf
                refine ⟨?_, rfl⟩
                rw [if_pos hc] at i4
                rw [← i4, Nat.mod_eq_of_lt hc]
                rfl
              · simp only [decide_eq_false_iff_not] at h8
                rw [if_neg (by omega)] at i4
                rw [w64 (x := (i : Int) + 1) (by omega) (by omega)]
                refine ⟨⟨i + 1, a + c.toNat % 128 * 128 ^ i, by omega, by omega, rdn_lt i3 (by omega), i4, rfl⟩, ?_⟩
                show 11 - ((i : Int) + 1).toNat < 11 - (i : Int).toNat
                omega
        · simp only [beq_eq_false_iff_ne, ne_eq] at h3
          refine Branch.of (fun h5 => ?_) (fun h5 => ?_) <;> rw [h5] <;> conv => whnf
          · simp only [gt_iff_lt, decide_eq_true_eq] at h5
            refine Branch.of (fun h6 => ?_) (fun h6 => ?_) <;> rw [h6] <;> conv => whnf
            · simp only [beq_iff_eq] at h6
              refine ⟨false, [], ?_⟩
              conv => whnf
              rw [if_pos (by omega)] at i4
              exact ⟨stop _ i4.symm rfl, rfl⟩
            · simp only [beq_eq_false_iff_ne, ne_eq] at h6
              have hbad : ¬ ((i = 9 ∧ 1 < c.toNat) ∨ (0 < i ∧ c.toNat = 0)) := by omega
              rw [if_neg hbad] at i4
              rw [w64 (x := 7 * (i : Int)) (by omega) (by omega), show (7 * (i : Int)) = ((7 * i : Nat) : Int) by omega]
              refine ⟨by omega, ?_⟩
              conv => whnf
              have hx : c.toNat % 128 * 128 ^ i < 18446744073709551616 := rdn_fits c i hi10 (by omega)
              rw [and127 c, wu64 (x := ((c.toNat % 128 : Nat) : Int)) (by omega) (by omega), or64 (a := a) (x := c.toNat % 128) (i := i) i3 hx hi10]
              refine Branch.of (fun h8 => ?_) (fun h8 => ?_) <;> rw [h8] <;> conv => whnf
              · simp only [decide_eq_true_eq] at h8
                have hc : c.toNat < 128 := by omega
                rw [w64 (x := (i : Int) + 1) (by omega) (by omega)]
                refine ⟨false, [], ?_⟩
                conv => whnf
                refine ⟨?_, rfl⟩
                rw [if_pos hc] at i4
                rw [← i4, Nat.mod_eq_of_lt hc]
                rfl
              · simp only [decide_eq_false_iff_not] at h8
                rw [if_neg (by omega)] at i4
                rw [w64 (x := (i : Int) + 1) (by omega) (by omega)]
                refine ⟨⟨i + 1, a + c.toNat % 128 * 128 ^ i, by omega, by omega, rdn_lt i3 (by omega), i4, rfl⟩, ?_⟩
                show 11 - ((i : Int) + 1).toNat < 11 - (i : Int).toNat
                omega
          · simp only [gt_iff_lt, decide_eq_false_iff_not] at h5
            have hbad : ¬ ((i = 9 ∧ 1 < c.toNat) ∨ (0 < i ∧ c.toNat = 0)) := by omega
            rw [if_neg hbad] at i4
            rw [w64 (x := 7 * (i : Int)) (by omega) (by omega), show (7 * (i : Int)) = ((7 * i : Nat) : Int) by omega]
            refine ⟨by omega, ?_⟩
            conv => whnf
            have hx : c.toNat % 128 * 128 ^ i < 18446744073709551616 := rdn_fits c i hi10 (by omega)
            rw [and127 c, wu64 (x := ((c.toNat % 128 : Nat) : Int)) (by omega) (by omega), or64 (a := a) (x := c.toNat % 128) (i := i) i3 hx hi10]
            refine Branch.of (fun h8 => ?_) (fun h8 => ?_) <;> rw [h8] <;> conv => whnf
            · simp only [decide_eq_true_eq] at h8
              have hc : c.toNat < 128 := by omega
              rw [w64 (x := (i : Int) + 1) (by omega) (by omega)]
              refine ⟨false, [], ?_⟩
              conv => whnf
              refine ⟨?_, rfl⟩
              rw [if_pos hc] at i4
              rw [← i4, Nat.mod_eq_of_lt hc]
              rfl
            · simp only [decide_eq_false_iff_not] at h8
              rw [if_neg (by omega)] at i4
              rw [w64 (x := (i : Int) + 1) (by omega) (by omega)]
              refine ⟨⟨i + 1, a + c.toNat % 128 * 128 ^ i, by omega, by omega, rdn_lt i3 (by omega), i4, rfl⟩, ?_⟩
              show 11 - ((i : Int) + 1).toNat < 11 - (i : Int).toNat
              omega
      · simp only [decide_eq_false_iff_not] at h2
        refine ⟨false, [], ?_⟩
        conv => whnf
        rw [rdn, if_pos (by omega)] at i4
        exact ⟨stop _ i4.symm rfl, rfl⟩
    · simp only [decide_eq_false_iff_not] at h
      refine ⟨false, [], ?_⟩
      conv => whnf
      rw [List.drop_of_length_le (by omega), rdn] at i4
      exact ⟨stop _ i4.symm rfl, rfl⟩
end Go.WL.T6d
