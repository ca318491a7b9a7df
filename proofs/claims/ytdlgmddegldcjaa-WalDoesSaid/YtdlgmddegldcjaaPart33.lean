/- Turned bits of a record. No condition. -/
import Derived.Test.YtdlgmddegldcjaaPart29
import Derived.Test.YtdlgmddegldcjaaPart24
import Derived.Test.YtdlgmddegldcjaaPart32
import Derived.Test.YtdlgmddegldcjaaWordsD
set_option linter.unusedVariables false
set_option linter.unusedSimpArgs false
namespace Go.WL.T5
open Go.WL Go.Proofs
set_option maxRecDepth 20000
set_option maxHeartbeats 4000000
/-- A record whose bytes are others. -/
def recW (b c : List UInt8) : List UInt8 := b4 b.length ++ (b4 (chk (b4 b.length ++ b)).toNat ++ c)
theorem recW_len (b c : List UInt8) : (recW b c).length = c.length + 8 := by
  simp [recW, b4_len]
  omega
theorem c_recordB (b : List UInt8) (h0 : 0 < b.length) (h1 : b.length ≤ 65536) : FnOK Try.prog D 83 [(AV.sl .lf (by8 (b)) .ro)] [] (fun r st => ∃ cap L, OKB (rec b) cap cap L ∧ r = .tup [.bs 0 [] .lf 0 (rec b).length cap, (AV.sc (.int .i64 (0)))] ∧ st = [.ar cap .lf L]) := by
  refine fnok_of_W hmix tabOK Try.func83 rfl rfl (Nat.le_of_ble_eq_true rfl) ?_
  conv => whnf
  refine Branch.of (fun hh => ?_) (fun hh => ?_)
  · exfalso; simp only [gt_iff_lt, ge_iff_le, decide_eq_true_eq, decide_eq_false_iff_not, beq_iff_eq, beq_eq_false_iff_ne, bne_iff_ne, bne_eq_false_iff_eq, ne_eq, len8] at hh; first | done | omega | (simp at hh; done)
  try rw [hh]
  clear hh
  conv => whnf
  refine Branch.of (fun hh => ?_) (fun hh => ?_)
  · exfalso; simp only [gt_iff_lt, ge_iff_le, decide_eq_true_eq, decide_eq_false_iff_not, beq_iff_eq, beq_eq_false_iff_ne, bne_iff_ne, bne_eq_false_iff_eq, ne_eq, len8] at hh; first | done | omega | (simp at hh; done)
  try rw [hh]
  clear hh
  conv => whnf
  rw [len8, wu32 (x := (b.length : Int)) (by omega) (by omega)]
  refine (c_four b.length).mono fun r st e => ?_
  obtain ⟨rfl, rfl⟩ := e
  conv => whnf
  refine (c_crcs [b4 b.length, b] (by simp) (by simp [b4_len]; omega) (.inl rfl) (.cons (.sl (.inl rfl) (Weaks.refl _)) (.cons (.refl _) .nil))).mono fun r st e => ?_
  obtain ⟨rfl, rfl⟩ := e
  rw [show [b4 b.length, b].flatten = b4 b.length ++ b by simp]
  conv => whnf
  refine (c_four (chk (b4 b.length ++ b)).toNat).mono fun r st e => ?_
  obtain ⟨rfl, rfl⟩ := e
  conv => whnf
  refine ((c_concatBx [b4 b.length, b4 (chk (b4 b.length ++ b)).toNat, b] (by simp) (by simp [tot, b4_len]; omega) (by simp [tot, b4_len]; omega)).weak (.cons (.sl (.inl rfl) (.cons (.sl (.inl rfl) (Weaks.refl _)) (.cons (.sl (.inl rfl) (Weaks.refl _)) (.cons (.refl _) .nil)))) .nil)).mono fun r st e => ?_
  have hr : [b4 b.length, b4 (chk (b4 b.length ++ b)).toNat, b].flatten = rec b := by simp [rec]
  obtain ⟨cap, L, hL, rfl, rfl⟩ := e
  rw [hr] at hL ⊢
  conv => whnf
  refine ⟨false, [0], ?_⟩
  conv => whnf
  exact ⟨cap, L, hL, rfl, rfl⟩
theorem nxt_recW (b c : List UInt8) (hc : c.length = b.length) (h0 : 0 < b.length) (h1 : b.length ≤ 65536) : nxt (recW b c) = if chk (b4 b.length ++ c) = chk (b4 b.length ++ b) then (c, 8 + b.length, 0) else ([], 0, 2) := by
  have e1 : recW b c = UInt8.ofNat (b.length / 16777216) :: UInt8.ofNat (b.length / 65536) :: UInt8.ofNat (b.length / 256) :: UInt8.ofNat b.length ::
    UInt8.ofNat ((chk (b4 b.length ++ b)).toNat / 16777216) :: UInt8.ofNat ((chk (b4 b.length ++ b)).toNat / 65536) :: UInt8.ofNat ((chk (b4 b.length ++ b)).toNat / 256) :: UInt8.ofNat (chk (b4 b.length ++ b)).toNat :: c := by
    simp [recW, b4]
  rw [e1, nxt_eq]
  rw [n4_b4 b.length (by omega), n4_b4 (chk (b4 b.length ++ b)).toNat (by have := (chk (b4 b.length ++ b)).isLt; omega)]
  rw [if_neg (by omega), if_neg (by omega), List.take_of_length_le (by omega)]
  show (if (chk (b4 b.length ++ c)).toNat = _ then _ else _) = _
  by_cases h : chk (b4 b.length ++ c) = chk (b4 b.length ++ b)
  · rw [if_pos h, if_pos (by rw [h])]
  · rw [if_neg h, if_neg (fun e => h (BitVec.eq_of_toNat_eq e))]
theorem chk_turn (b : List UInt8) (f bits : Nat) (hf : f ≤ 8 * b.length) : (chk (b4 b.length ++ turn b f bits 32) = chk (b4 b.length ++ b)) ↔ anyT b.length f bits 32 = false := by
  rw [← chk_eq, ← chk_eq, crc_append, crc_append]
  constructor
  · intro h
    cases ha : anyT b.length f bits 32 with
    | false => rfl
    | true => exact absurd h (turn_some _ b f bits hf ha)
  · intro h
    rw [turn_none b f bits 32 h]
theorem turn_stop (b : List UInt8) (f bits i : Nat) (h : 8 * b.length ≤ f + i) : ∀ j, turn b f bits (i + j) = turn b f bits i ∧ anyT b.length f bits (i + j) = anyT b.length f bits i
  | 0 => ⟨rfl, rfl⟩
  | j + 1 => by
    obtain ⟨h1, h2⟩ := turn_stop b f bits i h j
    refine ⟨?_, ?_⟩
    · show (if f + (i + j) < 8 * b.length ∧ bits.testBit (i + j) = true then _ else turn b f bits (i + j)) = _
      rw [if_neg (by omega), h1]
    · show (anyT b.length f bits (i + j) || (decide (f + (i + j) < 8 * b.length) && bits.testBit (i + j))) = _
      rw [decide_eq_false (by omega), h2]
      simp
theorem ofb8 (a : UInt8) : BitVec.ofInt 8 (a.toNat : Int) = a.toBitVec := by
  apply BitVec.eq_of_toNat_eq
  rw [BitVec.toNat_ofInt]
  have := a.toNat_lt
  show ((a.toNat : Int) % 256).toNat = a.toNat
  omega
theorem xorb8 (a c : UInt8) : IntKind.u8.wrap ((BitVec.ofInt IntKind.u8.bits (a.toNat : Int) ^^^ BitVec.ofInt IntKind.u8.bits (c.toNat : Int)).toNat : Int) = ((a ^^^ c).toNat : Int) := by
  show IntKind.u8.wrap ((BitVec.ofInt 8 (a.toNat : Int) ^^^ BitVec.ofInt 8 (c.toNat : Int)).toNat : Int) = _
  rw [ofb8, ofb8, ← UInt8.toBitVec_xor]
  have := (a ^^^ c).toNat_lt
  show IntKind.u8.wrap (((a ^^^ c).toNat : Nat) : Int) = _
  rw [wu8 (by omega) (by omega)]
theorem mask_is : ∀ a : Nat, a < 8 → IntKind.u8.wrap (1 * 2 ^ min (Int.toNat (a : Int)) IntKind.u8.bits) = ((mask a).toNat : Int) := by decide +kernel
theorem recW_set (b c : List UInt8) (k : Nat) (h : k / 8 < c.length) (h2 : 8 + k / 8 < (recW b c).length) : recW b (flip1 c k) = (recW b c).set (8 + k / 8) ((recW b c)[8 + k / 8] ^^^ mask (7 - k % 8)) := by
  have e : ∀ x, recW b x = (b4 b.length ++ b4 (chk (b4 b.length ++ b)).toNat) ++ x := fun x => by simp [recW]
  have hl : (b4 b.length ++ b4 (chk (b4 b.length ++ b)).toNat).length = 8 := by simp [b4_len]
  have hx : (recW b c)[8 + k / 8] = c[k / 8] := by
    have : (recW b c)[8 + k / 8]? = c[k / 8]? := by
      rw [e, List.getElem?_append_right (by omega), hl, Nat.add_sub_cancel_left]
    rw [List.getElem?_eq_getElem h2, List.getElem?_eq_getElem h] at this
    exact Option.some.inj this
  rw [hx, e, e, List.set_append_right _ _ (by omega), hl, Nat.add_sub_cancel_left]
  unfold flip1
  rw [List.getD_eq_getElem?_getD, List.getElem?_eq_getElem h, Option.getD_some]
theorem tb_is (bits i : Nat) (h : i < 32) : (Int.tmod (Int.fdiv (bits : Int) (2 ^ min (Int.toNat (i : Int)) IntKind.u32.bits)) 2 == 1) = bits.testBit i := by
  have e1 : min (Int.toNat (i : Int)) IntKind.u32.bits = i := by show min i 32 = i; omega
  rw [e1]
  have e2 : Int.fdiv (bits : Int) (2 ^ i) = ((bits / 2 ^ i : Nat) : Int) := by
    rw [show ((2 : Int) ^ i) = ((2 ^ i : Nat) : Int) by simp]
    rw [Int.fdiv_eq_ediv_of_nonneg _ (Int.natCast_nonneg _)]
    rfl
  rw [e2, show Int.tmod ((bits / 2 ^ i : Nat) : Int) 2 = ((bits / 2 ^ i % 2 : Nat) : Int) from Int.ofNat_tmod _ _, Nat.testBit_eq_decide_div_mod_eq, Bool.eq_iff_iff, beq_iff_eq, decide_eq_true_eq]
  omega
end Go.WL.T5
