/- Turned bits of a record. No condition. -/
import Derived.Test.YtdpplgkhfclhgaaPart08
import Derived.Test.YtdpplgkhfclhgaaPart11
import Derived.Test.YtdpplgkhfclhgaaPart14
import Derived.Test.YtdpplgkhfclhgaaWordsD
set_option linter.unusedVariables false
set_option linter.unusedSimpArgs false
namespace Go.WL.T8
open Go.WL Go.Proofs
set_option maxRecDepth 20000
set_option maxHeartbeats 4000000
/-- A record whose bytes are others. -/
def recW (b c : List UInt8) : List UInt8 := b4 b.length ++ (b4 (chk (b4 b.length ++ b)).toNat ++ c)
theorem recW_len (b c : List UInt8) : (recW b c).length = c.length + 8 := by
  simp [recW, b4_len]
  omega
theorem c_recordB (b : List UInt8) (h0 : 0 < b.length) (h1 : b.length ≤ 65536) : FnOK Try.prog D 7 [(AV.sl .lf (by8 (b)) .ro)] [] (fun r st => ∃ cap L, OKB (rec b) cap cap L ∧ r = .tup [.bs 0 [] .lf 0 (rec b).length cap, (AV.sc (.int .i64 (0)))] ∧ st = [.ar cap .lf L]) := by
  refine fnok_of_W hmix tabOK Try.func7 rfl rfl (Nat.le_of_ble_eq_true rfl) ?_
  conv => whnf
  refine Branch.of (fun hh => ?_) (fun hh => ?_)
  · exfalso; simp only [gt_iff_lt, ge_iff_le, decide_eq_true_eq, decide_eq_false_iff_not, beq_iff_eq, beq_eq_false_iff_ne, bne_iff_ne, bne_eq_false_iff_eq, ne_eq, len8] at hh; first | done | omega | (simp at hh; done)
  try rw [hh]
  clear hh
  conv => whnf
  refine Branch.of (fun hh => ?_) (fun hh => ?_)
  · exfalso; simp only [gt_iff_lt, ge_iff_le, decide_eq_true_eq, decide_eq_false_iff_not, beq_iff_eq, beq_eq_false_iff_ne, bne_iff_ne, bne_eq_false_iff_eq, ne_eq, len8] at hh; first | done | omega | (simp at hh; done)
  try rw [hh]
  clear hh
  conv => whnf
  rw [len8, wu32 (x := (b.length : Int)) (by omega) (by omega)]
  refine (c_four b.length).mono fun r st e => ?_
  obtain ⟨rfl, rfl⟩ := e
  conv => whnf
  refine (c_crcs [b4 b.length, b] (by simp) (by simp [b4_len]; omega) (.inl rfl) (.cons (.sl (.inl rfl) (Weaks.refl _)) (.cons (.refl _) .nil))).mono fun r st e => ?_
  obtain ⟨rfl, rfl⟩ := e
  rw [show [b4 b.length, b].flatten = b4 b.length ++ b by simp]
  conv => whnf
  refine (c_four (chk (b4 b.length ++ b)).toNat).mono fun r st e => ?_
  obtain ⟨rfl, rfl⟩ := e
  conv => whnf
  refine ((c_concatBx [b4 b.length, b4 (chk (b4 b.length ++ b)).toNat, b] (by simp) (by simp [tot, b4_len]; omega) (by simp [tot, b4_len]; omega)).weak (.cons (.sl (.inl rfl) (.cons (.sl (.inl rfl) (Weaks.refl _)) (.cons (.sl (.inl rfl) (Weaks.refl _)) (.cons (.refl _) .nil)))) .nil)).mono fun r st e => ?_
  have hr : [b4 b.length, b4 (chk (b4 b.length ++ b)).toNat, b].flatten = rec b := by simp [rec]
  obtain ⟨cap, L, hL, rfl, rfl⟩ := e
  rw [hr] at hL ⊢
  conv => whnf
  refine ⟨false, [0], ?_⟩
  conv => whnf
  exact ⟨cap, L, hL, rfl, rfl⟩
theorem nxt_recW (b c : List UInt8) (hc : c.length = b.length) (h0 : 0 < b.length) (h1 : b.length ≤ 65536) : nxt (recW b c) = if chk (b4 b.length ++ c) = chk (b4 b.length ++ b) then (c, 8 + b.length, 0) else ([], 0, 2) := by
  have e1 : recW b c = UInt8.ofNat (b.length / 16777216) :: UInt8.ofNat (b.length / 65536) :: UInt8.ofNat (b.length / 256) :: UInt8.ofNat b.length ::
    UInt8.ofNat ((chk (b4 b.length ++ b)).toNat / 16777216) :: UInt8.ofNat ((chk (b4 b.length ++ b)).toNat / 65536) :: UInt8.ofNat ((chk (b4 b.length ++ b)).toNat / 256) :: UInt8.ofNat (chk (b4 b.length ++ b)).toNat :: c := by
    simp [recW, b4]
  rw [e1, nxt_eq]
  rw [n4_b4 b.length (by omega), n4_b4 (chk (b4 b.length ++ b)).toNat (by have := (chk (b4 b.length ++ b)).isLt; omega)]
  rw [if_neg (by omega), if_neg (by omega), List.take_of_length_le (by omega)]
  show (if (chk (b4 b.length ++ c)).toNat = _ then _ else _) = _
  by_cases h : chk (b4 b.length ++ c) = chk (b4 b.length ++ b)
  · rw [if_pos h, if_pos (by rw [h])]
  · rw [if_neg h, if_neg (fun e => h (BitVec.eq_of_toNat_eq e))]
theorem chk_turn (b : List UInt8) (f bits : Nat) (hf : f ≤ 8 * b.length) : (chk (b4 b.length ++ turn b f bits 32) = chk (b4 b.length ++ b)) ↔ anyT b.length f bits 32 = false := by
  rw [← chk_eq, ← chk_eq, crc_append, crc_append]
  constructor
  · intro h
    cases ha : anyT b.length f bits 32 with
    | false => rfl
    | true => exact absurd h (turn_some _ b f bits hf ha)
  · intro h
    rw [turn_none b f bits 32 h]
theorem turn_stop (b : List UInt8) (f bits i : Nat) (h : 8 * b.length ≤ f + i) : ∀ j, turn b f bits (i + j) = turn b f bits i ∧ anyT b.length f bits (i + j) = anyT b.length f bits i
  | 0 => ⟨rfl, rfl⟩
  | j + 1 => by
    obtain ⟨h1, h2⟩ := turn_stop b f bits i h j
    refine ⟨?_, ?_⟩
    · show (if f + (i + j) < 8 * b.length ∧ bits.testBit (i + j) = true then _ else turn b f bits (i + j)) = _
      rw [if_neg (by omega), h1]
    · show (anyT b.length f bits (i + j) || (decide (f + (i + j) < 8 * b.length) && bits.testBit (i + j))) = _
      rw [decide_eq_false (by omega), h2]
      simp
theorem ofb8 (a : UInt8) : BitVec.ofInt 8 (a.toNat : Int) = a.toBitVec := by
  apply BitVec.eq_of_toNat_eq
  rw [BitVec.toNat_ofInt]
  have := a.toNat_lt
  show ((a.toNat : Int) % 256).toNat = a.toNat
  omega
theorem xorb8 (a c : UInt8) : IntKind.u8.wrap ((BitVec.ofInt IntKind.u8.bits (a.toNat : Int) ^^^ BitVec.ofInt IntKind.u8.bits (c.toNat : Int)).toNat : Int) = ((a ^^^ c).toNat : Int) := by
  show IntKind.u8.wrap ((BitVec.ofInt 8 (a.toNat : Int) ^^^ BitVec.ofInt 8 (c.toNat : Int)).toNat : Int) = _
  rw [ofb8, ofb8, ← UInt8.toBitVec_xor]
  have := (a ^^^ c).toNat_lt
  show IntKind.u8.wrap (((a ^^^ c).toNat : Nat) : Int) = _
  rw [wu8 (by omega) (by omega)]
theorem mask_is : ∀ a : Nat, a < 8 → IntKind.u8.wrap (1 * 2 ^ min (Int.toNat (a : Int)) IntKind.u8.bits) = ((mask a).toNat : Int) := by decide +kernel
theorem recW_set (b c : List UInt8) (k : Nat) (h : k / 8 < c.length) (h2 : 8 + k / 8 < (recW b c).length) : recW b (flip1 c k) = (recW b c).set (8 + k / 8) ((recW b c)[8 + k / 8] ^^^ mask (7 - k % 8)) := by
  have e : ∀ x, recW b x = (b4 b.length ++ b4 (chk (b4 b.length ++ b)).toNat) ++ x := fun x => by simp [recW]
  have hl : (b4 b.length ++ b4 (chk (b4 b.length ++ b)).toNat).length = 8 := by simp [b4_len]
  have hx : (recW b c)[8 + k / 8] = c[k / 8] := by
    have : (recW b c)[8 + k / 8]? = c[k / 8]? := by
      rw [e, List.getElem?_append_right (by omega), hl, Nat.add_sub_cancel_left]
    rw [List.getElem?_eq_getElem h2, List.getElem?_eq_getElem h] at this
    exact Option.some.inj this
  rw [hx, e, e, List.set_append_right _ _ (by omega), hl, Nat.add_sub_cancel_left]
  unfold flip1
  rw [List.getD_eq_getElem?_getD, List.getElem?_eq_getElem h, Option.getD_some]
theorem tb_is (bits i : Nat) (h : i < 32) : (Int.tmod (Int.fdiv (bits : Int) (2 ^ min (Int.toNat (i : Int)) IntKind.u32.bits)) 2 == 1) = bits.testBit i := by
  have e1 : min (Int.toNat (i : Int)) IntKind.u32.bits = i := by show min i 32 = i; omega
  rw [e1]
  have e2 : Int.fdiv (bits : Int) (2 ^ i) = ((bits / 2 ^ i : Nat) : Int) := by
    rw [show ((2 : Int) ^ i) = ((2 ^ i : Nat) : Int) by simp]
    rw [Int.fdiv_eq_ediv_of_nonneg _ (Int.natCast_nonneg _)]
    rfl
  rw [e2, show Int.tmod ((bits / 2 ^ i : Nat) : Int) 2 = ((bits / 2 ^ i % 2 : Nat) : Int) from Int.ofNat_tmod _ _, Nat.testBit_eq_decide_div_mod_eq, Bool.eq_iff_iff, beq_iff_eq, decide_eq_true_eq]
  omega
theorem c_crcturns_aux (b : List UInt8) (at_ bits : Nat) (h0 : 0 < b.length) (h1 : b.length ≤ 1000) (ha : at_ < 65536) (hbits : bits < 4294967296) : FnOK Try.prog D 3 [(AV.sl .lf (by8 (b)) .ro), (AV.sc (.int .u16 ((at_ : Int)))), (AV.sc (.int .u32 ((bits : Int))))] [] (fun r st => r = (AV.sc (.bool (true))) ∧ st = []) := by
  refine fnok_of_W hmix tabOK Try.func3 rfl rfl (Nat.le_of_ble_eq_true rfl) ?_
  conv => whnf
  refine Branch.of (fun hh => ?_) (fun hh => ?_)
  · exfalso; simp only [gt_iff_lt, ge_iff_le, decide_eq_true_eq, decide_eq_false_iff_not, beq_iff_eq, beq_eq_false_iff_ne, bne_iff_ne, bne_eq_false_iff_eq, ne_eq, len8] at hh; first | done | omega | (simp at hh; done)
  try rw [hh]
  clear hh
  conv => whnf
  refine Branch.of (fun hh => ?_) (fun hh => ?_)
  · exfalso; simp only [gt_iff_lt, ge_iff_le, decide_eq_true_eq, decide_eq_false_iff_not, beq_iff_eq, beq_eq_false_iff_ne, bne_iff_ne, bne_eq_false_iff_eq, ne_eq, len8] at hh; first | done | omega | (simp at hh; done)
  try rw [hh]
  clear hh
  conv => whnf
  refine (c_recordB b h0 (by omega)).mono fun r st e => ?_
  obtain ⟨cap, L, hL, rfl, rfl⟩ := e
  conv => whnf
  rw [rec_len, len8, w64 (x := (b.length : Int) + 8) (by omega) (by omega), show ((((b.length + 8 : Nat) : Int)) != (b.length : Int) + 8) = false by rw [bne_eq_false_iff_eq]; omega]
  conv => whnf
  rw [len8, w64 (x := 8 * (b.length : Int)) (by omega) (by omega), w64 (x := (at_ : Int)) (by omega) (by omega)]
  refine ⟨by omega, ?_⟩
  conv => whnf
  obtain ⟨f, hfe⟩ : ∃ f : Nat, f = at_ % (8 * b.length) := ⟨_, rfl⟩
  have hf : f < 8 * b.length := by rw [hfe]; exact Nat.mod_lt _ (by omega)
  have hrem : Int.tmod (at_ : Int) (8 * (b.length : Int)) = (f : Int) := by
    rw [hfe, show (8 * (b.length : Int)) = ((8 * b.length : Nat) : Int) by omega]
    exact Int.ofNat_tmod _ _
  obtain ⟨l1, l2, l3, l4⟩ := hL
  rw [rec_len] at l1 l4
  have hWb : rec b = recW b b := rfl
  refine ⟨false, [0, 2, 7, 9, 10, 11], fun τ => ∃ (i : Nat) (L : List AV), i ≤ 32 ∧ L.length = cap ∧ L.take (b.length + 8) = by8 (recW b (turn b f bits i)) ∧ τ = ⟨98, [(0, (AV.sl .lf (by8 (b)) .ro)), (2, (AV.sc (.int .u32 ((bits : Int))))), (7, .bs 0 [] .lf 0 (b.length + 8) cap), (9, (AV.sc (.int .i64 ((f : Int))))), (10, (AV.sc (.bool ((anyT b.length f bits i))))), (11, (AV.sc (.int .i64 ((i : Int)))))], ⟨[(.ar cap .lf L, false)], [], 0⟩⟩, fun τ => 32 - (slotI τ 11).toNat, ?_, ?_⟩
  · conv => whnf
    rw [← hrem]
    exact ⟨0, L, by omega, l3, by rw [l4, hWb]; rfl, rfl⟩
  rintro τ ⟨i, L, hi, hl, ht, rfl⟩
  have fin : (i = 32 ∨ 8 * b.length ≤ f + i) → turn b f bits i = turn b f bits 32 ∧ anyT b.length f bits i = anyT b.length f bits 32 := by
    intro h
    rcases h with rfl | h
    · exact ⟨rfl, rfl⟩
    · have := turn_stop b f bits i h (32 - i)
      rw [show i + (32 - i) = 32 by omega] at this
      exact ⟨this.1.symm, this.2.symm⟩
  have hcl := turn_len b f bits 32
  have hnx := nxt_recW b (turn b f bits 32) hcl h0 (by omega)
  have hck := chk_turn b f bits (by omega)
  have e8 : IntKind.i64.wrap (8 * (b.length : Int)) = 8 * (b.length : Int) := w64 (by omega) (by omega)
  have efi : IntKind.i64.wrap ((f : Int) + (i : Int)) = (f : Int) + (i : Int) := w64 (by omega) (by omega)
  by_cases h32 : i < 32
  · conv => whnf
    rw [decide_eq_true (show (i : Int) < 32 by omega)]
    conv => whnf
    rw [len8, e8, efi]
    by_cases h8 : f + i < 8 * b.length
    · rw [decide_eq_true (show (f : Int) + (i : Int) < 8 * (b.length : Int) by omega)]
      conv => whnf
      rw [wu64 (x := (i : Int)) (by omega) (by omega)]
      refine ⟨by omega, ?_⟩
      conv => whnf
      refine ⟨by decide, ?_⟩
      conv => whnf
      rw [tb_is bits i h32]
      have hA1 : anyT b.length f bits (i + 1) = (anyT b.length f bits i || (decide (f + i < 8 * b.length) && bits.testBit i)) := rfl
      cases hb : bits.testBit i with
      | false =>
        have hT : turn b f bits (i + 1) = turn b f bits i := by
          show (if f + i < 8 * b.length ∧ bits.testBit i = true then _ else turn b f bits i) = _
          rw [if_neg (fun e => by rw [hb] at e; cases e.2)]
        rw [hb, Bool.and_false, Bool.or_false] at hA1
        conv => whnf
        rw [w64 (x := (i : Int) + 1) (by omega) (by omega), ← hA1]
        refine ⟨⟨i + 1, L, by omega, hl, by rw [ht, hT], rfl⟩, ?_⟩
        show 32 - ((i : Int) + 1).toNat < 32 - (i : Int).toNat
        omega
      | true =>
        have hT : turn b f bits (i + 1) = flip1 (turn b f bits i) (f + i) := by
          show (if f + i < 8 * b.length ∧ bits.testBit i = true then flip1 (turn b f bits i) (f + i) else _) = _
          rw [if_pos ⟨h8, hb⟩]
        rw [hb, decide_eq_true h8] at hA1
        have hA1 : anyT b.length f bits (i + 1) = true := by rw [hA1]; simp
        conv => whnf
        rw [efi, show (f : Int) + (i : Int) = ((f + i : Nat) : Int) by omega]
        obtain ⟨k, hk⟩ : ∃ k : Nat, k = f + i := ⟨_, rfl⟩
        rw [← hk] at hT ⊢
        have hk8 : k < 8 * b.length := by omega
        have t8 : Int.tdiv (k : Int) 8 = ((k / 8 : Nat) : Int) := Int.ofNat_tdiv _ _
        have m8 : Int.tmod (k : Int) 8 = ((k % 8 : Nat) : Int) := Int.ofNat_tmod _ _
        have a8 : IntKind.i64.wrap (8 + IntKind.i64.wrap (Int.tdiv (k : Int) 8)) = ((8 + k / 8 : Nat) : Int) := by
          rw [t8, w64 (x := ((k / 8 : Nat) : Int)) (by omega) (by omega), w64 (by omega) (by omega)]
          omega
        refine ⟨by decide, ?_⟩
        conv => whnf
        rw [a8]
        refine ⟨by decide, ?_⟩
        conv => whnf
        rw [a8]
        refine ⟨by omega, by omega, ?_⟩
        conv => whnf
        have hcc := turn_len b f bits i
        generalize hc : turn b f bits i = c at *
        have hkc : k / 8 < c.length := by omega
        have hrl : 8 + k / 8 < (recW b c).length := by rw [recW_len]; omega
        have hat : L[0 + ((8 + k / 8 : Nat) : Int).toNat]? = some (AV.sc (.int .u8 (((recW b c)[8 + k / 8].toNat : Int)))) := by
          rw [Nat.zero_add, Int.toNat_natCast]
          have := at_take ht (show 8 + k / 8 < b.length + 8 by omega)
          rw [this, by8_at hrl]
        refine ⟨_, hat, ?_⟩
        conv => whnf
        have hm7 : k % 8 < 8 := Nat.mod_lt _ (by decide)
        have s7 : IntKind.u64.wrap (IntKind.i64.wrap (7 - Int.tmod (k : Int) 8)) = ((7 - k % 8 : Nat) : Int) := by
          rw [m8, w64 (by omega) (by omega), wu64 (by omega) (by omega)]
          omega
        refine ⟨by decide, ?_⟩
        conv => whnf
        rw [s7]
        refine ⟨by omega, ?_⟩
        conv => whnf
        rw [mask_is (7 - k % 8) (by omega), xorb8]
        refine ⟨by omega, by omega, ?_⟩
        conv => whnf
        refine ⟨_, hat, ?_⟩
        conv => whnf
        rw [w64 (x := (i : Int) + 1) (by omega) (by omega), ← hA1]
        refine ⟨⟨i + 1, L.set (8 + k / 8) (AV.sc (.int .u8 ((((recW b c)[8 + k / 8] ^^^ mask (7 - k % 8)).toNat : Int)))), by omega, by rw [List.length_set]; exact hl, ?_, ?_⟩, ?_⟩
        · rw [hT, recW_set b c k hkc hrl, List.take_set, ht]
          simp [by8]
        · rw [Nat.zero_add, Int.toNat_natCast]
          rfl
        · show 32 - ((i : Int) + 1).toNat < 32 - (i : Int).toNat
          omega
    · rw [decide_eq_false (show ¬ (f : Int) + (i : Int) < 8 * (b.length : Int) by omega)]
      conv => whnf
      obtain ⟨f1, f2⟩ := fin (.inr (by omega))
      rw [List.drop_zero, ht, f1, f2]
      have cn := c_nextK (recW b (turn b f bits 32)) (by rw [recW_len, hcl]; omega)
      rw [hnx] at cn
      cases hA : anyT b.length f bits 32 with
      | false =>
        rw [if_pos (hck.2 hA)] at cn
        refine (cn).mono fun r st e => ?_
        obtain ⟨rfl, rfl⟩ := e
        conv => whnf
        refine (c_crcawake).mono fun r st e => ?_
        obtain ⟨rfl, rfl⟩ := e
        conv => whnf
        refine ⟨false, [], ?_⟩
        conv => whnf
        exact ⟨rfl, rfl⟩
      | true =>
        rw [if_neg (fun e => by rw [hck.1 e] at hA; cases hA)] at cn
        refine (cn).mono fun r st e => ?_
        obtain ⟨rfl, rfl⟩ := e
        conv => whnf
        refine (c_crcawake).mono fun r st e => ?_
        obtain ⟨rfl, rfl⟩ := e
        conv => whnf
        refine ⟨false, [], ?_⟩
        conv => whnf
        exact ⟨rfl, rfl⟩
  · conv => whnf
    rw [decide_eq_false (show ¬ (i : Int) < 32 by omega)]
    conv => whnf
    obtain ⟨f1, f2⟩ := fin (.inl (by omega))
    rw [List.drop_zero, ht, f1, f2]
    have cn := c_nextK (recW b (turn b f bits 32)) (by rw [recW_len, hcl]; omega)
    rw [hnx] at cn
    cases hA : anyT b.length f bits 32 with
    | false =>
      rw [if_pos (hck.2 hA)] at cn
      refine (cn).mono fun r st e => ?_
      obtain ⟨rfl, rfl⟩ := e
      conv => whnf
      refine (c_crcawake).mono fun r st e => ?_
      obtain ⟨rfl, rfl⟩ := e
      conv => whnf
      refine ⟨false, [], ?_⟩
      conv => whnf
      exact ⟨rfl, rfl⟩
    | true =>
      rw [if_neg (fun e => by rw [hck.1 e] at hA; cases hA)] at cn
      refine (cn).mono fun r st e => ?_
      obtain ⟨rfl, rfl⟩ := e
      conv => whnf
      refine (c_crcawake).mono fun r st e => ?_
      obtain ⟨rfl, rfl⟩ := e
      conv => whnf
      refine ⟨false, [], ?_⟩
      conv => whnf
      exact ⟨rfl, rfl⟩
theorem c_crcturns (b : List UInt8) (at_ bits : Nat) (ha : at_ < 65536) (hbits : bits < 4294967296) : FnOK Try.prog D 3 [(AV.sl .lf (by8 (b)) .ro), (AV.sc (.int .u16 ((at_ : Int)))), (AV.sc (.int .u32 ((bits : Int))))] [] (fun r st => r = (AV.sc (.bool (true))) ∧ st = []) := by
  by_cases h0 : b = []
  · subst h0
    refine fnok_of_W hmix tabOK Try.func3 rfl rfl (Nat.le_of_ble_eq_true rfl) ?_
    conv => whnf
    refine (c_crcawake).mono fun r st e => ?_
    obtain ⟨rfl, rfl⟩ := e
    conv => whnf
    refine ⟨false, [], ?_⟩
    conv => whnf
    exact ⟨rfl, rfl⟩
  · have hl : 0 < b.length := List.length_pos_iff.2 h0
    by_cases h1 : b.length ≤ 1000
    · exact c_crcturns_aux b at_ bits hl h1 ha hbits
    · refine fnok_of_W hmix tabOK Try.func3 rfl rfl (Nat.le_of_ble_eq_true rfl) ?_
      conv => whnf
      refine Branch.of (fun hh => ?_) (fun hh => ?_)
      · exfalso; simp only [gt_iff_lt, ge_iff_le, decide_eq_true_eq, decide_eq_false_iff_not, beq_iff_eq, beq_eq_false_iff_ne, bne_iff_ne, bne_eq_false_iff_eq, ne_eq, len8] at hh; first | done | omega | (simp at hh; done)
      try rw [hh]
      clear hh
      conv => whnf
      refine Branch.of (fun hh => ?_) (fun hh => ?_)
      rotate_left
      · exfalso; simp only [gt_iff_lt, ge_iff_le, decide_eq_true_eq, decide_eq_false_iff_not, beq_iff_eq, beq_eq_false_iff_ne, bne_iff_ne, bne_eq_false_iff_eq, ne_eq, len8] at hh; first | done | omega | (simp at hh; done)
      try rw [hh]
      clear hh
      conv => whnf
      refine (c_crcawake).mono fun r st e => ?_
      obtain ⟨rfl, rfl⟩ := e
      conv => whnf
      refine ⟨false, [], ?_⟩
      conv => whnf
      exact ⟨rfl, rfl⟩
end Go.WL.T8
