/- Records: put and got. No condition. -/
import Derived.Test.YtdlgmddegldcjaaPart22
set_option linter.unusedVariables false
set_option linter.unusedSimpArgs false
namespace Go.WL.T5
open Go.WL Go.Proofs
set_option maxRecDepth 20000
set_option maxHeartbeats 4000000
/-- Bytes' record. -/
def rec (b : List UInt8) : List UInt8 := b4 b.length ++ (b4 (chk (b4 b.length ++ b)).toNat ++ b)
theorem rec_len (b : List UInt8) : (rec b).length = b.length + 8 := by
  simp [rec, b4_len]
  omega
theorem c_record0 : FnOK Try.prog D 83 [(AV.sl .lf (by8 ([])) .ro)] [] (fun r st => r = .tup [.sl .lf [] .ex, (AV.sc (.int .i64 (1)))] ∧ st = []) := by
  refine fnok_of_W hmix tabOK Try.func83 rfl rfl (Nat.le_of_ble_eq_true rfl) ?_
  conv => whnf
  refine ⟨false, [], ?_⟩
  conv => whnf
  exact ⟨rfl, rfl⟩
theorem c_record (b : List UInt8) (h0 : 0 < b.length) (h1 : b.length ≤ 65536) : FnOK Try.prog D 83 [(AV.sl .lf (by8 (b)) .ro)] [] (fun r st => r = .tup [(AV.sl .lf (by8 (rec b)) .ro), (AV.sc (.int .i64 (0)))] ∧ st = []) := by
  refine fnok_of_W hmix tabOK Try.func83 rfl rfl (Nat.le_of_ble_eq_true rfl) ?_
  conv => whnf
  refine Branch.of (fun hh => ?_) (fun hh => ?_)
  · exfalso; simp only [gt_iff_lt, ge_iff_le, decide_eq_true_eq, decide_eq_false_iff_not, beq_iff_eq, beq_eq_false_iff_ne, bne_iff_ne, bne_eq_false_iff_eq, ne_eq, len8] at hh; first | done | omega | (simp at hh; done)
  try rw [hh]
  clear hh
  conv => whnf
  refine Branch.of (fun hh => ?_) (fun hh => ?_)
  · exfalso; simp only [gt_iff_lt, ge_iff_le, decide_eq_true_eq, decide_eq_false_iff_not, beq_iff_eq, beq_eq_false_iff_ne, bne_iff_ne, bne_eq_false_iff_eq, ne_eq, len8] at hh; first | done | omega | (simp at hh; done)
  try rw [hh]
  clear hh
  conv => whnf
  rw [len8, wu32 (x := (b.length : Int)) (by omega) (by omega)]
  refine (c_four b.length).mono fun r st e => ?_
  obtain ⟨rfl, rfl⟩ := e
  conv => whnf
  refine (c_crcs [b4 b.length, b] (by simp) (by simp [b4_len]; omega) (.inl rfl) (.cons (.sl (.inl rfl) (Weaks.refl _)) (.cons (.refl _) .nil))).mono fun r st e => ?_
  obtain ⟨rfl, rfl⟩ := e
  rw [show [b4 b.length, b].flatten = b4 b.length ++ b by simp]
  conv => whnf
  refine (c_four (chk (b4 b.length ++ b)).toNat).mono fun r st e => ?_
  obtain ⟨rfl, rfl⟩ := e
  conv => whnf
  refine ((c_concat [b4 b.length, b4 (chk (b4 b.length ++ b)).toNat, b] (by simp) (by simp [tot, b4_len]; omega)).weak (.cons (.sl (.inl rfl) (.cons (.sl (.inl rfl) (Weaks.refl _)) (.cons (.sl (.inl rfl) (Weaks.refl _)) (.cons (.refl _) .nil)))) .nil)).mono fun r st e => ?_
  have hr : [b4 b.length, b4 (chk (b4 b.length ++ b)).toNat, b].flatten = rec b := by simp [rec]
  obtain ⟨rfl, rfl⟩ := e
  rw [hr]
  conv => whnf
  refine ⟨false, [], ?_⟩
  conv => whnf
  exact ⟨rfl, rfl⟩
theorem c_record2 (b : List UInt8) (h1 : b.length ≤ 65536) : FnOK Try.prog D 86 [(AV.sl .lf (by8 (b)) .ro)] [] (fun r st => r = (AV.sl .lf (by8 (rec b)) (.own 0)) ∧ st = []) := by
  refine fnok_of_W hmix tabOK Try.func86 rfl rfl (Nat.le_of_ble_eq_true rfl) ?_
  conv => whnf
  rw [len8, wu32 (x := (b.length : Int)) (by omega) (by omega)]
  refine (c_four2 b.length (by omega)).mono fun r st e => ?_
  obtain ⟨rfl, rfl⟩ := e
  conv => whnf
  refine ⟨by simp [by8, b4_len], ?_⟩
  conv => whnf
  refine ⟨by simp [by8, b4_len], ?_⟩
  conv => whnf
  refine ⟨by simp [b4_len, by8]; omega, ?_⟩
  conv => whnf
  rw [show List.replicate 0 (AV.sc (.int .u8 0)) ++ by8 (b4 b.length) ++ by8 b = by8 (b4 b.length ++ b) by simp [by8]]
  refine (c_ref (b4 b.length ++ b) (by simp [b4_len]; omega)).mono fun r st e => ?_
  obtain ⟨rfl, rfl⟩ := e
  conv => whnf
  refine (c_four2 (chk (b4 b.length ++ b)).toNat (by have := (chk (b4 b.length ++ b)).isLt; omega)).mono fun r st e => ?_
  obtain ⟨rfl, rfl⟩ := e
  conv => whnf
  refine ⟨by simp [b4_len, by8], ?_⟩
  conv => whnf
  refine ⟨by simp [b4_len, by8]; omega, ?_⟩
  conv => whnf
  refine ⟨false, [], ?_⟩
  conv => whnf
  refine ⟨?_, rfl⟩
  simp [rec, by8]
/-- The record that bytes begin with: its bytes, how many it has with its head, and what is told. -/
def nxt : List UInt8 → List UInt8 × Nat × Nat
  | a :: b :: c :: d :: e :: f :: g :: h :: l =>
    if n4 a b c d = 0 ∨ 65536 < n4 a b c d then ([], 0, 2) else
    if l.length < n4 a b c d then ([], 0, 3) else
    if (chk ([a, b, c, d] ++ l.take (n4 a b c d))).toNat = n4 e f g h then (l.take (n4 a b c d), 8 + n4 a b c d, 0) else ([], 0, 2)
  | _ => ([], 0, 3)
theorem nxt_short {B : List UInt8} (h : B.length < 8) : nxt B = ([], 0, 3) := by
  match B, h with
  | [], _ => rfl
  | [_], _ => rfl
  | [_, _], _ => rfl
  | [_, _, _], _ => rfl
  | [_, _, _, _], _ => rfl
  | [_, _, _, _, _], _ => rfl
  | [_, _, _, _, _, _], _ => rfl
  | [_, _, _, _, _, _, _], _ => rfl
theorem eight {B : List UInt8} (hB : ¬ B.length < 8) : ∃ a b c d e f g h l, B = a :: b :: c :: d :: e :: f :: g :: h :: l := by
  rcases B with _ | ⟨a, _ | ⟨b, _ | ⟨c, _ | ⟨d, _ | ⟨e, _ | ⟨f, _ | ⟨g, _ | ⟨h, l⟩⟩⟩⟩⟩⟩⟩⟩
  iterate 8 exact absurd (by simp) hB
  exact ⟨a, b, c, d, e, f, g, h, l, rfl⟩
theorem c_next_aux (B : List UInt8) (hB : B.length < 100000000) (hl8 : 8 ≤ B.length) (n Y : Nat) (hn : n < 4294967296) (G : List UInt8 × Nat × Nat)
    (hnx : G = if n = 0 ∨ 65536 < n then ([], 0, 2) else if B.length - 8 < n then ([], 0, 3) else if (chk (B.take 4 ++ (B.drop 8).take n)).toNat = Y then ((B.drop 8).take n, 8 + n, 0) else ([], 0, 2))
    (k1 : FnOK Try.prog D 127 [(AV.sl .lf (by8 (B)) .ro)] [] (fun r st => r = (AV.sc (.int .u32 ((n : Int)))) ∧ st = [])) (k2 : FnOK Try.prog D 127 [(AV.sl .lf (by8 (B.drop 4)) .ro)] [] (fun r st => r = (AV.sc (.int .u32 ((Y : Int)))) ∧ st = [])) :
    FnOK Try.prog D 108 [(AV.sl .lf (by8 (B)) .ro)] [] (fun r st => r = .tup [(AV.sl .lf (by8 (G.1)) .ro), (AV.sc (.int .i64 ((G.2.1 : Int)))), (AV.sc (.int .i64 ((G.2.2 : Int))))] ∧ st = []) := by
  refine fnok_of_W hmix tabOK Try.func108 rfl rfl (Nat.le_of_ble_eq_true rfl) ?_
  conv => whnf
  refine Branch.of (fun hh => ?_) (fun hh => ?_)
  · exfalso; simp only [gt_iff_lt, ge_iff_le, decide_eq_true_eq, decide_eq_false_iff_not, beq_iff_eq, beq_eq_false_iff_ne, bne_iff_ne, bne_eq_false_iff_eq, ne_eq, len8] at hh; first | done | omega | (simp at hh; done)
  try rw [hh]
  clear hh
  conv => whnf
  refine k1.mono fun r st e => ?_
  obtain ⟨rfl, rfl⟩ := e
  conv => whnf
  refine Branch.of (fun h1 => ?_) (fun h1 => ?_) <;> rw [h1] <;> conv => whnf
  · simp only [beq_iff_eq] at h1
    rw [if_pos (.inl (by omega))] at hnx
    subst hnx
    refine ⟨false, [999], ?_⟩
    conv => whnf
    exact ⟨rfl, rfl⟩
  simp only [beq_eq_false_iff_ne] at h1
  refine Branch.of (fun h2 => ?_) (fun h2 => ?_) <;> rw [h2] <;> conv => whnf
  · simp only [gt_iff_lt, decide_eq_true_eq] at h2
    rw [if_pos (.inr (by omega))] at hnx
    subst hnx
    refine ⟨false, [999], ?_⟩
    conv => whnf
    exact ⟨rfl, rfl⟩
  simp only [gt_iff_lt, decide_eq_false_iff_not] at h2
  rw [if_neg (by omega)] at hnx
  rw [len8, w64 (x := (n : Int)) (by omega) (by omega), w64 (x := (B.length : Int) - 8) (by omega) (by omega)]
  refine Branch.of (fun h3 => ?_) (fun h3 => ?_) <;> rw [h3] <;> conv => whnf
  · simp only [gt_iff_lt, decide_eq_true_eq] at h3
    rw [if_pos (by omega)] at hnx
    subst hnx
    refine ⟨false, [999], ?_⟩
    conv => whnf
    exact ⟨rfl, rfl⟩
  simp only [gt_iff_lt, decide_eq_false_iff_not] at h3
  rw [if_neg (by omega)] at hnx
  rw [w64 (x := (n : Int)) (by omega) (by omega), w64 (x := (8 : Int) + (n : Int)) (by omega) (by omega)]
  repeat (refine And.intro (by first | omega | (simp only [len8]; omega)) ?_; conv => whnf)
  rw [show (((by8 B).drop (8 : Int).toNat).take ((8 + (n : Int)).toNat - (8 : Int).toNat)) = by8 ((B.drop 8).take n) by
    rw [show ((8 + (n : Int)).toNat - (8 : Int).toNat) = n by omega]
    simp [by8]]
  refine ⟨tabF108R10, by decide +kernel, ?_⟩
  conv => whnf
  repeat (refine And.intro (by first | omega | (simp only [len8]; omega)) ?_; conv => whnf)
  rw [show List.take (Int.toNat 4 - 0) (List.drop 0 (by8 B)) = by8 (B.take 4) by simp [by8]]
  refine ⟨_, _, c_crcs [B.take 4, (B.drop 8).take n] (by simp) (by simp; omega) (.inl rfl) (.cons (.refl _) (.cons (.sl (.inl rfl) (Weaks.refl _)) .nil)), ?_⟩
  rw [show [B.take 4, (B.drop 8).take n].flatten = B.take 4 ++ (B.drop 8).take n by simp]
  generalize chk (B.take 4 ++ (B.drop 8).take n) = X at hnx
  conv => whnf
  rw [len8]
  repeat (refine And.intro (by first | omega | (simp only [len8]; omega)) ?_; conv => whnf)
  rw [show List.take (B.length - Int.toNat 4) (List.drop (Int.toNat 4) (by8 B)) = by8 (B.drop 4) by
    rw [by8_drop, by8_takeK, List.take_of_length_le]
    · rfl
    · simp]
  refine ⟨_, _, k2, ?_⟩
  conv => whnf
  refine Branch.of (fun h4 => ?_) (fun h4 => ?_) <;> rw [h4] <;> conv => whnf
  · simp only [bne_iff_ne, ne_eq] at h4
    rw [if_neg (by intro h; exact h4 (by rw [← h]))] at hnx
    subst hnx
    refine ⟨false, [999], ?_⟩
    conv => whnf
    exact ⟨rfl, rfl⟩
  simp only [bne_eq_false_iff_eq] at h4
  rw [if_pos (by have : ((X.toNat : Nat) : Int) = (Y : Int) := h4; omega)] at hnx
  subst hnx
  refine (c_clone ((B.drop 8).take n) (by simp; omega) (.inl rfl)).mono fun r st e => ?_
  obtain ⟨rfl, rfl⟩ := e
  conv => whnf
  rw [w64 (x := (n : Int)) (by omega) (by omega), w64 (x := (8 : Int) + (n : Int)) (by omega) (by omega)]
  refine ⟨false, [999], ?_⟩
  conv => whnf
  refine ⟨?_, rfl⟩
  congr 4
theorem c_nextK (B : List UInt8) (hB : B.length < 100000000) : FnOK Try.prog D 108 [(AV.sl .lf (by8 (B)) .ro)] [] (fun r st => r = .tup [(AV.sl .lf (by8 ((nxt B).1)) .ro), (AV.sc (.int .i64 (((nxt B).2.1 : Int)))), (AV.sc (.int .i64 (((nxt B).2.2 : Int))))] ∧ st = []) := by
  by_cases h8 : B.length < 8
  · rw [nxt_short h8]
    refine fnok_of_W hmix tabOK Try.func108 rfl rfl (Nat.le_of_ble_eq_true rfl) ?_
    conv => whnf
    refine Branch.of (fun hh => ?_) (fun hh => ?_)
    rotate_left
    · exfalso; simp only [gt_iff_lt, ge_iff_le, decide_eq_true_eq, decide_eq_false_iff_not, beq_iff_eq, beq_eq_false_iff_ne, bne_iff_ne, bne_eq_false_iff_eq, ne_eq, len8] at hh; first | done | omega | (simp at hh; done)
    try rw [hh]
    clear hh
    conv => whnf
    refine ⟨false, [999], ?_⟩
    conv => whnf
    exact ⟨rfl, rfl⟩
  have hl8 : 8 ≤ B.length := by omega
  obtain ⟨a, b, c, d, e, f, g, h, l, hBe⟩ := eight h8
  have hn := n4_lt a b c d
  have hnx : nxt B = if n4 a b c d = 0 ∨ 65536 < n4 a b c d then ([], 0, 2) else
    if l.length < n4 a b c d then ([], 0, 3) else
    if (chk ([a, b, c, d] ++ l.take (n4 a b c d))).toNat = n4 e f g h then (l.take (n4 a b c d), 8 + n4 a b c d, 0) else ([], 0, 2) := by rw [hBe]; rfl
  have k1 := c_numberK a b c d (e :: f :: g :: h :: l)
  rw [← hBe] at k1
  have k2 := c_numberK e f g h l
  rw [show e :: f :: g :: h :: l = B.drop 4 by rw [hBe]; rfl] at k2
  have hl : l = B.drop 8 := by rw [hBe]; rfl
  have h4 : [a, b, c, d] = B.take 4 := by rw [hBe]; rfl
  rw [h4, hl, List.length_drop] at hnx
  exact c_next_aux B hB hl8 _ _ hn _ hnx k1 k2
end Go.WL.T5
