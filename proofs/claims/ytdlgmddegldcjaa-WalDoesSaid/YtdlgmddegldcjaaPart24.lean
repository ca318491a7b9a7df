/- Records: the reference's, and the law of records. No condition. -/
import Derived.Test.YtdlgmddegldcjaaPart23
set_option linter.unusedVariables false
set_option linter.unusedSimpArgs false
namespace Go.WL.T5
open Go.WL Go.Proofs
set_option maxRecDepth 20000
set_option maxHeartbeats 4000000
theorem b4_inj {m n : Nat} (hm : m < 4294967296) (hn : n < 4294967296) (h : b4 m = b4 n) : m = n := by
  unfold b4 at h
  simp only [List.cons.injEq, and_true] at h
  have := n4_b4 m hm
  rw [h.1, h.2.1, h.2.2.1, h.2.2.2, n4_b4 n hn] at this
  exact this.symm
theorem c_refnext_short (B : List UInt8) (h : B.length < 8) : FnOK Try.prog D 111 [(AV.sl .lf (by8 (B)) .ro)] [] (fun r st => r = .tup [(AV.sl .lf (by8 ([])) .ro), (AV.sc (.int .i64 (2)))] ∧ st = []) := by
  refine fnok_of_W hmix tabOK Try.func111 rfl rfl (Nat.le_of_ble_eq_true rfl) ?_
  conv => whnf
  refine Branch.of (fun hh => ?_) (fun hh => ?_)
  rotate_left
  · exfalso; simp only [gt_iff_lt, ge_iff_le, decide_eq_true_eq, decide_eq_false_iff_not, beq_iff_eq, beq_eq_false_iff_ne, bne_iff_ne, bne_eq_false_iff_eq, ne_eq, len8] at hh; first | done | omega | (simp at hh; done)
  try rw [hh]
  clear hh
  conv => whnf
  refine ⟨false, [999], ?_⟩
  conv => whnf
  exact ⟨rfl, rfl⟩
theorem c_refnext_aux (B : List UInt8) (hB : B.length < 100000000) (hl8 : 8 ≤ B.length) (a b c d : UInt8) (n : Nat) (hn : n < 4294967296) (hN : a.toNat * 16777216 + b.toNat * 65536 + c.toNat * 256 + d.toNat = n)
    (ha : (by8 B)[(0 : Int).toNat]? = some (AV.sc (.int .u8 ((a.toNat : Int))))) (hb : (by8 B)[(1 : Int).toNat]? = some (AV.sc (.int .u8 ((b.toNat : Int))))) (hc : (by8 B)[(2 : Int).toNat]? = some (AV.sc (.int .u8 ((c.toNat : Int))))) (hd : (by8 B)[(3 : Int).toNat]? = some (AV.sc (.int .u8 ((d.toNat : Int)))))
    (G : List UInt8 × Nat) (hnx : G = if n = 0 ∨ 65536 < n then ([], 0) else if B.length - 8 < n then ([], 2) else if rec ((B.drop 8).take n) = B.take (8 + n) then ((B.drop 8).take n, 1) else ([], 0)) :
    FnOK Try.prog D 111 [(AV.sl .lf (by8 (B)) .ro)] [] (fun r st => r = .tup [(AV.sl .lf (by8 (G.1)) .ro), (AV.sc (.int .i64 ((G.2 : Int))))] ∧ st = []) := by
  have h1 := a.toNat_lt
  have h2 := b.toNat_lt
  have h3 := c.toNat_lt
  have h4 := d.toNat_lt
  refine fnok_of_W hmix tabOK Try.func111 rfl rfl (Nat.le_of_ble_eq_true rfl) ?_
  conv => whnf
  refine Branch.of (fun hh => ?_) (fun hh => ?_)
  · exfalso; simp only [gt_iff_lt, ge_iff_le, decide_eq_true_eq, decide_eq_false_iff_not, beq_iff_eq, beq_eq_false_iff_ne, bne_iff_ne, bne_eq_false_iff_eq, ne_eq, len8] at hh; first | done | omega | (simp at hh; done)
  try rw [hh]
  clear hh
  conv => whnf
  refine ⟨tabF111R3, by decide +kernel, ?_⟩
  conv => whnf
  repeat (refine And.intro (by first | omega) ?_; conv => whnf)
  refine ⟨_, ha, ?_⟩
  conv => whnf
  repeat (refine And.intro (by first | omega) ?_; conv => whnf)
  refine ⟨_, hb, ?_⟩
  conv => whnf
  repeat (refine And.intro (by first | omega) ?_; conv => whnf)
  refine ⟨_, hc, ?_⟩
  conv => whnf
  repeat (refine And.intro (by first | omega) ?_; conv => whnf)
  refine ⟨_, hd, ?_⟩
  conv => whnf
  rw [w64 (x := (a.toNat : Int)) (by omega) (by omega), w64 (x := (b.toNat : Int)) (by omega) (by omega), w64 (x := (c.toNat : Int)) (by omega) (by omega), w64 (x := (d.toNat : Int)) (by omega) (by omega),
    w64 (x := (a.toNat : Int) * 16777216) (by omega) (by omega), w64 (x := (b.toNat : Int) * 65536) (by omega) (by omega), w64 (x := (c.toNat : Int) * 256) (by omega) (by omega),
    w64 (x := (a.toNat : Int) * 16777216 + (b.toNat : Int) * 65536) (by omega) (by omega), w64 (x := (a.toNat : Int) * 16777216 + (b.toNat : Int) * 65536 + (c.toNat : Int) * 256) (by omega) (by omega), w64 (x := (a.toNat : Int) * 16777216 + (b.toNat : Int) * 65536 + (c.toNat : Int) * 256 + (d.toNat : Int)) (by omega) (by omega),
    show (a.toNat : Int) * 16777216 + (b.toNat : Int) * 65536 + (c.toNat : Int) * 256 + (d.toNat : Int) = (n : Int) by omega]
  refine Branch.of (fun k1 => ?_) (fun k1 => ?_) <;> rw [k1] <;> conv => whnf
  · simp only [decide_eq_true_eq] at k1
    rw [if_pos (.inl (by omega))] at hnx
    subst hnx
    refine ⟨false, [999], ?_⟩
    conv => whnf
    exact ⟨rfl, rfl⟩
  simp only [decide_eq_false_iff_not] at k1
  refine Branch.of (fun k2 => ?_) (fun k2 => ?_) <;> rw [k2] <;> conv => whnf
  · simp only [gt_iff_lt, decide_eq_true_eq] at k2
    rw [if_pos (.inr (by omega))] at hnx
    subst hnx
    refine ⟨false, [999], ?_⟩
    conv => whnf
    exact ⟨rfl, rfl⟩
  simp only [gt_iff_lt, decide_eq_false_iff_not] at k2
  rw [if_neg (by omega)] at hnx
  rw [len8, w64 (x := (8 : Int) + (n : Int)) (by omega) (by omega)]
  refine Branch.of (fun k3 => ?_) (fun k3 => ?_) <;> rw [k3] <;> conv => whnf
  · simp only [decide_eq_true_eq] at k3
    rw [if_pos (by omega)] at hnx
    subst hnx
    refine ⟨false, [999], ?_⟩
    conv => whnf
    exact ⟨rfl, rfl⟩
  simp only [decide_eq_false_iff_not] at k3
  rw [if_neg (by omega)] at hnx
  rw [w64 (x := (8 : Int) + (n : Int)) (by omega) (by omega)]
  repeat (refine And.intro (by first | omega | (simp only [len8]; omega)) ?_; conv => whnf)
  rw [show (((by8 B).drop (8 : Int).toNat).take ((8 + (n : Int)).toNat - (8 : Int).toNat)) = by8 ((B.drop 8).take n) by
    rw [show ((8 + (n : Int)).toNat - (8 : Int).toNat) = n by omega]
    simp [by8]]
  refine ⟨by simp [by8]; omega, ?_⟩
  conv => whnf
  rw [show List.replicate 0 (AV.sc (.int .u8 0)) ++ by8 ((B.drop 8).take n) = by8 ((B.drop 8).take n) from rfl]
  refine ⟨tabF111R9, by decide +kernel, ?_⟩
  conv => whnf
  refine ⟨_, _, c_record2 ((B.drop 8).take n) (by simp; omega), ?_⟩
  conv => whnf
  rw [w64 (x := (8 : Int) + (n : Int)) (by omega) (by omega)]
  repeat (refine And.intro (by first | omega | (simp only [len8]; omega)) ?_; conv => whnf)
  rw [show List.take ((8 + (n : Int)).toNat - 0) (List.drop 0 (by8 B)) = by8 (B.take (8 + n)) by
    rw [show ((8 + (n : Int)).toNat - 0) = 8 + n by omega]
    simp [by8]]
  generalize hR : rec ((B.drop 8).take n) = R at hnx
  refine ⟨_, _, c_same R (B.take (8 + n)) (by rw [← hR, rec_len]; simp; omega) (.inr rfl) (.inr rfl), ?_⟩
  conv => whnf
  by_cases hs : R = B.take (8 + n)
  · rw [if_pos hs] at hnx
    rw [show (R == B.take (8 + n)) = true by rw [hs]; exact beq_self_eq_true _]
    subst hnx
    conv => whnf
    refine ⟨false, [999], ?_⟩
    conv => whnf
    exact ⟨rfl, rfl⟩
  · rw [if_neg hs] at hnx
    rw [show (R == B.take (8 + n)) = false from beq_eq_false_iff_ne.2 hs]
    subst hnx
    conv => whnf
    refine ⟨false, [999], ?_⟩
    conv => whnf
    exact ⟨rfl, rfl⟩
theorem nxt_eq (a b c d e f g h : UInt8) (l : List UInt8) : nxt (a :: b :: c :: d :: e :: f :: g :: h :: l) = if n4 a b c d = 0 ∨ 65536 < n4 a b c d then ([], 0, 2) else
      if l.length < n4 a b c d then ([], 0, 3) else
      if (chk ([a, b, c, d] ++ l.take (n4 a b c d))).toNat = n4 e f g h then (l.take (n4 a b c d), 8 + n4 a b c d, 0) else ([], 0, 2) := by
  rw [nxt]
/-- What the reference tells of the record that bytes begin with. -/
def how (e : Nat) : Nat := if e = 0 then 1 else if e = 3 then 2 else 0
theorem nxt_ref (B : List UInt8) (a b c d e f g h : UInt8) (l : List UInt8) (hBe : B = a :: b :: c :: d :: e :: f :: g :: h :: l) (hl : l = B.drop 8) (n : Nat) (hnn : n4 a b c d = n) (Y : Nat) (hY : n4 e f g h = Y) :
    ((nxt B).1, how (nxt B).2.2) = if n = 0 ∨ 65536 < n then ([], 0) else if B.length - 8 < n then ([], 2) else if rec ((B.drop 8).take (n)) = B.take (8 + n) then ((B.drop 8).take (n), 1) else ([], 0) := by
  have hn : n < 4294967296 := hnn ▸ n4_lt a b c d
  have hYl : Y < 4294967296 := hY ▸ n4_lt e f g h
  have hnx : nxt B = if n = 0 ∨ 65536 < n then ([], 0, 2) else
    if l.length < n then ([], 0, 3) else
    if (chk ([a, b, c, d] ++ l.take (n))).toNat = Y then (l.take (n), 8 + n, 0) else ([], 0, 2) := by rw [hBe, nxt_eq, hnn, hY]
  rw [hnx, ← hl, show B.length - 8 = l.length by rw [hl, List.length_drop]]
  split
  · rfl
  split
  · rfl
  rename_i q1 q2
  have e1 : rec (l.take (n)) = B.take (8 + n) ↔ (chk ([a, b, c, d] ++ l.take (n))).toNat = Y := by
    have e2 : B.take (8 + n) = [a, b, c, d] ++ ([e, f, g, h] ++ l.take (n)) := by
      rw [hBe, show 8 + n = n + 1 + 1 + 1 + 1 + 1 + 1 + 1 + 1 by omega]
      simp only [List.take_succ_cons, List.cons_append, List.nil_append]
    have e3 : (l.take (n)).length = n := by rw [List.length_take]; omega
    unfold rec
    rw [e2, e3, show b4 n = [a, b, c, d] by rw [← hnn, b4_n4]]
    rw [List.append_cancel_left_eq, List.append_cancel_right_eq]
    constructor
    · intro h1
      refine b4_inj (by have := (chk ([a, b, c, d] ++ l.take (n))).isLt; omega) hYl ?_
      rw [h1, ← hY, b4_n4]
    · intro h1
      rw [h1, ← hY, b4_n4]
  by_cases q3 : rec (l.take (n)) = B.take (8 + n)
  · rw [if_pos q3, if_pos (e1.1 q3)]
    rfl
  · rw [if_neg q3, if_neg (fun h => q3 (e1.2 h))]
    rfl
theorem c_refnextK (B : List UInt8) (hB : B.length < 100000000) : FnOK Try.prog D 111 [(AV.sl .lf (by8 (B)) .ro)] [] (fun r st => r = .tup [(AV.sl .lf (by8 ((nxt B).1)) .ro), (AV.sc (.int .i64 ((how (nxt B).2.2 : Int))))] ∧ st = []) := by
  by_cases h8 : B.length < 8
  · rw [nxt_short h8]
    exact c_refnext_short B h8
  obtain ⟨a, b, c, d, e, f, g, h, l, hBe⟩ := eight h8
  have hl : l = B.drop 8 := by rw [hBe]; rfl
  exact c_refnext_aux B hB (by omega) a b c d (n4 a b c d) (n4_lt a b c d) (by rw [n4]) (by rw [hBe]; rfl) (by rw [hBe]; rfl) (by rw [hBe]; rfl) (by rw [hBe]; rfl) ((nxt B).1, how (nxt B).2.2) (nxt_ref B a b c d e f g h l hBe hl _ rfl _ rfl)
theorem nxt_rec (b more : List UInt8) (h0 : 0 < b.length) (h1 : b.length ≤ 65536) : nxt (rec b ++ more) = (b, 8 + b.length, 0) := by
  have e1 : rec b ++ more = UInt8.ofNat (b.length / 16777216) :: UInt8.ofNat (b.length / 65536) :: UInt8.ofNat (b.length / 256) :: UInt8.ofNat b.length ::
    UInt8.ofNat ((chk (b4 b.length ++ b)).toNat / 16777216) :: UInt8.ofNat ((chk (b4 b.length ++ b)).toNat / 65536) :: UInt8.ofNat ((chk (b4 b.length ++ b)).toNat / 256) :: UInt8.ofNat (chk (b4 b.length ++ b)).toNat :: (b ++ more) := by
    simp [rec, b4]
  rw [e1, nxt_eq]
  rw [n4_b4 b.length (by omega), n4_b4 (chk (b4 b.length ++ b)).toNat (by have := (chk (b4 b.length ++ b)).isLt; omega)]
  rw [if_neg (by omega), if_neg (by simp)]
  have e2 : (b ++ more).take b.length = b := by simp
  rw [e2, if_pos]
  rfl
theorem how_of (e : Nat) (h : e = 0 ∨ e = 2 ∨ e = 3) : (!((((e : Nat) : Int) == 0) == (((how e : Nat) : Int) == 1))) = false ∧ (!((((e : Nat) : Int) == 3) == (((how e : Nat) : Int) == 2))) = false ∧ (!((((e : Nat) : Int) == 2) == (((how e : Nat) : Int) == 0))) = false := by
  rcases h with rfl | rfl | rfl <;> exact ⟨rfl, rfl, rfl⟩
theorem nxt_cases (B : List UInt8) : ((nxt B).2.2 = 0 ∧ (nxt B).2.1 = 8 + (nxt B).1.length) ∨ (((nxt B).2.2 = 2 ∨ (nxt B).2.2 = 3) ∧ (nxt B).2.1 = 0) := by
  by_cases h8 : B.length < 8
  · rw [nxt_short h8]
    exact .inr ⟨.inr rfl, rfl⟩
  obtain ⟨a, b, c, d, e, f, g, h, l, rfl⟩ := eight h8
  rw [nxt_eq]
  split
  · exact .inr ⟨.inl rfl, rfl⟩
  split
  · exact .inr ⟨.inr rfl, rfl⟩
  split
  · refine .inl ⟨rfl, ?_⟩
    simp only [List.length_take]
    omega
  · exact .inr ⟨.inl rfl, rfl⟩
theorem nxt_len (B : List UInt8) : (nxt B).1.length ≤ B.length := by
  by_cases h8 : B.length < 8
  · rw [nxt_short h8]
    exact Nat.zero_le _
  obtain ⟨a, b, c, d, e, f, g, h, l, rfl⟩ := eight h8
  rw [nxt_eq]
  split
  · exact Nat.zero_le _
  split
  · exact Nat.zero_le _
  split
  · simp only [List.length_take, List.length_cons]
    omega
  · exact Nat.zero_le _
end Go.WL.T5
