/- Spoilt bytes of a record: in plain words. No condition. -/
import Derived.Test.YtdlgmddegldcjaaPart29
set_option linter.unusedVariables false
set_option linter.unusedSimpArgs false
namespace Go.WL.T5
open Go.WL Go.Proofs
set_option maxRecDepth 20000
/-- Bytes, from one on turned by others. -/
def xorW (b : List UInt8) (g : Nat) (ys : List UInt8) : List UInt8 := b.mapIdx fun j x => if g ≤ j ∧ j < g + ys.length then x ^^^ ys.getD (j - g) 0 else x
theorem xorW_len (b : List UInt8) (g : Nat) (ys : List UInt8) : (xorW b g ys).length = b.length := by simp [xorW]
theorem xorW_at (b : List UInt8) (g : Nat) (ys : List UInt8) (j : Nat) : (xorW b g ys)[j]? = (b[j]?).map fun x => if g ≤ j ∧ j < g + ys.length then x ^^^ ys.getD (j - g) 0 else x := by simp [xorW]
theorem xorW_nil (b : List UInt8) (g : Nat) : xorW b g [] = b := by
  apply List.ext_getElem?
  intro j
  rw [xorW_at]
  cases b[j]? with
  | none => rfl
  | some x => rw [Option.map_some, if_neg (by simp only [List.length_nil]; omega)]
theorem xorW_step (b : List UInt8) (g : Nat) (ys : List UInt8) (i : Nat) (hi : i < ys.length) (hb : g + i < b.length) : xorW b g (ys.take (i + 1)) = (xorW b g (ys.take i)).set (g + i) ((xorW b g (ys.take i)).getD (g + i) 0 ^^^ ys[i]) := by
  apply List.ext_getElem?
  intro j
  have l1 : (ys.take (i + 1)).length = i + 1 := by rw [List.length_take]; omega
  have l2 : (ys.take i).length = i := by rw [List.length_take]; omega
  rw [xorW_at, l1]
  by_cases hj : j = g + i
  · subst hj
    rw [List.getElem?_set_self (by rw [xorW_len]; exact hb), List.getD_eq_getElem?_getD (l := xorW b g (List.take i ys)), xorW_at, l2, List.getElem?_eq_getElem hb]
    simp only [Option.map_some, Option.getD_some]
    rw [if_pos (by omega), if_neg (by omega), List.getD_eq_getElem?_getD, show g + i - g = i by omega, List.getElem?_take_of_lt (by omega), List.getElem?_eq_getElem hi, Option.getD_some]
  · rw [List.getElem?_set_ne (by omega), xorW_at, l2]
    congr 1
    funext x
    by_cases h : g ≤ j ∧ j < g + i
    · rw [if_pos (by omega), if_pos h, List.getD_eq_getElem?_getD, List.getD_eq_getElem?_getD, List.getElem?_take_of_lt (by omega), List.getElem?_take_of_lt (by omega)]
    · rw [if_neg (by omega), if_neg h]
theorem xorW_zip (b : List UInt8) (g : Nat) (ys : List UInt8) (h : g + ys.length ≤ b.length) : xorW b g ys = List.zipWith (· ^^^ ·) b (List.replicate g 0 ++ ys ++ List.replicate (b.length - g - ys.length) 0) := by
  apply List.ext_getElem?
  intro j
  rw [xorW_at, List.getElem?_zipWith]
  by_cases hj : j < b.length
  · rw [List.getElem?_eq_getElem hj, Option.map_some]
    by_cases h1 : j < g
    · rw [if_neg (by omega), List.append_assoc, List.getElem?_append_left (by rw [List.length_replicate]; exact h1), List.getElem?_replicate, if_pos h1]
      simp
    · by_cases h2 : j < g + ys.length
      · rw [if_pos (by omega), List.append_assoc, List.getElem?_append_right (by rw [List.length_replicate]; omega), List.length_replicate, List.getElem?_append_left (by omega), List.getD_eq_getElem?_getD, List.getElem?_eq_getElem (show j - g < ys.length by omega)]
        rfl
      · rw [if_neg (by omega), List.append_assoc, List.getElem?_append_right (by rw [List.length_replicate]; omega), List.length_replicate, List.getElem?_append_right (by omega), List.getElem?_replicate, if_pos (by omega)]
        simp
  · rw [List.getElem?_eq_none (by omega)]
    rfl
theorem bits_zero (n : Nat) : bitsOf (List.replicate n 0) = List.replicate (8 * n) false := by
  apply List.ext_getElem?
  intro j
  rw [zeros_at, List.getElem?_replicate]
theorem bits_app (l m : List UInt8) : bitsOf (l ++ m) = bitsOf l ++ bitsOf m := by simp [bitsOf]
theorem bits_some {y : UInt8} (h : y ≠ 0) : true ∈ bits8 y := by
  have : ∀ n : Nat, n < 256 → UInt8.ofNat n ≠ 0 → (bits8 (UInt8.ofNat n)).contains true = true := by decide +kernel
  have h2 := this y.toNat y.toNat_lt (by rw [UInt8.ofNat_toNat]; exact h)
  rw [UInt8.ofNat_toNat] at h2
  simpa using h2
theorem xorW_chk (s : BitVec 32) (b : List UInt8) (g : Nat) (ys : List UInt8) (h : g + ys.length ≤ b.length) (h4 : ys.length ≤ 4) (hs : ∃ y ∈ ys, y ≠ 0) : crc s (xorW b g ys) ≠ crc s b := by
  have hx := crc_xor b (List.replicate g 0 ++ ys ++ List.replicate (b.length - g - ys.length) 0) s 0#32 (by simp only [List.length_append, List.length_replicate]; omega)
  rw [BitVec.xor_zero] at hx
  rw [xorW_zip b g ys h, hx]
  have hb := burst (8 * g) (bitsOf ys) (8 * (b.length - g - ys.length)) (List.replicate g 0 ++ ys ++ List.replicate (b.length - g - ys.length) 0) (by rw [bits_len]; omega) (by
    obtain ⟨y, hy, h0⟩ := hs
    exact List.mem_flatMap.2 ⟨y, hy, bits_some h0⟩) (by rw [bits_app, bits_app, bits_zero, bits_zero])
  intro e
  apply hb
  have := congrArg (fun x => crc s b ^^^ x) e
  simp only [BitVec.xor_self] at this
  rw [← BitVec.xor_assoc, BitVec.xor_self, BitVec.zero_xor] at this
  exact this
theorem xorW_none (b : List UInt8) (g : Nat) (ys : List UInt8) (h : ∀ y ∈ ys, y = 0) : xorW b g ys = b := by
  apply List.ext_getElem?
  intro j
  rw [xorW_at]
  cases b[j]? with
  | none => rfl
  | some x =>
    rw [Option.map_some]
    by_cases hj : g ≤ j ∧ j < g + ys.length
    · rw [if_pos hj, List.getD_eq_getElem?_getD, List.getElem?_eq_getElem (by omega), Option.getD_some, h _ (List.getElem_mem _)]
      simp
    · rw [if_neg hj]
theorem nxt_recWm (b c more : List UInt8) (hc : c.length = b.length) (h0 : 0 < b.length) (h1 : b.length ≤ 65536) : nxt (recW b c ++ more) = if chk (b4 b.length ++ c) = chk (b4 b.length ++ b) then (c, 8 + b.length, 0) else ([], 0, 2) := by
  have e1 : recW b c ++ more = UInt8.ofNat (b.length / 16777216) :: UInt8.ofNat (b.length / 65536) :: UInt8.ofNat (b.length / 256) :: UInt8.ofNat b.length ::
    UInt8.ofNat ((chk (b4 b.length ++ b)).toNat / 16777216) :: UInt8.ofNat ((chk (b4 b.length ++ b)).toNat / 65536) :: UInt8.ofNat ((chk (b4 b.length ++ b)).toNat / 256) :: UInt8.ofNat (chk (b4 b.length ++ b)).toNat :: (c ++ more) := by
    simp [recW, b4]
  rw [e1, nxt_eq]
  rw [n4_b4 b.length (by omega), n4_b4 (chk (b4 b.length ++ b)).toNat (by have := (chk (b4 b.length ++ b)).isLt; omega)]
  rw [if_neg (by omega), if_neg (by rw [List.length_append]; omega), List.take_left' hc]
  show (if (chk (b4 b.length ++ c)).toNat = _ then _ else _) = _
  by_cases h : chk (b4 b.length ++ c) = chk (b4 b.length ++ b)
  · rw [if_pos h, if_pos (by rw [h])]
  · rw [if_neg h, if_neg (fun e => h (BitVec.eq_of_toNat_eq e))]
/-- Records, of one of which the bytes are others. -/
def spoR (p : List (List UInt8)) (b c : List UInt8) (q : List (List UInt8)) : List UInt8 := recL p ++ (recW b c ++ recL q)
theorem spoR_len (p : List (List UInt8)) (b c : List UInt8) (q : List (List UInt8)) : (spoR p b c q).length = (recL p).length + (8 + c.length + (recL q).length) := by
  unfold spoR
  rw [List.length_append, List.length_append, recW_len]
  omega
theorem spoR_set (p : List (List UInt8)) (b c : List UInt8) (q : List (List UInt8)) (j : Nat) (v : UInt8) (hj : j < c.length) : (spoR p b c q).set ((recL p).length + 8 + j) v = spoR p b (c.set j v) q ∧ (spoR p b c q).getD ((recL p).length + 8 + j) 0 = c.getD j 0 := by
  have e : ∀ x, spoR p b x q = (recL p ++ (b4 b.length ++ b4 (chk (b4 b.length ++ b)).toNat)) ++ (x ++ recL q) := fun x => by simp [spoR, recW]
  have hl : (recL p ++ (b4 b.length ++ b4 (chk (b4 b.length ++ b)).toNat)).length = (recL p).length + 8 := by simp [b4_len]
  refine ⟨?_, ?_⟩
  · rw [e, e, List.set_append_right _ _ (by omega), hl, show (recL p).length + 8 + j - ((recL p).length + 8) = j by omega, List.set_append_left _ _ hj]
  · rw [e, List.getD_eq_getElem?_getD, List.getD_eq_getElem?_getD, List.getElem?_append_right (by omega), hl, show (recL p).length + 8 + j - ((recL p).length + 8) = j by omega, List.getElem?_append_left hj]
theorem spoR_same (p : List (List UInt8)) (b : List UInt8) (q : List (List UInt8)) : spoR p b b q = recL (p ++ b :: q) := by
  rw [recL_app, recL_cons]
  unfold spoR
  congr 1
theorem spoR_bad (p : List (List UInt8)) (b c : List UInt8) (r : List UInt8) (q : List (List UInt8)) (hp : ∀ x ∈ p, 0 < x.length ∧ x.length ≤ 65536) (hc : c.length = b.length) (h0 : 0 < b.length) (h1 : b.length ≤ 65536) (r0 : 0 < r.length) (r1 : r.length ≤ 65536) (h : crc (crc 0#32 (b4 b.length)) c ≠ crc (crc 0#32 (b4 b.length)) b) :
    recsB (spoR p b c (r :: q)) = (p, (recL p).length) ∧ spoB ((spoR p b c (r :: q)).drop (recL p).length) = true := by
  have hk : ¬ chk (b4 b.length ++ c) = chk (b4 b.length ++ b) := by
    intro e
    apply h
    rw [← chk_eq, ← chk_eq, crc_append, crc_append] at e
    exact e
  have hn := nxt_recWm b c (recL (r :: q)) hc h0 h1
  rw [if_neg hk] at hn
  refine ⟨?_, ?_⟩
  · unfold spoR
    rw [recsB_app p _ hp, recsB_stop (by rw [hn]; decide)]
    simp
  · unfold spoR
    rw [List.drop_left]
    refine spoB_in (recW b c).length (by rw [List.length_append, recL_cons, List.length_append, rec_len]; omega) ?_ (by rw [hn])
    rw [List.drop_left, recL_cons, nxt_rec r (recL q) r0 r1]
end Go.WL.T5
