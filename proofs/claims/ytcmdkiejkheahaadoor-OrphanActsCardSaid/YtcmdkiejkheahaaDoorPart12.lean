/- The reference reads hashes. No condition. -/
import Derived.Test.YtcmdkiejkheahaaDoorPart11
set_option linter.unusedVariables false
set_option linter.unusedSimpArgs false
namespace Go.WL.T6d
open Go.WL Go.Proofs
set_option maxRecDepth 20000
set_option maxHeartbeats 4000000
def fupto (B : List UInt8) (at_ : Nat) (w : Bool) (top : Int) : Nat × Nat × Bool :=
  if (fnum B at_ w).2.2 = true ∨ top < 0 ∨ ((fnum B at_ w).1 : Int) > top then (0, at_, true) else fnum B at_ w
def ftext (B : List UInt8) (at_ : Nat) (w : Bool) : List UInt8 × Nat × Bool :=
  if (fupto B at_ w 65536).2.2 = true ∨ (fupto B at_ w 65536).1 > B.length - (fupto B at_ w 65536).2.1 then ([], at_, true)
  else ((B.drop (fupto B at_ w 65536).2.1).take (fupto B at_ w 65536).1, (fupto B at_ w 65536).2.1 + (fupto B at_ w 65536).1, false)
def fhash (B : List UInt8) (at_ : Nat) (w : Bool) : List UInt8 × Nat × Bool :=
  if w = true ∨ B.length - at_ < 32 then (List.replicate 32 0, at_, true) else ((B.drop at_).take 32, at_ + 32, false)
theorem fnum_rnum (B : List UInt8) (at_ : Nat) (w : Bool) : rnum (B.drop at_) w = ((fnum B at_ w).1, B.drop (fnum B at_ w).2.1, (fnum B at_ w).2.2) := by
  unfold rnum fnum
  cases w with
  | true => simp
  | false =>
    by_cases h : (rdn (B.drop at_) 0 0).2 = 0
    · simp [h]
    · simp [h, List.drop_drop]
theorem fnum_at (B : List UInt8) (at_ : Nat) (w : Bool) (h : at_ ≤ B.length) : (fnum B at_ w).2.1 ≤ B.length := by
  unfold fnum
  split
  · exact h
  · have := rdn_size (B.drop at_) 0 0
    simp at this
    show at_ + _ ≤ _
    omega
theorem fnum_max (B : List UInt8) (at_ : Nat) (w : Bool) : (fnum B at_ w).1 < 18446744073709551616 := by
  have := rnum_max (B.drop at_) w
  rw [fnum_rnum] at this
  exact this
theorem c_readupto (B : List UInt8) (at_ : Nat) (w : Bool) (top : Int) (ht : -9223372036854775808 ≤ top ∧ top < 9223372036854775808) (hB : B.length < 4000000000) (hat : at_ ≤ B.length) : FnOK Tryd.prog D 83 [.st [(AV.sl .lf (by8 (B)) .ro), (AV.sc (.int .i64 ((at_ : Int)))), (AV.sc (.bool (w)))], (AV.sc (.int .i64 (top)))] [] (fun r st => r = .tup [.st [(AV.sl .lf (by8 (B)) .ro), (AV.sc (.int .i64 (((fupto B at_ w top).2.1 : Int)))), (AV.sc (.bool ((fupto B at_ w top).2.2)))], (AV.sc (.int .i64 (((fupto B at_ w top).1 : Int))))] ∧ st = []) := by
  have hm := fnum_max B at_ w
  have c1 := c_readnum B at_ w hB hat
  have hf : fupto B at_ w top = if (fnum B at_ w).2.2 = true ∨ top < 0 ∨ ((fnum B at_ w).1 : Int) > top then (0, at_, true) else fnum B at_ w := rfl
  rw [hf]
  generalize fnum B at_ w = x at hm c1
  obtain ⟨n, a', w'⟩ := x
  simp only at hm c1 ⊢
  refine fnok_of_W hmix tabOK Tryd.func83 rfl rfl (Nat.le_of_ble_eq_true rfl) ?_
  conv => whnf
  refine c1.mono fun r st e => ?_
  obtain ⟨rfl, rfl⟩ := e
  cases w' with
  | true =>
    rw [if_pos (.inl rfl)]
    conv => whnf
    refine ⟨false, [], ?_⟩
    conv => whnf
    exact ⟨rfl, rfl⟩
  | false =>
    conv => whnf
    refine Branch.of (fun h => ?_) (fun h => ?_) <;> rw [h] <;> conv => whnf
    · simp only [decide_eq_true_eq] at h
      rw [if_pos (.inr (.inl h))]
      refine ⟨false, [], ?_⟩
      conv => whnf
      exact ⟨rfl, rfl⟩
    simp only [decide_eq_false_iff_not] at h
    rw [wu64 (x := top) (by omega) (by omega)]
    refine Branch.of (fun h2 => ?_) (fun h2 => ?_) <;> rw [h2] <;> conv => whnf
    · simp only [gt_iff_lt, decide_eq_true_eq] at h2
      rw [if_pos (.inr (.inr h2))]
      refine ⟨false, [], ?_⟩
      conv => whnf
      exact ⟨rfl, rfl⟩
    simp only [gt_iff_lt, decide_eq_false_iff_not] at h2
    rw [if_neg (by simp; omega), w64 (x := ((n : Nat) : Int)) (by omega) (by omega)]
    refine ⟨false, [], ?_⟩
    conv => whnf
    exact ⟨rfl, rfl⟩
theorem fupto_at (B : List UInt8) (at_ : Nat) (w : Bool) (top : Int) (h : at_ ≤ B.length) : (fupto B at_ w top).2.1 ≤ B.length := by
  unfold fupto
  split
  · exact h
  · exact fnum_at B at_ w h
theorem fupto_le (B : List UInt8) (at_ : Nat) (w : Bool) (top : Int) (h : 0 ≤ top) : ((fupto B at_ w top).1 : Int) ≤ top := by
  unfold fupto
  split
  · simpa using h
  · rename_i c
    omega
theorem c_readtext (B : List UInt8) (at_ : Nat) (w : Bool) (hB : B.length < 4000000000) (hat : at_ ≤ B.length) : FnOK Tryd.prog D 116 [.st [(AV.sl .lf (by8 (B)) .ro), (AV.sc (.int .i64 ((at_ : Int)))), (AV.sc (.bool (w)))]] [] (fun r st => r = .tup [.st [(AV.sl .lf (by8 (B)) .ro), (AV.sc (.int .i64 (((ftext B at_ w).2.1 : Int)))), (AV.sc (.bool ((ftext B at_ w).2.2)))], (AV.sl .lf (by8 ((ftext B at_ w).1)) (.own 0))] ∧ st = []) := by
  have hm := fupto_le B at_ w 65536 (by decide)
  have ha := fupto_at B at_ w 65536 hat
  have c1 := c_readupto B at_ w 65536 (by decide) hB hat
  have hf : ftext B at_ w = if (fupto B at_ w 65536).2.2 = true ∨ (fupto B at_ w 65536).1 > B.length - (fupto B at_ w 65536).2.1 then ([], at_, true)
    else ((B.drop (fupto B at_ w 65536).2.1).take (fupto B at_ w 65536).1, (fupto B at_ w 65536).2.1 + (fupto B at_ w 65536).1, false) := rfl
  rw [hf]
  generalize fupto B at_ w 65536 = x at hm ha c1
  obtain ⟨n, a', w'⟩ := x
  simp only at hm ha c1 ⊢
  refine fnok_of_W hmix tabOK Tryd.func116 rfl rfl (Nat.le_of_ble_eq_true rfl) ?_
  conv => whnf
  refine c1.mono fun r st e => ?_
  obtain ⟨rfl, rfl⟩ := e
  cases w' with
  | true =>
    rw [if_pos (.inl rfl)]
    conv => whnf
    refine ⟨true, [], ?_⟩
    conv => whnf
    exact ⟨rfl, rfl⟩
  | false =>
    conv => whnf
    rw [len8, w64 (x := ((B.length : Nat) : Int) - ((a' : Nat) : Int)) (by omega) (by omega)]
    refine Branch.of (fun h => ?_) (fun h => ?_) <;> rw [h] <;> conv => whnf
    · simp only [gt_iff_lt, decide_eq_true_eq] at h
      rw [if_pos (.inr (by omega))]
      refine ⟨true, [], ?_⟩
      conv => whnf
      exact ⟨rfl, rfl⟩
    simp only [gt_iff_lt, decide_eq_false_iff_not] at h
    rw [if_neg (by simp; omega), w64 (x := ((a' : Nat) : Int) + ((n : Nat) : Int)) (by omega) (by omega)]
    refine ⟨by omega, ?_⟩
    conv => whnf
    refine ⟨by omega, ?_⟩
    conv => whnf
    refine ⟨by omega, by rw [len8]; omega, ?_⟩
    conv => whnf
    have hsl : List.take ((((a' : Nat) : Int) + ((n : Nat) : Int)).toNat - ((a' : Nat) : Int).toNat) (List.drop ((a' : Nat) : Int).toNat (by8 B)) = by8 ((B.drop a').take n) := by
      rw [show (((a' : Nat) : Int) + ((n : Nat) : Int)).toNat - ((a' : Nat) : Int).toNat = n by omega, Int.toNat_natCast]
      simp [by8]
    rw [hsl]
    refine ⟨by rw [len8]; simp; omega, ?_⟩
    conv => whnf
    rw [show List.replicate 0 (AV.sc (.int .u8 0)) ++ by8 ((B.drop a').take n) = by8 ((B.drop a').take n) from List.nil_append _, w64 (x := ((a' : Nat) : Int) + ((n : Nat) : Int)) (by omega) (by omega)]
    refine ⟨false, [], ?_⟩
    conv => whnf
    refine ⟨?_, rfl⟩
    rw [Int.natCast_add]
end Go.WL.T6d
namespace Go.WL.T6d
open Go.WL Go.Proofs
set_option maxRecDepth 20000
set_option maxHeartbeats 4000000
def part (l : List UInt8) (i : Nat) : List UInt8 := l.take i ++ List.replicate (32 - i) 0
theorem part_len (l : List UInt8) (i : Nat) (h : 32 ≤ l.length) (hi : i ≤ 32) : (part l i).length = 32 := by simp [part]; omega
theorem part_set (l : List UInt8) (i : Nat) (h : i < l.length) (hi : i < 32) : (by8 (part l i)).set i ((AV.sc (.int .u8 ((l[i].toNat : Int))))) = by8 (part l (i + 1)) := by
  have e : (part l i).set i l[i] = part l (i + 1) := by
    unfold part
    rw [List.take_succ_eq_append_getElem h, List.append_assoc]
    have h1 : (l.take i).length = i := by simp; omega
    rw [List.set_append_right _ _ (by omega), h1, Nat.sub_self]
    congr 1
    rw [show 32 - i = (32 - (i + 1)) + 1 by omega, List.replicate_succ]
    rfl
  rw [← e]
  simp [by8]
theorem c_readhash (B : List UInt8) (at_ : Nat) (w : Bool) (hB : B.length < 4000000000) (hat : at_ ≤ B.length) : FnOK Tryd.prog D 82 [.st [(AV.sl .lf (by8 (B)) .ro), (AV.sc (.int .i64 ((at_ : Int)))), (AV.sc (.bool (w)))]] [] (fun r st => r = .tup [.st [(AV.sl .lf (by8 (B)) .ro), (AV.sc (.int .i64 (((fhash B at_ w).2.1 : Int)))), (AV.sc (.bool ((fhash B at_ w).2.2)))], .ar 32 .lf (by8 (fhash B at_ w).1)] ∧ st = []) := by
  cases w with
  | true =>
    rw [show fhash B at_ true = (List.replicate 32 0, at_, true) from if_pos (.inl rfl)]
    refine fnok_of_W hmix tabOK Tryd.func82 rfl rfl (Nat.le_of_ble_eq_true rfl) ?_
    conv => whnf
    refine ⟨tabF82R4, by decide +kernel, ?_⟩
    conv => whnf
    refine ⟨false, [], ?_⟩
    conv => whnf
    exact ⟨rfl, rfl⟩
  | false =>
    have hf : fhash B at_ false = if B.length - at_ < 32 then (List.replicate 32 0, at_, true) else ((B.drop at_).take 32, at_ + 32, false) := by
      unfold fhash
      simp
    rw [hf]
    refine fnok_of_W hmix tabOK Tryd.func82 rfl rfl (Nat.le_of_ble_eq_true rfl) ?_
    conv => whnf
    rw [len8, w64 (x := ((B.length : Nat) : Int) - ((at_ : Nat) : Int)) (by omega) (by omega)]
    refine Branch.of (fun h => ?_) (fun h => ?_) <;> rw [h] <;> conv => whnf
    · simp only [decide_eq_true_eq] at h
      rw [if_pos (by omega)]
      refine ⟨tabF82R4, by decide +kernel, ?_⟩
      conv => whnf
      refine ⟨false, [], ?_⟩
      conv => whnf
      exact ⟨rfl, rfl⟩
    simp only [decide_eq_false_iff_not] at h
    rw [if_neg (by omega)]
    generalize hl : B.drop at_ = l
    have hll : l.length = B.length - at_ := by rw [← hl]; simp
    have hget : ∀ (i : Nat) (hi : i < l.length), (by8 B)[((at_ + i : Nat) : Int).toNat]? = some ((AV.sc (.int .u8 ((l[i].toNat : Int))))) := by
      intro i hi
      have h1 : at_ + i < B.length := by omega
      rw [at8 h1]
      congr 4
      simp [← hl]
    refine ⟨false, [1, 2, 3, 4, 5], fun τ => ∃ i : Nat, i ≤ 32 ∧ τ = ⟨41, [(1, .pt 0 []), (2, .pt 1 []), (3, .pt 2 []), (4, .pt 3 []), (5, (AV.sc (.int .i64 ((i : Int)))))], ⟨[(.st [(AV.sl .lf (by8 (B)) .ro), (AV.sc (.int .i64 ((at_ : Int)))), (AV.sc (.bool (false)))], false), (.st [.sl .lf [] .ex, (AV.sc (.int .i64 (0))), (AV.sc (.bool (false)))], false), (.ar 32 .lf (List.replicate 32 ((AV.sc (.int .u8 (0))))), false), (.ar 32 .lf (by8 (part l i)), false)], [], 0⟩⟩, fun τ => 32 - (slotI τ 5).toNat, ?_, ?_⟩
    · conv => whnf
      exact ⟨0, by omega, rfl⟩
    · rintro τ ⟨i, i1, rfl⟩
      have wat : i < 32 → IntKind.i64.wrap (((at_ : Nat) : Int) + ((i : Nat) : Int)) = ((at_ + i : Nat) : Int) := by intro _; rw [w64 (by omega) (by omega)]; omega
      conv => whnf
      refine Branch.of (fun h2 => ?_) (fun h2 => ?_) <;> rw [h2] <;> conv => whnf
      · simp only [decide_eq_true_eq] at h2
        have hi : i < l.length := by omega
        have hgi := hget i hi
        have hps := part_set l i hi (by omega)
        have hpl := part_len l i (by omega) (by omega)
        rw [wat (by omega)]
        refine ⟨by omega, _, hgi, ?_⟩
        generalize l[i] = c at hgi hps
        conv => whnf
        refine ⟨by omega, by omega, ?_⟩
        conv => whnf
        have hold : (by8 (part l i))[((i : Nat) : Int).toNat]? = some ((AV.sc (.int .u8 (((part l i)[i]'(by omega)).toNat : Int)))) := at8 (by omega)
        refine ⟨_, hold, ?_⟩
        conv => whnf
        rw [Int.toNat_natCast, hps, w64 (x := (i : Int) + 1) (by omega) (by omega)]
        refine ⟨⟨i + 1, by omega, rfl⟩, ?_⟩
        show 32 - ((i : Int) + 1).toNat < 32 - (i : Int).toNat
        omega
      · simp only [decide_eq_false_iff_not] at h2
        have e : i = 32 := by omega
        subst e
        rw [show part l 32 = l.take 32 by simp [part]]
        rw [w64 (x := ((at_ : Nat) : Int) + 32) (by omega) (by omega)]
        refine ⟨tabF82R10, by decide +kernel, ?_⟩
        conv => whnf
        refine ⟨false, [], ?_⟩
        conv => whnf
        refine ⟨?_, rfl⟩
        rw [show ((at_ : Nat) : Int) + 32 = ((at_ + 32 : Nat) : Int) by omega]
end Go.WL.T6d
