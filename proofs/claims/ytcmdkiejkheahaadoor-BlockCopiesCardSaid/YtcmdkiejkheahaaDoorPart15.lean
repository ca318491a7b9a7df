/- What the program's reader reads is what the reference's does. No condition. -/
import Derived.Test.YtcmdkiejkheahaaDoorPart14
set_option linter.unusedVariables false
set_option linter.unusedSimpArgs false
namespace Go.WL.T6d
open Go.WL Go.Proofs
set_option maxRecDepth 20000
set_option maxHeartbeats 4000000
def part (l : List UInt8) (i : Nat) : List UInt8 := l.take i ++ List.replicate (32 - i) 0
theorem part_len (l : List UInt8) (i : Nat) (h : 32 ≤ l.length) (hi : i ≤ 32) : (part l i).length = 32 := by simp [part]; omega
theorem part_set (l : List UInt8) (i : Nat) (h : i < l.length) (hi : i < 32) : (by8 (part l i)).set i ((AV.sc (.int .u8 ((l[i].toNat : Int))))) = by8 (part l (i + 1)) := by
  have e : (part l i).set i l[i] = part l (i + 1) := by
    unfold part
    rw [List.take_succ_eq_append_getElem h, List.append_assoc]
    have h1 : (l.take i).length = i := by simp; omega
    rw [List.set_append_right _ _ (by omega), h1, Nat.sub_self]
    congr 1
    rw [show 32 - i = (32 - (i + 1)) + 1 by omega, List.replicate_succ]
    rfl
  rw [← e]
  simp [by8]
theorem c_readhash (B : List UInt8) (at_ : Nat) (w : Bool) (hB : B.length < 4000000000) (hat : at_ ≤ B.length) : FnOK Tryd.prog D 82 [.st [(AV.sl .lf (by8 (B)) .ro), (AV.sc (.int .i64 ((at_ : Int)))), (AV.sc (.bool (w)))]] [] (fun r st => r = .tup [.st [(AV.sl .lf (by8 (B)) .ro), (AV.sc (.int .i64 (((fhash B at_ w).2.1 : Int)))), (AV.sc (.bool ((fhash B at_ w).2.2)))], .ar 32 .lf (by8 (fhash B at_ w).1)] ∧ st = []) := by
  cases w with
  | true =>
    rw [show fhash B at_ true = (List.replicate 32 0, at_, true) from if_pos (.inl rfl)]
    refine fnok_of_W hmix tabOK Tryd.func82 rfl rfl (Nat.le_of_ble_eq_true rfl) ?_
    conv => whnf
    refine ⟨tabF82R4, by decide +kernel, ?_⟩
    conv => whnf
    refine ⟨false, [], ?_⟩
    conv => whnf
    exact ⟨rfl, rfl⟩
  | false =>
    have hf : fhash B at_ false = if B.length - at_ < 32 then (List.replicate 32 0, at_, true) else ((B.drop at_).take 32, at_ + 32, false) := by
      unfold fhash
      simp
    rw [hf]
    refine fnok_of_W hmix tabOK Tryd.func82 rfl rfl (Nat.le_of_ble_eq_true rfl) ?_
    conv => whnf
    rw [len8, w64 (x := ((B.length : Nat) : Int) - ((at_ : Nat) : Int)) (by omega) (by omega)]
    refine Branch.of (fun h => ?_) (fun h => ?_) <;> rw [h] <;> conv => whnf
    · simp only [decide_eq_true_eq] at h
      rw [if_pos (by omega)]
      refine ⟨tabF82R4, by decide +kernel, ?_⟩
      conv => whnf
      refine ⟨false, [], ?_⟩
      conv => whnf
      exact ⟨rfl, rfl⟩
    simp only [decide_eq_false_iff_not] at h
    rw [if_neg (by omega)]
    generalize hl : B.drop at_ = l
    have hll : l.length = B.length - at_ := by rw [← hl]; simp
    have hget : ∀ (i : Nat) (hi : i < l.length), (by8 B)[((at_ + i : Nat) : Int).toNat]? = some ((AV.sc (.int .u8 ((l[i].toNat : Int))))) := by
      intro i hi
      have h1 : at_ + i < B.length := by omega
      rw [at8 h1]
      congr 4
      simp [← hl]
    refine ⟨false, [1, 2, 3, 4, 5], fun τ => ∃ i : Nat, i ≤ 32 ∧ τ = ⟨41, [(1, .pt 0 []), (2, .pt 1 []), (3, .pt 2 []), (4, .pt 3 []), (5, (AV.sc (.int .i64 ((i : Int)))))], ⟨[(.st [(AV.sl .lf (by8 (B)) .ro), (AV.sc (.int .i64 ((at_ : Int)))), (AV.sc (.bool (false)))], false), (.st [.sl .lf [] .ex, (AV.sc (.int .i64 (0))), (AV.sc (.bool (false)))], false), (.ar 32 .lf (List.replicate 32 ((AV.sc (.int .u8 (0))))), false), (.ar 32 .lf (by8 (part l i)), false)], [], 0⟩⟩, fun τ => 32 - (slotI τ 5).toNat, ?_, ?_⟩
    · conv => whnf
      exact ⟨0, by omega, rfl⟩
    · rintro τ ⟨i, i1, rfl⟩
      have wat : i < 32 → IntKind.i64.wrap (((at_ : Nat) : Int) + ((i : Nat) : Int)) = ((at_ + i : Nat) : Int) := by intro _; rw [w64 (by omega) (by omega)]; omega
      conv => whnf
      refine Branch.of (fun h2 => ?_) (fun h2 => ?_) <;> rw [h2] <;> conv => whnf
      · simp only [decide_eq_true_eq] at h2
        have hi : i < l.length := by omega
        have hgi := hget i hi
        have hps := part_set l i hi (by omega)
        have hpl := part_len l i (by omega) (by omega)
        rw [wat (by omega)]
        refine ⟨by omega, _, hgi, ?_⟩
        generalize l[i] = c at hgi hps
        conv => whnf
        refine ⟨by omega, by omega, ?_⟩
        conv => whnf
        have hold : (by8 (part l i))[((i : Nat) : Int).toNat]? = some ((AV.sc (.int .u8 (((part l i)[i]'(by omega)).toNat : Int)))) := at8 (by omega)
        refine ⟨_, hold, ?_⟩
        conv => whnf
        rw [Int.toNat_natCast, hps, w64 (x := (i : Int) + 1) (by omega) (by omega)]
        refine ⟨⟨i + 1, by omega, rfl⟩, ?_⟩
        show 32 - ((i : Int) + 1).toNat < 32 - (i : Int).toNat
        omega
      · simp only [decide_eq_false_iff_not] at h2
        have e : i = 32 := by omega
        subst e
        rw [show part l 32 = l.take 32 by simp [part]]
        rw [w64 (x := ((at_ : Nat) : Int) + 32) (by omega) (by omega)]
        refine ⟨tabF82R10, by decide +kernel, ?_⟩
        conv => whnf
        refine ⟨false, [], ?_⟩
        conv => whnf
        refine ⟨?_, rfl⟩
        rw [show ((at_ : Nat) : Int) + 32 = ((at_ + 32 : Nat) : Int) by omega]
end Go.WL.T6d
namespace Go.WL.T6d
open Go.WL Go.Proofs
set_option maxRecDepth 20000
set_option maxHeartbeats 8000000
theorem fupto_rupto (B : List UInt8) (at_ : Nat) (w : Bool) (top : Int) : rupto (B.drop at_) w top = ((fupto B at_ w top).1, B.drop (fupto B at_ w top).2.1, (fupto B at_ w top).2.2) := by
  unfold rupto fupto
  cases w with
  | true =>
    have : (fnum B at_ true).2.2 = true := by unfold fnum; simp
    simp [this]
  | false =>
    rw [fnum_rnum B at_ false]
    simp only [Bool.false_eq_true, false_or]
    split
    · rfl
    · rfl
theorem ftext_rtext (B : List UInt8) (at_ : Nat) (w : Bool) : rtext (B.drop at_) w = ((ftext B at_ w).1, B.drop (ftext B at_ w).2.1, (ftext B at_ w).2.2) := by
  unfold rtext ftext
  cases w with
  | true =>
    have : (fupto B at_ true 65536).2.2 = true := by
      have h : (fnum B at_ true).2.2 = true := by unfold fnum; simp
      unfold fupto
      simp [h]
    simp [this]
  | false =>
    rw [fupto_rupto B at_ false]
    simp only [Bool.false_eq_true, false_or, List.length_drop]
    split
    · rfl
    · simp [List.drop_drop]
theorem fhash_rhash (B : List UInt8) (at_ : Nat) (w : Bool) : rhash (B.drop at_) w = ((fhash B at_ w).1, B.drop (fhash B at_ w).2.1, (fhash B at_ w).2.2) := by
  unfold rhash fhash
  simp only [List.length_drop]
  split
  · rfl
  · simp [List.drop_drop]
theorem ftext_at (B : List UInt8) (at_ : Nat) (w : Bool) (h : at_ ≤ B.length) : (ftext B at_ w).2.1 ≤ B.length := by
  have := fupto_at B at_ w 65536 h
  unfold ftext
  split
  · exact h
  · rename_i c
    show _ + _ ≤ _
    omega
theorem fhash_at (B : List UInt8) (at_ : Nat) (w : Bool) (h : at_ ≤ B.length) : (fhash B at_ w).2.1 ≤ B.length := by
  unfold fhash
  split
  · exact h
  · rename_i c
    show _ + _ ≤ _
    omega
theorem ftext_len (B : List UInt8) (at_ : Nat) (w : Bool) : (ftext B at_ w).1.length ≤ B.length := by
  unfold ftext
  split
  · simp
  · simp; omega
theorem empty_at (B : List UInt8) (a : Nat) (h : a ≤ B.length) : (B.drop a).isEmpty = (((a : Nat) : Int) == ((B.length : Nat) : Int)) := by
  by_cases e : a = B.length
  · subst e; simp
  · have h1 : (((a : Nat) : Int) == ((B.length : Nat) : Int)) = false := by simp; omega
    rw [h1]
    cases hd : B.drop a with
    | nil =>
      have := congrArg List.length hd
      simp at this
      omega
    | cons x l => rfl
end Go.WL.T6d
