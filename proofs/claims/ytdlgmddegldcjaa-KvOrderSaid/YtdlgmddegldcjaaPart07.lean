/- Pairs: what the program checks and finds. No condition. -/
import Derived.Test.YtdlgmddegldcjaaPart06
set_option linter.unusedVariables false
set_option linter.unusedSimpArgs false
namespace Go.WL.T5
open Go.WL Go.Proofs
set_option maxRecDepth 20000
set_option maxHeartbeats 8000000
theorem mayPN_no {l : List Pr} {i : Nat} (hi : i ≤ l.length) (h : mayPN okKey l i = false) : mayP okKey l = false := by
  unfold mayP
  cases k : mayPN okKey l l.length with
  | false => simp
  | true => rw [mayPN_le okKey l _ _ hi k] at h; cases h
theorem pstep0 {l : List Pr} (h : 0 < l.length) : mayPN okKey l 1 = mayP1 okKey l[0] := by
  rw [mayPN, mayPN, List.getElem?_eq_getElem h]
  simp
theorem pstepS {l : List Pr} {m : Nat} (h : m + 1 < l.length) (ha : mayPN okKey l (m + 1) = true) : mayPN okKey l (m + 1 + 1) = (mayP1 okKey l[m + 1] && slt l[m].key l[m + 1].key) := by
  rw [mayPN, ha, List.getElem?_eq_getElem h, Bool.true_and]
  dsimp only
  rw [List.getElem?_eq_getElem (by omega : m < l.length)]
theorem c_kcheck (l : List Pr) (hl : l.length < 4294967296) : FnOK Try.prog D 50 [(AV.sl (.nd [.lf, .lf]) (prA (l)) .ro)] [] (fun r st => r = (AV.sc (.int .i64 (if mayP okKey l = true then 0 else 1))) ∧ st = []) := by
  have hll := lenPr l
  by_cases h100 : l.length ≤ 100
  rotate_left
  · have e : mayP okKey l = false := by unfold mayP; rw [decide_eq_false h100]; rfl
    rw [e]
    refine fnok_of_W hmix tabOK Try.func50 rfl rfl (Nat.le_of_ble_eq_true rfl) ?_
    conv => whnf
    rw [hll, decide_eq_true (show (l.length : Int) > 100 by omega)]
    conv => whnf
    refine ⟨false, [], ?_⟩
    conv => whnf
    exact ⟨rfl, rfl⟩
  refine fnok_of_W hmix tabOK Try.func50 rfl rfl (Nat.le_of_ble_eq_true rfl) ?_
  conv => whnf
  rw [hll, decide_eq_false (show ¬ (l.length : Int) > 100 by omega)]
  conv => whnf
  rw [hll]
  refine ⟨false, [0, 8, 9, 10], fun τ => ∃ i : Nat, i ≤ l.length ∧ mayPN okKey l i = true ∧ τ = ⟨41, [(0, (AV.sl (.nd [.lf, .lf]) (prA (l)) .ro)), (8, (AV.sl (.nd [.lf, .lf]) (prA (l)) .ro)), (9, (AV.sc (.int .i64 ((l.length : Int))))), (10, (AV.sc (.int .i64 ((i : Int)))))], ⟨[], [], 0⟩⟩, fun τ => l.length - (slotI τ 10).toNat, ?_, ?_⟩
  · conv => whnf
    exact ⟨0, by omega, rfl, rfl⟩
  rintro τ ⟨i, hi, ha, rfl⟩
  conv => whnf
  refine Branch.of (fun h1 => ?_) (fun h1 => ?_) <;> rw [h1] <;> conv => whnf
  · simp only [decide_eq_true_eq] at h1
    have hil : i < l.length := by omega
    have hno : mayPN okKey l (i + 1) = false → mayP okKey l = false := mayPN_no (by omega)
    have no : mayP1 okKey l[i] = false → mayP okKey l = false := fun h => hno (by
      cases i with
      | zero => rw [pstep0 hil, h]
      | succ m => rw [pstepS hil ha, h]; rfl)
    repeat (refine And.intro (by first | omega) ?_; conv => whnf)
    refine ⟨_, atPr hil, ?_⟩
    conv => whnf
    refine ⟨tabF50R6, by decide +kernel, ?_⟩
    conv => whnf
    refine ⟨_, _, c_kright _, ?_⟩
    conv => whnf
    cases hA : okKey l[i].key
    · conv => whnf
      refine ⟨false, [], ?_⟩
      conv => whnf
      refine ⟨?_, rfl⟩
      rw [no (by unfold mayP1; rw [hA]; rfl)]
      rfl
    conv => whnf
    rw [strB_size]
    cases hB : decide ((l[i].val.length : Int) > 40)
    rotate_left
    · conv => whnf
      refine ⟨false, [], ?_⟩
      conv => whnf
      refine ⟨?_, rfl⟩
      simp only [gt_iff_lt, decide_eq_true_eq] at hB
      rw [no (by unfold mayP1; rw [decide_eq_false (show ¬ l[i].val.length ≤ 40 by omega)]; simp)]
      rfl
    simp only [gt_iff_lt, decide_eq_false_iff_not] at hB
    have hY : mayP1 okKey l[i] = true := by unfold mayP1; rw [hA, decide_eq_true (show l[i].val.length ≤ 40 by omega)]; rfl
    conv => whnf
    by_cases h0 : i = 0
    · subst h0
      rw [show decide (((0 : Nat) : Int) > 0) = false by decide]
      conv => whnf
      rw [w64 (x := ((0 : Nat) : Int) + 1) (by omega) (by omega)]
      refine ⟨⟨0 + 1, by omega, by rw [pstep0 hil, hY], rfl⟩, ?_⟩
      show l.length - (((0 : Nat) : Int) + 1).toNat < l.length - ((0 : Nat) : Int).toNat
      omega
    · rw [decide_eq_true (show (i : Int) > 0 by omega)]
      obtain ⟨m, rfl⟩ : ∃ m, i = m + 1 := ⟨i - 1, by omega⟩
      conv => whnf
      rw [show IntKind.i64.wrap (((m + 1 : Nat) : Int) - 1) = (m : Int) by rw [show ((m + 1 : Nat) : Int) - 1 = (m : Int) by omega, w64 (by omega) (by omega)]]
      repeat (refine And.intro (by first | omega) ?_; conv => whnf)
      refine ⟨_, atPr (show m < l.length by omega), ?_⟩
      conv => whnf
      rw [strB_list, strB_list]
      cases hP : Op.bytesLess l[m].key l[m + 1].key
      · conv => whnf
        refine ⟨false, [], ?_⟩
        conv => whnf
        refine ⟨?_, rfl⟩
        rw [hno (by rw [pstepS hil ha, hY, Bool.true_and]; exact hP)]
        rfl
      · conv => whnf
        rw [w64 (x := ((m + 1 : Nat) : Int) + 1) (by omega) (by omega)]
        refine ⟨⟨m + 1 + 1, by omega, by rw [pstepS hil ha, hY, Bool.true_and]; exact hP, rfl⟩, ?_⟩
        show l.length - (((m + 1 : Nat) : Int) + 1).toNat < l.length - ((m + 1 : Nat) : Int).toNat
        omega
  · simp only [decide_eq_false_iff_not] at h1
    have e : i = l.length := by omega
    subst e
    refine ⟨false, [], ?_⟩
    conv => whnf
    refine ⟨?_, rfl⟩
    rw [show mayP okKey l = true by unfold mayP; rw [ha, decide_eq_true h100]; rfl]
    rfl
theorem c_kcheck1 {l : List Pr} (h : mayP okKey l = true) : FnOK Try.prog D 50 [(AV.sl (.nd [.lf, .lf]) (prA (l)) .ro)] [] (fun r st => r = (AV.sc (.int .i64 (0))) ∧ st = []) :=
  (c_kcheck l (by have := ((mayP_iff _ _).1 h).1; omega)).mono fun r st ⟨h1, h2⟩ => ⟨by rw [h1, if_pos h], h2⟩
theorem c_kcheck0 {l : List Pr} (h : mayP okKey l = false) (hl : l.length < 4294967296) : FnOK Try.prog D 50 [(AV.sl (.nd [.lf, .lf]) (prA (l)) .ro)] [] (fun r st => r = (AV.sc (.int .i64 (1))) ∧ st = []) :=
  (c_kcheck l hl).mono fun r st ⟨h1, h2⟩ => ⟨by rw [h1, h]; rfl, h2⟩
theorem c_kfind (l : List Pr) (k : List UInt8) (hs : srtP l) (hl : l.length < 4294967296) : FnOK Try.prog D 88 [(AV.sl (.nd [.lf, .lf]) (prA (l)) .ro), (AV.sc (.string (strB (k))))] [] (fun r st => r = .tup [(AV.sc (.int .i64 ((lo Pr.key slt l k : Int)))), (AV.sc (.bool ((getL Pr.key l k).isSome)))] ∧ st = []) := by
  refine fnok_of_W hmix tabOK Try.func88 rfl rfl (Nat.le_of_ble_eq_true rfl) ?_
  conv => whnf
  refine (c_binPair l k hs hl).mono fun r st e => ?_
  obtain ⟨rfl, rfl⟩ := e
  conv => whnf
  refine ⟨false, [], ?_⟩
  conv => whnf
  exact ⟨rfl, rfl⟩
def kvGet (l : List Pr) (k : List UInt8) : List UInt8 × Bool := if mayP okKey l = true then (match getL Pr.key l k with | none => ([], false) | some x => (x.val, true)) else ([], false)
theorem c_kget (l : List Pr) (k : List UInt8) (hl : l.length < 4294967296) : FnOK Try.prog D 48 [(AV.sl (.nd [.lf, .lf]) (prA (l)) .ro), (AV.sc (.string (strB (k))))] [] (fun r st => r = .tup [(AV.sc (.string (strB ((kvGet l k).1)))), (AV.sc (.bool ((kvGet l k).2)))] ∧ st = []) := by
  cases hm : mayP okKey l with
  | false =>
    have e : kvGet l k = ([], false) := by unfold kvGet; rw [hm]; rfl
    rw [e]
    refine fnok_of_W hmix tabOK Try.func48 rfl rfl (Nat.le_of_ble_eq_true rfl) ?_
    conv => whnf
    refine (c_kcheck0 hm hl).mono fun r st e => ?_
    obtain ⟨rfl, rfl⟩ := e
    conv => whnf
    refine ⟨false, [], ?_⟩
    conv => whnf
    exact ⟨rfl, rfl⟩
  | true =>
    have hs := ((mayP_iff _ _).1 hm).2.2
    cases hg : getL Pr.key l k with
    | none =>
      have e : kvGet l k = ([], false) := by unfold kvGet; rw [hm, if_pos rfl, hg]
      rw [e]
      have cf := c_kfind l k hs hl
      rw [hg] at cf
      refine fnok_of_W hmix tabOK Try.func48 rfl rfl (Nat.le_of_ble_eq_true rfl) ?_
      conv => whnf
      refine (c_kcheck1 hm).mono fun r st e => ?_
      obtain ⟨rfl, rfl⟩ := e
      conv => whnf
      refine (cf).mono fun r st e => ?_
      obtain ⟨rfl, rfl⟩ := e
      conv => whnf
      refine ⟨false, [], ?_⟩
      conv => whnf
      exact ⟨rfl, rfl⟩
    | some x =>
      have e : kvGet l k = (x.val, true) := by unfold kvGet; rw [hm, if_pos rfl, hg]
      rw [e]
      have cf := c_kfind l k hs hl
      rw [hg] at cf
      have ha := at_get sLin k hs hg
      refine fnok_of_W hmix tabOK Try.func48 rfl rfl (Nat.le_of_ble_eq_true rfl) ?_
      conv => whnf
      refine (c_kcheck1 hm).mono fun r st e => ?_
      obtain ⟨rfl, rfl⟩ := e
      conv => whnf
      refine (cf).mono fun r st e => ?_
      obtain ⟨rfl, rfl⟩ := e
      conv => whnf
      repeat (refine And.intro (by first | omega) ?_; conv => whnf)
      refine ⟨_, show (prA l)[((lo Pr.key slt l k : Nat) : Int).toNat]? = some (AV.st [.sc (.string (strB (x).key)), .sc (.string (strB (x).val))]) by rw [Int.toNat_natCast]; simp [prA, ha], ?_⟩
      conv => whnf
      refine ⟨false, [], ?_⟩
      conv => whnf
      exact ⟨rfl, rfl⟩
end Go.WL.T5
