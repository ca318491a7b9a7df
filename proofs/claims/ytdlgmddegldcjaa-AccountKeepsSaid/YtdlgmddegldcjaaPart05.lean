/- Accounts: what the program checks, finds, puts. No condition. -/
import Derived.Test.YtdlgmddegldcjaaPart04
set_option linter.unusedVariables false
set_option linter.unusedSimpArgs false
namespace Go.WL.T5
open Go.WL Go.Proofs
set_option maxRecDepth 20000
set_option maxHeartbeats 8000000
theorem c_awithin (n lo hi : Int) : FnOK Try.prog D 95 [(AV.sc (.int .i64 (n))), (AV.sc (.int .i64 (lo))), (AV.sc (.int .i64 (hi)))] [] (fun r st => r = (AV.sc (.bool (decide (lo ≤ n ∧ n ≤ hi)))) ∧ st = []) := by
  refine fnok_of_W hmix tabOK Try.func95 rfl rfl (Nat.le_of_ble_eq_true rfl) ?_
  conv => whnf
  refine Branch.of (fun h => ?_) (fun h => ?_) <;> rw [h] <;> conv => whnf
  · simp only [ge_iff_le, decide_eq_true_eq] at h
    refine ⟨false, [], ?_⟩
    conv => whnf
    refine ⟨?_, rfl⟩
    congr 2
    simp [h]
  · simp only [ge_iff_le, decide_eq_false_iff_not] at h
    refine ⟨false, [], ?_⟩
    conv => whnf
    refine ⟨?_, rfl⟩
    congr 2
    simp [h]
theorem c_aid (n : Int) : FnOK Try.prog D 94 [(AV.sc (.int .i64 (n)))] [] (fun r st => r = (AV.sc (.bool (decide (1 ≤ n ∧ n ≤ 40)))) ∧ st = []) := by
  refine fnok_of_W hmix tabOK Try.func94 rfl rfl (Nat.le_of_ble_eq_true rfl) ?_
  conv => whnf
  refine (c_awithin n 1 40).mono fun r st e => ?_
  obtain ⟨rfl, rfl⟩ := e
  conv => whnf
  refine ⟨false, [], ?_⟩
  conv => whnf
  exact ⟨rfl, rfl⟩
theorem mayAN_no {l : List Ac} {i : Nat} (hi : i ≤ l.length) (h : mayAN l i = false) : mayA l = false := by
  unfold mayA
  cases k : mayAN l l.length with
  | false => rfl
  | true => rw [mayAN_le l _ _ hi k] at h; cases h
theorem may1_yes {x : Ac} (h1 : decide (1 ≤ x.id ∧ x.id ≤ 40) = true) (h2 : decide (0 ≤ x.n ∧ x.n ≤ 1099511627776) = true) (h3 : decide (0 ≤ x.b ∧ x.b ≤ 1125899906842624) = true) (h4 : ¬ (x.n = 0 ∧ x.b = 0)) : mayA1 x = true := by
  unfold mayA1
  rw [h1, h2, h3]
  simp only [Bool.true_and, Bool.not_eq_true', Bool.and_eq_false_iff, beq_eq_false_iff_ne, ne_eq]
  omega
theorem step0 {l : List Ac} (h : 0 < l.length) : mayAN l 1 = mayA1 l[0] := by
  rw [mayAN, mayAN, List.getElem?_eq_getElem h]
  simp
theorem stepS {l : List Ac} {m : Nat} (h : m + 1 < l.length) (ha : mayAN l (m + 1) = true) : mayAN l (m + 1 + 1) = (mayA1 l[m + 1] && decide (l[m].id < l[m + 1].id)) := by
  rw [mayAN, ha, List.getElem?_eq_getElem h, Bool.true_and]
  dsimp only
  rw [List.getElem?_eq_getElem (by omega : m < l.length)]
theorem atAcP {l : List Ac} {m : Nat} (h : m < l.length) (hl : l.length < 4294967296) : (accA l)[(IntKind.i64.wrap (((m + 1 : Nat) : Int) - 1)).toNat]? = some (AV.st [.sc (.int .i64 (l[m]).id), .sc (.int .i64 (l[m]).n), .sc (.int .i64 (l[m]).b)]) := by
  rw [show ((m + 1 : Nat) : Int) - 1 = (m : Int) by omega, w64 (x := (m : Int)) (by omega) (by omega)]
  exact atAc h
theorem c_acheck (l : List Ac) (hl : l.length < 4294967296) : FnOK Try.prog D 56 [(AV.sl (.nd [.lf, .lf, .lf]) (accA (l)) .ro)] [] (fun r st => r = (AV.sc (.int .i64 (if mayA l = true then 0 else 1))) ∧ st = []) := by
  have hll := lenAc l
  refine fnok_of_W hmix tabOK Try.func56 rfl rfl (Nat.le_of_ble_eq_true rfl) ?_
  conv => whnf
  rw [hll]
  refine ⟨false, [0, 5, 6, 7], fun τ => ∃ i : Nat, i ≤ l.length ∧ mayAN l i = true ∧ τ = ⟨54, [(0, (AV.sl (.nd [.lf, .lf, .lf]) (accA (l)) .ro)), (5, (AV.sl (.nd [.lf, .lf, .lf]) (accA (l)) .ro)), (6, (AV.sc (.int .i64 ((l.length : Int))))), (7, (AV.sc (.int .i64 ((i : Int)))))], ⟨[], [], 0⟩⟩, fun τ => l.length - (slotI τ 7).toNat, ?_, ?_⟩
  · conv => whnf
    exact ⟨0, by omega, rfl, rfl⟩
  rintro τ ⟨i, hi, ha, rfl⟩
  conv => whnf
  refine Branch.of (fun h1 => ?_) (fun h1 => ?_) <;> rw [h1] <;> conv => whnf
  · simp only [decide_eq_true_eq] at h1
    have hil : i < l.length := by omega
    have hno : mayAN l (i + 1) = false → mayA l = false := mayAN_no (by omega)
    repeat (refine And.intro (by first | omega) ?_; conv => whnf)
    refine ⟨_, atAc hil, ?_⟩
    conv => whnf
    refine ⟨tabF56R4, by decide +kernel, ?_⟩
    conv => whnf
    have no : mayA1 l[i] = false → mayA l = false := fun h => hno (by
      cases i with
      | zero => rw [step0 hil, h]
      | succ m => rw [stepS hil ha, h]; rfl)
    refine ⟨_, _, c_aid _, ?_⟩
    conv => whnf
    cases hA : decide (1 ≤ l[i].id ∧ l[i].id ≤ 40)
    · conv => whnf
      refine ⟨false, [], ?_⟩
      conv => whnf
      refine ⟨?_, rfl⟩
      rw [no (by unfold mayA1; rw [hA]; rfl)]
      rfl
    conv => whnf
    refine ⟨_, _, c_awithin _ _ _, ?_⟩
    conv => whnf
    cases hB : decide (0 ≤ l[i].n ∧ l[i].n ≤ 1099511627776)
    · conv => whnf
      refine ⟨false, [], ?_⟩
      conv => whnf
      refine ⟨?_, rfl⟩
      rw [no (by unfold mayA1; rw [hA, hB]; rfl)]
      rfl
    conv => whnf
    refine ⟨_, _, c_awithin _ _ _, ?_⟩
    conv => whnf
    cases hC : decide (0 ≤ l[i].b ∧ l[i].b ≤ 1125899906842624)
    · conv => whnf
      refine ⟨false, [], ?_⟩
      conv => whnf
      refine ⟨?_, rfl⟩
      rw [no (by unfold mayA1; rw [hA, hB, hC]; rfl)]
      rfl
    conv => whnf
    cases hN : (l[i].n == 0)
    · conv => whnf
      have hY : mayA1 l[i] = true := may1_yes hA hB hC (by simp only [beq_eq_false_iff_ne, ne_eq] at hN; omega)
      by_cases h0 : i = 0
      · subst h0
        rw [show decide (((0 : Nat) : Int) > 0) = false by decide]
        conv => whnf
        rw [w64 (x := ((0 : Nat) : Int) + 1) (by omega) (by omega)]
        refine ⟨⟨0 + 1, by omega, by rw [step0 hil, hY], rfl⟩, ?_⟩
        show l.length - (((0 : Nat) : Int) + 1).toNat < l.length - ((0 : Nat) : Int).toNat
        omega
      · rw [decide_eq_true (show (i : Int) > 0 by omega)]
        obtain ⟨m, rfl⟩ : ∃ m, i = m + 1 := ⟨i - 1, by omega⟩
        conv => whnf
        rw [show IntKind.i64.wrap (((m + 1 : Nat) : Int) - 1) = (m : Int) by rw [show ((m + 1 : Nat) : Int) - 1 = (m : Int) by omega, w64 (by omega) (by omega)]]
        repeat (refine And.intro (by first | omega) ?_; conv => whnf)
        refine ⟨_, atAc (show m < l.length by omega), ?_⟩
        conv => whnf
        cases hP : decide (l[m].id ≥ l[m + 1].id)
        · conv => whnf
          rw [w64 (x := ((m + 1 : Nat) : Int) + 1) (by omega) (by omega)]
          refine ⟨⟨m + 1 + 1, by omega, ?_, rfl⟩, ?_⟩
          · rw [stepS hil ha, hY, Bool.true_and]
            simp only [ge_iff_le, decide_eq_false_iff_not, decide_eq_true_eq] at hP ⊢
            omega
          show l.length - (((m + 1 : Nat) : Int) + 1).toNat < l.length - ((m + 1 : Nat) : Int).toNat
          omega
        · conv => whnf
          refine ⟨false, [], ?_⟩
          conv => whnf
          refine ⟨?_, rfl⟩
          rw [hno (by
            rw [stepS hil ha, hY, Bool.true_and]
            simp only [ge_iff_le, decide_eq_false_iff_not, decide_eq_true_eq] at hP ⊢
            omega)]
          rfl
    · conv => whnf
      cases hM : (l[i].b == 0)
      · conv => whnf
        have hY : mayA1 l[i] = true := may1_yes hA hB hC (by simp only [beq_eq_false_iff_ne, ne_eq] at hM; omega)
        by_cases h0 : i = 0
        · subst h0
          rw [show decide (((0 : Nat) : Int) > 0) = false by decide]
          conv => whnf
          rw [w64 (x := ((0 : Nat) : Int) + 1) (by omega) (by omega)]
          refine ⟨⟨0 + 1, by omega, by rw [step0 hil, hY], rfl⟩, ?_⟩
          show l.length - (((0 : Nat) : Int) + 1).toNat < l.length - ((0 : Nat) : Int).toNat
          omega
        · rw [decide_eq_true (show (i : Int) > 0 by omega)]
          obtain ⟨m, rfl⟩ : ∃ m, i = m + 1 := ⟨i - 1, by omega⟩
          conv => whnf
          rw [show IntKind.i64.wrap (((m + 1 : Nat) : Int) - 1) = (m : Int) by rw [show ((m + 1 : Nat) : Int) - 1 = (m : Int) by omega, w64 (by omega) (by omega)]]
          repeat (refine And.intro (by first | omega) ?_; conv => whnf)
          refine ⟨_, atAc (show m < l.length by omega), ?_⟩
          conv => whnf
          cases hP : decide (l[m].id ≥ l[m + 1].id)
          · conv => whnf
            rw [w64 (x := ((m + 1 : Nat) : Int) + 1) (by omega) (by omega)]
            refine ⟨⟨m + 1 + 1, by omega, ?_, rfl⟩, ?_⟩
            · rw [stepS hil ha, hY, Bool.true_and]
              simp only [ge_iff_le, decide_eq_false_iff_not, decide_eq_true_eq] at hP ⊢
              omega
            show l.length - (((m + 1 : Nat) : Int) + 1).toNat < l.length - ((m + 1 : Nat) : Int).toNat
            omega
          · conv => whnf
            refine ⟨false, [], ?_⟩
            conv => whnf
            refine ⟨?_, rfl⟩
            rw [hno (by
              rw [stepS hil ha, hY, Bool.true_and]
              simp only [ge_iff_le, decide_eq_false_iff_not, decide_eq_true_eq] at hP ⊢
              omega)]
            rfl
      · conv => whnf
        refine ⟨false, [], ?_⟩
        conv => whnf
        refine ⟨?_, rfl⟩
        rw [no (by unfold mayA1; rw [hN, hM]; simp)]
        rfl
  · simp only [decide_eq_false_iff_not] at h1
    have e : i = l.length := by omega
    subst e
    refine ⟨false, [], ?_⟩
    conv => whnf
    refine ⟨?_, rfl⟩
    rw [show mayA l = true from ha]
    rfl
end Go.WL.T5
