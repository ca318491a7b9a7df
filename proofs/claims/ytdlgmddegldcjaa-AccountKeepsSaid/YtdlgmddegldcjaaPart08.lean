/- Accounts at first, and sums; the document's. No condition. -/
import Derived.Test.YtdlgmddegldcjaaPart07
set_option linter.unusedVariables false
set_option linter.unusedSimpArgs false
namespace Go.WL.T5
open Go.WL Go.Proofs
set_option maxRecDepth 20000
set_option maxHeartbeats 8000000
theorem sum_take {l : List Ac} {i : Nat} (h : i < l.length) : sumA (l.take (i + 1)) = sumA (l.take i) + l[i].b := by
  unfold sumA
  rw [List.take_succ_eq_append_getElem h, List.map_append, List.sum_append]
  simp only [List.map_cons, List.map_nil, List.sum_cons, List.sum_nil, Int.add_zero]
theorem sum_bound {l : List Ac} (h : ∀ x ∈ l, mayA1 x = true) : 0 ≤ sumA l ∧ sumA l ≤ (l.length : Int) * 1125899906842624 := by
  induction l with
  | nil => simp [sumA]
  | cons x l ih =>
    have h1 := may1 (h x (by simp))
    have h2 := ih fun y hy => h y (List.mem_cons_of_mem _ hy)
    have e : sumA (x :: l) = x.b + sumA l := by simp [sumA]
    rw [e, List.length_cons]
    omega
theorem c_asum (l : List Ac) (hl : l.length ≤ 4000) : FnOK Try.prog D 55 [(AV.sl (.nd [.lf, .lf, .lf]) (accA (l)) .ro)] [] (fun r st => r = (AV.sc (.int .i64 (if mayA l = true then sumA l else 0))) ∧ st = []) := by
  have hll := lenAc l
  cases hm : mayA l with
  | false =>
    refine fnok_of_W hmix tabOK Try.func55 rfl rfl (Nat.le_of_ble_eq_true rfl) ?_
    conv => whnf
    refine (c_acheck0 hm (by omega)).mono fun r st e => ?_
    obtain ⟨rfl, rfl⟩ := e
    conv => whnf
    refine ⟨false, [], ?_⟩
    conv => whnf
    exact ⟨rfl, rfl⟩
  | true =>
    have hall := ((mayA_iff l).1 hm).1
    refine fnok_of_W hmix tabOK Try.func55 rfl rfl (Nat.le_of_ble_eq_true rfl) ?_
    conv => whnf
    refine (c_acheck1 hm (by omega)).mono fun r st e => ?_
    obtain ⟨rfl, rfl⟩ := e
    conv => whnf
    rw [hll]
    refine ⟨false, [3, 9, 10, 11], fun τ => ∃ i : Nat, i ≤ l.length ∧ τ = ⟨21, [(3, (AV.sc (.int .i64 (sumA (l.take i))))), (9, (AV.sl (.nd [.lf, .lf, .lf]) (accA (l)) .ro)), (10, (AV.sc (.int .i64 ((l.length : Int))))), (11, (AV.sc (.int .i64 ((i : Int)))))], ⟨[], [], 0⟩⟩, fun τ => l.length - (slotI τ 11).toNat, ?_, ?_⟩
    · conv => whnf
      exact ⟨0, by omega, rfl⟩
    rintro τ ⟨i, hi, rfl⟩
    conv => whnf
    refine Branch.of (fun h1 => ?_) (fun h1 => ?_) <;> rw [h1] <;> conv => whnf
    · simp only [decide_eq_true_eq] at h1
      have hil : i < l.length := by omega
      repeat (refine And.intro (by first | omega) ?_; conv => whnf)
      refine ⟨_, atAc hil, ?_⟩
      conv => whnf
      have hb := sum_bound (l := l.take (i + 1)) fun x hx => hall x (List.take_subset _ _ hx)
      rw [List.length_take] at hb
      rw [← sum_take hil, w64 (x := sumA (l.take (i + 1))) (by omega) (by omega), w64 (x := (i : Int) + 1) (by omega) (by omega)]
      refine ⟨⟨i + 1, by omega, rfl⟩, ?_⟩
      show l.length - ((i : Int) + 1).toNat < l.length - (i : Int).toNat
      omega
    · simp only [decide_eq_false_iff_not] at h1
      have e : i = l.length := by omega
      subst e
      rw [List.take_length]
      refine ⟨false, [], ?_⟩
      conv => whnf
      exact ⟨rfl, rfl⟩
def firstN (n : Nat) : List Ac := (List.range n).map fun i : Nat => ⟨(i : Int) + 1, 0, 1000⟩
theorem firstN_succ (n : Nat) : accA (firstN n) ++ [AV.st [.sc (.int .i64 ((n : Int) + 1)), .sc (.int .i64 0), .sc (.int .i64 1000)]] = accA (firstN (n + 1)) := by
  unfold firstN accA
  rw [List.range_succ]
  simp
theorem firstN_len (n : Nat) : (accA (firstN n)).length = n := by simp [accA, firstN]
theorem c_afirst : FnOK Try.prog D 53 [] [] (fun r st => r = (AV.sl (.nd [.lf, .lf, .lf]) (accA (firstN 8)) .ro) ∧ st = []) := by
  refine fnok_of_W hmix tabOK Try.func53 rfl rfl (Nat.le_of_ble_eq_true rfl) ?_
  conv => whnf
  refine ⟨true, [1, 3], fun τ => ∃ i : Nat, i ≤ 8 ∧ τ = ⟨14, [(1, .sl (.nd [.lf, .lf, .lf]) (accA (firstN i)) (.own 0)), (3, (AV.sc (.int .i64 ((i : Int)))))], ⟨[], [0], 1⟩⟩, fun τ => 8 - (slotI τ 3).toNat, ?_, ?_⟩
  · conv => whnf
    exact ⟨0, by omega, rfl⟩
  rintro τ ⟨i, hi, rfl⟩
  conv => whnf
  refine Branch.of (fun h1 => ?_) (fun h1 => ?_) <;> rw [h1] <;> conv => whnf
  · simp only [decide_eq_true_eq] at h1
    rw [w64 (x := (i : Int) + 1) (by omega) (by omega), firstN_len]
    repeat (refine And.intro (by first | omega) ?_; conv => whnf)
    refine And.intro (by simp; omega) ?_
    conv => whnf
    rw [w64 (x := (i : Int) + 1) (by omega) (by omega), firstN_succ]
    refine ⟨⟨i + 1, by omega, rfl⟩, ?_⟩
    show 8 - ((i : Int) + 1).toNat < 8 - (i : Int).toNat
    omega
  · simp only [decide_eq_false_iff_not] at h1
    obtain rfl : i = 8 := by omega
    refine ⟨false, [999], ?_⟩
    conv => whnf
    exact ⟨rfl, rfl⟩
theorem c_afirstR : FnOK Try.prog D 63 [] [] (fun r st => r = (AV.sl (.nd [.lf, .lf, .lf]) (accA (firstN 8)) .ro) ∧ st = []) := by
  refine fnok_of_W hmix tabOK Try.func63 rfl rfl (Nat.le_of_ble_eq_true rfl) ?_
  conv => whnf
  refine ⟨true, [1, 2], fun τ => ∃ i : Nat, i ≤ 8 ∧ τ = ⟨14, [(1, .sl (.nd [.lf, .lf, .lf]) (accA (firstN i)) (.own 0)), (2, (AV.sc (.int .i64 ((i : Int) + 1))))], ⟨[], [0], 1⟩⟩, fun τ => 9 - (slotI τ 2).toNat, ?_, ?_⟩
  · conv => whnf
    exact ⟨0, by omega, rfl⟩
  rintro τ ⟨i, hi, rfl⟩
  conv => whnf
  refine Branch.of (fun h1 => ?_) (fun h1 => ?_) <;> rw [h1] <;> conv => whnf
  · simp only [decide_eq_true_eq] at h1
    rw [firstN_len]
    repeat (refine And.intro (by first | omega) ?_; conv => whnf)
    refine And.intro (by simp; omega) ?_
    conv => whnf
    rw [w64 (x := (i : Int) + 1 + 1) (by omega) (by omega), firstN_succ]
    refine ⟨⟨i + 1, by omega, by rw [show (i : Int) + 1 + 1 = ((i + 1 : Nat) : Int) + 1 by omega]⟩, ?_⟩
    show 9 - ((i : Int) + 1 + 1).toNat < 9 - ((i : Int) + 1).toNat
    omega
  · simp only [decide_eq_false_iff_not] at h1
    obtain rfl : i = 8 := by omega
    refine ⟨false, [999], ?_⟩
    conv => whnf
    exact ⟨rfl, rfl⟩
theorem ac_eq (a b : Ac) : ((a.id == b.id) && ((a.n == b.n) && ((a.b == b.b) && true))) = decide (a = b) := by
  obtain ⟨a1, a2, a3⟩ := a
  obtain ⟨b1, b2, b3⟩ := b
  rw [Bool.eq_iff_iff]
  simp
theorem take_eqA {l m : List Ac} {i : Nat} (hl : i < l.length) (hm : i < m.length) (h : l.take i = m.take i) (e : l[i] = m[i]) : l.take (i + 1) = m.take (i + 1) := by
  rw [List.take_succ_eq_append_getElem hl, List.take_succ_eq_append_getElem hm, h, e]
theorem c_asame (l m : List Ac) (hl : l.length < 4294967296) : FnOK Try.prog D 62 [(AV.sl (.nd [.lf, .lf, .lf]) (accA (l)) .ro), (AV.sl (.nd [.lf, .lf, .lf]) (accA (m)) .ro)] [] (fun r st => r = (AV.sc (.bool (decide (l = m)))) ∧ st = []) := by
  have hll := lenAc l
  have hml := lenAc m
  refine fnok_of_W hmix tabOK Try.func62 rfl rfl (Nat.le_of_ble_eq_true rfl) ?_
  conv => whnf
  rw [hll, hml]
  by_cases h0 : l.length = m.length
  rotate_left
  · rw [show ((l.length : Int) != (m.length : Int)) = true by simp; omega]
    conv => whnf
    refine ⟨false, [], ?_⟩
    conv => whnf
    refine ⟨?_, rfl⟩
    rw [decide_eq_false (fun e => h0 (by rw [e]))]
  rw [show ((l.length : Int) != (m.length : Int)) = false by simp; omega]
  conv => whnf
  refine ⟨false, [0, 1, 5], fun τ => ∃ i : Nat, i ≤ l.length ∧ l.take i = m.take i ∧ τ = ⟨26, [(0, (AV.sl (.nd [.lf, .lf, .lf]) (accA (l)) .ro)), (1, (AV.sl (.nd [.lf, .lf, .lf]) (accA (m)) .ro)), (5, (AV.sc (.int .i64 ((i : Int)))))], ⟨[], [], 0⟩⟩, fun τ => l.length - (slotI τ 5).toNat, ?_, ?_⟩
  · conv => whnf
    exact ⟨0, by omega, rfl, rfl⟩
  rintro τ ⟨i, hi, ht, rfl⟩
  conv => whnf
  rw [hll]
  refine Branch.of (fun h1 => ?_) (fun h1 => ?_) <;> rw [h1] <;> conv => whnf
  · simp only [decide_eq_true_eq] at h1
    have il : i < l.length := by omega
    have im : i < m.length := by omega
    refine ⟨tabF62R6, by decide +kernel, ?_⟩
    conv => whnf
    repeat (refine And.intro (by first | omega) ?_; conv => whnf)
    refine ⟨_, atAc il, ?_⟩
    conv => whnf
    repeat (refine And.intro (by first | omega) ?_; conv => whnf)
    refine ⟨_, atAc im, ?_⟩
    conv => whnf
    rw [ac_eq]
    by_cases h3 : l[i] = m[i]
    · rw [decide_eq_true h3]
      conv => whnf
      rw [w64 (x := (i : Int) + 1) (by omega) (by omega)]
      refine ⟨⟨i + 1, by omega, take_eqA il im ht h3, rfl⟩, ?_⟩
      show l.length - ((i : Int) + 1).toNat < l.length - (i : Int).toNat
      omega
    · rw [decide_eq_false h3]
      conv => whnf
      refine ⟨false, [], ?_⟩
      conv => whnf
      refine ⟨?_, rfl⟩
      rw [decide_eq_false]
      rintro rfl
      exact h3 rfl
  · simp only [decide_eq_false_iff_not] at h1
    rw [List.take_of_length_le (by omega), List.take_of_length_le (by omega)] at ht
    refine ⟨false, [], ?_⟩
    conv => whnf
    refine ⟨?_, rfl⟩
    rw [decide_eq_true ht]
end Go.WL.T5
