/- Pairs: the document's. No condition. -/
import Derived.Test.YtdlgmddegldcjaaPart08
import Derived.Test.YtdlgmddegldcjaaPart09
set_option linter.unusedVariables false
set_option linter.unusedSimpArgs false
namespace Go.WL.T5
open Go.WL Go.Proofs
set_option maxRecDepth 20000
set_option maxHeartbeats 8000000
theorem c_kmayR (l : List Pr) (hl : l.length < 4294967296) (hk : ∀ x ∈ l, x.key.length < 4294967296) : FnOK Try.prog D 49 [(AV.sl (.nd [.lf, .lf]) (prA (l)) .ro)] [] (fun r st => r = (AV.sc (.bool (mayP okKey l))) ∧ st = []) := by
  have hll := lenPr l
  refine fnok_of_W hmix tabOK Try.func49 rfl rfl (Nat.le_of_ble_eq_true rfl) ?_
  conv => whnf
  refine ⟨false, [0, 3], fun τ => ∃ i : Nat, i ≤ l.length ∧ mayPN okKey l i = true ∧ τ = ⟨47, [(0, (AV.sl (.nd [.lf, .lf]) (prA (l)) .ro)), (3, (AV.sc (.int .i64 ((i : Int)))))], ⟨[], [], 0⟩⟩, fun τ => l.length - (slotI τ 3).toNat, ?_, ?_⟩
  · conv => whnf
    exact ⟨0, by omega, rfl, rfl⟩
  rintro τ ⟨i, hi, ha, rfl⟩
  conv => whnf
  rw [hll]
  refine Branch.of (fun h1 => ?_) (fun h1 => ?_) <;> rw [h1] <;> conv => whnf
  · simp only [decide_eq_true_eq] at h1
    have hil : i < l.length := by omega
    have hno : mayPN okKey l (i + 1) = false → mayP okKey l = false := mayPN_no (by omega)
    have no : mayP1 okKey l[i] = false → mayP okKey l = false := fun h => hno (by
      cases i with
      | zero => rw [pstep0 hil, h]
      | succ m => rw [pstepS hil ha, h]; rfl)
    refine ⟨tabF49R4, by decide +kernel, ?_⟩
    conv => whnf
    repeat (refine And.intro (by first | omega) ?_; conv => whnf)
    refine ⟨_, atPr hil, ?_⟩
    conv => whnf
    refine ⟨_, _, c_txkeyR l[i].key (hk _ (List.getElem_mem hil)), ?_⟩
    conv => whnf
    cases hA : okKey l[i].key
    · conv => whnf
      refine ⟨false, [], ?_⟩
      conv => whnf
      refine ⟨?_, rfl⟩
      rw [no (by unfold mayP1; rw [hA]; rfl)]
    conv => whnf
    repeat (refine And.intro (by first | omega) ?_; conv => whnf)
    refine ⟨_, atPr hil, ?_⟩
    conv => whnf
    rw [strB_size]
    cases hB : decide ((l[i].val.length : Int) > 40)
    rotate_left
    · conv => whnf
      refine ⟨false, [], ?_⟩
      conv => whnf
      refine ⟨?_, rfl⟩
      simp only [gt_iff_lt, decide_eq_true_eq] at hB
      rw [no (by unfold mayP1; rw [decide_eq_false (show ¬ l[i].val.length ≤ 40 by omega)]; simp)]
    simp only [gt_iff_lt, decide_eq_false_iff_not] at hB
    have hY : mayP1 okKey l[i] = true := by unfold mayP1; rw [hA, decide_eq_true (show l[i].val.length ≤ 40 by omega)]; rfl
    conv => whnf
    by_cases h0 : i = 0
    · subst h0
      rw [show decide (((0 : Nat) : Int) > 0) = false by decide]
      conv => whnf
      rw [w64 (x := ((0 : Nat) : Int) + 1) (by omega) (by omega)]
      refine ⟨⟨0 + 1, by omega, by rw [pstep0 hil, hY], rfl⟩, ?_⟩
      show l.length - (((0 : Nat) : Int) + 1).toNat < l.length - ((0 : Nat) : Int).toNat
      omega
    · rw [decide_eq_true (show (i : Int) > 0 by omega)]
      obtain ⟨m, rfl⟩ : ∃ m, i = m + 1 := ⟨i - 1, by omega⟩
      conv => whnf
      rw [show IntKind.i64.wrap (((m + 1 : Nat) : Int) - 1) = (m : Int) by rw [show ((m + 1 : Nat) : Int) - 1 = (m : Int) by omega, w64 (by omega) (by omega)]]
      repeat (refine And.intro (by first | omega) ?_; conv => whnf)
      refine ⟨_, atPr (show m < l.length by omega), ?_⟩
      conv => whnf
      repeat (refine And.intro (by first | omega) ?_; conv => whnf)
      refine ⟨_, atPr hil, ?_⟩
      conv => whnf
      rw [strB_list, strB_list]
      cases hP : Op.bytesLess l[m].key l[m + 1].key
      · conv => whnf
        refine ⟨false, [], ?_⟩
        conv => whnf
        refine ⟨?_, rfl⟩
        rw [hno (by rw [pstepS hil ha, hY, Bool.true_and]; exact hP)]
      · conv => whnf
        rw [w64 (x := ((m + 1 : Nat) : Int) + 1) (by omega) (by omega)]
        refine ⟨⟨m + 1 + 1, by omega, by rw [pstepS hil ha, hY, Bool.true_and]; exact hP, rfl⟩, ?_⟩
        show l.length - (((m + 1 : Nat) : Int) + 1).toNat < l.length - ((m + 1 : Nat) : Int).toNat
        omega
  · simp only [decide_eq_false_iff_not] at h1
    have e : i = l.length := by omega
    subst e
    rw [hll]
    refine ⟨false, [], ?_⟩
    conv => whnf
    refine ⟨?_, rfl⟩
    congr 2
    unfold mayP
    rw [ha, Bool.and_true, decide_eq_decide]
    omega
theorem c_kgetR (l : List Pr) (k : List UInt8) (hl : l.length < 4294967296) : FnOK Try.prog D 51 [(AV.sl (.nd [.lf, .lf]) (prA (l)) .ro), (AV.sc (.string (strB (k))))] [] (fun r st => r = .tup [(AV.sc (.string (strB (((getL Pr.key l k).map Pr.val).getD [])))), (AV.sc (.bool ((getL Pr.key l k).isSome)))] ∧ st = []) := by
  have hll := lenPr l
  refine fnok_of_W hmix tabOK Try.func51 rfl rfl (Nat.le_of_ble_eq_true rfl) ?_
  conv => whnf
  refine ⟨false, [0, 1, 6], fun τ => ∃ i : Nat, i ≤ l.length ∧ (∀ y ∈ l.take i, y.key ≠ k) ∧ τ = ⟨25, [(0, (AV.sl (.nd [.lf, .lf]) (prA (l)) .ro)), (1, (AV.sc (.string (strB (k))))), (6, (AV.sc (.int .i64 ((i : Int)))))], ⟨[], [], 0⟩⟩, fun τ => l.length - (slotI τ 6).toNat, ?_, ?_⟩
  · conv => whnf
    exact ⟨0, by omega, by simp, rfl⟩
  rintro τ ⟨i, hi, ha, rfl⟩
  conv => whnf
  rw [hll]
  refine Branch.of (fun h1 => ?_) (fun h1 => ?_) <;> rw [h1] <;> conv => whnf
  · simp only [decide_eq_true_eq] at h1
    have hil : i < l.length := by omega
    repeat (refine And.intro (by first | omega) ?_; conv => whnf)
    refine ⟨_, atPr hil, ?_⟩
    conv => whnf
    rw [beq_strB]
    by_cases hk : l[i].key = k
    · rw [show (l[i].key == k) = true by simp [hk]]
      conv => whnf
      repeat (refine And.intro (by first | omega) ?_; conv => whnf)
      refine ⟨_, atPr hil, ?_⟩
      conv => whnf
      refine ⟨false, [], ?_⟩
      conv => whnf
      refine ⟨?_, rfl⟩
      have : getL Pr.key l k = some l[i] := by
        unfold getL
        have e : l = l.take i ++ l[i] :: l.drop (i + 1) := by rw [← List.drop_eq_getElem_cons hil, List.take_append_drop]
        conv => lhs; rw [e]
        rw [List.find?_append, List.find?_eq_none.2 (fun y hy => by simpa using ha y hy), Option.none_or]
        exact List.find?_cons_of_pos (by simpa using hk)
      rw [this]
      rfl
    · rw [show (l[i].key == k) = false by simp [hk]]
      conv => whnf
      rw [w64 (x := (i : Int) + 1) (by omega) (by omega)]
      refine ⟨⟨i + 1, by omega, ?_, rfl⟩, ?_⟩
      · intro y hy
        rw [List.take_succ_eq_append_getElem hil, List.mem_append, List.mem_singleton] at hy
        rcases hy with hy | rfl
        · exact ha y hy
        · exact hk
      show l.length - ((i : Int) + 1).toNat < l.length - (i : Int).toNat
      omega
  · simp only [decide_eq_false_iff_not] at h1
    have e : i = l.length := by omega
    subst e
    rw [List.take_length] at ha
    refine ⟨false, [], ?_⟩
    conv => whnf
    refine ⟨?_, rfl⟩
    have : getL Pr.key l k = none := by
      unfold getL
      rw [List.find?_eq_none.2 (fun y hy => by simpa using ha y hy)]
    rw [this]
    rfl
theorem prA_snoc (l : List Pr) (x : Pr) : prA l ++ [(AV.st [.sc (.string (strB (x).key)), .sc (.string (strB (x).val))])] = prA (l ++ [x]) := by simp [prA]
theorem drop_take {l : List Pr} {k : List UInt8} {i : Nat} (h : i < l.length) : dropL Pr.key (l.take (i + 1)) k = dropL Pr.key (l.take i) k ++ (if l[i].key = k then [] else [l[i]]) := by
  unfold dropL
  rw [List.take_succ_eq_append_getElem h, List.filter_append]
  by_cases c : l[i].key = k <;> simp [c]
theorem c_kbut (l : List Pr) (k : List UInt8) (hl : l.length < 4294967296) : FnOK Try.prog D 93 [(AV.sl (.nd [.lf, .lf]) (prA (l)) .ro), (AV.sc (.string (strB (k))))] [] (fun r st => r = (AV.sl (.nd [.lf, .lf]) (prA (dropL Pr.key l k)) .ro) ∧ st = []) := by
  have hll := lenPr l
  refine fnok_of_W hmix tabOK Try.func93 rfl rfl (Nat.le_of_ble_eq_true rfl) ?_
  conv => whnf
  refine ⟨true, [0, 1, 5, 6], fun τ => ∃ i : Nat, i ≤ l.length ∧ τ = ⟨29, [(0, (AV.sl (.nd [.lf, .lf]) (prA (l)) .ro)), (1, (AV.sc (.string (strB (k))))), (5, .sl (.nd [.lf, .lf]) (prA (dropL Pr.key (l.take i) k)) (.own 0)), (6, (AV.sc (.int .i64 ((i : Int)))))], ⟨[], [0], 1⟩⟩, fun τ => l.length - (slotI τ 6).toNat, ?_, ?_⟩
  · conv => whnf
    exact ⟨0, by omega, rfl⟩
  rintro τ ⟨i, hi, rfl⟩
  conv => whnf
  rw [hll]
  refine Branch.of (fun h1 => ?_) (fun h1 => ?_) <;> rw [h1] <;> conv => whnf
  · simp only [decide_eq_true_eq] at h1
    have hil : i < l.length := by omega
    have hd := drop_take (k := k) hil
    have hdl : (dropL Pr.key (l.take i) k).length ≤ i := by
      refine Nat.le_trans (List.length_filter_le _ _) ?_
      rw [List.length_take]
      omega
    have hlen := lenPr (dropL Pr.key (l.take i) k)
    repeat (refine And.intro (by first | omega) ?_; conv => whnf)
    refine ⟨_, atPr hil, ?_⟩
    conv => whnf
    rw [beq_strB]
    by_cases hk : l[i].key = k
    · rw [show (l[i].key == k) = true by simp [hk]]
      rw [if_pos hk, List.append_nil] at hd
      conv => whnf
      rw [w64 (x := (i : Int) + 1) (by omega) (by omega)]
      refine ⟨⟨i + 1, by omega, by rw [hd]; rfl⟩, ?_⟩
      show l.length - ((i : Int) + 1).toNat < l.length - (i : Int).toNat
      omega
    · rw [show (l[i].key == k) = false by simp [hk]]
      rw [if_neg hk] at hd
      conv => whnf
      repeat (refine And.intro (by first | omega) ?_; conv => whnf)
      refine ⟨_, atPr hil, ?_⟩
      conv => whnf
      refine And.intro (by rw [hlen]; simp; omega) ?_
      conv => whnf
      rw [w64 (x := (i : Int) + 1) (by omega) (by omega), prA_snoc]
      refine ⟨⟨i + 1, by omega, by rw [hd]; rfl⟩, ?_⟩
      show l.length - ((i : Int) + 1).toNat < l.length - (i : Int).toNat
      omega
  · simp only [decide_eq_false_iff_not] at h1
    have e : i = l.length := by omega
    subst e
    rw [List.take_length]
    refine ⟨false, [999], ?_⟩
    conv => whnf
    exact ⟨rfl, rfl⟩
theorem pr_eq (a b : Pr) : ((((strB a.key).toList == (strB b.key).toList)) && ((((strB a.val).toList == (strB b.val).toList)) && true)) = decide (a = b) := by
  obtain ⟨a1, a2⟩ := a
  obtain ⟨b1, b2⟩ := b
  rw [beq_strB, beq_strB, Bool.eq_iff_iff]
  simp
theorem take_eqP {l m : List Pr} {i : Nat} (hl : i < l.length) (hm : i < m.length) (h : l.take i = m.take i) (e : l[i] = m[i]) : l.take (i + 1) = m.take (i + 1) := by
  rw [List.take_succ_eq_append_getElem hl, List.take_succ_eq_append_getElem hm, h, e]
theorem c_ksame (l m : List Pr) (hl : l.length < 4294967296) : FnOK Try.prog D 44 [(AV.sl (.nd [.lf, .lf]) (prA (l)) .ro), (AV.sl (.nd [.lf, .lf]) (prA (m)) .ro)] [] (fun r st => r = (AV.sc (.bool (decide (l = m)))) ∧ st = []) := by
  have hll := lenPr l
  have hml := lenPr m
  refine fnok_of_W hmix tabOK Try.func44 rfl rfl (Nat.le_of_ble_eq_true rfl) ?_
  conv => whnf
  rw [hll, hml]
  by_cases h0 : l.length = m.length
  rotate_left
  · rw [show ((l.length : Int) != (m.length : Int)) = true by simp; omega]
    conv => whnf
    refine ⟨false, [], ?_⟩
    conv => whnf
    refine ⟨?_, rfl⟩
    rw [decide_eq_false (fun e => h0 (by rw [e]))]
  rw [show ((l.length : Int) != (m.length : Int)) = false by simp; omega]
  conv => whnf
  refine ⟨false, [0, 1, 5], fun τ => ∃ i : Nat, i ≤ l.length ∧ l.take i = m.take i ∧ τ = ⟨26, [(0, (AV.sl (.nd [.lf, .lf]) (prA (l)) .ro)), (1, (AV.sl (.nd [.lf, .lf]) (prA (m)) .ro)), (5, (AV.sc (.int .i64 ((i : Int)))))], ⟨[], [], 0⟩⟩, fun τ => l.length - (slotI τ 5).toNat, ?_, ?_⟩
  · conv => whnf
    exact ⟨0, by omega, rfl, rfl⟩
  rintro τ ⟨i, hi, ht, rfl⟩
  conv => whnf
  rw [hll]
  refine Branch.of (fun h1 => ?_) (fun h1 => ?_) <;> rw [h1] <;> conv => whnf
  · simp only [decide_eq_true_eq] at h1
    have il : i < l.length := by omega
    have im : i < m.length := by omega
    refine ⟨tabF44R6, by decide +kernel, ?_⟩
    conv => whnf
    repeat (refine And.intro (by first | omega) ?_; conv => whnf)
    refine ⟨_, atPr il, ?_⟩
    conv => whnf
    repeat (refine And.intro (by first | omega) ?_; conv => whnf)
    refine ⟨_, atPr im, ?_⟩
    conv => whnf
    rw [pr_eq]
    by_cases h3 : l[i] = m[i]
    · rw [decide_eq_true h3]
      conv => whnf
      rw [w64 (x := (i : Int) + 1) (by omega) (by omega)]
      refine ⟨⟨i + 1, by omega, take_eqP il im ht h3, rfl⟩, ?_⟩
      show l.length - ((i : Int) + 1).toNat < l.length - (i : Int).toNat
      omega
    · rw [decide_eq_false h3]
      conv => whnf
      refine ⟨false, [], ?_⟩
      conv => whnf
      refine ⟨?_, rfl⟩
      rw [decide_eq_false]
      rintro rfl
      exact h3 rfl
  · simp only [decide_eq_false_iff_not] at h1
    rw [List.take_of_length_le (by omega), List.take_of_length_le (by omega)] at ht
    refine ⟨false, [], ?_⟩
    conv => whnf
    refine ⟨?_, rfl⟩
    rw [decide_eq_true ht]
end Go.WL.T5
