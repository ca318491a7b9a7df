/- Accounts: the document's. No condition. -/
import Derived.Test.YtdlgmddegldcjaaPart08
set_option linter.unusedVariables false
set_option linter.unusedSimpArgs false
namespace Go.WL.T5
open Go.WL Go.Proofs
set_option maxRecDepth 20000
set_option maxHeartbeats 8000000
theorem may1_dec (x : Ac) : mayA1 x = (!(decide (x.id < 1)) && !(decide (x.id > 40)) && !(decide (x.n < 0)) && !(decide (x.n > 1099511627776)) && !(decide (x.b < 0)) && !(decide (x.b > 1125899906842624)) && !(x.n == 0 && x.b == 0)) := by
  unfold mayA1
  rw [Bool.eq_iff_iff]
  simp only [Bool.and_eq_true, decide_eq_true_eq, Bool.not_eq_true', decide_eq_false_iff_not, Bool.and_eq_false_iff, beq_eq_false_iff_ne, ne_eq]
  omega
theorem c_amayR (l : List Ac) (hl : l.length < 4294967296) : FnOK Try.prog D 61 [(AV.sl (.nd [.lf, .lf, .lf]) (accA (l)) .ro)] [] (fun r st => r = (AV.sc (.bool (mayA l))) ∧ st = []) := by
  have hll := lenAc l
  refine fnok_of_W hmix tabOK Try.func61 rfl rfl (Nat.le_of_ble_eq_true rfl) ?_
  conv => whnf
  refine ⟨false, [0, 3], fun τ => ∃ i : Nat, i ≤ l.length ∧ mayAN l i = true ∧ τ = ⟨68, [(0, (AV.sl (.nd [.lf, .lf, .lf]) (accA (l)) .ro)), (3, (AV.sc (.int .i64 ((i : Int)))))], ⟨[], [], 0⟩⟩, fun τ => l.length - (slotI τ 3).toNat, ?_, ?_⟩
  · conv => whnf
    exact ⟨0, by omega, rfl, rfl⟩
  rintro τ ⟨i, hi, ha, rfl⟩
  conv => whnf
  rw [hll]
  refine Branch.of (fun h1 => ?_) (fun h1 => ?_) <;> rw [h1] <;> conv => whnf
  · simp only [decide_eq_true_eq] at h1
    have hil : i < l.length := by omega
    have hno : mayAN l (i + 1) = false → mayA l = false := mayAN_no (by omega)
    have no : mayA1 l[i] = false → mayA l = false := fun h => hno (by
      cases i with
      | zero => rw [step0 hil, h]
      | succ m => rw [stepS hil ha, h]; rfl)
    repeat (refine And.intro (by first | omega) ?_; conv => whnf)
    refine ⟨_, atAc hil, ?_⟩
    conv => whnf
    refine ⟨tabF61R5, by decide +kernel, ?_⟩
    conv => whnf
    cases hA : decide (l[i].id < 1)
    rotate_left
    · conv => whnf
      refine ⟨false, [], ?_⟩
      conv => whnf
      refine ⟨?_, rfl⟩
      rw [no (by rw [may1_dec, hA]; rfl)]
    conv => whnf
    cases hB : decide (l[i].id > 40)
    rotate_left
    · conv => whnf
      refine ⟨false, [], ?_⟩
      conv => whnf
      refine ⟨?_, rfl⟩
      rw [no (by rw [may1_dec, hA, hB]; rfl)]
    conv => whnf
    cases hC : decide (l[i].n < 0)
    rotate_left
    · conv => whnf
      refine ⟨false, [], ?_⟩
      conv => whnf
      refine ⟨?_, rfl⟩
      rw [no (by rw [may1_dec, hA, hB, hC]; rfl)]
    conv => whnf
    cases hD : decide (l[i].n > 1099511627776)
    rotate_left
    · conv => whnf
      refine ⟨false, [], ?_⟩
      conv => whnf
      refine ⟨?_, rfl⟩
      rw [no (by rw [may1_dec, hA, hB, hC, hD]; rfl)]
    conv => whnf
    cases hE : decide (l[i].b < 0)
    rotate_left
    · conv => whnf
      refine ⟨false, [], ?_⟩
      conv => whnf
      refine ⟨?_, rfl⟩
      rw [no (by rw [may1_dec, hA, hB, hC, hD, hE]; rfl)]
    conv => whnf
    cases hF : decide (l[i].b > 1125899906842624)
    rotate_left
    · conv => whnf
      refine ⟨false, [], ?_⟩
      conv => whnf
      refine ⟨?_, rfl⟩
      rw [no (by rw [may1_dec, hA, hB, hC, hD, hE, hF]; rfl)]
    conv => whnf
    cases hN : (l[i].n == 0)
    · conv => whnf
      have hY : mayA1 l[i] = true := by rw [may1_dec, hA, hB, hC, hD, hE, hF, hN]; rfl
      by_cases h0 : i = 0
      · subst h0
        rw [show decide (((0 : Nat) : Int) > 0) = false by decide]
        conv => whnf
        rw [w64 (x := ((0 : Nat) : Int) + 1) (by omega) (by omega)]
        refine ⟨⟨0 + 1, by omega, by rw [step0 hil, hY], rfl⟩, ?_⟩
        show l.length - (((0 : Nat) : Int) + 1).toNat < l.length - ((0 : Nat) : Int).toNat
        omega
      · rw [decide_eq_true (show (i : Int) > 0 by omega)]
        obtain ⟨m, rfl⟩ : ∃ m, i = m + 1 := ⟨i - 1, by omega⟩
        conv => whnf
        rw [show IntKind.i64.wrap (((m + 1 : Nat) : Int) - 1) = (m : Int) by rw [show ((m + 1 : Nat) : Int) - 1 = (m : Int) by omega, w64 (by omega) (by omega)]]
        repeat (refine And.intro (by first | omega) ?_; conv => whnf)
        refine ⟨_, atAc (show m < l.length by omega), ?_⟩
        conv => whnf
        cases hP : decide (l[m].id ≥ l[m + 1].id)
        · conv => whnf
          rw [w64 (x := ((m + 1 : Nat) : Int) + 1) (by omega) (by omega)]
          refine ⟨⟨m + 1 + 1, by omega, ?_, rfl⟩, ?_⟩
          · rw [stepS hil ha, hY, Bool.true_and]
            simp only [ge_iff_le, decide_eq_false_iff_not, decide_eq_true_eq] at hP ⊢
            omega
          show l.length - (((m + 1 : Nat) : Int) + 1).toNat < l.length - ((m + 1 : Nat) : Int).toNat
          omega
        · conv => whnf
          refine ⟨false, [], ?_⟩
          conv => whnf
          refine ⟨?_, rfl⟩
          rw [hno (by
            rw [stepS hil ha, hY, Bool.true_and]
            simp only [ge_iff_le, decide_eq_false_iff_not, decide_eq_true_eq] at hP ⊢
            omega)]
    · conv => whnf
      cases hM : (l[i].b == 0)
      · conv => whnf
        have hY : mayA1 l[i] = true := by rw [may1_dec, hA, hB, hC, hD, hE, hF, hN, hM]; rfl
        by_cases h0 : i = 0
        · subst h0
          rw [show decide (((0 : Nat) : Int) > 0) = false by decide]
          conv => whnf
          rw [w64 (x := ((0 : Nat) : Int) + 1) (by omega) (by omega)]
          refine ⟨⟨0 + 1, by omega, by rw [step0 hil, hY], rfl⟩, ?_⟩
          show l.length - (((0 : Nat) : Int) + 1).toNat < l.length - ((0 : Nat) : Int).toNat
          omega
        · rw [decide_eq_true (show (i : Int) > 0 by omega)]
          obtain ⟨m, rfl⟩ : ∃ m, i = m + 1 := ⟨i - 1, by omega⟩
          conv => whnf
          rw [show IntKind.i64.wrap (((m + 1 : Nat) : Int) - 1) = (m : Int) by rw [show ((m + 1 : Nat) : Int) - 1 = (m : Int) by omega, w64 (by omega) (by omega)]]
          repeat (refine And.intro (by first | omega) ?_; conv => whnf)
          refine ⟨_, atAc (show m < l.length by omega), ?_⟩
          conv => whnf
          cases hP : decide (l[m].id ≥ l[m + 1].id)
          · conv => whnf
            rw [w64 (x := ((m + 1 : Nat) : Int) + 1) (by omega) (by omega)]
            refine ⟨⟨m + 1 + 1, by omega, ?_, rfl⟩, ?_⟩
            · rw [stepS hil ha, hY, Bool.true_and]
              simp only [ge_iff_le, decide_eq_false_iff_not, decide_eq_true_eq] at hP ⊢
              omega
            show l.length - (((m + 1 : Nat) : Int) + 1).toNat < l.length - ((m + 1 : Nat) : Int).toNat
            omega
          · conv => whnf
            refine ⟨false, [], ?_⟩
            conv => whnf
            refine ⟨?_, rfl⟩
            rw [hno (by
              rw [stepS hil ha, hY, Bool.true_and]
              simp only [ge_iff_le, decide_eq_false_iff_not, decide_eq_true_eq] at hP ⊢
              omega)]
      · conv => whnf
        refine ⟨false, [], ?_⟩
        conv => whnf
        refine ⟨?_, rfl⟩
        rw [no (by rw [may1_dec, hN, hM]; simp)]
  · simp only [decide_eq_false_iff_not] at h1
    have e : i = l.length := by omega
    subst e
    refine ⟨false, [], ?_⟩
    conv => whnf
    refine ⟨?_, rfl⟩
    rw [show mayA l = true from ha]
theorem c_agetR (l : List Ac) (k : Int) (hl : l.length < 4294967296) : FnOK Try.prog D 64 [(AV.sl (.nd [.lf, .lf, .lf]) (accA (l)) .ro), (AV.sc (.int .i64 (k)))] [] (fun r st => r = (AV.st [.sc (.int .i64 (getA l k).id), .sc (.int .i64 (getA l k).n), .sc (.int .i64 (getA l k).b)]) ∧ st = []) := by
  have hll := lenAc l
  refine fnok_of_W hmix tabOK Try.func64 rfl rfl (Nat.le_of_ble_eq_true rfl) ?_
  conv => whnf
  refine ⟨false, [0, 1, 4, 5], fun τ => ∃ i : Nat, i ≤ l.length ∧ (∀ y ∈ l.take i, y.id ≠ k) ∧ τ = ⟨25, [(0, (AV.sl (.nd [.lf, .lf, .lf]) (accA (l)) .ro)), (1, (AV.sc (.int .i64 (k)))), (4, .pt 0 []), (5, (AV.sc (.int .i64 ((i : Int)))))], ⟨[((AV.st [.sc (.int .i64 ((⟨0, 0, 0⟩ : Ac)).id), .sc (.int .i64 ((⟨0, 0, 0⟩ : Ac)).n), .sc (.int .i64 ((⟨0, 0, 0⟩ : Ac)).b)]), false)], [], 0⟩⟩, fun τ => l.length - (slotI τ 5).toNat, ?_, ?_⟩
  · conv => whnf
    exact ⟨0, by omega, by simp, rfl⟩
  rintro τ ⟨i, hi, ha, rfl⟩
  conv => whnf
  rw [hll]
  refine Branch.of (fun h1 => ?_) (fun h1 => ?_) <;> rw [h1] <;> conv => whnf
  · simp only [decide_eq_true_eq] at h1
    have hil : i < l.length := by omega
    repeat (refine And.intro (by first | omega) ?_; conv => whnf)
    refine ⟨_, atAc hil, ?_⟩
    conv => whnf
    by_cases hk : l[i].id = k
    · rw [show (l[i].id == k) = true by simp [hk]]
      conv => whnf
      repeat (refine And.intro (by first | omega) ?_; conv => whnf)
      refine ⟨_, atAc hil, ?_⟩
      conv => whnf
      refine ⟨false, [], ?_⟩
      conv => whnf
      refine ⟨?_, rfl⟩
      have : getA l k = l[i] := by
        unfold getA getL
        have e : l = l.take i ++ l[i] :: l.drop (i + 1) := by rw [← List.drop_eq_getElem_cons hil, List.take_append_drop]
        have : List.find? (fun x : Ac => decide (x.id = k)) l = some l[i] := by
          conv => lhs; rw [e]
          rw [List.find?_append, List.find?_eq_none.2 (fun y hy => by simpa using ha y hy), Option.none_or]
          exact List.find?_cons_of_pos (by simpa using hk)
        rw [this]
        rfl
      rw [this]
    · rw [show (l[i].id == k) = false by simp [hk]]
      conv => whnf
      rw [w64 (x := (i : Int) + 1) (by omega) (by omega)]
      refine ⟨⟨i + 1, by omega, ?_, rfl⟩, ?_⟩
      · intro y hy
        rw [List.take_succ_eq_append_getElem hil, List.mem_append, List.mem_singleton] at hy
        rcases hy with hy | rfl
        · exact ha y hy
        · exact hk
      show l.length - ((i : Int) + 1).toNat < l.length - (i : Int).toNat
      omega
  · simp only [decide_eq_false_iff_not] at h1
    have e : i = l.length := by omega
    subst e
    rw [List.take_length] at ha
    refine ⟨false, [], ?_⟩
    conv => whnf
    refine ⟨?_, rfl⟩
    have : getA l k = ⟨k, 0, 0⟩ := by
      unfold getA getL
      rw [List.find?_eq_none.2 (fun y hy => by simpa using ha y hy)]
      rfl
    rw [this]
theorem c_asumR (l : List Ac) (hl : l.length ≤ 4000) (hm : mayA l = true) : FnOK Try.prog D 65 [(AV.sl (.nd [.lf, .lf, .lf]) (accA (l)) .ro)] [] (fun r st => r = (AV.sc (.int .i64 (sumA l))) ∧ st = []) := by
  have hll := lenAc l
  have hall := ((mayA_iff l).1 hm).1
  refine fnok_of_W hmix tabOK Try.func65 rfl rfl (Nat.le_of_ble_eq_true rfl) ?_
  conv => whnf
  refine ⟨false, [0, 3, 4], fun τ => ∃ i : Nat, i ≤ l.length ∧ τ = ⟨19, [(0, (AV.sl (.nd [.lf, .lf, .lf]) (accA (l)) .ro)), (3, (AV.sc (.int .i64 (sumA (l.take i))))), (4, (AV.sc (.int .i64 ((i : Int)))))], ⟨[], [], 0⟩⟩, fun τ => l.length - (slotI τ 4).toNat, ?_, ?_⟩
  · conv => whnf
    exact ⟨0, by omega, rfl⟩
  rintro τ ⟨i, hi, rfl⟩
  conv => whnf
  rw [hll]
  refine Branch.of (fun h1 => ?_) (fun h1 => ?_) <;> rw [h1] <;> conv => whnf
  · simp only [decide_eq_true_eq] at h1
    have hil : i < l.length := by omega
    repeat (refine And.intro (by first | omega) ?_; conv => whnf)
    refine ⟨_, atAc hil, ?_⟩
    conv => whnf
    have hb := sum_bound (l := l.take (i + 1)) fun x hx => hall x (List.take_subset _ _ hx)
    rw [List.length_take] at hb
    rw [← sum_take hil, w64 (x := sumA (l.take (i + 1))) (by omega) (by omega), w64 (x := (i : Int) + 1) (by omega) (by omega)]
    refine ⟨⟨i + 1, by omega, rfl⟩, ?_⟩
    show l.length - ((i : Int) + 1).toNat < l.length - (i : Int).toNat
    omega
  · simp only [decide_eq_false_iff_not] at h1
    have e : i = l.length := by omega
    subst e
    rw [List.take_length]
    refine ⟨false, [], ?_⟩
    conv => whnf
    exact ⟨rfl, rfl⟩
theorem refA_len (l : List Ac) (a : Ac) : ∀ n : Nat, (refA l a n).length ≤ n
  | 0 => Nat.le_refl _
  | n + 1 => by
    have ih := refA_len l a n
    rw [refA, List.length_append]
    dsimp only
    split <;> split <;> simp <;> omega
theorem refA_snoc (l : List Ac) (a x : Ac) (i : Nat) (hx : x = if ((i : Int) + 1) = a.id then a else getA l ((i : Int) + 1)) : refA l a (i + 1) = refA l a i ++ (if x.n > 0 ∨ x.b > 0 then [x] else []) := by
  rw [refA, hx]
theorem accA_snoc (l : List Ac) (x : Ac) : accA l ++ [(AV.st [.sc (.int .i64 (x).id), .sc (.int .i64 (x).n), .sc (.int .i64 (x).b)])] = accA (l ++ [x]) := by simp [accA]
theorem c_aputR (l : List Ac) (a : Ac) (hl : l.length < 4294967296) : FnOK Try.prog D 99 [(AV.sl (.nd [.lf, .lf, .lf]) (accA (l)) .ro), (AV.st [.sc (.int .i64 (a).id), .sc (.int .i64 (a).n), .sc (.int .i64 (a).b)])] [] (fun r st => r = (AV.sl (.nd [.lf, .lf, .lf]) (accA (refA l a 40)) .ro) ∧ st = []) := by
  refine fnok_of_W hmix tabOK Try.func99 rfl rfl (Nat.le_of_ble_eq_true rfl) ?_
  conv => whnf
  refine ⟨true, [0, 3, 5, 6], fun τ => ∃ i : Nat, i ≤ 40 ∧ τ = ⟨34, [(0, (AV.sl (.nd [.lf, .lf, .lf]) (accA (l)) .ro)), (3, .pt 0 []), (5, .sl (.nd [.lf, .lf, .lf]) (accA (refA l a i)) (.own 0)), (6, (AV.sc (.int .i64 ((i : Int) + 1))))], ⟨[((AV.st [.sc (.int .i64 (a).id), .sc (.int .i64 (a).n), .sc (.int .i64 (a).b)]), false)], [0], 1⟩⟩, fun τ => 41 - (slotI τ 6).toNat, ?_, ?_⟩
  · conv => whnf
    exact ⟨0, by omega, rfl⟩
  rintro τ ⟨i, hi, rfl⟩
  conv => whnf
  refine Branch.of (fun h1 => ?_) (fun h1 => ?_) <;> rw [h1] <;> conv => whnf
  · simp only [decide_eq_true_eq] at h1
    refine (c_agetR l ((i : Int) + 1) hl).mono fun r st e => ?_
    obtain ⟨rfl, rfl⟩ := e
    conv => whnf
    have hr := refA_len l a i
    have hlen := lenAc (refA l a i)
    have hsn := refA_snoc l a
    have fin : ∀ x : Ac, True := fun _ => trivial
    by_cases hk : (i : Int) + 1 = a.id
    · have hs := hsn a i (by rw [if_pos hk])
      rw [show ((i : Int) + 1 == a.id) = true by simp [hk]]
      conv => whnf
      cases h2 : decide (a.n > 0)
      · conv => whnf
        cases h3 : decide (a.b > 0)
        · conv => whnf
          rw [w64 (x := (i : Int) + 1 + 1) (by omega) (by omega)]
          rw [if_neg (by simp only [gt_iff_lt, decide_eq_false_iff_not] at h2 h3 ⊢; omega), List.append_nil] at hs
          refine ⟨⟨i + 1, by omega, by rw [hs, show (i : Int) + 1 + 1 = ((i + 1 : Nat) : Int) + 1 by omega]⟩, ?_⟩
          show 41 - ((i : Int) + 1 + 1).toNat < 41 - ((i : Int) + 1).toNat
          omega
        · conv => whnf
          refine And.intro (by rw [hlen]; simp; omega) ?_
          conv => whnf
          rw [w64 (x := (i : Int) + 1 + 1) (by omega) (by omega), accA_snoc]
          rw [if_pos (by simp only [gt_iff_lt, decide_eq_true_eq] at h3 ⊢; omega)] at hs
          refine ⟨⟨i + 1, by omega, by rw [hs, show (i : Int) + 1 + 1 = ((i + 1 : Nat) : Int) + 1 by omega]⟩, ?_⟩
          show 41 - ((i : Int) + 1 + 1).toNat < 41 - ((i : Int) + 1).toNat
          omega
      · conv => whnf
        refine And.intro (by rw [hlen]; simp; omega) ?_
        conv => whnf
        rw [w64 (x := (i : Int) + 1 + 1) (by omega) (by omega), accA_snoc]
        rw [if_pos (by simp only [gt_iff_lt, decide_eq_true_eq] at h2 ⊢; omega)] at hs
        refine ⟨⟨i + 1, by omega, by rw [hs, show (i : Int) + 1 + 1 = ((i + 1 : Nat) : Int) + 1 by omega]⟩, ?_⟩
        show 41 - ((i : Int) + 1 + 1).toNat < 41 - ((i : Int) + 1).toNat
        omega
    · have hs := hsn (getA l ((i : Int) + 1)) i (by rw [if_neg hk])
      generalize getA l ((i : Int) + 1) = x at hs
      rw [show ((i : Int) + 1 == a.id) = false by simp [hk]]
      conv => whnf
      cases h2 : decide (x.n > 0)
      · conv => whnf
        cases h3 : decide (x.b > 0)
        · conv => whnf
          rw [w64 (x := (i : Int) + 1 + 1) (by omega) (by omega)]
          rw [if_neg (by simp only [gt_iff_lt, decide_eq_false_iff_not] at h2 h3 ⊢; omega), List.append_nil] at hs
          refine ⟨⟨i + 1, by omega, by rw [hs, show (i : Int) + 1 + 1 = ((i + 1 : Nat) : Int) + 1 by omega]⟩, ?_⟩
          show 41 - ((i : Int) + 1 + 1).toNat < 41 - ((i : Int) + 1).toNat
          omega
        · conv => whnf
          refine And.intro (by rw [hlen]; simp; omega) ?_
          conv => whnf
          rw [w64 (x := (i : Int) + 1 + 1) (by omega) (by omega), accA_snoc]
          rw [if_pos (by simp only [gt_iff_lt, decide_eq_true_eq] at h3 ⊢; omega)] at hs
          refine ⟨⟨i + 1, by omega, by rw [hs, show (i : Int) + 1 + 1 = ((i + 1 : Nat) : Int) + 1 by omega]⟩, ?_⟩
          show 41 - ((i : Int) + 1 + 1).toNat < 41 - ((i : Int) + 1).toNat
          omega
      · conv => whnf
        refine And.intro (by rw [hlen]; simp; omega) ?_
        conv => whnf
        rw [w64 (x := (i : Int) + 1 + 1) (by omega) (by omega), accA_snoc]
        rw [if_pos (by simp only [gt_iff_lt, decide_eq_true_eq] at h2 ⊢; omega)] at hs
        refine ⟨⟨i + 1, by omega, by rw [hs, show (i : Int) + 1 + 1 = ((i + 1 : Nat) : Int) + 1 by omega]⟩, ?_⟩
        show 41 - ((i : Int) + 1 + 1).toNat < 41 - ((i : Int) + 1).toNat
        omega
  · simp only [decide_eq_false_iff_not] at h1
    obtain rfl : i = 40 := by omega
    refine ⟨false, [999], ?_⟩
    conv => whnf
    exact ⟨rfl, rfl⟩
end Go.WL.T5
