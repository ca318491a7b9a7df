/- Acts that are not too great; texts held against each other. No condition. -/
import Derived.Test.YtdlgmddegldcjaaPart19
import Derived.Test.YtdlgmddegldcjaaPart35
set_option linter.unusedVariables false
set_option linter.unusedSimpArgs false
namespace Go.WL.T5
open Go.WL Go.Proofs
set_option maxRecDepth 20000
set_option maxHeartbeats 8000000
structure Wc where
  d : Int
  l : List (List UInt8)
  a : Ac
  y : UInt8
def wcA (l : List Wc) : List AV := l.map fun w => (AV.st [.sc (.int .i64 (w).d), .sl .lf ((w).l.map fun b => AV.sl .lf (by8 b) .ro) .ro, AV.st [.sc (.int .i64 (w).a.d), .sl .lf (by8 (w).a.b) .ro, .sc (.int .i64 (w).a.n)], .sc (.int .u8 ((w).y.toNat : Int))])
theorem wc_len (l : List Wc) : (wcA l).length = l.length := List.length_map ..
theorem wc_at {l : List Wc} {i : Nat} (h : i < l.length) : (wcA l)[((i : Nat) : Int).toNat]? = some (AV.st [.sc (.int .i64 (l[i]).d), .sl .lf ((l[i]).l.map fun b => AV.sl .lf (by8 b) .ro) .ro, AV.st [.sc (.int .i64 (l[i]).a.d), .sl .lf (by8 (l[i]).a.b) .ro, .sc (.int .i64 (l[i]).a.n)], .sc (.int .u8 ((l[i]).y.toNat : Int))]) := by simp [wcA, h]
def gw (w : Wc) : Bool := decide (w.l.length ≤ 5) && (lightB [w.a] && w.l.all fun b => decide (b.length ≤ 100))
def lightW (l : List Wc) : Bool := decide (l.length ≤ 30) && (l.take 31).all gw
theorem lightW_no {l : List Wc} {i : Nat} (h : i < l.length) (hi : i ≤ 30) (hg : gw l[i] = false) : lightW l = false := by
  unfold lightW
  have : (l.take 31).all gw = false := by
    rw [List.all_eq_false]
    exact ⟨l[i], List.mem_take_iff_getElem.2 ⟨i, by omega, rfl⟩, by rw [hg]; simp⟩
  rw [this, Bool.and_false]
theorem lightW_yes {l : List Wc} (h : lightW l = true) : l.length ≤ 30 ∧ ∀ w ∈ l, w.l.length ≤ 5 ∧ w.a.b.length ≤ 200 ∧ ∀ b ∈ w.l, b.length ≤ 100 := by
  unfold lightW at h
  rw [Bool.and_eq_true] at h
  have h1 := of_decide_eq_true h.1
  refine ⟨h1, fun w hw => ?_⟩
  have h2 := h.2
  rw [List.take_of_length_le (by omega), List.all_eq_true] at h2
  have h3 := h2 w hw
  unfold gw at h3
  simp only [Bool.and_eq_true, decide_eq_true_eq, List.all_eq_true] at h3
  exact ⟨h3.1, (light_of h3.2.1).2 w.a (by simp), h3.2.2⟩
theorem c_light19 (l : List Wc) (hl : l.length ≤ 9223372036854775807) : FnOK Try.prog D 31 [(AV.sl (.nd [.lf, .lf, .nd [.lf, .lf, .lf], .lf]) (wcA (l)) .ro)] [] (fun r st => r = (AV.sc (.bool (lightW l))) ∧ st = []) := by
  refine fnok_of_W hmix tabOK Try.func31 rfl rfl (Nat.le_of_ble_eq_true rfl) ?_
  conv => whnf
  refine ⟨false, [0, 3], fun τ => ∃ i : Nat, i ≤ l.length ∧ i ≤ 31 ∧ (l.take i).all gw = true ∧ τ = ⟨55, [(0, (AV.sl (.nd [.lf, .lf, .nd [.lf, .lf, .lf], .lf]) (wcA (l)) .ro)), (3, (AV.sc (.int .i64 ((i : Int)))))], ⟨[], [], 0⟩⟩, fun τ => l.length - (slotI τ 3).toNat, ?_, ?_⟩
  · conv => whnf
    exact ⟨0, by omega, by omega, by simp, rfl⟩
  rintro τ ⟨i, hi, hi2, ha, rfl⟩
  apply enter3
  intro kk kK
  conv => whnf
  rw [wc_len]
  have out : (l.length ≤ i ∨ i = 31) → lightW l = decide ((l.length : Int) ≤ 30) := by
    intro h
    unfold lightW
    have e : (l.take 31).all gw = true := by
      rcases h with h | rfl
      · have : i = l.length := by omega
        rw [this, List.take_length] at ha
        rw [List.all_eq_true] at ha ⊢
        exact fun x hx => ha x (List.mem_of_mem_take hx)
      · exact ha
    rw [e, Bool.and_true, decide_eq_decide]
    omega
  refine Branch.of (fun h1 => ?_) (fun h1 => ?_) <;> rw [h1] <;> conv => whnf
  rotate_left
  · have h1' := of_decide_eq_false h1
    refine kK _ _ ?_
    conv => whnf
    rw [wc_len, ← out (.inl (by omega))]
    refine ⟨false, [], ?_⟩
    conv => whnf
    exact ⟨rfl, rfl⟩
  have h1' := of_decide_eq_true h1
  have ih : i < l.length := by omega
  by_cases h61 : i = 31
  · refine Branch.of (fun hh => ?_) (fun hh => ?_)
    · exfalso; simp only [gt_iff_lt, ge_iff_le, decide_eq_true_eq, decide_eq_false_iff_not, beq_iff_eq, beq_eq_false_iff_ne, bne_iff_ne, bne_eq_false_iff_eq, ne_eq] at hh; first | done | omega | (simp at hh; done)
    try rw [hh]
    clear hh
    conv => whnf
    refine kK _ _ ?_
    conv => whnf
    rw [wc_len, ← out (.inr h61)]
    refine ⟨false, [], ?_⟩
    conv => whnf
    exact ⟨rfl, rfl⟩
  refine Branch.of (fun hh => ?_) (fun hh => ?_)
  rotate_left
  · exfalso; simp only [gt_iff_lt, ge_iff_le, decide_eq_true_eq, decide_eq_false_iff_not, beq_iff_eq, beq_eq_false_iff_ne, bne_iff_ne, bne_eq_false_iff_eq, ne_eq] at hh; first | done | omega | (simp at hh; done)
  try rw [hh]
  clear hh
  conv => whnf
  have hat := wc_at ih
  have hno := lightW_no ih (by omega)
  have hsu : gw l[i] = true → (l.take (i + 1)).all gw = true := fun h => by
    rw [List.take_succ_eq_append_getElem ih, List.all_append, ha]
    simp [h]
  generalize l[i] = w at hat hno hsu
  obtain ⟨d, L, a, y⟩ := w
  have hgw : gw ⟨d, L, a, y⟩ = (decide (L.length ≤ 5) && (lightB [a] && L.all fun b => decide (b.length ≤ 100))) := rfl
  rw [hgw] at hno hsu
  have hLl : (⟨d, L, a, y⟩ : Wc).l.length = L.length := rfl
  refine ⟨by omega, _, hat, ?_⟩
  conv => whnf
  rw [List.length_map]
  by_cases g1 : 5 < L.length
  · refine Branch.of (fun hh => ?_) (fun hh => ?_)
    rotate_left
    · exfalso; simp only [gt_iff_lt, ge_iff_le, decide_eq_true_eq, decide_eq_false_iff_not, beq_iff_eq, beq_eq_false_iff_ne, bne_iff_ne, bne_eq_false_iff_eq, ne_eq] at hh; first | done | omega | (simp at hh; done)
    try rw [hh]
    clear hh
    conv => whnf
    refine kK _ _ ?_
    conv => whnf
    rw [← hno (by rw [decide_eq_false (by omega), Bool.false_and])]
    refine ⟨false, [], ?_⟩
    conv => whnf
    exact ⟨rfl, rfl⟩
  refine Branch.of (fun hh => ?_) (fun hh => ?_)
  · exfalso; simp only [gt_iff_lt, ge_iff_le, decide_eq_true_eq, decide_eq_false_iff_not, beq_iff_eq, beq_eq_false_iff_ne, bne_iff_ne, bne_eq_false_iff_eq, ne_eq] at hh; first | done | omega | (simp at hh; done)
  try rw [hh]
  clear hh
  conv => whnf
  rw [decide_eq_true (show L.length ≤ 5 by omega), Bool.true_and] at hno hsu
  refine ⟨by omega, _, hat, ?_⟩
  conv => whnf
  refine ((c_light18 [a] (by simp)).weak (.cons (.sl (m := .ex) (.inl rfl) (Weaks.refl _)) .nil)).mono fun r st e => ?_
  obtain ⟨rfl, rfl⟩ := e
  cases hb : lightB [a] with
  | false =>
    conv => whnf
    refine kK _ _ ?_
    conv => whnf
    rw [← hno (by rw [hb, Bool.false_and])]
    refine ⟨false, [], ?_⟩
    conv => whnf
    exact ⟨rfl, rfl⟩
  | true =>
  rw [hb, Bool.true_and] at hno hsu
  conv => whnf
  refine ⟨false, [0, 3, 4], fun τ => ∃ k : Nat, k ≤ L.length ∧ ((L.take k).all fun b => decide (b.length ≤ 100)) = true ∧ τ = ⟨55, [(0, (AV.sl (.nd [.lf, .lf, .nd [.lf, .lf, .lf], .lf]) (wcA (l)) .ro)), (3, (AV.sc (.int .i64 ((i : Int))))), (4, (AV.sc (.int .i64 ((k : Int)))))], ⟨[], [], 0⟩⟩, fun τ => L.length - (slotI τ 4).toNat, ?_, ?_⟩
  · conv => whnf
    exact ⟨0, by omega, by simp, rfl⟩
  rintro τ ⟨k, hk, hka, rfl⟩
  apply enter3
  intro k2 kK2
  conv => whnf
  refine ⟨by omega, _, hat, ?_⟩
  conv => whnf
  rw [List.length_map]
  refine Branch.of (fun h2 => ?_) (fun h2 => ?_) <;> rw [h2] <;> conv => whnf
  rotate_left
  · have h2 := of_decide_eq_false h2
    obtain rfl : k = L.length := by omega
    rw [List.take_length] at hka
    refine kK2 _ _ ?_
    conv => whnf
    rw [w64 (x := (i : Int) + 1) (by omega) (by omega)]
    refine kK _ _ ?_
    conv => whnf
    refine ⟨⟨i + 1, by omega, by omega, hsu hka, rfl⟩, ?_⟩
    show l.length - ((i : Int) + 1).toNat < l.length - (i : Int).toNat
    omega
  have h2 := of_decide_eq_true h2
  have ik : k < L.length := by omega
  have hatk := at_ro ik
  refine ⟨by omega, _, hat, ?_⟩
  conv => whnf
  refine ⟨by omega, _, hatk, ?_⟩
  conv => whnf
  rw [len8]
  by_cases g3 : 100 < L[k].length
  · refine Branch.of (fun hh => ?_) (fun hh => ?_)
    rotate_left
    · exfalso; simp only [gt_iff_lt, ge_iff_le, decide_eq_true_eq, decide_eq_false_iff_not, beq_iff_eq, beq_eq_false_iff_ne, bne_iff_ne, bne_eq_false_iff_eq, ne_eq] at hh; first | done | omega | (simp at hh; done)
    try rw [hh]
    clear hh
    conv => whnf
    refine kK2 _ _ ?_
    conv => whnf
    refine kK _ _ ?_
    conv => whnf
    rw [← hno (by rw [List.all_eq_false]; exact ⟨L[k], List.getElem_mem ik, by simp; omega⟩)]
    refine ⟨false, [], ?_⟩
    conv => whnf
    exact ⟨rfl, rfl⟩
  · refine Branch.of (fun hh => ?_) (fun hh => ?_)
    · exfalso; simp only [gt_iff_lt, ge_iff_le, decide_eq_true_eq, decide_eq_false_iff_not, beq_iff_eq, beq_eq_false_iff_ne, bne_iff_ne, bne_eq_false_iff_eq, ne_eq] at hh; first | done | omega | (simp at hh; done)
    try rw [hh]
    clear hh
    conv => whnf
    rw [w64 (x := (k : Int) + 1) (by omega) (by omega)]
    refine kK2 _ _ ?_
    conv => whnf
    refine ⟨⟨k + 1, by omega, ?_, rfl⟩, ?_⟩
    · rw [List.take_succ_eq_append_getElem ik, List.all_append, hka]
      simp; omega
    · show L.length - ((k : Int) + 1).toNat < L.length - (k : Int).toNat
      omega
theorem c_texts (A B : List (List UInt8)) (hA : A.length ≤ 100000000) (hB : B.length ≤ 100000000) (hl : ∀ b ∈ A, b.length < 1000000000) : FnOK Try.prog D 36 [(AV.sl .lf ((A).map fun b => AV.sl .lf (by8 b) .ro) .ro), (AV.sl .lf ((B).map fun b => AV.sl .lf (by8 b) .ro) .ro)] [] (fun r st => r = (AV.sc (.bool (A == B))) ∧ st = []) := by
  refine fnok_of_W hmix tabOK Try.func36 rfl rfl (Nat.le_of_ble_eq_true rfl) ?_
  conv => whnf
  rw [List.length_map, List.length_map]
  by_cases hlen : A.length = B.length
  rotate_left
  · refine Branch.yes (by rw [bne_iff_ne]; omega) ?_
    conv => whnf
    rw [show (A == B) = false by rw [beq_eq_false_iff_ne]; intro e; exact hlen (by rw [e])]
    refine ⟨false, [], ?_⟩
    conv => whnf
    exact ⟨rfl, rfl⟩
  refine Branch.no (by rw [bne_eq_false_iff_eq]; omega) ?_
  conv => whnf
  refine ⟨false, [0, 1, 5], fun τ => ∃ i : Nat, i ≤ A.length ∧ A.take i = B.take i ∧ τ = ⟨27, [(0, (AV.sl .lf ((A).map fun b => AV.sl .lf (by8 b) .ro) .ro)), (1, (AV.sl .lf ((B).map fun b => AV.sl .lf (by8 b) .ro) .ro)), (5, (AV.sc (.int .i64 ((i : Int)))))], ⟨[], [], 0⟩⟩, fun τ => A.length - (slotI τ 5).toNat, ?_, ?_⟩
  · conv => whnf
    exact ⟨0, by omega, by simp, rfl⟩
  rintro τ ⟨i, hi, ht, rfl⟩
  apply enter3
  intro kk kK
  conv => whnf
  rw [List.length_map]
  refine Branch.of (fun h1 => ?_) (fun h1 => ?_) <;> rw [h1] <;> conv => whnf
  rotate_left
  · have h1 := of_decide_eq_false h1
    refine kK _ _ ?_
    conv => whnf
    rw [show (A == B) = true by
      rw [beq_iff_eq]
      rw [List.take_of_length_le (by omega), List.take_of_length_le (by omega)] at ht
      exact ht]
    refine ⟨false, [], ?_⟩
    conv => whnf
    exact ⟨rfl, rfl⟩
  have h1 := of_decide_eq_true h1
  have iA : i < A.length := by omega
  have iB : i < B.length := by omega
  refine ⟨tabF36R6, by decide +kernel, ?_⟩
  conv => whnf
  refine ⟨by omega, _, at_ro iA, ?_⟩
  conv => whnf
  refine ⟨by omega, _, at_ro iB, ?_⟩
  conv => whnf
  refine ⟨_, _, c_same A[i] B[i] (by have := hl _ (List.getElem_mem iA); omega) (m1 := .ro) (m2 := .ro) (.inr rfl) (.inr rfl), ?_⟩
  conv => whnf
  cases he : A[i] == B[i] with
  | false =>
    conv => whnf
    refine kK _ _ ?_
    conv => whnf
    rw [show (A == B) = false by
      rw [beq_eq_false_iff_ne] at he ⊢
      intro e
      subst e
      exact he rfl]
    refine ⟨false, [], ?_⟩
    conv => whnf
    exact ⟨rfl, rfl⟩
  | true =>
    conv => whnf
    rw [w64 (x := (i : Int) + 1) (by omega) (by omega)]
    refine kK _ _ ?_
    conv => whnf
    refine ⟨⟨i + 1, by omega, ?_, rfl⟩, ?_⟩
    · rw [List.take_succ_eq_append_getElem iA, List.take_succ_eq_append_getElem iB, ht, beq_iff_eq.1 he]
    · show A.length - ((i : Int) + 1).toNat < A.length - (i : Int).toNat
      omega
end Go.WL.T5
