/- Receipts of a block: the reference's Make; Find, Same. No condition. -/
import Derived.Test.YtcmdkiejkheahaaDoorPart30
set_option linter.unusedVariables false
set_option linter.unusedSimpArgs false
namespace Go.WL.T6d
open Go.WL Go.Proofs
set_option maxRecDepth 20000
set_option maxHeartbeats 8000000
theorem c_rmakeR_aux (h : Int) (l : List Tx) (t : List Int) (I : Tx → List UInt8) (m : Tx → Bool) (R : Bool) (hl : l.length < 4294967296) (ht : t.length < 4294967296)
    (hR : R = (decide (l.length ≤ 8 ∧ l.length = t.length ∧ 1 ≤ h ∧ h ≤ 1099511627776) && okN m l t l.length))
    (ci : ∀ x ∈ l, FnOK Tryd.prog D 17 [(AV.st [.sc (.int .i64 (x).f), .sc (.int .i64 (x).n), .sc (.int .i64 (x).k), .sc (.int .i64 (x).to), .sc (.int .i64 (x).am), .sc (.string (strB (x).key)), .sc (.string (strB (x).val))])] [] (fun r st => r = .ar 32 .lf (by8 (I x)) ∧ st = []))
    (cc : ∀ x ∈ l, FnOK Tryd.prog D 13 [(AV.st [.sc (.int .i64 (x).f), .sc (.int .i64 (x).n), .sc (.int .i64 (x).k), .sc (.int .i64 (x).to), .sc (.int .i64 (x).am), .sc (.string (strB (x).key)), .sc (.string (strB (x).val))])] [] (fun r st => r = (AV.sc (.bool (m x))) ∧ st = [])) :
    FnOK Tryd.prog D 38 [(AV.sc (.int .i64 (h))), (AV.sl (.nd [.lf, .lf, .lf, .lf, .lf, .lf, .lf]) (txsA (l)) .ro), .sl .lf (ints .i64 t) .ro] [] (fun r st => (R = true ∧ r = .tup [.sl (.nd [.ar 32 .lf, .lf, .lf, .lf]) (rcsA (mkN I h l t l.length)) (.own 0), (AV.sc (.bool (true)))] ∨ R = false ∧ r = .tup [.sl (.nd [.ar 32 .lf, .lf, .lf, .lf]) [] .ex, (AV.sc (.bool (false)))]) ∧ st = []) := by
  have hll := lenT l
  have hlt := lenIn t
  refine fnok_of_W hmix tabOK Tryd.func38 rfl rfl (Nat.le_of_ble_eq_true rfl) ?_
  conv => whnf
  by_cases hc : l.length ≤ 8 ∧ l.length = t.length ∧ 1 ≤ h ∧ h ≤ 1099511627776
  rotate_left
  · have hR : R = false := by rw [hR, decide_eq_false hc]; rfl
    subst hR
    clear ci cc
    by_cases c1 : 1 ≤ h
    rotate_left
    · refine Branch.of (fun hh => ?_) (fun hh => ?_)
      rotate_left
      · exfalso; simp only [gt_iff_lt, ge_iff_le, decide_eq_true_eq, decide_eq_false_iff_not, beq_iff_eq, beq_eq_false_iff_ne, bne_iff_ne, bne_eq_false_iff_eq, ne_eq] at hh; first | done | omega | (simp at hh; done)
      try rw [hh]
      clear hh
      conv => whnf
      refine ⟨false, [], ?_⟩
      conv => whnf
      exact ⟨.inr ⟨rfl, rfl⟩, rfl⟩
    refine Branch.of (fun hh => ?_) (fun hh => ?_)
    · exfalso; simp only [gt_iff_lt, ge_iff_le, decide_eq_true_eq, decide_eq_false_iff_not, beq_iff_eq, beq_eq_false_iff_ne, bne_iff_ne, bne_eq_false_iff_eq, ne_eq] at hh; first | done | omega | (simp at hh; done)
    try rw [hh]
    clear hh
    conv => whnf
    by_cases c2 : h ≤ 1099511627776
    rotate_left
    · refine Branch.of (fun hh => ?_) (fun hh => ?_)
      rotate_left
      · exfalso; simp only [gt_iff_lt, ge_iff_le, decide_eq_true_eq, decide_eq_false_iff_not, beq_iff_eq, beq_eq_false_iff_ne, bne_iff_ne, bne_eq_false_iff_eq, ne_eq] at hh; first | done | omega | (simp at hh; done)
      try rw [hh]
      clear hh
      conv => whnf
      refine ⟨false, [], ?_⟩
      conv => whnf
      exact ⟨.inr ⟨rfl, rfl⟩, rfl⟩
    refine Branch.of (fun hh => ?_) (fun hh => ?_)
    · exfalso; simp only [gt_iff_lt, ge_iff_le, decide_eq_true_eq, decide_eq_false_iff_not, beq_iff_eq, beq_eq_false_iff_ne, bne_iff_ne, bne_eq_false_iff_eq, ne_eq] at hh; first | done | omega | (simp at hh; done)
    try rw [hh]
    clear hh
    conv => whnf
    rw [hll]
    by_cases c3 : l.length ≤ 8
    rotate_left
    · refine Branch.of (fun hh => ?_) (fun hh => ?_)
      rotate_left
      · exfalso; simp only [gt_iff_lt, ge_iff_le, decide_eq_true_eq, decide_eq_false_iff_not, beq_iff_eq, beq_eq_false_iff_ne, bne_iff_ne, bne_eq_false_iff_eq, ne_eq] at hh; first | done | omega | (simp at hh; done)
      try rw [hh]
      clear hh
      conv => whnf
      refine ⟨false, [], ?_⟩
      conv => whnf
      exact ⟨.inr ⟨rfl, rfl⟩, rfl⟩
    refine Branch.of (fun hh => ?_) (fun hh => ?_)
    · exfalso; simp only [gt_iff_lt, ge_iff_le, decide_eq_true_eq, decide_eq_false_iff_not, beq_iff_eq, beq_eq_false_iff_ne, bne_iff_ne, bne_eq_false_iff_eq, ne_eq] at hh; first | done | omega | (simp at hh; done)
    try rw [hh]
    clear hh
    conv => whnf
    rw [hlt, hll]
    have c4 : l.length ≠ t.length := fun k => hc ⟨c3, k, c1, c2⟩
    refine Branch.of (fun hh => ?_) (fun hh => ?_)
    rotate_left
    · exfalso; simp only [gt_iff_lt, ge_iff_le, decide_eq_true_eq, decide_eq_false_iff_not, beq_iff_eq, beq_eq_false_iff_ne, bne_iff_ne, bne_eq_false_iff_eq, ne_eq] at hh; first | done | omega | (simp at hh; done)
    try rw [hh]
    clear hh
    conv => whnf
    refine ⟨false, [], ?_⟩
    conv => whnf
    exact ⟨.inr ⟨rfl, rfl⟩, rfl⟩
  obtain ⟨h1, h2, h3, h4⟩ := hc
  refine Branch.of (fun hh => ?_) (fun hh => ?_)
  · exfalso; simp only [gt_iff_lt, ge_iff_le, decide_eq_true_eq, decide_eq_false_iff_not, beq_iff_eq, beq_eq_false_iff_ne, bne_iff_ne, bne_eq_false_iff_eq, ne_eq] at hh; first | done | omega | (simp at hh; done)
  try rw [hh]
  clear hh
  conv => whnf
  refine Branch.of (fun hh => ?_) (fun hh => ?_)
  · exfalso; simp only [gt_iff_lt, ge_iff_le, decide_eq_true_eq, decide_eq_false_iff_not, beq_iff_eq, beq_eq_false_iff_ne, bne_iff_ne, bne_eq_false_iff_eq, ne_eq] at hh; first | done | omega | (simp at hh; done)
  try rw [hh]
  clear hh
  conv => whnf
  rw [hll]
  refine Branch.of (fun hh => ?_) (fun hh => ?_)
  · exfalso; simp only [gt_iff_lt, ge_iff_le, decide_eq_true_eq, decide_eq_false_iff_not, beq_iff_eq, beq_eq_false_iff_ne, bne_iff_ne, bne_eq_false_iff_eq, ne_eq] at hh; first | done | omega | (simp at hh; done)
  try rw [hh]
  clear hh
  conv => whnf
  rw [hlt, hll]
  refine Branch.of (fun hh => ?_) (fun hh => ?_)
  · exfalso; simp only [gt_iff_lt, ge_iff_le, decide_eq_true_eq, decide_eq_false_iff_not, beq_iff_eq, beq_eq_false_iff_ne, bne_iff_ne, bne_eq_false_iff_eq, ne_eq] at hh; first | done | omega | (simp at hh; done)
  try rw [hh]
  clear hh
  conv => whnf
  refine ⟨true, [0, 1, 2, 8, 9], fun τ => ∃ (i : Nat), i ≤ l.length ∧ okN m l t i = true ∧ τ = ⟨71, [(0, (AV.sc (.int .i64 (h)))), (1, (AV.sl (.nd [.lf, .lf, .lf, .lf, .lf, .lf, .lf]) (txsA (l)) .ro)), (2, .sl .lf (ints .i64 t) .ro), (8, .sl (.nd [.ar 32 .lf, .lf, .lf, .lf]) (rcsA (mkN I h l t i)) (.own 0)), (9, (AV.sc (.int .i64 ((i : Int)))))], ⟨[], [0], 1⟩⟩, fun τ => l.length - (slotI τ 9).toNat, ?_, ?_⟩
  · conv => whnf
    exact ⟨0, by omega, rfl, rfl⟩
  rintro τ ⟨i, hi, hok, rfl⟩
  conv => whnf
  rw [hll]
  refine Branch.of (fun h5 => ?_) (fun h5 => ?_) <;> rw [h5] <;> conv => whnf
  · simp only [decide_eq_true_eq] at h5
    have il : i < l.length := by omega
    have it : i < t.length := by omega
    have hmem := List.getElem_mem il
    have hs : okN m l t (i + 1) = (m l[i] && decide (0 ≤ t[i] ∧ t[i] ≤ 20)) := by simp [okN, hok, il, it]
    have hno : okN m l t (i + 1) = false → R = false := fun k => by rw [hR, okN_no k _ il, Bool.and_false]
    repeat (refine And.intro (by first | omega) ?_; conv => whnf)
    refine ⟨_, atT il, ?_⟩
    conv => whnf
    refine (cc _ hmem).mono fun r st e => ?_
    obtain ⟨rfl, rfl⟩ := e
    cases hm : m l[i] with
    | false =>
      conv => whnf
      refine ⟨false, [], ?_⟩
      conv => whnf
      exact ⟨.inr ⟨hno (by rw [hs, hm]; rfl), rfl⟩, rfl⟩
    | true =>
      conv => whnf
      repeat (refine And.intro (by first | omega) ?_; conv => whnf)
      refine ⟨_, atIn it, ?_⟩
      conv => whnf
      by_cases d1 : 0 ≤ t[i]
      rotate_left
      · refine Branch.of (fun hh => ?_) (fun hh => ?_)
        rotate_left
        · exfalso; simp only [gt_iff_lt, ge_iff_le, decide_eq_true_eq, decide_eq_false_iff_not, beq_iff_eq, beq_eq_false_iff_ne, bne_iff_ne, bne_eq_false_iff_eq, ne_eq] at hh; first | done | omega | (simp at hh; done)
        try rw [hh]
        clear hh
        conv => whnf
        refine ⟨false, [], ?_⟩
        conv => whnf
        exact ⟨.inr ⟨hno (by rw [hs, decide_eq_false (fun k => d1 k.1), Bool.and_false]), rfl⟩, rfl⟩
      refine Branch.of (fun hh => ?_) (fun hh => ?_)
      · exfalso; simp only [gt_iff_lt, ge_iff_le, decide_eq_true_eq, decide_eq_false_iff_not, beq_iff_eq, beq_eq_false_iff_ne, bne_iff_ne, bne_eq_false_iff_eq, ne_eq] at hh; first | done | omega | (simp at hh; done)
      try rw [hh]
      clear hh
      conv => whnf
      repeat (refine And.intro (by first | omega) ?_; conv => whnf)
      refine ⟨_, atIn it, ?_⟩
      conv => whnf
      by_cases d2 : t[i] ≤ 20
      rotate_left
      · refine Branch.of (fun hh => ?_) (fun hh => ?_)
        rotate_left
        · exfalso; simp only [gt_iff_lt, ge_iff_le, decide_eq_true_eq, decide_eq_false_iff_not, beq_iff_eq, beq_eq_false_iff_ne, bne_iff_ne, bne_eq_false_iff_eq, ne_eq] at hh; first | done | omega | (simp at hh; done)
        try rw [hh]
        clear hh
        conv => whnf
        refine ⟨false, [], ?_⟩
        conv => whnf
        exact ⟨.inr ⟨hno (by rw [hs, decide_eq_false (fun k => d2 k.2), Bool.and_false]), rfl⟩, rfl⟩
      refine Branch.of (fun hh => ?_) (fun hh => ?_)
      · exfalso; simp only [gt_iff_lt, ge_iff_le, decide_eq_true_eq, decide_eq_false_iff_not, beq_iff_eq, beq_eq_false_iff_ne, bne_iff_ne, bne_eq_false_iff_eq, ne_eq] at hh; first | done | omega | (simp at hh; done)
      try rw [hh]
      clear hh
      conv => whnf
      refine ⟨tabF38R9, by decide +kernel, ?_⟩
      conv => whnf
      repeat (refine And.intro (by first | omega) ?_; conv => whnf)
      refine ⟨_, atT il, ?_⟩
      conv => whnf
      refine ⟨_, _, ci _ hmem, ?_⟩
      conv => whnf
      repeat (refine And.intro (by first | omega) ?_; conv => whnf)
      refine ⟨_, atIn it, ?_⟩
      conv => whnf
      refine And.intro (by rw [lenR, mkN_len]; show _ + 1 < _; omega) ?_
      conv => whnf
      rw [w64 (x := (i : Int) + 1) (by omega) (by omega)]
      refine ⟨⟨i + 1, by omega, by rw [hs, hm, decide_eq_true ⟨d1, d2⟩]; rfl, ?_⟩, ?_⟩
      · rw [mkN, ← snocR]
        simp only [List.getElem?_eq_getElem il, List.getElem?_eq_getElem it, Option.map_some, Option.getD_some]
        rfl
      · show l.length - ((i : Int) + 1).toNat < l.length - (i : Int).toNat
        omega
  · simp only [decide_eq_false_iff_not] at h5
    have e : i = l.length := by omega
    subst e
    have hRt : R = true := by rw [hR, hok, decide_eq_true ⟨h1, h2, h3, h4⟩]; rfl
    refine ⟨false, [], ?_⟩
    conv => whnf
    exact ⟨.inl ⟨hRt, rfl⟩, rfl⟩
end Go.WL.T6d
