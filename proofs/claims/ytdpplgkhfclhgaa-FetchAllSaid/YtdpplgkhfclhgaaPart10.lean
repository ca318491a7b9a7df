/- Blocks that are asked for: messages that ask; an answer is waited for. No condition. -/
import Derived.Test.YtdpplgkhfclhgaaPart08
set_option linter.unusedVariables false
set_option linter.unusedSimpArgs false
namespace Go.WL.T8
open Go.WL Go.Proofs
set_option maxRecDepth 20000
set_option maxHeartbeats 8000000
def zz : List UInt8 := List.replicate 32 0
theorem zz8 : List.replicate 32 (AV.sc (.int .u8 0)) = by8 zz := rfl
theorem c_zcert : FnOK Try.prog D 30 [(.st [.st [.sc (.int .i64 0), .sc (.int .i64 0), .sc (.int .i64 0), .sc (.int .i64 0), .ar 32 .lf (List.replicate 32 (.sc (.int .u8 0))), .sc (.int .i64 0), .ar 32 .lf (List.replicate 32 (.sc (.int .u8 0))), .ar 32 .lf (List.replicate 32 (.sc (.int .u8 0)))], .sl (.nd [.lf, .ar 32 .lf]) [] .ex]), (.st [.st [.sc (.int .i64 0), .sc (.int .i64 0), .sc (.int .i64 0), .sc (.int .i64 0), .ar 32 .lf (List.replicate 32 (.sc (.int .u8 0))), .sc (.int .i64 0), .ar 32 .lf (List.replicate 32 (.sc (.int .u8 0))), .ar 32 .lf (List.replicate 32 (.sc (.int .u8 0)))], .sl (.nd [.lf, .ar 32 .lf]) [] .ex])] [] (fun r st => r = (AV.sc (.bool (true))) ∧ st = []) := by
  refine fnok_of_W hmix tabOK Try.func30 rfl rfl (Nat.le_of_ble_eq_true rfl) ?_
  conv => whnf
  repeat (refine ⟨zz, zz, zz8, zz8, ?_⟩; conv => whnf)
  refine ⟨false, [2, 3, 5], fun τ => τ = ⟨38, [(2, .pt 0 []), (3, .pt 1 []), (5, (AV.sc (.int .i64 (0))))], ⟨[((.st [.st [.sc (.int .i64 0), .sc (.int .i64 0), .sc (.int .i64 0), .sc (.int .i64 0), .ar 32 .lf (List.replicate 32 (.sc (.int .u8 0))), .sc (.int .i64 0), .ar 32 .lf (List.replicate 32 (.sc (.int .u8 0))), .ar 32 .lf (List.replicate 32 (.sc (.int .u8 0)))], .sl (.nd [.lf, .ar 32 .lf]) [] .ex]), false), ((.st [.st [.sc (.int .i64 0), .sc (.int .i64 0), .sc (.int .i64 0), .sc (.int .i64 0), .ar 32 .lf (List.replicate 32 (.sc (.int .u8 0))), .sc (.int .i64 0), .ar 32 .lf (List.replicate 32 (.sc (.int .u8 0))), .ar 32 .lf (List.replicate 32 (.sc (.int .u8 0)))], .sl (.nd [.lf, .ar 32 .lf]) [] .ex]), false)], [], 0⟩⟩, fun τ => 0, ?_, ?_⟩
  · conv => whnf
    exact rfl
  rintro τ rfl
  conv => whnf
  refine ⟨false, [], ?_⟩
  conv => whnf
  exact ⟨rfl, rfl⟩
theorem c_zaccu : FnOK Try.prog D 31 [(.st [.sc (.int .i64 0), .sc (.int .i64 0), .sc (.int .i64 0), .ar 32 .lf (List.replicate 32 (.sc (.int .u8 0))), .sl .lf [] .ex, .ar 32 .lf (List.replicate 32 (.sc (.int .u8 0)))]), (.st [.sc (.int .i64 0), .sc (.int .i64 0), .sc (.int .i64 0), .ar 32 .lf (List.replicate 32 (.sc (.int .u8 0))), .sl .lf [] .ex, .ar 32 .lf (List.replicate 32 (.sc (.int .u8 0)))])] [] (fun r st => r = (AV.sc (.bool (true))) ∧ st = []) := by
  refine fnok_of_W hmix tabOK Try.func31 rfl rfl (Nat.le_of_ble_eq_true rfl) ?_
  conv => whnf
  repeat (refine ⟨zz, zz, zz8, zz8, ?_⟩; conv => whnf)
  refine ⟨false, [2, 3, 5], fun τ => τ = ⟨66, [(2, .pt 0 []), (3, .pt 1 []), (5, (AV.sc (.int .i64 (0))))], ⟨[((.st [.sc (.int .i64 0), .sc (.int .i64 0), .sc (.int .i64 0), .ar 32 .lf (List.replicate 32 (.sc (.int .u8 0))), .sl .lf [] .ex, .ar 32 .lf (List.replicate 32 (.sc (.int .u8 0)))]), false), ((.st [.sc (.int .i64 0), .sc (.int .i64 0), .sc (.int .i64 0), .ar 32 .lf (List.replicate 32 (.sc (.int .u8 0))), .sl .lf [] .ex, .ar 32 .lf (List.replicate 32 (.sc (.int .u8 0)))]), false)], [], 0⟩⟩, fun τ => 0, ?_, ?_⟩
  · conv => whnf
    exact rfl
  rintro τ rfl
  conv => whnf
  refine ⟨false, [], ?_⟩
  conv => whnf
  exact ⟨rfl, rfl⟩
theorem c_zblk : FnOK Try.prog D 32 [(.st [.ar 32 .lf (List.replicate 32 (.sc (.int .u8 0))), .sc (.int .i64 0), .sc (.int .i64 0), .sc (.int .i64 0), .sl (.nd [.lf, .lf, .lf, .lf, .lf, .lf, .lf]) [] .ex]), (.st [.ar 32 .lf (List.replicate 32 (.sc (.int .u8 0))), .sc (.int .i64 0), .sc (.int .i64 0), .sc (.int .i64 0), .sl (.nd [.lf, .lf, .lf, .lf, .lf, .lf, .lf]) [] .ex])] [] (fun r st => r = (AV.sc (.bool (true))) ∧ st = []) := by
  refine fnok_of_W hmix tabOK Try.func32 rfl rfl (Nat.le_of_ble_eq_true rfl) ?_
  conv => whnf
  repeat (refine ⟨zz, zz, zz8, zz8, ?_⟩; conv => whnf)
  refine ⟨false, [2, 3, 5], fun τ => τ = ⟨59, [(2, .pt 0 []), (3, .pt 1 []), (5, (AV.sc (.int .i64 (0))))], ⟨[((.st [.ar 32 .lf (List.replicate 32 (.sc (.int .u8 0))), .sc (.int .i64 0), .sc (.int .i64 0), .sc (.int .i64 0), .sl (.nd [.lf, .lf, .lf, .lf, .lf, .lf, .lf]) [] .ex]), false), ((.st [.ar 32 .lf (List.replicate 32 (.sc (.int .u8 0))), .sc (.int .i64 0), .sc (.int .i64 0), .sc (.int .i64 0), .sl (.nd [.lf, .lf, .lf, .lf, .lf, .lf, .lf]) [] .ex]), false)], [], 0⟩⟩, fun τ => 0, ?_, ?_⟩
  · conv => whnf
    exact rfl
  rintro τ rfl
  conv => whnf
  refine ⟨false, [], ?_⟩
  conv => whnf
  exact ⟨rfl, rfl⟩
theorem c_msame (x : Ms) : FnOK Try.prog D 17 [(AV.st [.sc (.int .i64 7), .sc (.int .i64 (x).f), .sc (.int .i64 (x).t), .st [.sc (.int .i64 0), .sc (.int .i64 0), .sc (.int .i64 0), .sc (.int .i64 0), .ar 32 .lf (List.replicate 32 (.sc (.int .u8 0))), .sc (.int .i64 0), .ar 32 .lf (List.replicate 32 (.sc (.int .u8 0))), .ar 32 .lf (List.replicate 32 (.sc (.int .u8 0)))], .st [.st [.sc (.int .i64 0), .sc (.int .i64 0), .sc (.int .i64 0), .sc (.int .i64 0), .ar 32 .lf (List.replicate 32 (.sc (.int .u8 0))), .sc (.int .i64 0), .ar 32 .lf (List.replicate 32 (.sc (.int .u8 0))), .ar 32 .lf (List.replicate 32 (.sc (.int .u8 0)))], .sl (.nd [.lf, .ar 32 .lf]) [] .ex], .st [.sc (.int .i64 0), .sc (.int .i64 0), .sc (.int .i64 0), .ar 32 .lf (List.replicate 32 (.sc (.int .u8 0))), .sl .lf [] .ex, .ar 32 .lf (List.replicate 32 (.sc (.int .u8 0)))], .st [.ar 32 .lf (List.replicate 32 (.sc (.int .u8 0))), .sc (.int .i64 0), .sc (.int .i64 0), .sc (.int .i64 0), .sl (.nd [.lf, .lf, .lf, .lf, .lf, .lf, .lf]) [] .ex], .ar 32 .lf (by8 (x).h), .st [.sc (.int .i64 0), .sc (.int .i64 0), .sc (.int .i64 0), .sc (.int .i64 0), .sc (.int .i64 0), .sc (.string .empty), .sc (.string .empty)]]), (AV.st [.sc (.int .i64 7), .sc (.int .i64 (x).f), .sc (.int .i64 (x).t), .st [.sc (.int .i64 0), .sc (.int .i64 0), .sc (.int .i64 0), .sc (.int .i64 0), .ar 32 .lf (List.replicate 32 (.sc (.int .u8 0))), .sc (.int .i64 0), .ar 32 .lf (List.replicate 32 (.sc (.int .u8 0))), .ar 32 .lf (List.replicate 32 (.sc (.int .u8 0)))], .st [.st [.sc (.int .i64 0), .sc (.int .i64 0), .sc (.int .i64 0), .sc (.int .i64 0), .ar 32 .lf (List.replicate 32 (.sc (.int .u8 0))), .sc (.int .i64 0), .ar 32 .lf (List.replicate 32 (.sc (.int .u8 0))), .ar 32 .lf (List.replicate 32 (.sc (.int .u8 0)))], .sl (.nd [.lf, .ar 32 .lf]) [] .ex], .st [.sc (.int .i64 0), .sc (.int .i64 0), .sc (.int .i64 0), .ar 32 .lf (List.replicate 32 (.sc (.int .u8 0))), .sl .lf [] .ex, .ar 32 .lf (List.replicate 32 (.sc (.int .u8 0)))], .st [.ar 32 .lf (List.replicate 32 (.sc (.int .u8 0))), .sc (.int .i64 0), .sc (.int .i64 0), .sc (.int .i64 0), .sl (.nd [.lf, .lf, .lf, .lf, .lf, .lf, .lf]) [] .ex], .ar 32 .lf (by8 (x).h), .st [.sc (.int .i64 0), .sc (.int .i64 0), .sc (.int .i64 0), .sc (.int .i64 0), .sc (.int .i64 0), .sc (.string .empty), .sc (.string .empty)]])] [] (fun r st => r = (AV.sc (.bool (true))) ∧ st = []) := by
  obtain ⟨f, t, h⟩ := x
  refine fnok_of_W hmix tabOK Try.func17 rfl rfl (Nat.le_of_ble_eq_true rfl) ?_
  conv => whnf
  rw [beq_self_eq_true]
  conv => whnf
  rw [beq_self_eq_true]
  conv => whnf
  repeat (refine ⟨zz, zz, zz8, zz8, ?_⟩; conv => whnf)
  refine (c_zcert).mono fun r st e => ?_
  obtain ⟨rfl, rfl⟩ := e
  conv => whnf
  refine (c_zaccu).mono fun r st e => ?_
  obtain ⟨rfl, rfl⟩ := e
  conv => whnf
  refine (c_zblk).mono fun r st e => ?_
  obtain ⟨rfl, rfl⟩ := e
  conv => whnf
  refine ⟨h, h, rfl, rfl, ?_⟩
  conv => whnf
  rw [beq_self_eq_true]
  conv => whnf
  refine ⟨false, [], ?_⟩
  conv => whnf
  refine ⟨?_, rfl⟩
  simp
theorem c_mmay (x : Ms) (h1 : 1 ≤ x.f) (h2 : x.f ≤ 21) (h3 : 1 ≤ x.t) (h4 : x.t ≤ 21) (h5 : x.f ≠ x.t) : FnOK Try.prog D 18 [(AV.st [.sc (.int .i64 7), .sc (.int .i64 (x).f), .sc (.int .i64 (x).t), .st [.sc (.int .i64 0), .sc (.int .i64 0), .sc (.int .i64 0), .sc (.int .i64 0), .ar 32 .lf (List.replicate 32 (.sc (.int .u8 0))), .sc (.int .i64 0), .ar 32 .lf (List.replicate 32 (.sc (.int .u8 0))), .ar 32 .lf (List.replicate 32 (.sc (.int .u8 0)))], .st [.st [.sc (.int .i64 0), .sc (.int .i64 0), .sc (.int .i64 0), .sc (.int .i64 0), .ar 32 .lf (List.replicate 32 (.sc (.int .u8 0))), .sc (.int .i64 0), .ar 32 .lf (List.replicate 32 (.sc (.int .u8 0))), .ar 32 .lf (List.replicate 32 (.sc (.int .u8 0)))], .sl (.nd [.lf, .ar 32 .lf]) [] .ex], .st [.sc (.int .i64 0), .sc (.int .i64 0), .sc (.int .i64 0), .ar 32 .lf (List.replicate 32 (.sc (.int .u8 0))), .sl .lf [] .ex, .ar 32 .lf (List.replicate 32 (.sc (.int .u8 0)))], .st [.ar 32 .lf (List.replicate 32 (.sc (.int .u8 0))), .sc (.int .i64 0), .sc (.int .i64 0), .sc (.int .i64 0), .sl (.nd [.lf, .lf, .lf, .lf, .lf, .lf, .lf]) [] .ex], .ar 32 .lf (by8 (x).h), .st [.sc (.int .i64 0), .sc (.int .i64 0), .sc (.int .i64 0), .sc (.int .i64 0), .sc (.int .i64 0), .sc (.string .empty), .sc (.string .empty)]])] [] (fun r st => r = (AV.sc (.bool (true))) ∧ st = []) := by
  have cs := c_msame ⟨x.f, x.t, zz⟩
  obtain ⟨f, t, h⟩ := x
  simp only at h1 h2 h3 h4 h5
  refine fnok_of_W hmix tabOK Try.func18 rfl rfl (Nat.le_of_ble_eq_true rfl) ?_
  conv => whnf
  rw [decide_eq_false (show ¬ f < 1 by omega)]
  conv => whnf
  rw [decide_eq_false (show ¬ f > 21 by omega)]
  conv => whnf
  rw [decide_eq_false (show ¬ t < 1 by omega)]
  conv => whnf
  rw [decide_eq_false (show ¬ t > 21 by omega)]
  conv => whnf
  rw [show (f == t) = false from decide_eq_false h5]
  conv => whnf
  refine (cs).mono fun r st e => ?_
  obtain ⟨rfl, rfl⟩ := e
  conv => whnf
  refine ⟨false, [], ?_⟩
  conv => whnf
  exact ⟨rfl, rfl⟩
def h7 : List UInt8 := 7 :: List.replicate 31 0
theorem c_fnew (me n : Int) (hq : 2 ≤ quo n) (h1 : 1 ≤ me) (h2 : me ≤ n) : FnOK Try.prog D 10 [(AV.sc (.int .i64 (me))), (AV.sc (.int .i64 (n)))] [] (fun r st => r = .tup [.pt 0 [], (AV.sc (.int .i64 (0)))] ∧ st = [.st [(AV.sc (.int .i64 (me))), (AV.sc (.int .i64 (n))), .sl (.nd [.ar 32 .lf, .lf, .lf]) [] .ex]]) := by
  refine fnok_of_W hmix tabOK Try.func10 rfl rfl (Nat.le_of_ble_eq_true rfl) ?_
  conv => whnf
  refine (c_quorum n).mono fun r st e => ?_
  obtain ⟨rfl, rfl⟩ := e
  conv => whnf
  refine Branch.of (fun hh => ?_) (fun hh => ?_)
  · exfalso; simp only [gt_iff_lt, ge_iff_le, decide_eq_true_eq, decide_eq_false_iff_not, beq_iff_eq, beq_eq_false_iff_ne, bne_iff_ne, bne_eq_false_iff_eq, ne_eq] at hh; first | done | omega | (simp at hh; done)
  try rw [hh]
  clear hh
  conv => whnf
  refine Branch.of (fun hh => ?_) (fun hh => ?_)
  · exfalso; simp only [gt_iff_lt, ge_iff_le, decide_eq_true_eq, decide_eq_false_iff_not, beq_iff_eq, beq_eq_false_iff_ne, bne_iff_ne, bne_eq_false_iff_eq, ne_eq] at hh; first | done | omega | (simp at hh; done)
  try rw [hh]
  clear hh
  conv => whnf
  refine Branch.of (fun hh => ?_) (fun hh => ?_)
  · exfalso; simp only [gt_iff_lt, ge_iff_le, decide_eq_true_eq, decide_eq_false_iff_not, beq_iff_eq, beq_eq_false_iff_ne, bne_iff_ne, bne_eq_false_iff_eq, ne_eq] at hh; first | done | omega | (simp at hh; done)
  try rw [hh]
  clear hh
  conv => whnf
  refine ⟨false, [0], ?_⟩
  conv => whnf
  exact ⟨rfl, rfl⟩
theorem c_fnewX (me n : Int) (h : quo n < 2 ∨ me < 1 ∨ n < me) : FnOK Try.prog D 10 [(AV.sc (.int .i64 (me))), (AV.sc (.int .i64 (n)))] [] (fun r st => r = .tup [.sc (.pointer none), (AV.sc (.int .i64 (1)))] ∧ st = []) := by
  refine fnok_of_W hmix tabOK Try.func10 rfl rfl (Nat.le_of_ble_eq_true rfl) ?_
  conv => whnf
  refine (c_quorum n).mono fun r st e => ?_
  obtain ⟨rfl, rfl⟩ := e
  conv => whnf
  by_cases a : quo n < 2
  · refine Branch.of (fun hh => ?_) (fun hh => ?_)
    rotate_left
    · exfalso; simp only [gt_iff_lt, ge_iff_le, decide_eq_true_eq, decide_eq_false_iff_not, beq_iff_eq, beq_eq_false_iff_ne, bne_iff_ne, bne_eq_false_iff_eq, ne_eq] at hh; first | done | omega | (simp at hh; done)
    try rw [hh]
    clear hh
    conv => whnf
    refine ⟨false, [], ?_⟩
    conv => whnf
    exact ⟨rfl, rfl⟩
  refine Branch.of (fun hh => ?_) (fun hh => ?_)
  · exfalso; simp only [gt_iff_lt, ge_iff_le, decide_eq_true_eq, decide_eq_false_iff_not, beq_iff_eq, beq_eq_false_iff_ne, bne_iff_ne, bne_eq_false_iff_eq, ne_eq] at hh; first | done | omega | (simp at hh; done)
  try rw [hh]
  clear hh
  conv => whnf
  by_cases b : me < 1
  · refine Branch.of (fun hh => ?_) (fun hh => ?_)
    rotate_left
    · exfalso; simp only [gt_iff_lt, ge_iff_le, decide_eq_true_eq, decide_eq_false_iff_not, beq_iff_eq, beq_eq_false_iff_ne, bne_iff_ne, bne_eq_false_iff_eq, ne_eq] at hh; first | done | omega | (simp at hh; done)
    try rw [hh]
    clear hh
    conv => whnf
    refine ⟨false, [], ?_⟩
    conv => whnf
    exact ⟨rfl, rfl⟩
  refine Branch.of (fun hh => ?_) (fun hh => ?_)
  · exfalso; simp only [gt_iff_lt, ge_iff_le, decide_eq_true_eq, decide_eq_false_iff_not, beq_iff_eq, beq_eq_false_iff_ne, bne_iff_ne, bne_eq_false_iff_eq, ne_eq] at hh; first | done | omega | (simp at hh; done)
  try rw [hh]
  clear hh
  conv => whnf
  refine Branch.of (fun hh => ?_) (fun hh => ?_)
  rotate_left
  · exfalso; simp only [gt_iff_lt, ge_iff_le, decide_eq_true_eq, decide_eq_false_iff_not, beq_iff_eq, beq_eq_false_iff_ne, bne_iff_ne, bne_eq_false_iff_eq, ne_eq] at hh; first | done | omega | (simp at hh; done)
  try rw [hh]
  clear hh
  conv => whnf
  refine ⟨false, [], ?_⟩
  conv => whnf
  exact ⟨rfl, rfl⟩
theorem c_awake33 : FnOK Try.prog D 9 [] [] (fun r st => r = (AV.sc (.bool (true))) ∧ st = []) := by
  have hq : quo 3 = 2 := by decide
  have cw := c_want0 1 3 h7 3 (by decide) 0 (by decide) [⟨h7, 3, 0⟩] rfl
  have hok : ∀ o l : Int, 0 ≤ o → 0 ≤ l → l ≤ 3 → ∀ w ∈ [(⟨h7, o, l⟩ : Fw)], 0 ≤ w.of_ ∧ 0 ≤ w.left_ ∧ w.left_ ≤ 1000 := by
    intro o l h1 h2 h3 w hw
    rw [List.mem_singleton] at hw
    subst hw
    exact ⟨h1, h2, by show l ≤ 1000; omega⟩
  have ct := fun (o l : Int) h1 h2 h3 cap L hL => c_tickB 1 3 [⟨h7, o, l⟩] cap L hL (by simp) (by decide) (by decide) (hok o l h1 h2 h3)
  have c1 := ct 3 0 (by decide) (by decide) (by decide)
  have c2 := ct 2 3 (by decide) (by decide) (by decide)
  have c3 := ct 2 2 (by decide) (by decide) (by decide)
  have c4 := ct 2 1 (by decide) (by decide) (by decide)
  have c5 := ct 2 0 (by decide) (by decide) (by decide)
  clear ct
  refine fnok_of_W hmix tabOK Try.func9 rfl rfl (Nat.le_of_ble_eq_true rfl) ?_
  conv => whnf
  refine (c_fnew 1 3 (by decide) (by decide) (by decide)).mono fun r st e => ?_
  obtain ⟨rfl, rfl⟩ := e
  conv => whnf
  refine cw.mono ?_
  rintro r st ⟨rfl, ⟨h, _⟩ | ⟨cap, L, hL, rfl⟩⟩
  · cases h
  conv => whnf
  refine (c1 cap L hL).mono ?_
  rintro r st ⟨rfl, L1, hL1, rfl⟩
  replace hL1 : OKW [⟨h7, 2, 3⟩] cap L1 := hL1
  conv => whnf
  refine (c2 cap L1 hL1).mono ?_
  rintro r st ⟨rfl, L2, hL2, rfl⟩
  replace hL2 : OKW [⟨h7, 2, 2⟩] cap L2 := hL2
  conv => whnf
  refine (c3 cap L2 hL2).mono ?_
  rintro r st ⟨rfl, L3, hL3, rfl⟩
  replace hL3 : OKW [⟨h7, 2, 1⟩] cap L3 := hL3
  conv => whnf
  refine (c4 cap L3 hL3).mono ?_
  rintro r st ⟨rfl, L4, hL4, rfl⟩
  replace hL4 : OKW [⟨h7, 2, 0⟩] cap L4 := hL4
  conv => whnf
  refine (c5 cap L4 hL4).mono ?_
  rintro r st ⟨rfl, L5, hL5, rfl⟩
  replace hL5 : OKW [⟨h7, bh 1 3 2, 3⟩] cap L5 := hL5
  rw [show tickM 1 [(⟨h7, 3, 0⟩ : Fw)] = [⟨1, 3, h7⟩] from rfl, show tickM 1 [(⟨h7, 2, 1⟩ : Fw)] = [] from rfl, show tickM 1 [(⟨h7, 2, 0⟩ : Fw)] = [⟨1, 2, h7⟩] from rfl]
  conv => whnf
  refine ⟨by omega, _, rfl, ?_⟩
  conv => whnf
  refine ⟨by omega, _, rfl, ?_⟩
  conv => whnf
  refine (c_wants1 1 3 [⟨h7, bh 1 3 2, 3⟩] cap L5 hL5 (by simp)).mono fun r st e => ?_
  obtain ⟨rfl, rfl⟩ := e
  conv => whnf
  refine ⟨false, [], ?_⟩
  conv => whnf
  exact ⟨rfl, rfl⟩
end Go.WL.T8
