/- Nobody's disk: the law. No condition. -/
import Derived.Test.YtdlgmddegldcjaaPart13
set_option linter.unusedVariables false
set_option linter.unusedSimpArgs false
namespace Go.WL.T5
open Go.WL Go.Proofs
set_option maxRecDepth 20000
set_option maxHeartbeats 8000000
theorem c_dn2 (n : Int) (y : UInt8) (hn : 0 ≤ n) : FnOK Try.prog D 5 [(AV.sl .lf (by8 ([])) .ro), (AV.sc (.int .i64 (n))), (AV.sc (.int .u8 ((y.toNat : Int))))] [] (fun r st => r = (AV.sc (.bool (true))) ∧ st = []) := by
  refine fnok_of_Ws [43] hmix tabOK Try.func5 rfl rfl (Nat.le_of_ble_eq_true rfl) ?_
  conv => whnf
  refine (c_new 200 (by decide) (by decide)).mono fun r st e => ?_
  obtain ⟨rfl, rfl⟩ := e
  conv => whnf
  refine (c_append0e 0 200 (-1) [] (by decide) (by decide)).mono fun r st e => ?_
  obtain ⟨rfl, rfl⟩ := e
  conv => whnf
  have hs : spoilP ⟨[], 0, 200, -1, false, []⟩ n y = (⟨[], 0, 200, -1, false, []⟩, 1) := by
    simp only [spoilP]
    rw [if_neg (by simp), if_pos (by simp only [List.length_nil]; omega)]
  have cs := c_spoil0 ⟨[], 0, 200, -1, false, []⟩ n y rfl
  rw [hs] at cs
  refine (cs).mono fun r st e => ?_
  obtain ⟨rfl, rfl⟩ := e
  conv => whnf
  refine Branch.of (fun hh => ?_) (fun hh => ?_)
  · exfalso; simp only [gt_iff_lt, ge_iff_le, decide_eq_true_eq, decide_eq_false_iff_not, beq_iff_eq, beq_eq_false_iff_ne, bne_iff_ne, bne_eq_false_iff_eq, ne_eq] at hh; first | done | omega | (simp at hh; done)
  try rw [hh]
  clear hh
  conv => whnf
  refine Branch.yes (decide_eq_true (by show n ≥ (0 : Int); omega)) ?_
  conv => whnf
  refine (c_all0 ⟨[], 0, 200, -1, false, []⟩ rfl (by simp [WFk])).mono fun r st e => ?_
  obtain ⟨rfl, rfl⟩ := e
  conv => whnf
  refine ⟨false, [0, 10, 11, 12, 13], fun τ => ∃ k : Nat, k ≤ 2 ∧ τ = ⟨130, [(0, (AV.sl .lf (by8 ([])) .ro)), (10, .sl .lf [] .ex), (11, (AV.sl .lf (by8 ([])) .ro)), (12, (AV.sc (.int .i64 (0)))), (13, (AV.sc (.int .i64 ((k : Int)))))], ⟨[((AV.st [.sl .lf [] .ex, .sc (.int .i64 ((⟨[], 0, 200, -1, false, []⟩ : Pk)).sf), .sc (.int .i64 ((⟨[], 0, 200, -1, false, []⟩ : Pk)).room), .sc (.bool true), .sc (.int .i64 ((⟨[], 0, 200, -1, false, []⟩ : Pk)).armed), .sc (.bool ((⟨[], 0, 200, -1, false, []⟩ : Pk)).dead), .sl .lf (by8 ((⟨[], 0, 200, -1, false, []⟩ : Pk)).h) .ro]), false)], [], 0⟩⟩, fun τ => 2 - (slotI τ 13).toNat, ?_, ?_⟩
  · conv => whnf
    exact ⟨0, by omega, rfl⟩
  · rintro τ ⟨k, hk, rfl⟩
    conv => whnf
    by_cases hk2 : (k : Int) < 2
    · refine Branch.of (fun hh => ?_) (fun hh => ?_)
      rotate_left
      · exfalso; simp only [gt_iff_lt, ge_iff_le, decide_eq_true_eq, decide_eq_false_iff_not, beq_iff_eq, beq_eq_false_iff_ne, bne_iff_ne, bne_eq_false_iff_eq, ne_eq] at hh; first | done | omega | (simp at hh; done)
      try rw [hh]
      clear hh
      conv => whnf
      by_cases hk1 : k = 1
      · subst hk1
        conv => whnf
        refine (c_armZ).mono fun r st e => ?_
        obtain ⟨rfl, rfl⟩ := e
        conv => whnf
        refine (c_crashZ).mono fun r st e => ?_
        obtain ⟨rfl, rfl⟩ := e
        conv => whnf
        refine (c_allZ).mono fun r st e => ?_
        obtain ⟨rfl, rfl⟩ := e
        conv => whnf
        refine (c_appZ _).mono fun r st e => ?_
        obtain ⟨rfl, rfl⟩ := e
        conv => whnf
        refine (c_syncZ).mono fun r st e => ?_
        obtain ⟨rfl, rfl⟩ := e
        conv => whnf
        refine (c_cutZ).mono fun r st e => ?_
        obtain ⟨rfl, rfl⟩ := e
        conv => whnf
        refine (c_spoilZ).mono fun r st e => ?_
        obtain ⟨rfl, rfl⟩ := e
        conv => whnf
        refine (c_deadZ).mono fun r st e => ?_
        obtain ⟨rfl, rfl⟩ := e
        conv => whnf
        refine (c_safeZ).mono fun r st e => ?_
        obtain ⟨rfl, rfl⟩ := e
        conv => whnf
        exact ⟨⟨2, by omega, rfl⟩, by show (2 : Nat) - 2 < 2 - 1; omega⟩
      · obtain rfl : k = 0 := by omega
        conv => whnf
        refine (c_armN).mono fun r st e => ?_
        obtain ⟨rfl, rfl⟩ := e
        conv => whnf
        refine (c_crashN).mono fun r st e => ?_
        obtain ⟨rfl, rfl⟩ := e
        conv => whnf
        refine (c_allN).mono fun r st e => ?_
        obtain ⟨rfl, rfl⟩ := e
        conv => whnf
        refine (c_appN _).mono fun r st e => ?_
        obtain ⟨rfl, rfl⟩ := e
        conv => whnf
        refine (c_syncN).mono fun r st e => ?_
        obtain ⟨rfl, rfl⟩ := e
        conv => whnf
        refine (c_cutN).mono fun r st e => ?_
        obtain ⟨rfl, rfl⟩ := e
        conv => whnf
        refine (c_spoilN).mono fun r st e => ?_
        obtain ⟨rfl, rfl⟩ := e
        conv => whnf
        refine (c_deadN).mono fun r st e => ?_
        obtain ⟨rfl, rfl⟩ := e
        conv => whnf
        refine (c_safeN).mono fun r st e => ?_
        obtain ⟨rfl, rfl⟩ := e
        conv => whnf
        exact ⟨⟨1, by omega, rfl⟩, by show (2 : Nat) - 1 < 2 - 0; omega⟩
    · refine Branch.of (fun hh => ?_) (fun hh => ?_)
      · exfalso; simp only [gt_iff_lt, ge_iff_le, decide_eq_true_eq, decide_eq_false_iff_not, beq_iff_eq, beq_eq_false_iff_ne, bne_iff_ne, bne_eq_false_iff_eq, ne_eq] at hh; first | done | omega | (simp at hh; done)
      try rw [hh]
      clear hh
      conv => whnf
      refine ((c_same [] [] (by decide) (m1 := .ro) (m2 := .ex) (.inr rfl) (.inl rfl))).mono fun r st e => ?_
      obtain ⟨rfl, rfl⟩ := e
      conv => whnf
      refine (c_awake18).mono fun r st e => ?_
      obtain ⟨rfl, rfl⟩ := e
      conv => whnf
      refine ⟨false, [], ?_⟩
      conv => whnf
      exact ⟨rfl, rfl⟩
end Go.WL.T5
