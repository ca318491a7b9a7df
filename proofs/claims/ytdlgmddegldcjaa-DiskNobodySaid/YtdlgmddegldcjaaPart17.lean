/- Nobody's disk: the law. No condition. -/
import Derived.Test.YtdlgmddegldcjaaPart13
set_option linter.unusedVariables false
set_option linter.unusedSimpArgs false
namespace Go.WL.T5
open Go.WL Go.Proofs
set_option maxRecDepth 20000
set_option maxHeartbeats 8000000
theorem c_dn4 (b : List UInt8) (n : Int) (y : UInt8) (hb : b.length ≤ 200) (h0 : b ≠ []) (hn : (b.length : Int) ≤ n) : FnOK Try.prog D 5 [(AV.sl .lf (by8 (b)) .ro), (AV.sc (.int .i64 (n))), (AV.sc (.int .u8 ((y.toNat : Int))))] [] (fun r st => r = (AV.sc (.bool (true))) ∧ st = []) := by
  refine fnok_of_Ws [43] hmix tabOK Try.func5 rfl rfl (Nat.le_of_ble_eq_true rfl) ?_
  conv => whnf
  rw [len8]
  refine Branch.of (fun hh => ?_) (fun hh => ?_)
  · exfalso; simp only [gt_iff_lt, ge_iff_le, decide_eq_true_eq, decide_eq_false_iff_not, beq_iff_eq, beq_eq_false_iff_ne, bne_iff_ne, bne_eq_false_iff_eq, ne_eq] at hh; first | done | omega | (simp at hh; done)
  try rw [hh]
  clear hh
  conv => whnf
  refine (c_new 200 (by decide) (by decide)).mono fun r st e => ?_
  obtain ⟨rfl, rfl⟩ := e
  conv => whnf
  refine (c_append0 ⟨[], 0, 200, -1, false, []⟩ b rfl (by simp [WFk]) (by omega)).mono ?_
  have ha : appP ⟨[], 0, 200, -1, false, []⟩ b = (⟨b, 0, 200, -1, false, []⟩, 0) := by
    simp only [appP]
    rw [if_neg (by simp), if_neg (by simp only [List.length_nil]; omega), if_neg h0]
    rfl
  rw [ha]
  rintro r st ⟨rfl, ⟨h, rfl⟩ | ⟨cap, c2, L, hL, rfl⟩⟩
  · exact absurd h h0
  have hL : OKL b cap c2 L := hL
  have hbl : 0 < b.length := List.length_pos_iff.2 h0
  conv => whnf
  have hs : spoilP ⟨b, 0, 200, -1, false, []⟩ n y = (⟨b, 0, 200, -1, false, []⟩, 1) := by
    simp only [spoilP]
    rw [if_neg (by simp), if_pos (by omega)]
  have cs := c_spoil1 ⟨b, 0, 200, -1, false, []⟩ n y cap c2 L hL (by show (b.length : Int) < _; omega)
  rw [hs] at cs
  refine cs.mono ?_
  rintro r st ⟨rfl, L', hL', rfl⟩
  have hL' : OKL b cap c2 L' := hL'
  conv => whnf
  refine Branch.yes (by rw [len8]; simp [Nat.blt]; omega) ?_
  refine ⟨by rw [len8]; simp; omega, fun cp hc => ?_⟩
  have hc : b.length ≤ cp := by rw [len8] at hc; simp at hc; omega
  have hW := okl_lay0 b cp hc
  conv => whnf
  rw [len8]
  refine Branch.of (fun hh => ?_) (fun hh => ?_)
  · exfalso; simp only [gt_iff_lt, ge_iff_le, decide_eq_true_eq, decide_eq_false_iff_not, beq_iff_eq, beq_eq_false_iff_ne, bne_iff_ne, bne_eq_false_iff_eq, ne_eq] at hh; first | done | omega | (simp at hh; done)
  try rw [hh]
  clear hh
  conv => whnf
  rw [len8]
  refine Branch.yes (decide_eq_true (by show n ≥ (b.length : Int); omega)) ?_
  conv => whnf
  refine (c_all1 ⟨b, 0, 200, -1, false, []⟩ cap c2 L' hL' (by simp [WFk]; omega)).mono fun r st e => ?_
  obtain ⟨rfl, rfl⟩ := e
  conv => whnf
  refine ⟨false, [0, 10, 11, 12, 13], fun τ => ∃ k : Nat, k ≤ 2 ∧ τ = ⟨130, [(0, (AV.sl .lf (by8 (b)) .ro)), (10, .bs 2 [] .lf 0 (0 + b.length) cp), (11, (AV.sl .lf (by8 (b)) .ro)), (12, (AV.sc (.int .i64 (0)))), (13, (AV.sc (.int .i64 ((k : Int)))))], ⟨[((AV.st [.bs 1 [] .lf 0 ((⟨b, 0, 200, -1, false, []⟩ : Pk)).b.length cap, .sc (.int .i64 ((⟨b, 0, 200, -1, false, []⟩ : Pk)).sf), .sc (.int .i64 ((⟨b, 0, 200, -1, false, []⟩ : Pk)).room), .sc (.bool true), .sc (.int .i64 ((⟨b, 0, 200, -1, false, []⟩ : Pk)).armed), .sc (.bool ((⟨b, 0, 200, -1, false, []⟩ : Pk)).dead), .sl .lf (by8 ((⟨b, 0, 200, -1, false, []⟩ : Pk)).h) .ro]), false), (.ar c2 .lf L', false), (.ar cp .lf (lay0 b cp), false)], [], 0⟩⟩, fun τ => 2 - (slotI τ 13).toNat, ?_, ?_⟩
  · conv => whnf
    exact ⟨0, by omega, rfl⟩
  · rintro τ ⟨k, hk, rfl⟩
    conv => whnf
    by_cases hk2 : (k : Int) < 2
    · refine Branch.of (fun hh => ?_) (fun hh => ?_)
      rotate_left
      · exfalso; simp only [gt_iff_lt, ge_iff_le, decide_eq_true_eq, decide_eq_false_iff_not, beq_iff_eq, beq_eq_false_iff_ne, bne_iff_ne, bne_eq_false_iff_eq, ne_eq] at hh; first | done | omega | (simp at hh; done)
      try rw [hh]
      clear hh
      conv => whnf
      by_cases hk1 : k = 1
      · subst hk1
        conv => whnf
        refine (c_armZ).mono fun r st e => ?_
        obtain ⟨rfl, rfl⟩ := e
        conv => whnf
        refine (c_crashZ).mono fun r st e => ?_
        obtain ⟨rfl, rfl⟩ := e
        conv => whnf
        refine (c_allZ).mono fun r st e => ?_
        obtain ⟨rfl, rfl⟩ := e
        conv => whnf
        refine (c_appZ _).mono fun r st e => ?_
        obtain ⟨rfl, rfl⟩ := e
        conv => whnf
        refine (c_syncZ).mono fun r st e => ?_
        obtain ⟨rfl, rfl⟩ := e
        conv => whnf
        refine (c_cutZ).mono fun r st e => ?_
        obtain ⟨rfl, rfl⟩ := e
        conv => whnf
        refine (c_spoilZ).mono fun r st e => ?_
        obtain ⟨rfl, rfl⟩ := e
        conv => whnf
        refine (c_deadZ).mono fun r st e => ?_
        obtain ⟨rfl, rfl⟩ := e
        conv => whnf
        refine (c_safeZ).mono fun r st e => ?_
        obtain ⟨rfl, rfl⟩ := e
        conv => whnf
        exact ⟨⟨2, by omega, rfl⟩, by show (2 : Nat) - 2 < 2 - 1; omega⟩
      · obtain rfl : k = 0 := by omega
        conv => whnf
        refine (c_armN).mono fun r st e => ?_
        obtain ⟨rfl, rfl⟩ := e
        conv => whnf
        refine (c_crashN).mono fun r st e => ?_
        obtain ⟨rfl, rfl⟩ := e
        conv => whnf
        refine (c_allN).mono fun r st e => ?_
        obtain ⟨rfl, rfl⟩ := e
        conv => whnf
        refine (c_appN _).mono fun r st e => ?_
        obtain ⟨rfl, rfl⟩ := e
        conv => whnf
        refine (c_syncN).mono fun r st e => ?_
        obtain ⟨rfl, rfl⟩ := e
        conv => whnf
        refine (c_cutN).mono fun r st e => ?_
        obtain ⟨rfl, rfl⟩ := e
        conv => whnf
        refine (c_spoilN).mono fun r st e => ?_
        obtain ⟨rfl, rfl⟩ := e
        conv => whnf
        refine (c_deadN).mono fun r st e => ?_
        obtain ⟨rfl, rfl⟩ := e
        conv => whnf
        refine (c_safeN).mono fun r st e => ?_
        obtain ⟨rfl, rfl⟩ := e
        conv => whnf
        exact ⟨⟨1, by omega, rfl⟩, by show (2 : Nat) - 1 < 2 - 0; omega⟩
    · refine Branch.of (fun hh => ?_) (fun hh => ?_)
      · exfalso; simp only [gt_iff_lt, ge_iff_le, decide_eq_true_eq, decide_eq_false_iff_not, beq_iff_eq, beq_eq_false_iff_ne, bne_iff_ne, bne_eq_false_iff_eq, ne_eq] at hh; first | done | omega | (simp at hh; done)
      try rw [hh]
      clear hh
      conv => whnf
      rw [List.drop_zero, Nat.zero_add, hW.2.2.2]
      refine (c_same b b (by omega) (m1 := .ro) (m2 := .ro) (.inr rfl) (.inr rfl)).mono fun r st e => ?_
      obtain ⟨rfl, rfl⟩ := e
      conv => whnf
      rw [beq_self_eq_true]
      conv => whnf
      refine (c_awake18).mono fun r st e => ?_
      obtain ⟨rfl, rfl⟩ := e
      conv => whnf
      refine ⟨false, [], ?_⟩
      conv => whnf
      exact ⟨rfl, rfl⟩
end Go.WL.T5
