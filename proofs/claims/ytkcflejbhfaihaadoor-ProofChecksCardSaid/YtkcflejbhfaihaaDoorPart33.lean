/- ProofChecks. No condition. -/
import Derived.Test.YtkcflejbhfaihaaDoorPart31
import Derived.Test.YtkcflejbhfaihaaDoorPart32
set_option linter.unusedVariables false
set_option linter.unusedSimpArgs false
namespace Go.WL.T4
open Go.WL Go.Proofs
set_option maxRecDepth 20000
set_option maxHeartbeats 8000000
theorem c_pchecks_aux (root : List UInt8) (m : Int) (x : Rc) (pr : List (List UInt8)) (U P : List UInt8) (d : Nat) (w q : Bool) (hr : root.length = 32) (hU : U.length = 32)
    (ca : FnOK Tryd.prog D 58 [] [] (fun r st => r = (AV.sc (.bool (true))) ∧ st = []))
    (cc : pr.length ≤ 30 → FnOK Tryd.prog D 59 [.ar 32 .lf (by8 root), (AV.sc (.int .i64 (m))), (AV.st [.ar 32 .lf (by8 (x).g), .sc (.int .i64 (x).h), .sc (.int .i64 (x).p), .sc (.int .i64 (x).c)]), .sl (.ar 32 .lf) (byH pr) .ro] [] (fun r st => r = (AV.sc (.bool (w && q))) ∧ st = []))
    (cm : FnOK Tryd.prog D 60 [(AV.st [.ar 32 .lf (by8 (x).g), .sc (.int .i64 (x).h), .sc (.int .i64 (x).p), .sc (.int .i64 (x).c)])] [] (fun r st => r = (AV.sc (.bool (w))) ∧ st = []))
    (cd : FnOK Tryd.prog D 53 [(AV.sc (.int .i64 (m))), (AV.sc (.int .i64 (x.p)))] [] (fun r st => r = (AV.sc (.int .i64 ((d : Int)))) ∧ st = []))
    (cb : w = true → FnOK Tryd.prog D 61 [(AV.st [.ar 32 .lf (by8 (x).g), .sc (.int .i64 (x).h), .sc (.int .i64 (x).p), .sc (.int .i64 (x).c)])] [] (fun r st => r = (AV.sl .lf (by8 (P)) (.own 0)) ∧ st = []))
    (cu : w = true → pr.length ≤ 30 → isPlace m x.p = true → pr.length = d → FnOK Tryd.prog D 56 [(AV.sc (.int .i64 (m))), (AV.sc (.int .i64 (x.p))), (AV.sl .lf (by8 (P)) .ro), .sl (.ar 32 .lf) (byH pr) .ro] [] (fun r st => r = .ar 32 .lf (by8 U) ∧ st = []))
    (hp0 : w = true → 0 ≤ x.p) (hq : isPlace m x.p = true → pr.length = d → q = (U == root)) (hq0 : ¬ (isPlace m x.p = true ∧ pr.length = d) → q = false) :
    FnOK Tryd.prog D 14 [.ar 32 .lf (by8 root), .st [(AV.sc (.int .i64 (m))), (AV.st [.ar 32 .lf (by8 (x).g), .sc (.int .i64 (x).h), .sc (.int .i64 (x).p), .sc (.int .i64 (x).c)])], .sl (.ar 32 .lf) (byH pr) .ro] [] (fun r _ => r = (AV.sc (.bool (true)))) := by
  have pf : isPlace m x.p = true → 1 ≤ m ∧ m ≤ 1048576 ∧ 0 ≤ x.p ∧ x.p < m := by
    intro h
    unfold isPlace at h
    simp only [Bool.and_eq_true, decide_eq_true_eq] at h
    omega
  refine fnok_of_W hmix tabOK Tryd.func14 rfl rfl (Nat.le_of_ble_eq_true rfl) ?_
  conv => whnf
  rw [lenH]
  refine Branch.of (fun h1 => ?_) (fun h1 => ?_) <;> rw [h1] <;> conv => whnf
  · refine (ca).mono fun r st e => ?_
    obtain ⟨rfl, rfl⟩ := e
    conv => whnf
    refine ⟨false, [], ?_⟩
    conv => whnf
  simp only [gt_iff_lt, decide_eq_false_iff_not] at h1
  have hp : pr.length ≤ 30 := by omega
  clear h1
  refine Branch.of (fun h2 => ?_) (fun h2 => ?_) <;> rw [h2] <;> conv => whnf
  refine Branch.of (fun h3 => ?_) (fun h3 => ?_) <;> rw [h3] <;> conv => whnf
  · refine (ca).mono fun r st e => ?_
    obtain ⟨rfl, rfl⟩ := e
    conv => whnf
    refine ⟨false, [], ?_⟩
    conv => whnf
  all_goals
    refine (cc hp).mono fun r st e => ?_
    obtain ⟨rfl, rfl⟩ := e
    conv => whnf
    refine (cm).mono fun r st e => ?_
    obtain ⟨rfl, rfl⟩ := e
    conv => whnf
    cases w
    · conv => whnf
      refine (ca).mono fun r st e => ?_
      obtain ⟨rfl, rfl⟩ := e
      conv => whnf
      refine ⟨false, [], ?_⟩
      conv => whnf
    conv => whnf
    refine Branch.of (fun g1 => ?_) (fun g1 => ?_) <;> rw [g1] <;> conv => whnf
    · simp only [decide_eq_true_eq] at g1
      rw [hq0 (fun h => by have := pf h.1; omega)]
      conv => whnf
      refine (ca).mono fun r st e => ?_
      obtain ⟨rfl, rfl⟩ := e
      conv => whnf
      refine ⟨false, [], ?_⟩
      conv => whnf
    refine Branch.of (fun g2 => ?_) (fun g2 => ?_) <;> rw [g2] <;> conv => whnf
    · simp only [gt_iff_lt, decide_eq_true_eq] at g2
      rw [hq0 (fun h => by have := pf h.1; omega)]
      conv => whnf
      refine (ca).mono fun r st e => ?_
      obtain ⟨rfl, rfl⟩ := e
      conv => whnf
      refine ⟨false, [], ?_⟩
      conv => whnf
    refine Branch.of (fun g3 => ?_) (fun g3 => ?_) <;> rw [g3] <;> conv => whnf
    · simp only [ge_iff_le, decide_eq_true_eq] at g3
      rw [hq0 (fun h => by have := pf h.1; omega)]
      conv => whnf
      refine (ca).mono fun r st e => ?_
      obtain ⟨rfl, rfl⟩ := e
      conv => whnf
      refine ⟨false, [], ?_⟩
      conv => whnf
    rw [lenH]
    refine (cd).mono fun r st e => ?_
    obtain ⟨rfl, rfl⟩ := e
    conv => whnf
    refine Branch.of (fun g4 => ?_) (fun g4 => ?_) <;> rw [g4] <;> conv => whnf
    · simp only [bne_iff_ne, ne_eq] at g4
      rw [hq0 (fun h => by have := h.2; omega)]
      conv => whnf
      refine (ca).mono fun r st e => ?_
      obtain ⟨rfl, rfl⟩ := e
      conv => whnf
      refine ⟨false, [], ?_⟩
      conv => whnf
    simp only [gt_iff_lt, ge_iff_le, decide_eq_false_iff_not] at g1 g2 g3
    simp only [bne_eq_false_iff_eq] at g4
    have hl : pr.length = d := by omega
    have h0 := hp0 rfl
    have hy : isPlace m x.p = true := by
      unfold isPlace
      simp only [Bool.and_eq_true, decide_eq_true_eq]
      omega
    refine ⟨tabF14R6, by decide +kernel, ?_⟩
    conv => whnf
    refine ⟨_, _, cb rfl, ?_⟩
    conv => whnf
    refine ⟨_, _, cu rfl hp hy hl, ?_⟩
    conv => whnf
    refine ⟨root, U, rfl, rfl, ?_⟩
    conv => whnf
    rw [hq hy hl, show (root == U) = (U == root) from Bool.beq_comm ..]
    refine Branch.of (fun hh => ?_) (fun hh => ?_)
    rotate_left
    · exfalso; simp only [gt_iff_lt, ge_iff_le, decide_eq_true_eq, decide_eq_false_iff_not, beq_iff_eq, beq_eq_false_iff_ne, bne_iff_ne, bne_eq_false_iff_eq, ne_eq] at hh; first | done | omega | (simp at hh; done)
    try rw [hh]
    clear hh
    conv => whnf
    refine ⟨_, _, ca, ?_⟩
    conv => whnf
    refine ⟨false, [], ?_⟩
    conv => whnf
theorem c_pchecks (root : List UInt8) (m : Int) (x : Rc) (pr : List (List UInt8)) (hr : root.length = 32) (hg : x.g.length = 32) (hpr : ∀ p ∈ pr, p.length = 32) :
    FnOK Tryd.prog D 14 [.ar 32 .lf (by8 root), .st [(AV.sc (.int .i64 (m))), (AV.st [.ar 32 .lf (by8 (x).g), .sc (.int .i64 (x).h), .sc (.int .i64 (x).p), .sc (.int .i64 (x).c)])], .sl (.ar 32 .lf) (byH pr) .ro] [] (fun r _ => r = (AV.sc (.bool (true)))) := by
  refine c_pchecks_aux root m x pr (chkF (sidesF m.toNat m.toNat x.p.toNat) pr (leafB (putC x))) (putC x) (depB m x.p) (mayR x.h x.p x.c) (chkR root m x pr) hr (chkF_len _ _ _ (shaB_len _)) c_awake45
    (fun hp => c_pcheck root m x pr hr hg (by omega) hpr) (c_refmay x.g x.h x.p x.c) (c_depthR m x.p) (fun hw => c_bytesC x hg hw) (fun hw hp hy hl => ?_) (fun hw => ?_) (fun hy hl => ?_) (fun hn => ?_)
  · have hd : depB m x.p = (sidesF m.toNat m.toNat x.p.toNat).length := by
      unfold depB
      rw [if_pos hy]
    obtain ⟨m', a', e1, e2, h1, h2, h3⟩ := place_facts hy
    have hlen := putC_len hg hw
    rw [e1, e2] at hl hd ⊢
    exact c_up m' m' a' (putC x) pr h1 h3 (Nat.le_refl _) (by omega) (by omega) (by omega) hpr (by rw [hl, hd]; rfl)
  · rw [mayR_eq, decide_eq_true_eq] at hw
    omega
  · unfold chkR
    rw [hy, hl, beq_self_eq_true]
    rfl
  · unfold chkR
    cases hy : isPlace m x.p
    · rfl
    · have : pr.length ≠ depB m x.p := fun h => hn ⟨hy, h⟩
      rw [beq_eq_false_iff_ne.2 this]
      rfl
end Go.WL.T4
