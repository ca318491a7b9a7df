/- MerkleChecks. No condition. -/
import Derived.Test.YtkcflejbhfaihaaDoorPart23
set_option linter.unusedVariables false
set_option linter.unusedSimpArgs false
namespace Go.WL.T4
open Go.WL Go.Proofs
set_option maxRecDepth 20000
set_option maxHeartbeats 8000000
theorem c_mchecks_aux (root text : List UInt8) (m a : Int) (pr : List (List UInt8)) (U : List UInt8) (d : Nat) (k : Bool) (hr : root.length = 32) (hU : U.length = 32)
    (ca : FnOK Tryd.prog D 48 [] [] (fun r st => r = (AV.sc (.bool (true))) ∧ st = []))
    (cd : FnOK Tryd.prog D 53 [(AV.sc (.int .i64 (m))), (AV.sc (.int .i64 (a)))] [] (fun r st => r = (AV.sc (.int .i64 ((d : Int)))) ∧ st = []))
    (cc : text.length ≤ 200 → pr.length ≤ 30 → FnOK Tryd.prog D 55 [.ar 32 .lf (by8 root), (AV.sc (.int .i64 (m))), (AV.sc (.int .i64 (a))), (AV.sl .lf (by8 (text)) .ro), .sl (.ar 32 .lf) (byH pr) .ro] [] (fun r st => r = (AV.sc (.bool (k))) ∧ st = []))
    (cu : text.length ≤ 200 → pr.length ≤ 30 → isPlace m a = true → pr.length = d → FnOK Tryd.prog D 56 [(AV.sc (.int .i64 (m))), (AV.sc (.int .i64 (a))), (AV.sl .lf (by8 (text)) .ro), .sl (.ar 32 .lf) (byH pr) .ro] [] (fun r st => r = .ar 32 .lf (by8 U) ∧ st = []))
    (hk : isPlace m a = true → pr.length = d → k = (U == root)) (hk2 : isPlace m a = false → k = false) (hk3 : pr.length ≠ d → k = false) :
    FnOK Tryd.prog D 12 [.ar 32 .lf (by8 root), .st [(AV.sc (.int .i64 (m))), (AV.sc (.int .i64 (a))), (AV.sl .lf (by8 (text)) .ro)], .sl (.ar 32 .lf) (byH pr) .ro] [] (fun r _ => r = (AV.sc (.bool (true)))) := by
  refine fnok_of_W hmix tabOK Tryd.func12 rfl rfl (Nat.le_of_ble_eq_true rfl) ?_
  conv => whnf
  rw [len8]
  refine Branch.of (fun h1 => ?_) (fun h1 => ?_) <;> rw [h1] <;> conv => whnf
  · refine (ca).mono fun r st e => ?_
    obtain ⟨rfl, rfl⟩ := e
    conv => whnf
    refine ⟨false, [], ?_⟩
    conv => whnf
  rw [lenH]
  refine Branch.of (fun h2 => ?_) (fun h2 => ?_) <;> rw [h2] <;> conv => whnf
  · refine (ca).mono fun r st e => ?_
    obtain ⟨rfl, rfl⟩ := e
    conv => whnf
    refine ⟨false, [], ?_⟩
    conv => whnf
  simp only [gt_iff_lt, decide_eq_false_iff_not] at h1 h2
  have ht : text.length ≤ 200 := by omega
  have hp : pr.length ≤ 30 := by omega
  refine Branch.of (fun h3 => ?_) (fun h3 => ?_) <;> rw [h3] <;> conv => whnf
  · refine Branch.of (fun h4 => ?_) (fun h4 => ?_) <;> rw [h4] <;> conv => whnf
    · refine (ca).mono fun r st e => ?_
      obtain ⟨rfl, rfl⟩ := e
      conv => whnf
      refine ⟨false, [], ?_⟩
      conv => whnf
    · refine (cc ht hp).mono fun r st e => ?_
      obtain ⟨rfl, rfl⟩ := e
      conv => whnf
      refine Branch.of (fun g1 => ?_) (fun g1 => ?_) <;> rw [g1] <;> conv => whnf
      · have hn : isPlace m a = false := by
          cases h : isPlace m a
          · rfl
          · obtain ⟨m', a', rfl, rfl, q1, q2, q3⟩ := place_facts h
            simp only [gt_iff_lt, ge_iff_le, decide_eq_true_eq] at g1
            omega
        rw [hk2 hn]
        conv => whnf
        refine (ca).mono fun r st e => ?_
        obtain ⟨rfl, rfl⟩ := e
        conv => whnf
        refine ⟨false, [], ?_⟩
        conv => whnf
      refine Branch.of (fun g2 => ?_) (fun g2 => ?_) <;> rw [g2] <;> conv => whnf
      · have hn : isPlace m a = false := by
          cases h : isPlace m a
          · rfl
          · obtain ⟨m', a', rfl, rfl, q1, q2, q3⟩ := place_facts h
            simp only [gt_iff_lt, ge_iff_le, decide_eq_true_eq] at g2
            omega
        rw [hk2 hn]
        conv => whnf
        refine (ca).mono fun r st e => ?_
        obtain ⟨rfl, rfl⟩ := e
        conv => whnf
        refine ⟨false, [], ?_⟩
        conv => whnf
      refine Branch.of (fun g3 => ?_) (fun g3 => ?_) <;> rw [g3] <;> conv => whnf
      · have hn : isPlace m a = false := by
          cases h : isPlace m a
          · rfl
          · obtain ⟨m', a', rfl, rfl, q1, q2, q3⟩ := place_facts h
            simp only [gt_iff_lt, ge_iff_le, decide_eq_true_eq] at g3
            omega
        rw [hk2 hn]
        conv => whnf
        refine (ca).mono fun r st e => ?_
        obtain ⟨rfl, rfl⟩ := e
        conv => whnf
        refine ⟨false, [], ?_⟩
        conv => whnf
      refine Branch.of (fun g4 => ?_) (fun g4 => ?_) <;> rw [g4] <;> conv => whnf
      · have hn : isPlace m a = false := by
          cases h : isPlace m a
          · rfl
          · obtain ⟨m', a', rfl, rfl, q1, q2, q3⟩ := place_facts h
            simp only [gt_iff_lt, ge_iff_le, decide_eq_true_eq] at g4
            omega
        rw [hk2 hn]
        conv => whnf
        refine (ca).mono fun r st e => ?_
        obtain ⟨rfl, rfl⟩ := e
        conv => whnf
        refine ⟨false, [], ?_⟩
        conv => whnf
      have hy : isPlace m a = true := by
        simp only [gt_iff_lt, ge_iff_le, decide_eq_false_iff_not] at g1 g2 g3 g4
        unfold isPlace
        rw [decide_eq_true (show 1 ≤ m by omega), decide_eq_true (show m ≤ 1048576 by omega), decide_eq_true (show 0 ≤ a by omega), decide_eq_true (show a < m by omega)]
        rfl
      rw [lenH]
      refine (cd).mono fun r st e => ?_
      obtain ⟨rfl, rfl⟩ := e
      conv => whnf
      refine Branch.of (fun g5 => ?_) (fun g5 => ?_) <;> rw [g5] <;> conv => whnf
      · simp only [bne_iff_ne, ne_eq] at g5
        rw [hk3 (by omega)]
        conv => whnf
        refine (ca).mono fun r st e => ?_
        obtain ⟨rfl, rfl⟩ := e
        conv => whnf
        refine ⟨false, [], ?_⟩
        conv => whnf
      simp only [bne_eq_false_iff_eq] at g5
      have hl : pr.length = d := by omega
      refine ⟨tabF12R6, by decide +kernel, ?_⟩
      conv => whnf
      refine ⟨_, _, cu ht hp hy hl, ?_⟩
      conv => whnf
      refine ⟨root, U, rfl, rfl, ?_⟩
      conv => whnf
      rw [hk hy hl, show (root == U) = (U == root) from Bool.beq_comm ..]
      refine Branch.of (fun hh => ?_) (fun hh => ?_)
      rotate_left
      · exfalso; simp only [gt_iff_lt, ge_iff_le, decide_eq_true_eq, decide_eq_false_iff_not, beq_iff_eq, beq_eq_false_iff_ne, bne_iff_ne, bne_eq_false_iff_eq, ne_eq] at hh; first | done | omega | (simp at hh; done)
      try rw [hh]
      clear hh
      conv => whnf
      refine ⟨_, _, ca, ?_⟩
      conv => whnf
      refine ⟨false, [], ?_⟩
      conv => whnf
  · refine (cc ht hp).mono fun r st e => ?_
    obtain ⟨rfl, rfl⟩ := e
    conv => whnf
    refine Branch.of (fun g1 => ?_) (fun g1 => ?_) <;> rw [g1] <;> conv => whnf
    · have hn : isPlace m a = false := by
        cases h : isPlace m a
        · rfl
        · obtain ⟨m', a', rfl, rfl, q1, q2, q3⟩ := place_facts h
          simp only [gt_iff_lt, ge_iff_le, decide_eq_true_eq] at g1
          omega
      rw [hk2 hn]
      conv => whnf
      refine (ca).mono fun r st e => ?_
      obtain ⟨rfl, rfl⟩ := e
      conv => whnf
      refine ⟨false, [], ?_⟩
      conv => whnf
    refine Branch.of (fun g2 => ?_) (fun g2 => ?_) <;> rw [g2] <;> conv => whnf
    · have hn : isPlace m a = false := by
        cases h : isPlace m a
        · rfl
        · obtain ⟨m', a', rfl, rfl, q1, q2, q3⟩ := place_facts h
          simp only [gt_iff_lt, ge_iff_le, decide_eq_true_eq] at g2
          omega
      rw [hk2 hn]
      conv => whnf
      refine (ca).mono fun r st e => ?_
      obtain ⟨rfl, rfl⟩ := e
      conv => whnf
      refine ⟨false, [], ?_⟩
      conv => whnf
    refine Branch.of (fun g3 => ?_) (fun g3 => ?_) <;> rw [g3] <;> conv => whnf
    · have hn : isPlace m a = false := by
        cases h : isPlace m a
        · rfl
        · obtain ⟨m', a', rfl, rfl, q1, q2, q3⟩ := place_facts h
          simp only [gt_iff_lt, ge_iff_le, decide_eq_true_eq] at g3
          omega
      rw [hk2 hn]
      conv => whnf
      refine (ca).mono fun r st e => ?_
      obtain ⟨rfl, rfl⟩ := e
      conv => whnf
      refine ⟨false, [], ?_⟩
      conv => whnf
    refine Branch.of (fun g4 => ?_) (fun g4 => ?_) <;> rw [g4] <;> conv => whnf
    · have hn : isPlace m a = false := by
        cases h : isPlace m a
        · rfl
        · obtain ⟨m', a', rfl, rfl, q1, q2, q3⟩ := place_facts h
          simp only [gt_iff_lt, ge_iff_le, decide_eq_true_eq] at g4
          omega
      rw [hk2 hn]
      conv => whnf
      refine (ca).mono fun r st e => ?_
      obtain ⟨rfl, rfl⟩ := e
      conv => whnf
      refine ⟨false, [], ?_⟩
      conv => whnf
    have hy : isPlace m a = true := by
      simp only [gt_iff_lt, ge_iff_le, decide_eq_false_iff_not] at g1 g2 g3 g4
      unfold isPlace
      rw [decide_eq_true (show 1 ≤ m by omega), decide_eq_true (show m ≤ 1048576 by omega), decide_eq_true (show 0 ≤ a by omega), decide_eq_true (show a < m by omega)]
      rfl
    rw [lenH]
    refine (cd).mono fun r st e => ?_
    obtain ⟨rfl, rfl⟩ := e
    conv => whnf
    refine Branch.of (fun g5 => ?_) (fun g5 => ?_) <;> rw [g5] <;> conv => whnf
    · simp only [bne_iff_ne, ne_eq] at g5
      rw [hk3 (by omega)]
      conv => whnf
      refine (ca).mono fun r st e => ?_
      obtain ⟨rfl, rfl⟩ := e
      conv => whnf
      refine ⟨false, [], ?_⟩
      conv => whnf
    simp only [bne_eq_false_iff_eq] at g5
    have hl : pr.length = d := by omega
    refine ⟨tabF12R6, by decide +kernel, ?_⟩
    conv => whnf
    refine ⟨_, _, cu ht hp hy hl, ?_⟩
    conv => whnf
    refine ⟨root, U, rfl, rfl, ?_⟩
    conv => whnf
    rw [hk hy hl, show (root == U) = (U == root) from Bool.beq_comm ..]
    refine Branch.of (fun hh => ?_) (fun hh => ?_)
    rotate_left
    · exfalso; simp only [gt_iff_lt, ge_iff_le, decide_eq_true_eq, decide_eq_false_iff_not, beq_iff_eq, beq_eq_false_iff_ne, bne_iff_ne, bne_eq_false_iff_eq, ne_eq] at hh; first | done | omega | (simp at hh; done)
    try rw [hh]
    clear hh
    conv => whnf
    refine ⟨_, _, ca, ?_⟩
    conv => whnf
    refine ⟨false, [], ?_⟩
    conv => whnf
theorem c_mchecks (root text : List UInt8) (m a : Int) (pr : List (List UInt8)) (hr : root.length = 32) (hpr : ∀ p ∈ pr, p.length = 32) :
    FnOK Tryd.prog D 12 [.ar 32 .lf (by8 root), .st [(AV.sc (.int .i64 (m))), (AV.sc (.int .i64 (a))), (AV.sl .lf (by8 (text)) .ro)], .sl (.ar 32 .lf) (byH pr) .ro] [] (fun r _ => r = (AV.sc (.bool (true)))) := by
  refine c_mchecks_aux root text m a pr (chkF (sidesF m.toNat m.toNat a.toNat) pr (leafB text)) (depB m a) (isPlace m a && (pr.length == depB m a) && (chkF (sidesF m.toNat m.toNat a.toNat) pr (leafB text) == root)) hr (chkF_len _ _ _ (shaB_len _)) c_awake26 (c_depthR m a)
    (fun ht hp => c_chk root text m a pr hr (by omega) (by omega) hpr) (fun ht hp hy hl => ?_) (fun hy hl => ?_) (fun hn => ?_) (fun hl => ?_)
  · have hd : depB m a = (sidesF m.toNat m.toNat a.toNat).length := by
      unfold depB
      rw [if_pos hy]
    obtain ⟨m', a', rfl, rfl, h1, h2, h3⟩ := place_facts hy
    exact c_up m' m' a' text pr h1 h3 (Nat.le_refl _) (by omega) (by omega) (by omega) hpr (by rw [hl, hd]; rfl)
  · rw [hy, hl, beq_self_eq_true]
    rfl
  · rw [hn]
    rfl
  · rw [beq_eq_false_iff_ne.2 hl]
    simp
end Go.WL.T4
