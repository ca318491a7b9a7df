/- Are receipts the same. No condition. -/
import Derived.Test.YtcmdkiejkheahaaDoorPart31
set_option linter.unusedVariables false
set_option linter.unusedSimpArgs false
namespace Go.WL.T6d
open Go.WL Go.Proofs
set_option maxRecDepth 20000
set_option maxHeartbeats 8000000
theorem rc_eq (a b : Rc) : (a.g == b.g && (a.h == b.h && (a.p == b.p && (a.c == b.c && true)))) = decide (a = b) := by
  obtain ⟨g, h, p, c⟩ := a
  obtain ⟨g2, h2, p2, c2⟩ := b
  rw [Bool.eq_iff_iff]
  simp
theorem takeR_eq {l m : List Rc} {i : Nat} (h1 : i < l.length) (h2 : i < m.length) (h : l.take i = m.take i) (e : l[i] = m[i]) : l.take (i + 1) = m.take (i + 1) := by
  rw [List.take_succ_eq_append_getElem h1, List.take_succ_eq_append_getElem h2, h, e]
theorem c_rsameR (l m : List Rc) (hl : l.length < 4294967296) : FnOK Tryd.prog D 41 [(AV.sl (.nd [.ar 32 .lf, .lf, .lf, .lf]) (rcsA (l)) .ro), (AV.sl (.nd [.ar 32 .lf, .lf, .lf, .lf]) (rcsA (m)) .ro)] [] (fun r st => r = (AV.sc (.bool (decide (l = m)))) ∧ st = []) := by
  have hll := lenR l
  have hlm := lenR m
  refine fnok_of_W hmix tabOK Tryd.func41 rfl rfl (Nat.le_of_ble_eq_true rfl) ?_
  conv => whnf
  rw [hll, hlm]
  refine Branch.of (fun h1 => ?_) (fun h1 => ?_) <;> rw [h1] <;> conv => whnf
  · simp only [bne_iff_ne, ne_eq] at h1
    refine ⟨false, [], ?_⟩
    conv => whnf
    refine ⟨?_, rfl⟩
    rw [decide_eq_false (fun e : l = m => h1 (by rw [e]))]
  simp only [bne_eq_false_iff_eq] at h1
  refine ⟨false, [0, 1, 5], fun τ => ∃ i : Nat, i ≤ l.length ∧ l.take i = m.take i ∧ τ = ⟨26, [(0, (AV.sl (.nd [.ar 32 .lf, .lf, .lf, .lf]) (rcsA (l)) .ro)), (1, (AV.sl (.nd [.ar 32 .lf, .lf, .lf, .lf]) (rcsA (m)) .ro)), (5, (AV.sc (.int .i64 ((i : Int)))))], ⟨[], [], 0⟩⟩, fun τ => l.length - (slotI τ 5).toNat, ?_, ?_⟩
  · conv => whnf
    exact ⟨0, by omega, rfl, rfl⟩
  rintro τ ⟨i, hi, ht, rfl⟩
  conv => whnf
  rw [hll]
  refine Branch.of (fun h2 => ?_) (fun h2 => ?_) <;> rw [h2] <;> conv => whnf
  · simp only [decide_eq_true_eq] at h2
    have il : i < l.length := by omega
    have im : i < m.length := by omega
    refine ⟨tabF41R6, by decide +kernel, ?_⟩
    conv => whnf
    repeat (refine And.intro (by first | omega) ?_; conv => whnf)
    refine ⟨_, atR il, ?_⟩
    conv => whnf
    repeat (refine And.intro (by first | omega) ?_; conv => whnf)
    refine ⟨_, atR im, ?_⟩
    conv => whnf
    refine ⟨l[i].g, m[i].g, rfl, rfl, ?_⟩
    conv => whnf
    rw [rc_eq]
    conv => whnf
    by_cases h3 : l[i] = m[i]
    · rw [decide_eq_true h3]
      conv => whnf
      rw [w64 (x := (i : Int) + 1) (by omega) (by omega)]
      refine ⟨⟨i + 1, by omega, takeR_eq il im ht h3, rfl⟩, ?_⟩
      show l.length - ((i : Int) + 1).toNat < l.length - (i : Int).toNat
      omega
    · rw [decide_eq_false h3]
      conv => whnf
      refine ⟨false, [], ?_⟩
      conv => whnf
      refine ⟨?_, rfl⟩
      rw [decide_eq_false]
      intro e
      subst e
      exact h3 rfl
  · simp only [decide_eq_false_iff_not] at h2
    rw [List.take_of_length_le (by omega), List.take_of_length_le (by omega)] at ht
    refine ⟨false, [], ?_⟩
    conv => whnf
    refine ⟨?_, rfl⟩
    rw [decide_eq_true ht]
end Go.WL.T6d
