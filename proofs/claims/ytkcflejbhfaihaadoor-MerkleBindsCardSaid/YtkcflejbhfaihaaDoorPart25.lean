/- Few texts, not too long. No condition. -/
import Derived.Test.YtkcflejbhfaihaaDoorPart24
set_option linter.unusedVariables false
set_option linter.unusedSimpArgs false
namespace Go.WL.T4
open Go.WL Go.Proofs
set_option maxRecDepth 20000
set_option maxHeartbeats 8000000
theorem c_light (l : List (List UInt8)) : FnOK Tryd.prog D 47 [.sl .lf (byL l) .ro] [] (fun r st => (r = (AV.sc (.bool (false))) ∨ (r = (AV.sc (.bool (true))) ∧ l.length ≤ 20 ∧ ∀ t ∈ l, t.length ≤ 200)) ∧ st = []) := by
  refine fnok_of_W hmix tabOK Tryd.func47 rfl rfl (Nat.le_of_ble_eq_true rfl) ?_
  conv => whnf
  refine ⟨false, [0, 3], fun τ => ∃ i : Nat, i ≤ 21 ∧ i ≤ l.length ∧ (∀ j (h : j < l.length), j < i → l[j].length ≤ 200) ∧ τ = ⟨23, [(0, .sl .lf (byL l) .ro), (3, (AV.sc (.int .i64 ((i : Int)))))], ⟨[], [], 0⟩⟩, fun τ => 21 - (slotI τ 3).toNat, ?_, ?_⟩
  · conv => whnf
    exact ⟨0, by omega, by omega, fun j _ h => by omega, rfl⟩
  rintro τ ⟨i, hi, hil, hall, rfl⟩
  conv => whnf
  rw [lenL]
  refine Branch.of (fun h1 => ?_) (fun h1 => ?_) <;> rw [h1] <;> conv => whnf
  · simp only [decide_eq_true_eq] at h1
    refine Branch.of (fun h2 => ?_) (fun h2 => ?_) <;> rw [h2] <;> conv => whnf
    · simp only [decide_eq_true_eq] at h2
      have hl : i < l.length := by omega
      repeat (refine And.intro (by first | omega) ?_; conv => whnf)
      refine ⟨_, (show (byL l)[((i : Nat) : Int).toNat]? = some (AV.sl .lf (by8 (l[i])) .ro) by simp [byL, hl]), ?_⟩
      conv => whnf
      rw [len8]
      refine Branch.of (fun h3 => ?_) (fun h3 => ?_) <;> rw [h3] <;> conv => whnf
      · refine ⟨false, [], ?_⟩
        conv => whnf
        exact ⟨.inl rfl, rfl⟩
      · simp only [gt_iff_lt, decide_eq_false_iff_not] at h3
        rw [w64 (x := (i : Int) + 1) (by omega) (by omega)]
        refine ⟨⟨i + 1, by omega, by omega, fun j h hj => ?_, rfl⟩, ?_⟩
        · by_cases e : j = i
          · subst e; omega
          · exact hall j h (by omega)
        · show 21 - ((i : Int) + 1).toNat < 21 - (i : Int).toNat
          omega
    · simp only [decide_eq_true_eq, decide_eq_false_iff_not] at h1 h2
      rw [lenL]
      refine ⟨false, [], ?_⟩
      conv => whnf
      refine ⟨.inl ?_, rfl⟩
      congr 2
      exact decide_eq_false (by omega)
  · simp only [decide_eq_false_iff_not] at h1
    rw [lenL]
    refine ⟨false, [], ?_⟩
    conv => whnf
    refine ⟨?_, rfl⟩
    by_cases h4 : l.length ≤ 20
    · refine .inr ⟨?_, h4, fun t ht => ?_⟩
      · congr 2
        exact decide_eq_true (by omega)
      · obtain ⟨j, hj, rfl⟩ := List.getElem_of_mem ht
        exact hall j hj (by omega)
    · refine .inl ?_
      congr 2
      exact decide_eq_false (by omega)
end Go.WL.T4
