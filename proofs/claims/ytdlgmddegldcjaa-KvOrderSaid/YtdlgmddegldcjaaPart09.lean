/- Why a transaction may not be. No condition. -/
import Derived.Test.YtdlgmddegldcjaaPart04
set_option linter.unusedVariables false
set_option linter.unusedSimpArgs false
namespace Go.WL.T5
open Go.WL Go.Proofs
set_option maxRecDepth 20000
set_option maxHeartbeats 8000000
theorem c_txcheck (t : Tx) (hk : t.key.length < 4294967296) : FnOK Try.prog D 102 [(AV.st [.sc (.int .i64 (t).f), .sc (.int .i64 (t).n), .sc (.int .i64 (t).k), .sc (.int .i64 (t).to), .sc (.int .i64 (t).am), .sc (.string (strB (t).key)), .sc (.string (strB (t).val))])] [] (fun r st => r = (AV.sc (.int .i64 (if mayT t = true then 0 else 1))) ∧ st = []) := by
  have hkk := strB_size t.key
  have hvv := strB_size t.val
  have nn := nil_str
  have s1 := strB_list t.key
  have s2 := strB_list t.val
  refine fnok_of_W hmix tabOK Try.func102 rfl rfl (Nat.le_of_ble_eq_true rfl) ?_
  conv => whnf
  repeat' (first
    | (refine (c_txwithin _ _ _).mono fun r st e => ?_
       obtain ⟨rfl, rfl⟩ := e
       conv => whnf)
    | (refine (c_txkey _ hk).mono fun r st e => ?_
       obtain ⟨rfl, rfl⟩ := e
       conv => whnf)
    | (refine And.intro (by omega) ?_
       conv => whnf)
    | (refine Branch.of (fun h => ?_) (fun h => ?_) <;> (rw [h]; conv => whnf)))
  all_goals refine ⟨false, [], ?_⟩
  all_goals conv => whnf
  all_goals refine ⟨?_, rfl⟩
  all_goals rw [mayT_eq]
  all_goals congr 2
  all_goals (try simp_all)
  all_goals first | done | omega | (intros; omega) | (rw [Bool.eq_iff_iff]; simp only [Bool.and_eq_true, Bool.or_eq_true, Bool.not_eq_true', decide_eq_true_eq, decide_eq_false_iff_not, beq_iff_eq]; omega)
theorem c_txkeyR (s : List UInt8) (hs : s.length < 4294967296) : FnOK Try.prog D 92 [(AV.sc (.string (strB (s))))] [] (fun r st => r = (AV.sc (.bool (okKey s))) ∧ st = []) := by
  have hsz := strB_size s
  refine fnok_of_W hmix tabOK Try.func92 rfl rfl (Nat.le_of_ble_eq_true rfl) ?_
  conv => whnf
  refine ⟨false, [0, 3], fun τ => ∃ i : Nat, i ≤ s.length ∧ (s.take i).all keyc = true ∧ τ = ⟨41, [(0, (AV.sc (.string (strB (s))))), (3, (AV.sc (.int .i64 ((i : Int)))))], ⟨[], [], 0⟩⟩, fun τ => s.length - (slotI τ 3).toNat, ?_, ?_⟩
  · conv => whnf
    exact ⟨0, by omega, rfl, rfl⟩
  rintro τ ⟨i, hi, ha, rfl⟩
  conv => whnf
  rw [hsz]
  refine Branch.of (fun h1 => ?_) (fun h1 => ?_) <;> rw [h1] <;> conv => whnf
  · simp only [decide_eq_true_eq] at h1
    have hil : i < s.length := by omega
    have hat : (strB s).toList[((i : Nat) : Int).toNat]? = some s[i] := by rw [strB_list, Int.toNat_natCast, List.getElem?_eq_getElem hil]
    have next : (97 ≤ s[i].toNat ∧ s[i].toNat ≤ 122) ∨ (48 ≤ s[i].toNat ∧ s[i].toNat ≤ 57) → (s.take (i + 1)).all keyc = true := fun h => take_all s i hil keyc ha (keyc_yes h)
    have no : ¬ ((97 ≤ s[i].toNat ∧ s[i].toNat ≤ 122) ∨ (48 ≤ s[i].toNat ∧ s[i].toNat ≤ 57)) → okKey s = false := fun h => by unfold okKey; rw [all_no s i hil keyc (keyc_no h)]; rfl
    repeat' (first
      | (refine ⟨_, hat, ?_⟩
         conv => whnf)
      | (refine And.intro (by omega) ?_
         conv => whnf)
      | (refine Branch.of (fun h => ?_) (fun h => ?_) <;> (rw [h]; conv => whnf)))
    all_goals simp only [ge_iff_le, Bool.not_eq_true', Bool.not_eq_false', decide_eq_true_eq, decide_eq_false_iff_not] at *
    all_goals first
      | (refine ⟨false, [], ?_⟩
         conv => whnf
         refine ⟨?_, rfl⟩
         rw [no (by omega)])
      | (rw [w64 (x := (i : Int) + 1) (by omega) (by omega)]
         refine ⟨⟨i + 1, by omega, next (by omega), rfl⟩, ?_⟩
         show s.length - ((i : Int) + 1).toNat < s.length - (i : Int).toNat
         omega)
  · simp only [decide_eq_false_iff_not] at h1
    rw [List.take_of_length_le (by omega)] at ha
    have e : okKey s = decide (1 ≤ s.length ∧ s.length ≤ 16) := by unfold okKey; rw [ha, Bool.true_and]
    clear ha hi h1
    generalize s.length = L at *
    repeat' (first
      | (refine And.intro (by omega) ?_
         conv => whnf)
      | (refine Branch.of (fun h => ?_) (fun h => ?_) <;> (rw [h]; conv => whnf)))
    all_goals refine ⟨false, [], ?_⟩
    all_goals conv => whnf
    all_goals refine ⟨?_, rfl⟩
    all_goals rw [e]
    all_goals congr 2
    all_goals (try simp_all)
    all_goals first | done | omega | (intros; omega) | (rw [Bool.eq_iff_iff]; simp only [Bool.and_eq_true, Bool.or_eq_true, Bool.not_eq_true', decide_eq_true_eq, decide_eq_false_iff_not, beq_iff_eq]; omega)
end Go.WL.T5
