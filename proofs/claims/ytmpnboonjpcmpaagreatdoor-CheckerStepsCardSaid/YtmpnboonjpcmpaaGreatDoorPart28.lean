/- TxPuts. No condition. -/
import Derived.Test.YtmpnboonjpcmpaaGreatDoorPart27
set_option linter.unusedVariables false
set_option linter.unusedSimpArgs false
namespace Go.WL.T7z
open Go.WL Go.Proofs
set_option maxRecDepth 20000
set_option maxHeartbeats 8000000
theorem up_num (n : Nat) (rest : List UInt8) (top : Int) (h : (n : Int) ≤ top) (hn : n < 18446744073709551616) : up (num n ++ rest, false) top = (n, (rest, false)) := by
  unfold up rupto
  simp only [rnum_num n rest hn]
  rw [if_neg (by simp; omega)]
theorem tex_text (t rest : List UInt8) (h : t.length ≤ 65536) : tex (num t.length ++ (t ++ rest), false) = (t, (rest, false)) := by
  unfold tex
  simp only [rtext_text t rest h]
theorem may_kinds {t : Tx} (h : mayT t = true) : (t.k = 1 ∧ t.key = [] ∧ t.val = []) ∨ (t.k = 2 ∧ t.to = 0 ∧ t.am = 0) ∨ (t.k = 3 ∧ t.to = 0 ∧ t.am = 0 ∧ t.val = []) := by
  rw [mayT_eq] at h
  simp only [Bool.and_eq_true, decide_eq_true_eq] at h
  obtain ⟨_, h3⟩ := h
  split at h3
  · rename_i e
    simp only [Bool.and_eq_true, decide_eq_true_eq, beq_iff_eq] at h3
    exact .inl ⟨e, h3.1.2, h3.2⟩
  · split at h3
    · rename_i e
      simp only [Bool.and_eq_true, decide_eq_true_eq, beq_iff_eq] at h3
      exact .inr (.inl ⟨e, h3.1.1.1, h3.1.1.2⟩)
    · split at h3
      · rename_i e
        simp only [Bool.and_eq_true, decide_eq_true_eq, beq_iff_eq] at h3
        exact .inr (.inr ⟨e, h3.1.1.1, h3.1.1.2, h3.2⟩)
      · cases h3
theorem read_put {t : Tx} (h : mayT t = true) (more : List UInt8) : rawF (txB t ++ more, false) = (t, (more, false)) := by
  obtain ⟨h1, h2, h3, h4, h5, h6, h7⟩ := may_facts h
  have hk := may_kinds h
  obtain ⟨f, n, k, to, am, key, val⟩ := t
  simp only at h1 h2 h3 h4 h5 h6 h7 hk
  obtain ⟨f, rfl⟩ := Int.eq_ofNat_of_zero_le (show 0 ≤ f by omega)
  obtain ⟨n, rfl⟩ := Int.eq_ofNat_of_zero_le (show 0 ≤ n by omega)
  obtain ⟨k, rfl⟩ := Int.eq_ofNat_of_zero_le (show 0 ≤ k by omega)
  obtain ⟨to, rfl⟩ := Int.eq_ofNat_of_zero_le (show 0 ≤ to by omega)
  obtain ⟨am, rfl⟩ := Int.eq_ofNat_of_zero_le (show 0 ≤ am by omega)
  unfold rawF txB
  simp only [Int.toNat_natCast, List.append_assoc]
  rw [up_num f _ 40 (by omega) (by omega)]
  simp only
  rw [up_num n _ 1099511627776 (by omega) (by omega)]
  simp only
  rw [up_num k _ 3 (by omega) (by omega)]
  simp only
  rcases hk with ⟨e, e1, e2⟩ | ⟨e, e1, e2⟩ | ⟨e, e1, e2, e3⟩
  · obtain rfl : k = 1 := by omega
    subst e1 e2
    simp only [if_true]
    rw [if_pos (by rfl), List.append_assoc, up_num to _ 40 (by omega) (by omega)]
    simp only
    rw [up_num am _ 1099511627776 (by omega) (by omega)]
  · obtain rfl : k = 2 := by omega
    obtain rfl : to = 0 := by omega
    obtain rfl : am = 0 := by omega
    rw [if_neg (by decide), if_pos rfl, if_neg (by decide), if_pos (by rfl)]
    simp only [List.append_assoc]
    rw [tex_text key _ (by omega)]
    simp only
    rw [tex_text val _ (by omega)]
    rfl
  · obtain rfl : k = 3 := by omega
    obtain rfl : to = 0 := by omega
    obtain rfl : am = 0 := by omega
    subst e3
    rw [if_neg (by decide), if_neg (by decide), if_pos rfl, if_neg (by decide), if_neg (by decide)]
    simp only [List.append_assoc]
    rw [tex_text key _ (by omega)]
    rfl
theorem c_txlight (t : Tx) : FnOK Tryz.prog D 17 [(AV.st [.sc (.int .i64 (t).f), .sc (.int .i64 (t).n), .sc (.int .i64 (t).k), .sc (.int .i64 (t).to), .sc (.int .i64 (t).am), .sc (.string (strB (t).key)), .sc (.string (strB (t).val))])] [] (fun r st => r = (AV.sc (.bool (decide (t.key.length ≤ 100 ∧ t.val.length ≤ 400)))) ∧ st = []) := by
  have hkk := strB_size t.key
  have hvv := strB_size t.val
  refine fnok_of_W hmix tabOK Tryz.func17 rfl rfl (Nat.le_of_ble_eq_true rfl) ?_
  conv => whnf
  repeat' (first
    | (refine And.intro (by omega) ?_
       conv => whnf)
    | (refine Branch.of (fun h => ?_) (fun h => ?_) <;> (rw [h]; conv => whnf)))
  all_goals refine ⟨false, [], ?_⟩
  all_goals conv => whnf
  all_goals refine ⟨?_, rfl⟩
  all_goals congr 2
  all_goals (try simp_all)
  all_goals first | done | omega | (intros; omega) | (rw [Bool.eq_iff_iff]; simp only [Bool.and_eq_true, Bool.or_eq_true, Bool.not_eq_true', decide_eq_true_eq, decide_eq_false_iff_not, beq_iff_eq]; omega)
end Go.WL.T7z
