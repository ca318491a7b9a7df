/- Seals: which there may be. No condition. -/
import Derived.Test.YtmpnboonjpcmpaaDoorPart15
import Derived.Test.YtmpnboonjpcmpaaDoorWordsD
set_option linter.unusedVariables false
set_option linter.unusedSimpArgs false
namespace Go.WL.T7
open Go.WL Go.Proofs
set_option maxRecDepth 20000
set_option maxHeartbeats 8000000
structure Se where
  v : Int
  ph : Int
  pv : Int
  pg : List UInt8
  deriving DecidableEq
@[irreducible] def maySe (s : Se) : Bool := decide (0 ≤ s.v ∧ s.v ≤ 1099511627776) && decide (0 ≤ s.ph ∧ s.ph ≤ 3) && decide (s.ph = 0 ↔ s.v = 0) && decide (0 ≤ s.pv ∧ s.pv ≤ s.v) && !decide (0 < s.v ∧ s.ph < 3 ∧ s.pv = s.v) && (decide (s.v ≠ 0) || (s.pg == z32))
theorem maySe_eq (s : Se) : maySe s = (decide (0 ≤ s.v ∧ s.v ≤ 1099511627776) && decide (0 ≤ s.ph ∧ s.ph ≤ 3) && decide (s.ph = 0 ↔ s.v = 0) && decide (0 ≤ s.pv ∧ s.pv ≤ s.v) && !decide (0 < s.v ∧ s.ph < 3 ∧ s.pv = s.v) && (decide (s.v ≠ 0) || (s.pg == z32))) := by unfold maySe; rfl
theorem c_swithin (n lo hi : Int) : FnOK Tryd.prog D 171 [(AV.sc (.int .i64 (n))), (AV.sc (.int .i64 (lo))), (AV.sc (.int .i64 (hi)))] [] (fun r st => r = (AV.sc (.bool (decide (lo ≤ n ∧ n ≤ hi)))) ∧ st = []) := by
  refine fnok_of_W hmix tabOK Tryd.func171 rfl rfl (Nat.le_of_ble_eq_true rfl) ?_
  conv => whnf
  repeat' (first
    | (refine And.intro (by omega) ?_
       conv => whnf)
    | (refine Branch.of (fun h => ?_) (fun h => ?_) <;> (rw [h]; conv => whnf)))
  all_goals refine ⟨false, [], ?_⟩
  all_goals conv => whnf
  all_goals refine ⟨?_, rfl⟩
  all_goals congr 2
  all_goals (try simp_all)
  all_goals first | done | omega | (intros; omega) | (rw [Bool.eq_iff_iff]; simp only [Bool.and_eq_true, Bool.or_eq_true, Bool.not_eq_true', decide_eq_true_eq, decide_eq_false_iff_not, beq_iff_eq]; omega)
theorem c_scheck (s : Se) : FnOK Tryd.prog D 141 [(AV.st [.sc (.int .i64 (s).v), .sc (.int .i64 (s).ph), .sc (.int .i64 (s).pv), .ar 32 .lf (by8 (s).pg)])] [] (fun r st => r = (AV.sc (.int .i64 (if maySe s = true then 0 else 1))) ∧ st = []) := by
  refine fnok_of_W hmix tabOK Tryd.func141 rfl rfl (Nat.le_of_ble_eq_true rfl) ?_
  conv => whnf
  by_cases h1 : s.ph = 0 <;> by_cases h2 : s.v = 0
  all_goals first | have hb1 : (s.ph == 0) = false := beq_eq_false_iff_ne.2 h1 | have hb1 : (s.ph == 0) = true := beq_iff_eq.2 h1
  all_goals first | have hb2 : (s.v == 0) = false := beq_eq_false_iff_ne.2 h2 | have hb2 : (s.v == 0) = true := beq_iff_eq.2 h2
  repeat' (first
    | (refine (c_swithin _ _ _).mono fun r st e => ?_
       obtain ⟨rfl, rfl⟩ := e
       conv => whnf)
    | (refine ⟨s.pg, z32, rfl, rfl, ?_⟩
       conv => whnf)
    | (refine And.intro (by omega) ?_
       conv => whnf)
    | (refine Branch.of (fun h => ?_) (fun h => ?_) <;> (rw [h]; conv => whnf)))
  all_goals (try simp only [hb1, hb2] at *)
  all_goals refine ⟨false, [], ?_⟩
  all_goals conv => whnf
  all_goals refine ⟨?_, rfl⟩
  all_goals rw [maySe_eq]
  all_goals congr 2
  all_goals (try simp_all)
  all_goals first | done | omega | (intros; omega) | (rw [Bool.eq_iff_iff]; simp only [Bool.and_eq_true, Bool.or_eq_true, Bool.not_eq_true', decide_eq_true_eq, decide_eq_false_iff_not, beq_iff_eq]; omega)
def lessSe (a b : Se) : Bool := decide (a.v < b.v ∨ (a.v = b.v ∧ a.ph < b.ph))
theorem c_sless (a b : Se) : FnOK Tryd.prog D 172 [(AV.st [.sc (.int .i64 (a).v), .sc (.int .i64 (a).ph), .sc (.int .i64 (a).pv), .ar 32 .lf (by8 (a).pg)]), (AV.st [.sc (.int .i64 (b).v), .sc (.int .i64 (b).ph), .sc (.int .i64 (b).pv), .ar 32 .lf (by8 (b).pg)])] [] (fun r st => r = (AV.sc (.bool (lessSe a b))) ∧ st = []) := by
  refine fnok_of_W hmix tabOK Tryd.func172 rfl rfl (Nat.le_of_ble_eq_true rfl) ?_
  conv => whnf
  unfold lessSe
  repeat' (first
    | (refine And.intro (by omega) ?_
       conv => whnf)
    | (refine Branch.of (fun h => ?_) (fun h => ?_) <;> (rw [h]; conv => whnf)))
  all_goals refine ⟨false, [], ?_⟩
  all_goals conv => whnf
  all_goals refine ⟨?_, rfl⟩
  all_goals congr 2
  all_goals (try simp_all)
  all_goals first | done | omega | (intros; omega) | (rw [Bool.eq_iff_iff]; simp only [Bool.and_eq_true, Bool.or_eq_true, Bool.not_eq_true', decide_eq_true_eq, decide_eq_false_iff_not, beq_iff_eq]; omega)
theorem c_smayR (s : Se) : FnOK Tryd.prog D 143 [(AV.st [.sc (.int .i64 (s).v), .sc (.int .i64 (s).ph), .sc (.int .i64 (s).pv), .ar 32 .lf (by8 (s).pg)])] [] (fun r st => r = (AV.sc (.bool (maySe s))) ∧ st = []) := by
  refine fnok_of_W hmix tabOK Tryd.func143 rfl rfl (Nat.le_of_ble_eq_true rfl) ?_
  conv => whnf
  by_cases h1 : s.ph = 0 <;> by_cases h2 : s.v = 0 <;> by_cases h3 : s.pv = 0 <;> by_cases h4 : s.pg = z32
  all_goals first | have hb1 : (s.ph == 0) = false := beq_eq_false_iff_ne.2 h1 | have hb1 : (s.ph == 0) = true := beq_iff_eq.2 h1
  all_goals first | have hb2 : (s.v == 0) = false := beq_eq_false_iff_ne.2 h2 | have hb2 : (s.v == 0) = true := beq_iff_eq.2 h2
  repeat' (first
    | (refine ⟨s.pg, z32, rfl, rfl, ?_⟩
       conv => whnf)
    | (refine And.intro (by omega) ?_
       conv => whnf)
    | (refine Branch.of (fun h => ?_) (fun h => ?_) <;> (rw [h]; conv => whnf)))
  all_goals (try simp only [hb1, hb2] at *)
  all_goals refine ⟨false, [], ?_⟩
  all_goals conv => whnf
  all_goals refine ⟨?_, rfl⟩
  all_goals rw [maySe_eq]
  all_goals congr 2
  all_goals (try simp_all)
  all_goals first | done | omega | (intros; omega) | (rw [Bool.eq_iff_iff]; simp only [Bool.and_eq_true, Bool.or_eq_true, Bool.not_eq_true', decide_eq_true_eq, decide_eq_false_iff_not, beq_iff_eq]; omega)
def oldSe (s : Se) (v p : Int) : Bool := decide (v < s.v ∨ (s.v = v ∧ p ≤ s.ph))
theorem old_less (s : Se) (v p : Int) (pv : Int) (pg : List UInt8) : oldSe s v p = !lessSe s ⟨v, p, pv, pg⟩ := by
  unfold oldSe lessSe
  rw [← decide_not, decide_eq_decide]
  simp only
  omega
theorem c_old (s : Se) (v p : Int) : FnOK Tryd.prog D 144 [(AV.st [.sc (.int .i64 (s).v), .sc (.int .i64 (s).ph), .sc (.int .i64 (s).pv), .ar 32 .lf (by8 (s).pg)]), (AV.sc (.int .i64 (v))), (AV.sc (.int .i64 (p)))] [] (fun r st => r = (AV.sc (.bool (oldSe s v p))) ∧ st = []) := by
  refine fnok_of_W hmix tabOK Tryd.func144 rfl rfl (Nat.le_of_ble_eq_true rfl) ?_
  conv => whnf
  unfold oldSe
  repeat' (first
    | (refine And.intro (by omega) ?_
       conv => whnf)
    | (refine Branch.of (fun h => ?_) (fun h => ?_) <;> (rw [h]; conv => whnf)))
  all_goals refine ⟨false, [], ?_⟩
  all_goals conv => whnf
  all_goals refine ⟨?_, rfl⟩
  all_goals congr 2
  all_goals simp only [gt_iff_lt, ge_iff_le, beq_iff_eq, beq_eq_false_iff_ne, ne_eq, decide_eq_true_eq, decide_eq_false_iff_not] at *
  all_goals first
    | (rw [eq_comm, decide_eq_true_eq]; omega)
    | (rw [eq_comm, decide_eq_false_iff_not]; omega)
    | (rw [decide_eq_decide]; omega)
end Go.WL.T7
