/- The records that bytes begin with. No condition. -/
import Derived.Test.YtdlgmddegldcjaaPart24
import Derived.Test.YtdlgmddegldcjaaWordsD
set_option linter.unusedVariables false
set_option linter.unusedSimpArgs false
namespace Go.WL.T5
open Go.WL Go.Proofs
set_option maxRecDepth 20000
set_option maxHeartbeats 4000000
def recs : Nat → List UInt8 → List (List UInt8) × Nat
  | 0, _ => ([], 0)
  | k + 1, B => if (nxt B).2.2 = 0 then ((nxt B).1 :: (recs k (B.drop (nxt B).2.1)).1, (nxt B).2.1 + (recs k (B.drop (nxt B).2.1)).2) else ([], 0)
/-- All records that bytes begin with, and how many bytes they are. -/
def recsB (B : List UInt8) : List (List UInt8) × Nat := recs (B.length + 1) B
theorem nxt_fit (B : List UInt8) (h : (nxt B).2.2 = 0) : (nxt B).2.1 = 8 + (nxt B).1.length ∧ 0 < (nxt B).1.length ∧ (nxt B).2.1 ≤ B.length := by
  by_cases h8 : B.length < 8
  · rw [nxt_short h8] at h
    cases h
  obtain ⟨a, b, c, d, e, f, g, hh, l, rfl⟩ := eight h8
  rw [nxt_eq] at h ⊢
  split at h
  · cases h
  · rename_i h1
    rw [if_neg h1]
    split at h
    · cases h
    · rename_i h2
      rw [if_neg h2]
      split at h
      · rename_i h3
        rw [if_pos h3]
        have : (l.take (n4 a b c d)).length = n4 a b c d := by rw [List.length_take]; omega
        refine ⟨by rw [this], by rw [this]; omega, ?_⟩
        simp only [List.length_cons]
        omega
      · cases h
theorem nxt_bad (B : List UInt8) (h : ¬ (nxt B).2.2 = 0) : (nxt B).2.2 = 2 ∨ (nxt B).2.2 = 3 := by
  rcases nxt_cases B with ⟨h1, _⟩ | ⟨h1, _⟩
  · exact absurd h1 h
  · exact h1
theorem cut8 (B : List UInt8) (at_ : Nat) : ((by8 B).drop at_).take ((by8 B).length - at_) = by8 (B.drop at_) := by
  rw [List.take_of_length_le (by rw [List.length_drop]; exact Nat.le_refl _)]
  simp [by8]
theorem c_records (B : List UInt8) (hB : B.length < 100000000) : FnOK Try.prog D 81 [(AV.sl .lf (by8 (B)) .ro)] [] (fun r st => r = .tup [.sl .lf ((recsB B).1.map fun b => (AV.sl .lf (by8 (b)) .ro)) (.own 0), (AV.sc (.int .i64 (((recsB B).2 : Int))))] ∧ st = []) := by
  refine fnok_of_W hmix tabOK Try.func81 rfl rfl (Nat.le_of_ble_eq_true rfl) ?_
  conv => whnf
  refine ⟨true, [0, 4, 5], fun τ => ∃ (a k : Nat) (out : List (List UInt8)), a ≤ B.length ∧ B.length - a < k ∧ out.length ≤ a ∧ recsB B = (out ++ (recs k (B.drop a)).1, a + (recs k (B.drop a)).2) ∧ τ = ⟨28, [(0, (AV.sl .lf (by8 (B)) .ro)), (4, .sl .lf (out.map fun b => (AV.sl .lf (by8 (b)) .ro)) (.own 0)), (5, (AV.sc (.int .i64 ((a : Int)))))], ⟨[], [0], 1⟩⟩, fun τ => B.length - (slotI τ 5).toNat, ?_, ?_⟩
  · conv => whnf
    exact ⟨0, B.length + 1, [], by omega, by omega, by simp, by simp [recsB], rfl⟩
  rintro τ ⟨a, k, out, ha, hk, ho, hr, rfl⟩
  have hd : (B.drop a).length = B.length - a := List.length_drop
  have hcn := c_nextK (B.drop a) (by omega)
  have hfit := nxt_fit (B.drop a)
  have hbad := nxt_bad (B.drop a)
  have hk1 : ∃ k', k = k' + 1 := ⟨k - 1, by omega⟩
  obtain ⟨k, rfl⟩ := hk1
  have hrec : recs (k + 1) (B.drop a) = if (nxt (B.drop a)).2.2 = 0 then ((nxt (B.drop a)).1 :: (recs k ((B.drop a).drop (nxt (B.drop a)).2.1)).1, (nxt (B.drop a)).2.1 + (recs k ((B.drop a).drop (nxt (B.drop a)).2.1)).2) else ([], 0) := rfl
  rw [hrec] at hr
  generalize nxt (B.drop a) = N at hcn hfit hbad hr
  obtain ⟨x, m, e⟩ := N
  simp only at hcn hfit hbad hr
  have lB : (by8 B).length = B.length := len8 B
  conv => whnf
  refine ⟨by omega, by omega, by omega, ?_⟩
  conv => whnf
  rw [show (a : Int).toNat = a from Int.toNat_natCast a, cut8]
  refine (hcn).mono fun r st e => ?_
  obtain ⟨rfl, rfl⟩ := e
  conv => whnf
  by_cases he : e = 0
  · subst he
    obtain ⟨f1, f2, f3⟩ := hfit rfl
    rw [if_pos rfl] at hr
    conv => whnf
    refine ⟨by rw [List.length_map]; simp; omega, ?_⟩
    conv => whnf
    rw [w64 (x := (a : Int) + (m : Int)) (by omega) (by omega)]
    refine ⟨⟨a + m, k, out ++ [x], by omega, by omega, by rw [List.length_append]; simp; omega, ?_, ?_⟩, ?_⟩
    · rw [hr, List.drop_drop]
      simp only [List.append_assoc, List.singleton_append, Nat.add_assoc]
    · rw [List.map_append]
      rfl
    · show B.length - ((a : Int) + (m : Int)).toNat < B.length - (a : Int).toNat
      omega
  · rw [if_neg he] at hr
    refine Branch.yes (by simp; omega) ?_
    conv => whnf
    refine ⟨false, [], ?_⟩
    conv => whnf
    refine ⟨?_, rfl⟩
    rw [hr]
    simp only [List.append_nil, Nat.add_zero]
/-- Is a tail none that a crash leaves? -/
def spoB (B : List UInt8) : Bool := (nxt B).2.2 != 3 && (List.range B.length).any fun i => (nxt (B.drop i)).2.2 == 0
theorem c_spoilt (B : List UInt8) (hB : B.length < 100000000) : FnOK Try.prog D 82 [(AV.sl .lf (by8 (B)) .ro)] [] (fun r st => r = (AV.sc (.bool (spoB B))) ∧ st = []) := by
  have hcn := c_nextK B hB
  have lB : (by8 B).length = B.length := len8 B
  unfold spoB
  generalize hN : nxt B = N at hcn ⊢
  obtain ⟨x, m, e⟩ := N
  simp only at hcn ⊢
  refine fnok_of_W hmix tabOK Try.func82 rfl rfl (Nat.le_of_ble_eq_true rfl) ?_
  conv => whnf
  refine (hcn).mono fun r st e => ?_
  obtain ⟨rfl, rfl⟩ := e
  conv => whnf
  by_cases h3 : e = 3
  · subst h3
    conv => whnf
    refine ⟨false, [], ?_⟩
    conv => whnf
    exact ⟨rfl, rfl⟩
  · refine Branch.no (by rw [beq_eq_false_iff_ne]; omega) ?_
    rw [show (e != 3) = true by simpa using h3, Bool.true_and]
    conv => whnf
    rw [lB]
    refine ⟨false, [0, 19, 20], fun τ => ∃ i : Nat, i ≤ B.length ∧ ((List.range i).any fun i => (nxt (B.drop i)).2.2 == 0) = false ∧ τ = ⟨34, [(0, (AV.sl .lf (by8 (B)) .ro)), (19, (AV.sc (.int .i64 ((B.length : Int))))), (20, (AV.sc (.int .i64 ((i : Int)))))], ⟨[], [], 0⟩⟩, fun τ => B.length - (slotI τ 20).toNat, ?_, ?_⟩
    · conv => whnf
      exact ⟨0, by omega, rfl, rfl⟩
    rintro τ ⟨i, hi, ha, rfl⟩
    conv => whnf
    refine Branch.of (fun h1 => ?_) (fun h1 => ?_) <;> rw [h1] <;> conv => whnf
    · have h1 := of_decide_eq_true h1
      have ih : i < B.length := by omega
      refine ⟨by omega, by omega, by omega, ?_⟩
      conv => whnf
      rw [show (i : Int).toNat = i from Int.toNat_natCast i, cut8]
      have hd : (B.drop i).length = B.length - i := List.length_drop
      have hci := c_nextK (B.drop i) (by omega)
      have hsuc : ((List.range (i + 1)).any fun i => (nxt (B.drop i)).2.2 == 0) = ((nxt (B.drop i)).2.2 == 0) := by
        rw [List.range_succ, List.any_append, ha]
        simp
      have hsub : ((nxt (B.drop i)).2.2 == 0) = true → ((List.range B.length).any fun i => (nxt (B.drop i)).2.2 == 0) = true := by
        intro h
        rw [List.any_eq_true]
        exact ⟨i, List.mem_range.2 ih, h⟩
      generalize nxt (B.drop i) = N at hci hsuc hsub
      obtain ⟨x2, m2, e2⟩ := N
      simp only at hci hsuc hsub
      refine (hci).mono fun r st e => ?_
      obtain ⟨rfl, rfl⟩ := e
      conv => whnf
      by_cases h0 : e2 = 0
      · subst h0
        rw [hsub rfl]
        conv => whnf
        refine ⟨false, [], ?_⟩
        conv => whnf
        exact ⟨rfl, rfl⟩
      · refine Branch.no (by rw [beq_eq_false_iff_ne]; omega) ?_
        conv => whnf
        rw [w64 (x := (i : Int) + 1) (by omega) (by omega)]
        refine ⟨⟨i + 1, by omega, by rw [hsuc]; simpa using h0, rfl⟩, ?_⟩
        show B.length - ((i : Int) + 1).toNat < B.length - (i : Int).toNat
        omega
    · have h1 := of_decide_eq_false h1
      have e : i = B.length := by omega
      rw [← e, ha]
      refine ⟨false, [], ?_⟩
      conv => whnf
      exact ⟨rfl, rfl⟩
end Go.WL.T5
