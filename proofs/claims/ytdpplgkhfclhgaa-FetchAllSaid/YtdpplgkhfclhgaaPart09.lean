/- Blocks that are asked for: messages that ask; the ring; an answer is waited for. No condition. -/
import Derived.Test.YtdpplgkhfclhgaaPart08
set_option linter.unusedVariables false
set_option linter.unusedSimpArgs false
namespace Go.WL.T8
open Go.WL Go.Proofs
set_option maxRecDepth 20000
set_option maxHeartbeats 8000000
def ringC (me n of_ : Int) : Bool := ((ring me n of_).length == (n - 1).toNat) && ((ring me n of_).headD 0 == of_) && (((ring me n of_).zip ((ring me n of_).tail ++ [(ring me n of_).headD 0])).all fun p => p.2 == bh me n p.1) &&
  ((ring me n of_).all fun p => decide (1 ≤ p) && decide (p ≤ n) && p != me) && ((List.range n.toNat).all fun i : Nat => ((i : Int) + 1 == me) || (ring me n of_).contains ((i : Int) + 1))
theorem ring_all : ([3, 5, 7, 9, 11, 13, 15, 17, 19, 21].all fun n : Nat => (List.range n).all fun me : Nat => (List.range n).all fun o : Nat => me == o || ringC ((me : Int) + 1) (n : Int) ((o : Int) + 1)) = true := by decide +kernel
theorem quo_n {n : Int} (h : 2 ≤ quo n) : ∃ k : Nat, k ∈ [3, 5, 7, 9, 11, 13, 15, 17, 19, 21] ∧ n = (k : Int) := by
  unfold quo at h
  split at h
  · rename_i hn
    obtain ⟨h1, h2⟩ := hn
    unfold isNode at h1
    simp only [Bool.and_eq_true, decide_eq_true_eq] at h1
    refine ⟨n.toNat, ?_, by omega⟩
    have : 3 ≤ n.toNat := by omega
    have : n.toNat ≤ 21 := by omega
    generalize n.toNat = k at *
    have : k = 3 ∨ k = 5 ∨ k = 7 ∨ k = 9 ∨ k = 11 ∨ k = 13 ∨ k = 15 ∨ k = 17 ∨ k = 19 ∨ k = 21 := by omega
    rcases this with rfl | rfl | rfl | rfl | rfl | rfl | rfl | rfl | rfl | rfl <;> decide
  · omega
theorem ring_ok {me n of_ : Int} (hq : 2 ≤ quo n) (h1 : 1 ≤ me) (h2 : me ≤ n) (h3 : 1 ≤ of_) (h4 : of_ ≤ n) (h5 : of_ ≠ me) : ringC me n of_ = true := by
  obtain ⟨k, hk, rfl⟩ := quo_n hq
  have h := ring_all
  rw [List.all_eq_true] at h
  have h := h k hk
  rw [List.all_eq_true] at h
  have h := h (me - 1).toNat (List.mem_range.2 (by omega))
  rw [List.all_eq_true] at h
  have h := h (of_ - 1).toNat (List.mem_range.2 (by omega))
  rw [show (((me - 1).toNat : Nat) : Int) + 1 = me by omega, show (((of_ - 1).toNat : Nat) : Int) + 1 = of_ by omega, show ((me - 1).toNat == (of_ - 1).toNat) = false by rw [beq_eq_false_iff_ne]; omega, Bool.false_or] at h
  exact h
structure RingF (me n of_ : Int) : Prop where
  len : ((ring me n of_).length : Int) = n - 1
  zero : whom me n of_ 0 = of_
  next : ∀ k : Int, 0 ≤ k → whom me n of_ (k + 1) = bh me n (whom me n of_ k)
  lo : ∀ k : Int, 1 ≤ whom me n of_ k ∧ whom me n of_ k ≤ n ∧ whom me n of_ k ≠ me
  all : ∀ p : Int, 1 ≤ p → p ≤ n → p ≠ me → ∃ k : Nat, (k : Int) < n - 1 ∧ whom me n of_ k = p
theorem ring_f {me n of_ : Int} (hq : 2 ≤ quo n) (h1 : 1 ≤ me) (h2 : me ≤ n) (h3 : 1 ≤ of_) (h4 : of_ ≤ n) (h5 : of_ ≠ me) : RingF me n of_ := by
  have hn3 : 3 ≤ n := by
    obtain ⟨k, hk, rfl⟩ := quo_n hq
    have : ∀ k ∈ [3, 5, 7, 9, 11, 13, 15, 17, 19, 21], 3 ≤ k := by decide
    have := this k hk
    omega
  have h := ring_ok hq h1 h2 h3 h4 h5
  unfold ringC at h
  simp only [Bool.and_eq_true, beq_iff_eq] at h
  obtain ⟨⟨⟨⟨c1, c2⟩, c3⟩, c4⟩, c5⟩ := h
  rw [List.all_eq_true] at c3 c4 c5
  have hl : ((ring me n of_).length : Int) = n - 1 := by omega
  have hpos : 0 < (ring me n of_).length := by omega
  have hget : ∀ k : Nat, (ring me n of_).getD (k % (ring me n of_).length) 0 = (ring me n of_)[k % (ring me n of_).length]'(Nat.mod_lt _ hpos) := fun k => by
    rw [List.getD_eq_getElem?_getD, List.getElem?_eq_getElem (Nat.mod_lt _ hpos)]
    rfl
  have hmem : ∀ k : Int, whom me n of_ k ∈ ring me n of_ := fun k => by
    unfold whom
    rw [hget]
    exact List.getElem_mem _
  refine ⟨hl, ?_, fun k hk => ?_, fun k => ?_, fun p p1 p2 p3 => ?_⟩
  · unfold whom
    rw [show (0 : Int).toNat % (ring me n of_).length = 0 by simp]
    have hd : ∀ r : List Int, r.getD 0 0 = r.headD 0 := fun r => by cases r <;> rfl
    rw [hd, c2]
  · obtain ⟨k, rfl⟩ : ∃ j : Nat, k = (j : Int) := ⟨k.toNat, by omega⟩
    unfold whom
    rw [show ((k : Int) + 1).toNat = k + 1 by omega, Int.toNat_natCast]
    have hk' : k % (ring me n of_).length < (ring me n of_).length := Nat.mod_lt _ hpos
    have key : ∀ (r : List Int) (j : Nat), j < r.length → (r.tail ++ [r.headD 0])[j]? = some (r.getD ((j + 1) % r.length) 0) := by
      intro r j hj
      cases r with
      | nil => simp at hj
      | cons a r =>
        simp only [List.length_cons] at hj
        by_cases e : j < r.length
        · rw [List.tail_cons, List.getElem?_append_left e, Nat.mod_eq_of_lt (by simp only [List.length_cons]; omega), List.getD_eq_getElem?_getD, List.getElem?_cons_succ, List.getElem?_eq_getElem e]
          rfl
        · have e : j = r.length := by omega
          subst e
          rw [List.tail_cons, List.getElem?_append_right (Nat.le_refl _), Nat.sub_self, List.length_cons, Nat.mod_self]
          rfl
    have k1 := key (ring me n of_) (k % (ring me n of_).length) hk'
    rw [Nat.mod_add_mod] at k1
    have hz : ((ring me n of_).zip ((ring me n of_).tail ++ [(ring me n of_).headD 0]))[k % (ring me n of_).length]? = some ((ring me n of_)[k % (ring me n of_).length], (ring me n of_).getD ((k + 1) % (ring me n of_).length) 0) := by
      rw [List.getElem?_zip_eq_some]
      exact ⟨List.getElem?_eq_getElem hk', k1⟩
    have := c3 _ (List.mem_of_getElem? hz)
    rw [beq_iff_eq] at this
    rw [hget k]
    exact this
  · have := c4 _ (hmem k)
    simp only [Bool.and_eq_true, decide_eq_true_eq, bne_iff_ne] at this
    exact ⟨this.1.1, this.1.2, this.2⟩
  · have := c5 (p - 1).toNat (List.mem_range.2 (by omega))
    rw [show (((p - 1).toNat : Nat) : Int) + 1 = p by omega, Bool.or_eq_true, beq_iff_eq] at this
    rcases this with h | h
    · exact absurd h p3
    · rw [List.contains_iff_mem] at h
      obtain ⟨k, hk, e⟩ := List.getElem_of_mem h
      refine ⟨k, by omega, ?_⟩
      unfold whom
      rw [Int.toNat_natCast, hget, ← e]
      congr 1
      exact Nat.mod_eq_of_lt hk
end Go.WL.T8
