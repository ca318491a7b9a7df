/- KeysMeet. No condition. -/
import Derived.Test.YtkcflejbhfaihaaDoorPart14
set_option linter.unusedVariables false
set_option linter.unusedSimpArgs false
namespace Go.WL.T4b
open Go.WL Go.Proofs
set_option maxRecDepth 20000
set_option maxHeartbeats 8000000
/-- Unlike numbers from 1 on, up to n. -/
def partsP (l : List Int) (n : Int) : Prop := l.length ≤ 30 ∧ ∀ i (h : i < l.length), 1 ≤ l[i] ∧ l[i] ≤ n ∧ ∀ k (hk : k < i), l[k] ≠ l[i]
theorem pigeon : ∀ (m : Nat) (l : List Int), (∀ x ∈ l, 1 ≤ x ∧ x ≤ m) → l.Nodup → l.length ≤ m := by
  intro m
  induction m with
  | zero => intro l h _; cases l with
    | nil => simp
    | cons x l => have := h x (by simp); omega
  | succ m ih =>
    intro l h hn
    have h1 := ih (l.filter (· ≠ ((m : Int) + 1))) (fun x hx => by
      have h2 := h x (List.mem_filter.1 hx).1
      have h3 := (List.mem_filter.1 hx).2
      simp at h3
      omega) (hn.filter _)
    have h4 : l.length ≤ (l.filter (· ≠ ((m : Int) + 1))).length + 1 := by
      clear ih h h1
      induction l with
      | nil => simp
      | cons x l ih =>
        have hx := (List.nodup_cons.1 hn)
        by_cases e : x = (m : Int) + 1
        · have : l.filter (· ≠ ((m : Int) + 1)) = l := List.filter_eq_self.2 (fun y hy => by
            simp only [ne_eq, decide_not, Bool.not_eq_eq_eq_not, Bool.not_true, decide_eq_false_iff_not]
            intro e2
            exact hx.1 (by rw [e, ← e2]; exact hy))
          rw [List.filter_cons_of_neg (by simp [e]), this]
          simp
        · rw [List.filter_cons_of_pos (by simp [e])]
          have := ih hx.2
          simp only [List.length_cons]
          omega
    omega
theorem partsP_nodup {l : List Int} {n : Int} (h : partsP l n) : l.Nodup := by
  unfold List.Nodup
  rw [List.pairwise_iff_getElem]
  intro i j hi hj hij
  exact (h.2 j hj).2.2 i hij
theorem partsP_mem {l : List Int} {n : Int} (h : partsP l n) : ∀ x ∈ l, 1 ≤ x ∧ x ≤ n := by
  intro x hx
  obtain ⟨i, hi, rfl⟩ := List.getElem_of_mem hx
  exact ⟨(h.2 i hi).1, (h.2 i hi).2.1⟩
theorem quo_le {n : Int} (h : quo n ≠ 0) : ∃ m : Nat, n = m ∧ m < 2 * (quo n).toNat ∧ 0 < quo n := by
  unfold quo at h ⊢
  split at h
  · rename_i e
    rw [if_pos e]
    have := e.1
    unfold isNode at this
    simp only [Bool.and_eq_true, decide_eq_true_eq] at this
    exact ⟨n.toNat, by omega, by omega, by omega⟩
  · exact absurd rfl h
/-- Two quorums have one in common. -/
theorem meet {n : Int} {a b : List Int} (hq : quo n ≠ 0) (ha : partsP a n) (hb : partsP b n) (la : (a.length : Int) = quo n) (lb : (b.length : Int) = quo n) : ∃ i k, ∃ (hi : i < a.length) (hk : k < b.length), a[i] = b[k] := by
  obtain ⟨m, rfl, hm, h0⟩ := quo_le hq
  refine Classical.byContradiction fun hno => ?_
  have hd : ∀ x ∈ a, ∀ y ∈ b, x ≠ y := by
    intro x hx y hy e
    obtain ⟨i, hi, rfl⟩ := List.getElem_of_mem hx
    obtain ⟨k, hk, rfl⟩ := List.getElem_of_mem hy
    exact hno ⟨i, k, hi, hk, e⟩
  have := pigeon m (a ++ b) (by
    intro x hx
    rcases List.mem_append.1 hx with h | h
    · exact partsP_mem ha x h
    · exact partsP_mem hb x h) (List.nodup_append.2 ⟨partsP_nodup ha, partsP_nodup hb, hd⟩)
  rw [List.length_append] at this
  omega
def i64s (l : List Int) : List AV := l.map fun n => (AV.sc (.int .i64 (n)))
theorem len64 (l : List Int) : (i64s l).length = l.length := by simp [i64s]
theorem at64 {l : List Int} {i : Nat} (h : i < l.length) : (i64s l)[((i : Nat) : Int).toNat]? = some (AV.sc (.int .i64 (l[i]))) := by simp [i64s, h]
theorem c_parts (l : List Int) (n : Int) : FnOK Tryd.prog D 46 [.sl .lf (i64s l) .ro, (AV.sc (.int .i64 (n)))] [] (fun r st => (r = (AV.sc (.bool (false))) ∨ (r = (AV.sc (.bool (true))) ∧ partsP l n)) ∧ st = []) := by
  have hlen := len64 l
  refine fnok_of_W hmix tabOK Tryd.func46 rfl rfl (Nat.le_of_ble_eq_true rfl) ?_
  conv => whnf
  rw [hlen]
  refine Branch.of (fun h1 => ?_) (fun h1 => ?_) <;> rw [h1] <;> conv => whnf
  · refine ⟨false, [], ?_⟩
    conv => whnf
    exact ⟨.inl rfl, rfl⟩
  simp only [gt_iff_lt, decide_eq_false_iff_not] at h1
  refine ⟨false, [0, 1, 5], fun τ => ∃ i : Nat, i ≤ l.length ∧ (∀ j (h : j < l.length), j < i → 1 ≤ l[j] ∧ l[j] ≤ n ∧ ∀ k (hk : k < j), l[k] ≠ l[j]) ∧ τ = ⟨43, [(0, .sl .lf (i64s l) .ro), (1, (AV.sc (.int .i64 (n)))), (5, (AV.sc (.int .i64 ((i : Int)))))], ⟨[], [], 0⟩⟩, fun τ => l.length - (slotI τ 5).toNat, ?_, ?_⟩
  · conv => whnf
    exact ⟨0, by omega, fun j _ h => by omega, rfl⟩
  rintro τ ⟨i, hi, hall, rfl⟩
  conv => whnf
  rw [hlen]
  refine Branch.of (fun h2 => ?_) (fun h2 => ?_) <;> rw [h2] <;> conv => whnf
  rotate_left
  · simp only [decide_eq_false_iff_not] at h2
    refine ⟨false, [], ?_⟩
    conv => whnf
    exact ⟨.inr ⟨rfl, by omega, fun j h => hall j h (by omega)⟩, rfl⟩
  simp only [decide_eq_true_eq] at h2
  have hil : i < l.length := by omega
  repeat (refine And.intro (by first | omega) ?_; conv => whnf)
  refine ⟨_, at64 hil, ?_⟩
  conv => whnf
  refine Branch.of (fun h3 => ?_) (fun h3 => ?_) <;> rw [h3] <;> conv => whnf
  · refine ⟨false, [], ?_⟩
    conv => whnf
    exact ⟨.inl rfl, rfl⟩
  repeat (refine And.intro (by first | omega) ?_; conv => whnf)
  refine ⟨_, at64 hil, ?_⟩
  conv => whnf
  refine Branch.of (fun h4 => ?_) (fun h4 => ?_) <;> rw [h4] <;> conv => whnf
  · refine ⟨false, [], ?_⟩
    conv => whnf
    exact ⟨.inl rfl, rfl⟩
  simp only [gt_iff_lt, decide_eq_false_iff_not] at h3 h4
  refine ⟨false, [0, 1, 5, 6], fun τ => ∃ k : Nat, k ≤ i ∧ (∀ j (hj : j < l.length), j < k → l[j] ≠ l[i]) ∧ τ = ⟨43, [(0, .sl .lf (i64s l) .ro), (1, (AV.sc (.int .i64 (n)))), (5, (AV.sc (.int .i64 ((i : Int))))), (6, (AV.sc (.int .i64 ((k : Int)))))], ⟨[], [], 0⟩⟩, fun τ => i - (slotI τ 6).toNat, ?_, ?_⟩
  · conv => whnf
    exact ⟨0, by omega, fun j _ h => by omega, rfl⟩
  rintro τ ⟨k, hk, hne, rfl⟩
  conv => whnf
  refine Branch.of (fun h5 => ?_) (fun h5 => ?_) <;> rw [h5] <;> conv => whnf
  rotate_left
  · simp only [decide_eq_false_iff_not] at h5
    rw [w64 (x := (i : Int) + 1) (by omega) (by omega)]
    refine ⟨⟨i + 1, by omega, fun j h hj => ?_, rfl⟩, ?_⟩
    · by_cases e : j = i
      · subst e
        exact ⟨by omega, by omega, fun q hq => hne q (by omega) (by omega)⟩
      · exact hall j h (by omega)
    · show l.length - ((i : Int) + 1).toNat < l.length - (i : Int).toNat
      omega
  simp only [decide_eq_true_eq] at h5
  have hkl : k < l.length := by omega
  refine ⟨tabF46R11, by decide +kernel, ?_⟩
  conv => whnf
  repeat (refine And.intro (by first | omega) ?_; conv => whnf)
  refine ⟨_, at64 hkl, ?_⟩
  conv => whnf
  repeat (refine And.intro (by first | omega) ?_; conv => whnf)
  refine ⟨_, at64 hil, ?_⟩
  conv => whnf
  refine Branch.of (fun h6 => ?_) (fun h6 => ?_) <;> rw [h6] <;> conv => whnf
  · refine ⟨false, [], ?_⟩
    conv => whnf
    exact ⟨.inl rfl, rfl⟩
  simp only [beq_eq_false_iff_ne, ne_eq] at h6
  rw [w64 (x := (k : Int) + 1) (by omega) (by omega)]
  refine ⟨⟨k + 1, by omega, fun j hj h => ?_, rfl⟩, ?_⟩
  · by_cases e : j = k
    · subst e
      exact h6
    · exact hne j hj (by omega)
  · show i - ((k : Int) + 1).toNat < i - (k : Int).toNat
    omega
theorem c_meet (n : Int) (a b : List Int) : FnOK Tryd.prog D 10 [(AV.sc (.int .i64 (n))), .sl .lf (i64s a) .ro, .sl .lf (i64s b) .ro] [] (fun r _ => r = (AV.sc (.bool (true)))) := by
  have hla := len64 a
  have hlb := len64 b
  have ca := c_awake4
  refine fnok_of_W hmix tabOK Tryd.func10 rfl rfl (Nat.le_of_ble_eq_true rfl) ?_
  conv => whnf
  refine (c_quorum n).mono fun r st e => ?_
  obtain ⟨rfl, rfl⟩ := e
  conv => whnf
  refine Branch.of (fun h1 => ?_) (fun h1 => ?_) <;> rw [h1] <;> conv => whnf
  · refine (ca).mono fun r st e => ?_
    obtain ⟨rfl, rfl⟩ := e
    conv => whnf
    refine ⟨false, [], ?_⟩
    conv => whnf
  simp only [beq_eq_false_iff_ne, ne_eq] at h1
  refine (c_parts a n).mono fun r st e => ?_
  obtain ⟨e, rfl⟩ := e
  rcases e with rfl | ⟨rfl, ha⟩
  · conv => whnf
    refine (ca).mono fun r st e => ?_
    obtain ⟨rfl, rfl⟩ := e
    conv => whnf
    refine ⟨false, [], ?_⟩
    conv => whnf
  conv => whnf
  refine (c_parts b n).mono fun r st e => ?_
  obtain ⟨e, rfl⟩ := e
  rcases e with rfl | ⟨rfl, hb⟩
  · conv => whnf
    refine (ca).mono fun r st e => ?_
    obtain ⟨rfl, rfl⟩ := e
    conv => whnf
    refine ⟨false, [], ?_⟩
    conv => whnf
  conv => whnf
  rw [hla]
  refine Branch.of (fun h2 => ?_) (fun h2 => ?_) <;> rw [h2] <;> conv => whnf
  · refine (ca).mono fun r st e => ?_
    obtain ⟨rfl, rfl⟩ := e
    conv => whnf
    refine ⟨false, [], ?_⟩
    conv => whnf
  rw [hlb]
  refine Branch.of (fun h3 => ?_) (fun h3 => ?_) <;> rw [h3] <;> conv => whnf
  · refine (ca).mono fun r st e => ?_
    obtain ⟨rfl, rfl⟩ := e
    conv => whnf
    refine ⟨false, [], ?_⟩
    conv => whnf
  simp only [bne_eq_false_iff_eq] at h2 h3
  have hm := meet h1 ha hb h2 h3
  have hal := ha.1
  have hbl := hb.1
  refine ⟨false, [0, 1, 2, 8], fun τ => ∃ i : Nat, i ≤ a.length ∧ (∀ i' (h : i' < a.length), i' < i → ∀ k (hk : k < b.length), a[i'] ≠ b[k]) ∧ τ = ⟨61, [(0, (AV.sc (.int .i64 (n)))), (1, .sl .lf (i64s a) .ro), (2, .sl .lf (i64s b) .ro), (8, (AV.sc (.int .i64 ((i : Int)))))], ⟨[], [], 0⟩⟩, fun τ => a.length - (slotI τ 8).toNat, ?_, ?_⟩
  · conv => whnf
    exact ⟨0, by omega, fun j _ h => by omega, rfl⟩
  rintro τ ⟨i, hi, hall, rfl⟩
  conv => whnf
  rw [hla]
  refine Branch.of (fun h4 => ?_) (fun h4 => ?_) <;> rw [h4] <;> conv => whnf
  rotate_left
  · simp only [decide_eq_false_iff_not] at h4
    obtain ⟨i', k', hi', hk', e⟩ := hm
    exact absurd e (hall i' hi' (by omega) k' hk')
  simp only [decide_eq_true_eq] at h4
  have hil : i < a.length := by omega
  refine ⟨false, [0, 1, 2, 8, 9], fun τ => ∃ k : Nat, k ≤ b.length ∧ (∀ j (h : j < b.length), j < k → a[i] ≠ b[j]) ∧ τ = ⟨61, [(0, (AV.sc (.int .i64 (n)))), (1, .sl .lf (i64s a) .ro), (2, .sl .lf (i64s b) .ro), (8, (AV.sc (.int .i64 ((i : Int))))), (9, (AV.sc (.int .i64 ((k : Int)))))], ⟨[], [], 0⟩⟩, fun τ => b.length - (slotI τ 9).toNat, ?_, ?_⟩
  · conv => whnf
    exact ⟨0, by omega, fun j _ h => by omega, rfl⟩
  rintro τ ⟨k, hk, hne, rfl⟩
  conv => whnf
  rw [hlb]
  refine Branch.of (fun h5 => ?_) (fun h5 => ?_) <;> rw [h5] <;> conv => whnf
  rotate_left
  · simp only [decide_eq_false_iff_not] at h5
    rw [w64 (x := (i : Int) + 1) (by omega) (by omega)]
    refine ⟨⟨i + 1, by omega, fun j h hj q hq => ?_, rfl⟩, ?_⟩
    · by_cases e : j = i
      · subst e
        exact hne q hq (by omega)
      · exact hall j h (by omega) q hq
    · show a.length - ((i : Int) + 1).toNat < a.length - (i : Int).toNat
      omega
  simp only [decide_eq_true_eq] at h5
  have hkl : k < b.length := by omega
  refine ⟨tabF10R10, by decide +kernel, ?_⟩
  conv => whnf
  repeat (refine And.intro (by first | omega) ?_; conv => whnf)
  refine ⟨_, at64 hil, ?_⟩
  conv => whnf
  repeat (refine And.intro (by first | omega) ?_; conv => whnf)
  refine ⟨_, at64 hkl, ?_⟩
  conv => whnf
  refine Branch.of (fun h6 => ?_) (fun h6 => ?_) <;> rw [h6] <;> conv => whnf
  · refine (ca).mono fun r st e => ?_
    obtain ⟨rfl, rfl⟩ := e
    conv => whnf
    refine ⟨false, [], ?_⟩
    conv => whnf
  simp only [beq_eq_false_iff_ne, ne_eq] at h6
  rw [w64 (x := (k : Int) + 1) (by omega) (by omega)]
  refine ⟨⟨k + 1, by omega, fun j h hj => ?_, rfl⟩, ?_⟩
  · by_cases e : j = k
    · subst e
      exact h6
    · exact hne j h (by omega)
  · show b.length - ((k : Int) + 1).toNat < b.length - (k : Int).toNat
    omega
end Go.WL.T4b
