/- The records of a disk: in plain words. No condition. -/
import Derived.Test.YtdlgmddegldcjaaPart28
import Derived.Test.YtdlgmddegldcjaaPart33
set_option linter.unusedVariables false
set_option linter.unusedSimpArgs false
namespace Go.WL.T5
open Go.WL Go.Proofs
set_option maxRecDepth 20000
theorem recs_app : ∀ (l : List (List UInt8)) (j : Nat) (t : List UInt8), (∀ b ∈ l, 0 < b.length ∧ b.length ≤ 65536) → recs (l.length + j) (recL l ++ t) = (l ++ (recs j t).1, (recL l).length + (recs j t).2)
  | [], j, t, _ => by simp [recL]
  | b :: l, j, t, h => by
    have ih := recs_app l j t fun x hx => h x (List.mem_cons_of_mem _ hx)
    obtain ⟨h0, h1⟩ := h b (by simp)
    have e : recL (b :: l) = rec b ++ recL l := by simp [recL]
    have hn := nxt_rec b (recL l ++ t) h0 h1
    have hd : (rec b ++ (recL l ++ t)).drop (8 + b.length) = recL l ++ t := by
      rw [show 8 + b.length = (rec b).length by rw [rec_len]; omega]
      exact List.drop_left
    rw [e, List.append_assoc, List.length_cons, show l.length + 1 + j = (l.length + j) + 1 by omega]
    show (if (nxt (rec b ++ (recL l ++ t))).2.2 = 0 then ((nxt (rec b ++ (recL l ++ t))).1 :: (recs (l.length + j) ((rec b ++ (recL l ++ t)).drop (nxt (rec b ++ (recL l ++ t))).2.1)).1, (nxt (rec b ++ (recL l ++ t))).2.1 + (recs (l.length + j) ((rec b ++ (recL l ++ t)).drop (nxt (rec b ++ (recL l ++ t))).2.1)).2) else ([], 0)) = _
    rw [hn, if_pos rfl]
    show (b :: (recs (l.length + j) ((rec b ++ (recL l ++ t)).drop (8 + b.length))).1, 8 + b.length + (recs (l.length + j) ((rec b ++ (recL l ++ t)).drop (8 + b.length))).2) = _
    rw [hd, ih, List.length_append, rec_len]
    simp only [List.cons_append, Prod.mk.injEq, true_and]
    omega
theorem recs_fuel : ∀ (k k' : Nat) (B : List UInt8), B.length < k → B.length < k' → recs k B = recs k' B
  | 0, _, _, h, _ => by omega
  | _, 0, _, _, h => by omega
  | k + 1, k' + 1, B, h, h' => by
    unfold recs
    by_cases hn : (nxt B).2.2 = 0
    · obtain ⟨f1, f2, f3⟩ := nxt_fit B hn
      have := recs_fuel k k' (B.drop (nxt B).2.1) (by rw [List.length_drop]; omega) (by rw [List.length_drop]; omega)
      rw [this]
    · rw [if_neg hn, if_neg hn]
theorem recsB_app (l : List (List UInt8)) (t : List UInt8) (h : ∀ b ∈ l, 0 < b.length ∧ b.length ≤ 65536) : recsB (recL l ++ t) = (l ++ (recsB t).1, (recL l).length + (recsB t).2) := by
  unfold recsB
  rw [recs_fuel _ (l.length + ((recL l ++ t).length + 1)) _ (by omega) (by omega), recs_app l _ t h, recs_fuel ((recL l ++ t).length + 1) (t.length + 1) t (by rw [List.length_append]; omega) (by omega)]
theorem recsB_nil : recsB [] = ([], 0) := by
  unfold recsB recs
  rw [nxt_short (by decide)]
  rfl
theorem recsB_stop {B : List UInt8} (h : ¬ (nxt B).2.2 = 0) : recsB B = ([], 0) := by
  unfold recsB recs
  rw [if_neg h]
theorem recsB_all (l : List (List UInt8)) (h : ∀ b ∈ l, 0 < b.length ∧ b.length ≤ 65536) : recsB (recL l) = (l, (recL l).length) := by
  have := recsB_app l [] h
  rw [recsB_nil, List.append_nil, List.append_nil] at this
  exact this
/-- A beginning of a record is none, and no spoilt one. -/
theorem nxt_pre (b : List UInt8) (h0 : 0 < b.length) (h1 : b.length ≤ 65536) (j : Nat) (hj : j < (rec b).length) : (nxt ((rec b).take j)).2.2 = 3 := by
  by_cases h8 : j < 8
  · rw [nxt_short (by rw [List.length_take]; omega)]
  · have e1 : rec b = UInt8.ofNat (b.length / 16777216) :: UInt8.ofNat (b.length / 65536) :: UInt8.ofNat (b.length / 256) :: UInt8.ofNat b.length ::
      UInt8.ofNat ((chk (b4 b.length ++ b)).toNat / 16777216) :: UInt8.ofNat ((chk (b4 b.length ++ b)).toNat / 65536) :: UInt8.ofNat ((chk (b4 b.length ++ b)).toNat / 256) :: UInt8.ofNat (chk (b4 b.length ++ b)).toNat :: b := by
      simp [rec, b4]
    rw [rec_len] at hj
    obtain ⟨m, rfl⟩ : ∃ m, j = m + 8 := ⟨j - 8, by omega⟩
    rw [e1]
    simp only [List.take_succ_cons]
    rw [nxt_eq, n4_b4 b.length (by omega), if_neg (by omega), if_pos (by rw [List.length_take]; omega)]
theorem spoB_pre {B : List UInt8} (h : (nxt B).2.2 = 3) : spoB B = false := by
  unfold spoB
  rw [h]
  rfl
theorem spoB_nil : spoB [] = false := spoB_pre (by rw [nxt_short (by decide)])
/-- A good record within a tail whose first one is bad. -/
theorem spoB_in {B : List UInt8} (i : Nat) (hi : i < B.length) (h : (nxt (B.drop i)).2.2 = 0) (h2 : (nxt B).2.2 = 2) : spoB B = true := by
  unfold spoB
  rw [h2]
  have : ((List.range B.length).any fun i => (nxt (B.drop i)).2.2 == 0) = true := by
    rw [List.any_eq_true]
    exact ⟨i, List.mem_range.2 hi, by rw [h]; rfl⟩
  rw [this]
  rfl
theorem recL_cons (b : List UInt8) (l : List (List UInt8)) : recL (b :: l) = rec b ++ recL l := by simp [recL]
theorem recL_app (l m : List (List UInt8)) : recL (l ++ m) = recL l ++ recL m := by simp [recL]
/-- A beginning of records is some of them, and a beginning of the next one. -/
theorem pre_recs : ∀ (l : List (List UInt8)) (n : Nat), (∀ b ∈ l, 0 < b.length ∧ b.length ≤ 65536) → ∃ (j : Nat) (t : List UInt8), j ≤ l.length ∧ (recL l).take n = recL (l.take j) ++ t ∧ (nxt t).2.2 = 3
  | [], n, _ => ⟨0, [], Nat.le_refl _, by simp [recL], by rw [nxt_short (by decide)]⟩
  | b :: l, n, h => by
    obtain ⟨h0, h1⟩ := h b (by simp)
    rw [recL_cons]
    by_cases hn : n < (rec b).length
    · refine ⟨0, (rec b).take n, Nat.zero_le _, ?_, nxt_pre b h0 h1 n hn⟩
      rw [List.take_append_of_le_length (by omega)]
      simp [recL]
    · obtain ⟨j, t, k1, k2, k3⟩ := pre_recs l (n - (rec b).length) fun x hx => h x (List.mem_cons_of_mem _ hx)
      refine ⟨j + 1, t, by rw [List.length_cons]; omega, ?_, k3⟩
      rw [List.take_append, List.take_of_length_le (by omega), k2, List.take_succ_cons, recL_cons, List.append_assoc]
end Go.WL.T5
