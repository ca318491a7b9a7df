/- awake of the laws of transactions; TxLess; TxReads. No condition. -/
import Derived.Test.YtcmdkiejkheahaaPart16
import Derived.Test.YtcmdkiejkheahaaPart17
set_option linter.unusedVariables false
set_option linter.unusedSimpArgs false
namespace Go.WL.T6
open Go.WL Go.Proofs
set_option maxRecDepth 20000
set_option maxHeartbeats 8000000
theorem c_awake6_aux (b : List UInt8) (hb : b.length = 6) (X : Tx) (hf : X.f = 3) (hk : X.key = [97])
    (cp : FnOK Try.prog D 14 [.sl .lf [] .ex, .st [(AV.sc (.int .i64 (3))), (AV.sc (.int .i64 (1))), (AV.sc (.int .i64 (2))), (AV.sc (.int .i64 (0))), (AV.sc (.int .i64 (0))), .sc (.string { data := #[97] }), .sc (.string { data := #[] })]] [] (fun r st => r = (AV.sl .lf (by8 (b)) (.own 0)) ∧ st = []))
    (cr : FnOK Try.prog D 10 [.pt 0 []] [.st [(AV.sl .lf (by8 (b)) .ro), (AV.sc (.bool (false)))]] (fun r st => r = .tup [(AV.st [.sc (.int .i64 (X).f), .sc (.int .i64 (X).n), .sc (.int .i64 (X).k), .sc (.int .i64 (X).to), .sc (.int .i64 (X).am), .sc (.string (strB (X).key)), .sc (.string (strB (X).val))]), (AV.sc (.bool (true)))] ∧ ∃ z : RS, st = [.st [(AV.sl .lf (by8 (z.1)) .ro), (AV.sc (.bool (z.2)))]])) :
    FnOK Try.prog D 8 [] [] (fun r st => r = (AV.sc (.bool (true))) ∧ st = []) := by
  refine fnok_of_W hmix tabOK Try.func8 rfl rfl (Nat.le_of_ble_eq_true rfl) ?_
  conv => whnf
  refine (cp).mono fun r st e => ?_
  obtain ⟨rfl, rfl⟩ := e
  conv => whnf
  refine (c_read0 b (by omega)).mono fun r st e => ?_
  obtain ⟨rfl, rfl⟩ := e
  conv => whnf
  refine cr.mono fun r st e => ?_
  obtain ⟨rfl, z, rfl⟩ := e
  conv => whnf
  rw [len8, hb, hf, hk]
  conv => whnf
  refine ⟨false, [], ?_⟩
  conv => whnf
  refine ⟨?_, rfl⟩
  congr 2
  rw [strB_list, ByteArray.toList_eq]
  rfl
def tx1 : Tx := ⟨3, 1, 2, 0, 0, [97], []⟩
theorem tx1_b : txB tx1 = [3, 1, 2, 1, 97, 0] := by
  unfold txB tx1
  simp [num_low]
theorem tx1_ok : readOK ([3, 1, 2, 1, 97, 0], false) = true := by decide +kernel
theorem tx1_f : (rawF ([3, 1, 2, 1, 97, 0], false)).1.f = 3 ∧ (rawF ([3, 1, 2, 1, 97, 0], false)).1.key = [97] := by decide +kernel
theorem tx1_may : mayT tx1 = true := by decide +kernel
theorem c_awake6 : FnOK Try.prog D 8 [] [] (fun r st => r = (AV.sc (.bool (true))) ∧ st = []) := by
  have cp := c_txput [] tx1 (by decide) (by decide) (m := .ex) (.inl rfl)
  rw [tx1_may, if_pos rfl, List.nil_append, tx1_b] at cp
  have cr := c_txread ([3, 1, 2, 1, 97, 0], false) (by decide)
  have e : outT ([3, 1, 2, 1, 97, 0], false) = (rawF ([3, 1, 2, 1, 97, 0], false)).1 := by unfold outT; rw [tx1_ok]; rfl
  rw [tx1_ok, e] at cr
  exact c_awake6_aux [3, 1, 2, 1, 97, 0] rfl _ tx1_f.1 tx1_f.2 cp (cr.mono fun r st h => ⟨h.1, _, h.2⟩)
theorem c_txless (a b c : Tx) : FnOK Try.prog D 3 [(AV.st [.sc (.int .i64 (a).f), .sc (.int .i64 (a).n), .sc (.int .i64 (a).k), .sc (.int .i64 (a).to), .sc (.int .i64 (a).am), .sc (.string (strB (a).key)), .sc (.string (strB (a).val))]), (AV.st [.sc (.int .i64 (b).f), .sc (.int .i64 (b).n), .sc (.int .i64 (b).k), .sc (.int .i64 (b).to), .sc (.int .i64 (b).am), .sc (.string (strB (b).key)), .sc (.string (strB (b).val))]), (AV.st [.sc (.int .i64 (c).f), .sc (.int .i64 (c).n), .sc (.int .i64 (c).k), .sc (.int .i64 (c).to), .sc (.int .i64 (c).am), .sc (.string (strB (c).key)), .sc (.string (strB (c).val))])] [] (fun r _ => r = (AV.sc (.bool (true)))) := by
  refine fnok_of_W hmix tabOK Try.func3 rfl rfl (Nat.le_of_ble_eq_true rfl) ?_
  conv => whnf
  repeat' (first
    | (refine (c_less _ _).mono fun r st e => ?_
       obtain ⟨rfl, rfl⟩ := e
       conv => whnf)
    | (refine (c_awake6).mono fun r st e => ?_
       obtain ⟨rfl, rfl⟩ := e
       conv => whnf)
    | (refine And.intro (by omega) ?_
       conv => whnf)
    | (refine Branch.of (fun h => ?_) (fun h => ?_) <;> (rw [h]; conv => whnf)))
  all_goals refine ⟨false, [], ?_⟩
  all_goals conv => whnf
  all_goals first | rfl | (exfalso; simp_all; done) | (exfalso; simp_all; omega) | (exfalso; simp only [Bool.not_eq_false', Bool.not_eq_true', beq_iff_eq, decide_eq_true_eq, decide_eq_false_iff_not] at *; omega)
theorem up_back {s : RS} {top : Int} (h : (up s top).2.2 = false) : s.2 = false ∧ s.1 = num (up s top).1 ++ (up s top).2.1 := by
  unfold up rupto at h ⊢
  by_cases c : s.2 = true ∨ (rnum s.1 false).2.2 = true ∨ top < 0 ∨ ((rnum s.1 false).1 : Int) > top
  · rw [if_pos c] at h; simp at h
  · rw [if_neg c] at h ⊢
    have h2 : s.2 = false := by
      cases e : s.2
      · rfl
      · exact absurd (.inl e) c
    have h3 : (rnum s.1 false).2.2 = false := h
    have a := one_num s.1 h3
    have b := num_suffix s.1 h3
    refine ⟨h2, ?_⟩
    show s.1 = num (rnum s.1 false).1 ++ (rnum s.1 false).2.1
    conv => rhs; rw [a.1, b]
    rw [List.length_drop, show s.1.length - (s.1.length - (s.1.length - (rnum s.1 false).2.1.length)) = s.1.length - (rnum s.1 false).2.1.length by omega]
    exact (List.take_append_drop _ _).symm
theorem tex_back {s : RS} (h : (tex s).2.2 = false) : s.2 = false ∧ s.1 = num (tex s).1.length ++ ((tex s).1 ++ (tex s).2.1) := by
  unfold tex rtext at h ⊢
  by_cases c : s.2 = true ∨ (rupto s.1 false 65536).2.2 = true ∨ (rupto s.1 false 65536).1 > (rupto s.1 false 65536).2.1.length
  · rw [if_pos c] at h; simp at h
  · rw [if_neg c]
    have h2 : s.2 = false := by
      cases e : s.2
      · rfl
      · exact absurd (.inl e) c
    have h3 : (up (s.1, false) 65536).2.2 = false := by
      show (rupto s.1 false 65536).2.2 = false
      cases e : (rupto s.1 false 65536).2.2
      · rfl
      · exact absurd (.inr (.inl e)) c
    have a := (up_back h3).2
    have h4 : ¬ (rupto s.1 false 65536).1 > (rupto s.1 false 65536).2.1.length := fun e => c (.inr (.inr e))
    refine ⟨h2, ?_⟩
    simp only
    rw [List.length_take, Nat.min_eq_left (by omega), List.take_append_drop]
    exact a
/-- What is read is what is put. -/
theorem read_back {s : RS} (h : readOK s = true) : mayT (rawF s).1 = true ∧ s.1 = txB (rawF s).1 ++ (rawF s).2.1 := by
  unfold readOK at h
  rw [Bool.and_eq_true, Bool.not_eq_true'] at h
  obtain ⟨hw, hm⟩ := h
  refine ⟨hm, ?_⟩
  have hk := (may_facts hm).2.2.1
  clear hm
  unfold rawF at hw hk ⊢
  simp only at hw hk ⊢
  have base : ∀ {z : RS}, (up (up (up s 40).2 1099511627776).2 3).2 = z → z.2 = false → s.1 = num (up s 40).1 ++ (num (up (up s 40).2 1099511627776).1 ++ (num (up (up (up s 40).2 1099511627776).2 3).1 ++ z.1)) := by
    intro z e hz
    subst e
    obtain ⟨e1, e2⟩ := up_back hz
    obtain ⟨e3, e4⟩ := up_back e1
    obtain ⟨e5, e6⟩ := up_back e3
    rw [← e2, ← e4, ← e6]
  generalize (up s 40).1 = x at *
  generalize (up (up s 40).2 1099511627776).1 = y at *
  generalize (up (up (up s 40).2 1099511627776).2 3).1 = k at *
  generalize (up (up (up s 40).2 1099511627776).2 3).2 = c at *
  by_cases h1 : k = 1
  · rw [if_pos h1] at hw hk ⊢
    simp only at hw hk ⊢
    obtain ⟨e1, e2⟩ := up_back hw
    obtain ⟨e3, e4⟩ := up_back e1
    rw [base rfl e3, e4, e2]
    subst h1
    simp [txB]
  · rw [if_neg h1] at hw hk ⊢
    by_cases h2 : k = 2
    · rw [if_pos h2] at hw hk ⊢
      simp only at hw ⊢
      obtain ⟨e1, e2⟩ := tex_back hw
      obtain ⟨e3, e4⟩ := tex_back e1
      rw [base rfl e3, e4, e2]
      subst h2
      simp [txB]
    · rw [if_neg h2] at hw hk ⊢
      by_cases h3 : k = 3
      · rw [if_pos h3] at hw hk ⊢
        simp only at hw ⊢
        obtain ⟨e1, e2⟩ := tex_back hw
        rw [base rfl e1, e2]
        subst h3
        simp [txB]
      · rw [if_neg h3] at hk
        simp only at hk
        omega
theorem rawR_at (B : List UInt8) (s : PS) (hs : s.1 ≤ B.length) : (rawR B s).2.1 ≤ B.length := by
  have u : ∀ (s : PS) (top : Int), s.1 ≤ B.length → (upR B s top).2.1 ≤ B.length := fun s top h => fupto_at B s.1 s.2 top h
  have x : ∀ s : PS, s.1 ≤ B.length → (texR B s).2.1 ≤ B.length := fun s h => ftext_at B s.1 s.2 h
  have c := u _ 3 (u _ 1099511627776 (u s 40 hs))
  unfold rawR
  simp only
  split
  · exact u _ _ (u _ _ c)
  · split
    · exact x _ (x _ c)
    · split
      · exact x _ c
      · exact c
theorem c_txreads_aux (B P : List UInt8) (X : Tx) (ok : Bool) (at_ : Nat) (w w2 : Bool) (hat : at_ ≤ B.length)
    (ca : FnOK Try.prog D 8 [] [] (fun r st => r = (AV.sc (.bool (true))) ∧ st = []))
    (cr : B.length ≤ 600 → FnOK Try.prog D 10 [.pt 0 []] [.st [(AV.sl .lf (by8 (B)) .ro), (AV.sc (.bool (false)))]] (fun r st => r = .tup [(AV.st [.sc (.int .i64 (X).f), .sc (.int .i64 (X).n), .sc (.int .i64 (X).k), .sc (.int .i64 (X).to), .sc (.int .i64 (X).am), .sc (.string (strB (X).key)), .sc (.string (strB (X).val))]), (AV.sc (.bool (ok)))] ∧ st = [.st [(AV.sl .lf (by8 (B.drop at_)) .ro), (AV.sc (.bool (w)))]]))
    (crR : B.length ≤ 600 → FnOK Try.prog D 11 [.st [(AV.sl .lf (by8 (B)) .ro), (AV.sc (.int .i64 (0))), (AV.sc (.bool (false)))]] [] (fun r st => r = .tup [.st [(AV.sl .lf (by8 (B)) .ro), (AV.sc (.int .i64 ((at_ : Int)))), (AV.sc (.bool (w2)))], (AV.st [.sc (.int .i64 (X).f), .sc (.int .i64 (X).n), .sc (.int .i64 (X).k), .sc (.int .i64 (X).to), .sc (.int .i64 (X).am), .sc (.string (strB (X).key)), .sc (.string (strB (X).val))]), (AV.sc (.bool (ok)))] ∧ st = []))
    (cp : ok = true → FnOK Try.prog D 14 [.sl .lf [] .ex, (AV.st [.sc (.int .i64 (X).f), .sc (.int .i64 (X).n), .sc (.int .i64 (X).k), .sc (.int .i64 (X).to), .sc (.int .i64 (X).am), .sc (.string (strB (X).key)), .sc (.string (strB (X).val))])] [] (fun r st => r = (AV.sl .lf (by8 (P)) (.own 0)) ∧ st = [])) (hP : ok = true → P = B.take at_) :
    FnOK Try.prog D 4 [(AV.sl .lf (by8 (B)) .ro)] [] (fun r _ => r = (AV.sc (.bool (true)))) := by
  have hlen := len8 B
  refine fnok_of_W hmix tabOK Try.func4 rfl rfl (Nat.le_of_ble_eq_true rfl) ?_
  conv => whnf
  rw [hlen]
  refine Branch.of (fun h1 => ?_) (fun h1 => ?_) <;> rw [h1] <;> conv => whnf
  · refine (ca).mono fun r st e => ?_
    obtain ⟨rfl, rfl⟩ := e
    conv => whnf
    refine ⟨false, [], ?_⟩
    conv => whnf
  simp only [gt_iff_lt, decide_eq_false_iff_not] at h1
  have hB : B.length ≤ 600 := by omega
  refine (c_read0 B (by omega)).mono fun r st e => ?_
  obtain ⟨rfl, rfl⟩ := e
  conv => whnf
  refine (cr hB).mono fun r st e => ?_
  obtain ⟨rfl, rfl⟩ := e
  conv => whnf
  refine (crR hB).mono fun r st e => ?_
  obtain ⟨rfl, rfl⟩ := e
  conv => whnf
  cases ok
  · conv => whnf
    refine Branch.of (fun hh => ?_) (fun hh => ?_)
    · exfalso; simp only [gt_iff_lt, ge_iff_le, decide_eq_true_eq, decide_eq_false_iff_not, beq_iff_eq, beq_eq_false_iff_ne, bne_iff_ne, bne_eq_false_iff_eq, ne_eq, beq_self_eq_true, Bool.and_self, Bool.and_true, Bool.not_true, Bool.false_eq_true, reduceCtorEq] at hh; first | done | omega | (simp at hh; done)
    try rw [hh]
    clear hh
    conv => whnf
    refine ⟨tabF4R8, by decide +kernel, ?_⟩
    conv => whnf
    refine ⟨_, _, ca, ?_⟩
    conv => whnf
    refine ⟨false, [], ?_⟩
    conv => whnf
  · conv => whnf
    refine Branch.of (fun hh => ?_) (fun hh => ?_)
    · exfalso; simp only [gt_iff_lt, ge_iff_le, decide_eq_true_eq, decide_eq_false_iff_not, beq_iff_eq, beq_eq_false_iff_ne, bne_iff_ne, bne_eq_false_iff_eq, ne_eq, beq_self_eq_true, Bool.and_self, Bool.and_true, Bool.not_true, Bool.false_eq_true, reduceCtorEq] at hh; first | done | omega | (simp at hh; done)
    try rw [hh]
    clear hh
    conv => whnf
    refine ⟨tabF4R8, by decide +kernel, ?_⟩
    conv => whnf
    refine ⟨_, _, c_left (B.drop at_) w, ?_⟩
    conv => whnf
    rw [hlen, w64 (x := (B.length : Int) - (at_ : Int)) (by omega) (by omega), show (((B.drop at_).length : Nat) : Int) = (B.length : Int) - (at_ : Int) by rw [List.length_drop]; omega, beq_self_eq_true]
    conv => whnf
    refine ⟨_, _, cp rfl, ?_⟩
    conv => whnf
    repeat (refine And.intro (by first | omega) ?_; conv => whnf)
    rw [show List.take ((at_ : Int).toNat - 0) (List.drop 0 (by8 B)) = by8 (B.take at_) by simp [by8], hP rfl]
    refine ⟨_, _, c_same (B.take at_) (B.take at_) (by rw [List.length_take]; omega) (.inr rfl) (.inr rfl), ?_⟩
    conv => whnf
    rw [beq_self_eq_true]
    conv => whnf
    refine ⟨_, _, ca, ?_⟩
    conv => whnf
    refine ⟨false, [], ?_⟩
    conv => whnf
theorem c_txreads (B : List UInt8) : FnOK Try.prog D 4 [(AV.sl .lf (by8 (B)) .ro)] [] (fun r _ => r = (AV.sc (.bool (true)))) := by
  have hat := rawR_at B (0, false) (Nat.zero_le _)
  have e := raw_rs B (0, false)
  have e0 : rs B (0, false) = (B, false) := rfl
  rw [e0] at e
  have hX : outT (B, false) = (rawF (B, false)).1 ∨ readOK (B, false) = false := by
    unfold outT
    cases readOK (B, false)
    · exact .inr rfl
    · exact .inl rfl
  refine c_txreads_aux B (txB (outT (B, false))) (outT (B, false)) (readOK (B, false)) (rawR B (0, false)).2.1 (rawR B (0, false)).2.2 (rawR B (0, false)).2.2 hat c_awake6 (fun hB => ?_) (fun hB => ?_) (fun hk => ?_) (fun hk => ?_)
  · have := c_txread (B, false) (by show B.length < _; omega)
    rw [e] at this
    exact this
  · exact c_txreadR B (0, false) (by omega) (Nat.zero_le _)
  · have h := read_back hk
    rcases hX with hX | hX
    · rw [hX]
      have := c_txput [] (rawF (B, false)).1 (by decide) (by have := (may_facts h.1).2.2.2.1; omega) (m := .ex) (.inl rfl)
      rw [h.1, if_pos rfl, List.nil_append] at this
      exact this
    · rw [hk] at hX; cases hX
  · have h := read_back hk
    rcases hX with hX | hX
    · rw [hX]
      have h2 : B = txB (rawF (B, false)).1 ++ B.drop (rawR B (0, false)).2.1 := by
        have h3 := h.2
        have h4 : (rawF (B, false)).2.1 = B.drop (rawR B (0, false)).2.1 := by rw [e]; rfl
        rw [h4] at h3
        exact h3
      have h5 : B = B.take (rawR B (0, false)).2.1 ++ B.drop (rawR B (0, false)).2.1 := (List.take_append_drop _ _).symm
      exact List.append_cancel_right (h2.symm.trans h5)
    · rw [hk] at hX; cases hX
theorem tx_of {v : AV} (h : OfTy (.st [.int .i64, .int .i64, .int .i64, .int .i64, .int .i64, .str, .str]) v) : ∃ t : Tx, v = (AV.st [.sc (.int .i64 (t).f), .sc (.int .i64 (t).n), .sc (.int .i64 (t).k), .sc (.int .i64 (t).to), .sc (.int .i64 (t).am), .sc (.string (strB (t).key)), .sc (.string (strB (t).val))]) := by
  obtain ⟨_, rfl, y0, _, rfl, ⟨f, rfl, _⟩, y1, _, rfl, ⟨n, rfl, _⟩, y2, _, rfl, ⟨k, rfl, _⟩, y3, _, rfl, ⟨to, rfl, _⟩, y4, _, rfl, ⟨am, rfl, _⟩, y5, _, rfl, ⟨key, rfl, _⟩, y6, _, rfl, ⟨val, rfl, _⟩, rfl⟩ := h
  refine ⟨⟨f, n, k, to, am, key.data.toList, val.data.toList⟩, ?_⟩
  rw [← strB_of key, ← strB_of val]
end Go.WL.T6
