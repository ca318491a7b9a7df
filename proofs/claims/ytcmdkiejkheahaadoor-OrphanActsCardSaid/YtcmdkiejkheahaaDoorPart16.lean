/- awake of the laws of transactions; TxLess; TxReads. No condition. -/
import Derived.Test.YtcmdkiejkheahaaDoorPart10
import Derived.Test.YtcmdkiejkheahaaDoorWordsD
import Derived.Test.YtcmdkiejkheahaaDoorPart15
set_option linter.unusedVariables false
set_option linter.unusedSimpArgs false
namespace Go.WL.T6d
open Go.WL Go.Proofs
set_option maxRecDepth 20000
set_option maxHeartbeats 8000000
theorem n_num : FnOK Tryd.prog D 114 [.sc (.pointer none)] [] (fun r st => r = (AV.sc (.int .u64 (0))) ∧ st = []) := by
  refine fnok_of_W hmix tabOK Tryd.func114 rfl rfl (Nat.le_of_ble_eq_true rfl) ?_
  conv => whnf
  refine c_offnil.mono fun r st e => ?_
  obtain ⟨rfl, rfl⟩ := e
  conv => whnf
  refine ⟨false, [], ?_⟩
  conv => whnf
  exact ⟨rfl, rfl⟩
theorem n_upto (top : Int) : FnOK Tryd.prog D 76 [.sc (.pointer none), (AV.sc (.int .i64 (top)))] [] (fun r st => r = (AV.sc (.int .i64 (0))) ∧ st = []) := by
  refine fnok_of_W hmix tabOK Tryd.func76 rfl rfl (Nat.le_of_ble_eq_true rfl) ?_
  conv => whnf
  refine c_offnil.mono fun r st e => ?_
  obtain ⟨rfl, rfl⟩ := e
  conv => whnf
  refine ⟨false, [], ?_⟩
  conv => whnf
  exact ⟨rfl, rfl⟩
theorem n_text : FnOK Tryd.prog D 77 [.sc (.pointer none)] [] (fun r st => r = .sl .lf [] .ex ∧ st = []) := by
  refine fnok_of_W hmix tabOK Tryd.func77 rfl rfl (Nat.le_of_ble_eq_true rfl) ?_
  conv => whnf
  refine c_offnil.mono fun r st e => ?_
  obtain ⟨rfl, rfl⟩ := e
  conv => whnf
  refine ⟨false, [], ?_⟩
  conv => whnf
  exact ⟨rfl, rfl⟩
theorem n_hash : FnOK Tryd.prog D 80 [.sc (.pointer none)] [] (fun r st => r = .ar 32 .lf (by8 (List.replicate 32 0)) ∧ st = []) := by
  refine fnok_of_W hmix tabOK Tryd.func80 rfl rfl (Nat.le_of_ble_eq_true rfl) ?_
  conv => whnf
  refine c_offnil.mono fun r st e => ?_
  obtain ⟨rfl, rfl⟩ := e
  conv => whnf
  refine ⟨false, [], ?_⟩
  conv => whnf
  exact ⟨rfl, rfl⟩
theorem n_left : FnOK Tryd.prog D 22 [.sc (.pointer none)] [] (fun r st => r = (AV.sc (.int .i64 (0))) ∧ st = []) := by
  refine fnok_of_W hmix tabOK Tryd.func22 rfl rfl (Nat.le_of_ble_eq_true rfl) ?_
  conv => whnf
  refine ⟨false, [], ?_⟩
  conv => whnf
  exact ⟨rfl, rfl⟩
theorem n_wrong : FnOK Tryd.prog D 78 [.sc (.pointer none)] [] (fun r st => r = (AV.sc (.bool (true))) ∧ st = []) := by
  refine fnok_of_W hmix tabOK Tryd.func78 rfl rfl (Nat.le_of_ble_eq_true rfl) ?_
  conv => whnf
  refine c_offnil.mono fun r st e => ?_
  obtain ⟨rfl, rfl⟩ := e
  conv => whnf
  refine ⟨false, [], ?_⟩
  conv => whnf
  exact ⟨rfl, rfl⟩
theorem n_done : FnOK Tryd.prog D 81 [.sc (.pointer none)] [] (fun r st => r = (AV.sc (.bool (false))) ∧ st = []) := by
  refine fnok_of_W hmix tabOK Tryd.func81 rfl rfl (Nat.le_of_ble_eq_true rfl) ?_
  conv => whnf
  refine c_offnil.mono fun r st e => ?_
  obtain ⟨rfl, rfl⟩ := e
  conv => whnf
  refine ⟨false, [], ?_⟩
  conv => whnf
  exact ⟨rfl, rfl⟩
theorem one_num (b : List UInt8) (h : (rnum b false).2.2 = false) : num (rnum b false).1 = b.take (b.length - (rnum b false).2.1.length) ∧ (rnum b false).2.1.length ≤ b.length := by
  unfold rnum at h ⊢
  by_cases h0 : (rdn b 0 0).2 = 0
  · simp [h0] at h
  · obtain ⟨m, e1, _, e3⟩ := rdn_back b 0 0 h0
    have hs := rdn_size b 0 0
    simp only [Bool.false_eq_true, if_false, h0, List.length_drop]
    rw [Nat.sub_zero] at e1
    rw [e3, Nat.zero_add, Nat.pow_zero, Nat.mul_one, ← e1, show b.length - (b.length - (rdn b 0 0).2) = (rdn b 0 0).2 by omega]
    exact ⟨rfl, by omega⟩
theorem num_suffix (b : List UInt8) (h : (rnum b false).2.2 = false) : (rnum b false).2.1 = b.drop (b.length - (rnum b false).2.1.length) := by
  unfold rnum at h ⊢
  by_cases h0 : (rdn b 0 0).2 = 0
  · simp [h0] at h
  · have hs := rdn_size b 0 0
    simp only [Bool.false_eq_true, if_false, h0, List.length_drop]
    rw [show b.length - (b.length - (rdn b 0 0).2) = (rdn b 0 0).2 by omega]
theorem one_text (b : List UInt8) (h : (rtext b false).2.2 = false) : num (rtext b false).1.length ++ (rtext b false).1 = b.take (b.length - (rtext b false).2.1.length) ∧ (rtext b false).2.1.length ≤ b.length ∧ (rtext b false).1.length ≤ 65536 := by
  unfold rtext at h ⊢
  by_cases c : (false = true) ∨ (rupto b false 65536).2.2 = true ∨ (rupto b false 65536).1 > (rupto b false 65536).2.1.length
  · rw [if_pos c] at h; simp at h
  · rw [if_neg c]
    simp only [Bool.false_eq_true, false_or, not_or, Bool.not_eq_true, Nat.not_lt, gt_iff_lt] at c
    obtain ⟨c1, c2⟩ := c
    have hle := rupto_le b false 65536 (by decide)
    have hr : rupto b false 65536 = rnum b false := by
      unfold rupto at c1 ⊢
      split
      · rename_i k
        rw [if_pos k] at c1
        simp at c1
      · rfl
    rw [hr] at c1 c2 hle ⊢
    have ho := one_num b c1
    have hsuf := num_suffix b
    generalize rnum b false = x at c1 c2 hle ho hsuf
    obtain ⟨n, b', w'⟩ := x
    simp only at c1 c2 hle ho hsuf ⊢
    have hn : (b'.take n).length = n := by simp; omega
    obtain ⟨ho1, ho2⟩ := ho
    have hb' : b' = b.drop (b.length - b'.length) := hsuf c1
    rw [hn]
    refine ⟨?_, by simp; omega, by omega⟩
    rw [ho1, List.length_drop]
    generalize b'.length = k at *
    rw [hb']
    rw [← List.take_add]
    congr 1
    omega
end Go.WL.T6d
namespace Go.WL.T6d
open Go.WL Go.Proofs
set_option maxRecDepth 20000
set_option maxHeartbeats 8000000
theorem c_awake6_aux (b : List UInt8) (hb : b.length = 6) (X : Tx) (hf : X.f = 3) (hk : X.key = [97])
    (cp : FnOK Tryd.prog D 14 [.sl .lf [] .ex, .st [(AV.sc (.int .i64 (3))), (AV.sc (.int .i64 (1))), (AV.sc (.int .i64 (2))), (AV.sc (.int .i64 (0))), (AV.sc (.int .i64 (0))), .sc (.string { data := #[97] }), .sc (.string { data := #[] })]] [] (fun r st => r = (AV.sl .lf (by8 (b)) (.own 0)) ∧ st = []))
    (cr : FnOK Tryd.prog D 21 [.pt 0 []] [.st [(AV.sl .lf (by8 (b)) .ro), (AV.sc (.bool (false)))]] (fun r st => r = .tup [(AV.st [.sc (.int .i64 (X).f), .sc (.int .i64 (X).n), .sc (.int .i64 (X).k), .sc (.int .i64 (X).to), .sc (.int .i64 (X).am), .sc (.string (strB (X).key)), .sc (.string (strB (X).val))]), (AV.sc (.bool (true)))] ∧ ∃ z : RS, st = [.st [(AV.sl .lf (by8 (z.1)) .ro), (AV.sc (.bool (z.2)))]])) :
    FnOK Tryd.prog D 12 [] [] (fun r st => r = (AV.sc (.bool (true))) ∧ st = []) := by
  refine fnok_of_W hmix tabOK Tryd.func12 rfl rfl (Nat.le_of_ble_eq_true rfl) ?_
  conv => whnf
  refine (cp).mono fun r st e => ?_
  obtain ⟨rfl, rfl⟩ := e
  conv => whnf
  refine (c_read0 b (by omega)).mono fun r st e => ?_
  obtain ⟨rfl, rfl⟩ := e
  conv => whnf
  refine cr.mono fun r st e => ?_
  obtain ⟨rfl, z, rfl⟩ := e
  conv => whnf
  rw [len8, hb, hf, hk]
  conv => whnf
  refine ⟨false, [], ?_⟩
  conv => whnf
  refine ⟨?_, rfl⟩
  congr 2
  rw [strB_list, ByteArray.toList_eq]
  rfl
def tx1 : Tx := ⟨3, 1, 2, 0, 0, [97], []⟩
theorem tx1_b : txB tx1 = [3, 1, 2, 1, 97, 0] := by
  unfold txB tx1
  simp [num_low]
theorem tx1_ok : readOK ([3, 1, 2, 1, 97, 0], false) = true := by decide +kernel
theorem tx1_f : (rawF ([3, 1, 2, 1, 97, 0], false)).1.f = 3 ∧ (rawF ([3, 1, 2, 1, 97, 0], false)).1.key = [97] := by decide +kernel
theorem tx1_may : mayT tx1 = true := by decide +kernel
theorem c_awake6 : FnOK Tryd.prog D 12 [] [] (fun r st => r = (AV.sc (.bool (true))) ∧ st = []) := by
  have cp := c_txput [] tx1 (by decide) (by decide) (m := .ex) (.inl rfl)
  rw [tx1_may, if_pos rfl, List.nil_append, tx1_b] at cp
  have cr := c_txread ([3, 1, 2, 1, 97, 0], false) (by decide)
  have e : outT ([3, 1, 2, 1, 97, 0], false) = (rawF ([3, 1, 2, 1, 97, 0], false)).1 := by unfold outT; rw [tx1_ok]; rfl
  rw [tx1_ok, e] at cr
  exact c_awake6_aux [3, 1, 2, 1, 97, 0] rfl _ tx1_f.1 tx1_f.2 cp (cr.mono fun r st h => ⟨h.1, _, h.2⟩)
theorem up_back {s : RS} {top : Int} (h : (up s top).2.2 = false) : s.2 = false ∧ s.1 = num (up s top).1 ++ (up s top).2.1 := by
  unfold up rupto at h ⊢
  by_cases c : s.2 = true ∨ (rnum s.1 false).2.2 = true ∨ top < 0 ∨ ((rnum s.1 false).1 : Int) > top
  · rw [if_pos c] at h; simp at h
  · rw [if_neg c] at h ⊢
    have h2 : s.2 = false := by
      cases e : s.2
      · rfl
      · exact absurd (.inl e) c
    have h3 : (rnum s.1 false).2.2 = false := h
    have a := one_num s.1 h3
    have b := num_suffix s.1 h3
    refine ⟨h2, ?_⟩
    show s.1 = num (rnum s.1 false).1 ++ (rnum s.1 false).2.1
    conv => rhs; rw [a.1, b]
    rw [List.length_drop, show s.1.length - (s.1.length - (s.1.length - (rnum s.1 false).2.1.length)) = s.1.length - (rnum s.1 false).2.1.length by omega]
    exact (List.take_append_drop _ _).symm
theorem tex_back {s : RS} (h : (tex s).2.2 = false) : s.2 = false ∧ s.1 = num (tex s).1.length ++ ((tex s).1 ++ (tex s).2.1) := by
  unfold tex rtext at h ⊢
  by_cases c : s.2 = true ∨ (rupto s.1 false 65536).2.2 = true ∨ (rupto s.1 false 65536).1 > (rupto s.1 false 65536).2.1.length
  · rw [if_pos c] at h; simp at h
  · rw [if_neg c]
    have h2 : s.2 = false := by
      cases e : s.2
      · rfl
      · exact absurd (.inl e) c
    have h3 : (up (s.1, false) 65536).2.2 = false := by
      show (rupto s.1 false 65536).2.2 = false
      cases e : (rupto s.1 false 65536).2.2
      · rfl
      · exact absurd (.inr (.inl e)) c
    have a := (up_back h3).2
    have h4 : ¬ (rupto s.1 false 65536).1 > (rupto s.1 false 65536).2.1.length := fun e => c (.inr (.inr e))
    refine ⟨h2, ?_⟩
    simp only
    rw [List.length_take, Nat.min_eq_left (by omega), List.take_append_drop]
    exact a
/-- What is read is what is put. -/
theorem read_back {s : RS} (h : readOK s = true) : mayT (rawF s).1 = true ∧ s.1 = txB (rawF s).1 ++ (rawF s).2.1 := by
  unfold readOK at h
  rw [Bool.and_eq_true, Bool.not_eq_true'] at h
  obtain ⟨hw, hm⟩ := h
  refine ⟨hm, ?_⟩
  have hk := (may_facts hm).2.2.1
  clear hm
  unfold rawF at hw hk ⊢
  simp only at hw hk ⊢
  have base : ∀ {z : RS}, (up (up (up s 40).2 1099511627776).2 3).2 = z → z.2 = false → s.1 = num (up s 40).1 ++ (num (up (up s 40).2 1099511627776).1 ++ (num (up (up (up s 40).2 1099511627776).2 3).1 ++ z.1)) := by
    intro z e hz
    subst e
    obtain ⟨e1, e2⟩ := up_back hz
    obtain ⟨e3, e4⟩ := up_back e1
    obtain ⟨e5, e6⟩ := up_back e3
    rw [← e2, ← e4, ← e6]
  generalize (up s 40).1 = x at *
  generalize (up (up s 40).2 1099511627776).1 = y at *
  generalize (up (up (up s 40).2 1099511627776).2 3).1 = k at *
  generalize (up (up (up s 40).2 1099511627776).2 3).2 = c at *
  by_cases h1 : k = 1
  · rw [if_pos h1] at hw hk ⊢
    simp only at hw hk ⊢
    obtain ⟨e1, e2⟩ := up_back hw
    obtain ⟨e3, e4⟩ := up_back e1
    rw [base rfl e3, e4, e2]
    subst h1
    simp [txB]
  · rw [if_neg h1] at hw hk ⊢
    by_cases h2 : k = 2
    · rw [if_pos h2] at hw hk ⊢
      simp only at hw ⊢
      obtain ⟨e1, e2⟩ := tex_back hw
      obtain ⟨e3, e4⟩ := tex_back e1
      rw [base rfl e3, e4, e2]
      subst h2
      simp [txB]
    · rw [if_neg h2] at hw hk ⊢
      by_cases h3 : k = 3
      · rw [if_pos h3] at hw hk ⊢
        simp only at hw ⊢
        obtain ⟨e1, e2⟩ := tex_back hw
        rw [base rfl e1, e2]
        subst h3
        simp [txB]
      · rw [if_neg h3] at hk
        simp only at hk
        omega
theorem rawR_at (B : List UInt8) (s : PS) (hs : s.1 ≤ B.length) : (rawR B s).2.1 ≤ B.length := by
  have u : ∀ (s : PS) (top : Int), s.1 ≤ B.length → (upR B s top).2.1 ≤ B.length := fun s top h => fupto_at B s.1 s.2 top h
  have x : ∀ s : PS, s.1 ≤ B.length → (texR B s).2.1 ≤ B.length := fun s h => ftext_at B s.1 s.2 h
  have c := u _ 3 (u _ 1099511627776 (u s 40 hs))
  unfold rawR
  simp only
  split
  · exact u _ _ (u _ _ c)
  · split
    · exact x _ (x _ c)
    · split
      · exact x _ c
      · exact c
theorem tx_of {v : AV} (h : OfTy (.st [.int .i64, .int .i64, .int .i64, .int .i64, .int .i64, .str, .str]) v) : ∃ t : Tx, v = (AV.st [.sc (.int .i64 (t).f), .sc (.int .i64 (t).n), .sc (.int .i64 (t).k), .sc (.int .i64 (t).to), .sc (.int .i64 (t).am), .sc (.string (strB (t).key)), .sc (.string (strB (t).val))]) := by
  obtain ⟨_, rfl, y0, _, rfl, ⟨f, rfl, _⟩, y1, _, rfl, ⟨n, rfl, _⟩, y2, _, rfl, ⟨k, rfl, _⟩, y3, _, rfl, ⟨to, rfl, _⟩, y4, _, rfl, ⟨am, rfl, _⟩, y5, _, rfl, ⟨key, rfl, _⟩, y6, _, rfl, ⟨val, rfl, _⟩, rfl⟩ := h
  refine ⟨⟨f, n, k, to, am, key.data.toList, val.data.toList⟩, ?_⟩
  rw [← strB_of key, ← strB_of val]
end Go.WL.T6d
