/- Sums with a key: the reference's. No condition. -/
import Derived.Test.YtmpnboonjpcmpaaDoorPart09
import Derived.Test.YtmpnboonjpcmpaaDoorPart12
set_option linter.unusedVariables false
set_option linter.unusedSimpArgs false
namespace Go.WL.T7
open Go.WL Go.Proofs
set_option maxRecDepth 20000
set_option maxHeartbeats 8000000
theorem prs_len (l : List UInt8) (j : Nat) (hj : j ≤ l.length) (h : l.length ≤ 64) : (prt l j).length = 64 := by simp [prt]; omega
theorem prs_set (l : List UInt8) (j : Nat) (hj : j < l.length) (h : l.length ≤ 64) : (prt l j).set j l[j] = prt l (j + 1) := by
  have h1 : (l.take j).length = j := by rw [List.length_take]; omega
  unfold prt
  rw [List.set_append_right _ _ (by omega), h1, Nat.sub_self, show 64 - j = (64 - (j + 1)) + 1 by omega, List.replicate_succ, List.take_succ_eq_append_getElem hj, List.append_assoc, show 64 - (j + 1) = 63 - j by omega]
  rfl
theorem prs_all (l : List UInt8) : prt l l.length = l ++ List.replicate (64 - l.length) 0 := by simp [prt]
theorem c_blockR_aux (key H : List UInt8) (hk : key.length < 1000000) (hH : H.length = 32) (cs : FnOK Tryd.prog D 86 [(AV.sl .lf (by8 (key)) .ro)] [] (fun r st => r = .ar 32 .lf (by8 H) ∧ st = [])) (K : List UInt8) (hK : K = if 64 < key.length then H else key) :
    FnOK Tryd.prog D 198 [(AV.sl .lf (by8 (key)) .ro)] [] (fun r st => r = .ar 64 .lf (by8 (K ++ List.replicate (64 - K.length) 0)) ∧ st = []) := by
  refine fnok_of_W hmix tabOK Tryd.func198 rfl rfl (Nat.le_of_ble_eq_true rfl) ?_
  conv => whnf
  rw [len8]
  refine Branch.of (fun h1 => ?_) (fun h1 => ?_) <;> rw [h1] <;> conv => whnf
  · simp only [gt_iff_lt, decide_eq_true_eq] at h1
    rw [if_pos (by omega)] at hK
    subst hK
    refine cs.mono fun r st e => ?_
    obtain ⟨rfl, rfl⟩ := e
    conv => whnf
    refine ⟨false, [2, 3, 4, 5], fun τ => ∃ (j : Nat) (y : List AV), j ≤ 32 ∧ y = by8 (prt K j) ∧ τ = ⟨36, [(2, .pt 0 []), (3, .pt 1 []), (4, .pt 2 []), (5, (AV.sc (.int .i64 ((j : Int)))))], ⟨[(.ar 64 .lf (List.replicate 64 (AV.sc (.int .u8 (0)))), false), (.ar 64 .lf y, false), (.ar 32 .lf (by8 K), false)], [], 0⟩⟩, fun τ => 32 - (slotI τ 5).toNat, ?_, ?_⟩
    · conv => whnf
      exact ⟨0, _, by omega, by simp [prt, by8], rfl⟩
    rintro τ ⟨j, y, hj, hy, rfl⟩
    conv => whnf
    refine Branch.of (fun h2 => ?_) (fun h2 => ?_) <;> rw [h2] <;> conv => whnf
    · simp only [decide_eq_true_eq] at h2
      have hj32 : j < K.length := by omega
      repeat (refine And.intro (by first | omega) ?_; conv => whnf)
      rw [Int.toNat_natCast]
      refine ⟨_, at8n hj32, ?_⟩
      conv => whnf
      repeat (refine And.intro (by first | omega) ?_; conv => whnf)
      rw [hy]
      refine ⟨_, at8n (by rw [prs_len K j (by omega) (by omega)]; omega), ?_⟩
      conv => whnf
      rw [by8_set, Int.toNat_natCast, prs_set K j hj32 (by omega), w64 (x := (j : Int) + 1) (by omega) (by omega)]
      refine ⟨⟨j + 1, _, by omega, rfl, rfl⟩, ?_⟩
      show 32 - ((j : Int) + 1).toNat < 32 - (j : Int).toNat
      omega
    · simp only [decide_eq_false_iff_not] at h2
      have e : j = 32 := by omega
      subst e
      rw [← hH, prs_all] at hy
      subst hy
      refine ⟨false, [], ?_⟩
      conv => whnf
      exact ⟨rfl, rfl⟩
  · simp only [gt_iff_lt, decide_eq_false_iff_not] at h1
    rw [if_neg (by omega)] at hK
    subst hK
    refine ⟨false, [0, 2, 3, 6], fun τ => ∃ (j : Nat) (y : List AV), j ≤ K.length ∧ y = by8 (prt K j) ∧ τ = ⟨36, [(0, (AV.sl .lf (by8 (K)) .ro)), (2, .pt 0 []), (3, .pt 1 []), (6, (AV.sc (.int .i64 ((j : Int)))))], ⟨[(.ar 64 .lf (List.replicate 64 (AV.sc (.int .u8 (0)))), false), (.ar 64 .lf y, false)], [], 0⟩⟩, fun τ => K.length - (slotI τ 6).toNat, ?_, ?_⟩
    · conv => whnf
      exact ⟨0, _, by omega, by simp [prt, by8], rfl⟩
    rintro τ ⟨j, y, hj, hy, rfl⟩
    conv => whnf
    rw [len8]
    refine Branch.of (fun h2 => ?_) (fun h2 => ?_) <;> rw [h2] <;> conv => whnf
    · simp only [decide_eq_true_eq] at h2
      have hjK : j < K.length := by omega
      repeat (refine And.intro (by first | omega) ?_; conv => whnf)
      rw [Int.toNat_natCast]
      refine ⟨_, at8n hjK, ?_⟩
      conv => whnf
      repeat (refine And.intro (by first | omega) ?_; conv => whnf)
      rw [hy]
      refine ⟨_, at8n (by rw [prs_len K j (by omega) (by omega)]; omega), ?_⟩
      conv => whnf
      rw [by8_set, Int.toNat_natCast, prs_set K j hjK (by omega), w64 (x := (j : Int) + 1) (by omega) (by omega)]
      refine ⟨⟨j + 1, _, by omega, rfl, rfl⟩, ?_⟩
      show K.length - ((j : Int) + 1).toNat < K.length - (j : Int).toNat
      omega
    · simp only [decide_eq_false_iff_not] at h2
      have e : j = K.length := by omega
      subst e
      rw [prs_all] at hy
      subst hy
      refine ⟨false, [], ?_⟩
      conv => whnf
      exact ⟨rfl, rfl⟩
theorem c_blockR (key : List UInt8) (hkl : key.length < 1000000) : FnOK Tryd.prog D 198 [(AV.sl .lf (by8 (key)) .ro)] [] (fun r st => r = .ar 64 .lf (by8 (blk key)) ∧ st = []) :=
  c_blockR_aux key (shaB key) hkl (shaB_len key) (c_refsha key (by omega)) (hk key) rfl
theorem tw_snoc (x : UInt8) (b : List UInt8) (i : Nat) (h : i < b.length) : tw x (b.take i) ++ [b[i] ^^^ x] = tw x (b.take (i + 1)) := by
  rw [List.take_succ_eq_append_getElem h]
  simp only [tw, List.map_append, List.map_cons, List.map_nil]
theorem c_macR_aux (key text B I O M R : List UInt8) (hB : B.length = 64) (ht : text.length < 10000000)
    (cb : FnOK Tryd.prog D 198 [(AV.sl .lf (by8 (key)) .ro)] [] (fun r st => r = .ar 64 .lf (by8 B) ∧ st = []))
    (hI : I = tw 54 B) (hO : O = tw 92 B) (hM : M.length = 32)
    (ci : FnOK Tryd.prog D 86 [(AV.sl .lf (by8 (I ++ text)) .ro)] [] (fun r st => r = .ar 32 .lf (by8 M) ∧ st = []))
    (co : FnOK Tryd.prog D 86 [(AV.sl .lf (by8 (O ++ M)) .ro)] [] (fun r st => r = .ar 32 .lf (by8 R) ∧ st = [])) :
    FnOK Tryd.prog D 194 [(AV.sl .lf (by8 (key)) .ro), (AV.sl .lf (by8 (text)) .ro)] [] (fun r st => r = .ar 32 .lf (by8 R) ∧ st = []) := by
  refine fnok_of_W hmix tabOK Tryd.func194 rfl rfl (Nat.le_of_ble_eq_true rfl) ?_
  conv => whnf
  refine (cb).mono fun r st e => ?_
  obtain ⟨rfl, rfl⟩ := e
  conv => whnf
  refine ⟨true, [1, 4, 5, 6, 7, 8], fun τ => ∃ (j : Nat), j ≤ 64 ∧ τ = ⟨49, [(1, (AV.sl .lf (by8 (text)) .ro)), (4, .pt 0 []), (5, .pt 1 []), (6, (AV.sl .lf (by8 (tw 54 (B.take j))) (.own 0))), (7, (AV.sl .lf (by8 (tw 92 (B.take j))) (.own 1))), (8, (AV.sc (.int .i64 ((j : Int)))))], ⟨[(.ar 32 .lf (List.replicate 32 (AV.sc (.int .u8 (0)))), false), (.ar 64 .lf (by8 B), false)], [0, 1], 2⟩⟩, fun τ => 64 - (slotI τ 8).toNat, ?_, ?_⟩
  · conv => whnf
    exact ⟨0, by omega, rfl⟩
  rintro τ ⟨j, hj, rfl⟩
  conv => whnf
  refine Branch.of (fun h1 => ?_) (fun h1 => ?_) <;> rw [h1] <;> conv => whnf
  · simp only [decide_eq_true_eq] at h1
    have hj64 : j < B.length := by omega
    repeat (refine And.intro (by first | omega) ?_; conv => whnf)
    rw [Int.toNat_natCast]
    refine ⟨_, at8n hj64, ?_⟩
    conv => whnf
    rw [show IntKind.u8.wrap ((BitVec.ofInt IntKind.u8.bits (B[j].toNat : Int) ^^^ BitVec.ofInt IntKind.u8.bits 54).toNat : Int) = ((B[j] ^^^ 54).toNat : Int) from xor8 B[j] 54]
    refine And.intro (by rw [len8, tw_len, List.length_take]; show _ + 1 < _; omega) ?_
    conv => whnf
    rw [snocU, tw_snoc 54 B j hj64]
    repeat (refine And.intro (by first | omega) ?_; conv => whnf)
    rw [Int.toNat_natCast]
    refine ⟨_, at8n hj64, ?_⟩
    conv => whnf
    rw [show IntKind.u8.wrap ((BitVec.ofInt IntKind.u8.bits (B[j].toNat : Int) ^^^ BitVec.ofInt IntKind.u8.bits 92).toNat : Int) = ((B[j] ^^^ 92).toNat : Int) from xor8 B[j] 92]
    refine And.intro (by rw [len8, tw_len, List.length_take]; show _ + 1 < _; omega) ?_
    conv => whnf
    rw [snocU, tw_snoc 92 B j hj64, w64 (x := (j : Int) + 1) (by omega) (by omega)]
    refine ⟨⟨j + 1, by omega, rfl⟩, ?_⟩
    show 64 - ((j : Int) + 1).toNat < 64 - (j : Int).toNat
    omega
  simp only [decide_eq_false_iff_not] at h1
  have e : j = 64 := by omega
  subst e
  rw [List.take_of_length_le (by omega), ← hI, ← hO]
  refine And.intro (by rw [len8, len8, hI, tw_len]; omega) ?_
  conv => whnf
  rw [by8_ap]
  refine (ci).mono fun r st e => ?_
  obtain ⟨rfl, rfl⟩ := e
  conv => whnf
  refine ⟨false, [4, 7, 9, 10], fun τ => ∃ (j : Nat), j ≤ 32 ∧ τ = ⟨49, [(4, .pt 0 []), (7, (AV.sl .lf (by8 (O ++ M.take j)) (.own 0))), (9, .pt 2 []), (10, (AV.sc (.int .i64 ((j : Int)))))], ⟨[(.ar 32 .lf (List.replicate 32 (AV.sc (.int .u8 (0)))), false), (.ar 64 .lf (by8 B), false), (.ar 32 .lf (by8 M), false)], [0], 1⟩⟩, fun τ => 32 - (slotI τ 10).toNat, ?_, ?_⟩
  · conv => whnf
    refine ⟨0, by omega, ?_⟩
    rw [List.take_zero, List.append_nil]
    rfl
  rintro τ ⟨j, hj, rfl⟩
  conv => whnf
  refine Branch.of (fun h2 => ?_) (fun h2 => ?_) <;> rw [h2] <;> conv => whnf
  · simp only [decide_eq_true_eq] at h2
    have hjM : j < M.length := by omega
    repeat (refine And.intro (by first | omega) ?_; conv => whnf)
    rw [Int.toNat_natCast]
    refine ⟨_, at8n hjM, ?_⟩
    conv => whnf
    have hOl : O.length = 64 := by rw [hO, tw_len]; exact hB
    refine And.intro (by rw [len8, List.length_append, List.length_take, hOl]; show _ + 1 < _; omega) ?_
    conv => whnf
    rw [snocU, List.append_assoc, show M.take j ++ [M[j]] = M.take (j + 1) from (List.take_succ_eq_append_getElem hjM).symm, w64 (x := (j : Int) + 1) (by omega) (by omega)]
    refine ⟨⟨j + 1, by omega, rfl⟩, ?_⟩
    show 32 - ((j : Int) + 1).toNat < 32 - (j : Int).toNat
    omega
  · simp only [decide_eq_false_iff_not] at h2
    have e : j = 32 := by omega
    subst e
    rw [List.take_of_length_le (l := M) (by omega)]
    refine (co).mono fun r st e => ?_
    obtain ⟨rfl, rfl⟩ := e
    conv => whnf
    refine ⟨false, [], ?_⟩
    conv => whnf
    exact ⟨rfl, rfl⟩
theorem c_macR (key text : List UInt8) (hk : key.length < 1000000) (ht : text.length < 10000000) :
    FnOK Tryd.prog D 194 [(AV.sl .lf (by8 (key)) .ro), (AV.sl .lf (by8 (text)) .ro)] [] (fun r st => r = .ar 32 .lf (by8 (macB key text)) ∧ st = []) := by
  have hB := blk_len key
  refine c_macR_aux key text (blk key) (tw 54 (blk key)) (tw 92 (blk key)) (shaB (tw 54 (blk key) ++ text)) (macB key text) hB ht (c_blockR key hk) rfl rfl (shaB_len _) (c_refsha _ ?_) (c_refsha _ ?_)
  · rw [List.length_append, tw_len]; omega
  · rw [List.length_append, tw_len, shaB_len]; omega
end Go.WL.T7
