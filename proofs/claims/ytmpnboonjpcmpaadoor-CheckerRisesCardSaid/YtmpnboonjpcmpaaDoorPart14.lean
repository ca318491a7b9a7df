/- Tags by the reference; quorums; whether a tag is a part's. No condition. -/
import Derived.Test.YtmpnboonjpcmpaaDoorPart10
import Derived.Test.YtmpnboonjpcmpaaDoorPart13
import Derived.Test.YtmpnboonjpcmpaaDoorPart12
set_option linter.unusedVariables false
set_option linter.unusedSimpArgs false
namespace Go.WL.T7
open Go.WL Go.Proofs
set_option maxRecDepth 20000
set_option maxHeartbeats 8000000
theorem c_keyR_aux (i : Int) (K : List UInt8) (cs : isNode i = true → FnOK Tryd.prog D 86 [.sl .lf ([(AV.sc (.int .u8 (116))), (AV.sc (.int .u8 (105))), (AV.sc (.int .u8 (116))), (AV.sc (.int .u8 (104))), (AV.sc (.int .u8 (105))), (AV.sc (.int .u8 (110))), (AV.sc (.int .u8 (103))), (AV.sc (.int .u8 (32))), (AV.sc (.int .u8 (107))), (AV.sc (.int .u8 (101))), (AV.sc (.int .u8 (121))), (AV.sc (.int .u8 (32)))] ++ [(AV.sc (.int .u8 (IntKind.u8.wrap i)))]) .ro] [] (fun r st => r = .ar 32 .lf (by8 K) ∧ st = [])) (hz : isNode i = false → by8 K = List.replicate 32 (AV.sc (.int .u8 (0)))) :
    FnOK Tryd.prog D 193 [(AV.sc (.int .i64 (i)))] [] (fun r st => r = .ar 32 .lf (by8 K) ∧ st = []) := by
  refine fnok_of_Ws [11] hmix tabOK Tryd.func193 rfl rfl (Nat.le_of_ble_eq_true rfl) ?_
  conv => whnf
  refine Branch.of (fun h1 => ?_) (fun h1 => ?_) <;> rw [h1] <;> conv => whnf
  · have hn : isNode i = false := by
      simp only [decide_eq_true_eq] at h1
      simp [isNode]
      omega
    refine ⟨false, [], ?_⟩
    conv => whnf
    rw [hz hn]
    exact ⟨rfl, rfl⟩
  refine Branch.of (fun h2 => ?_) (fun h2 => ?_) <;> rw [h2] <;> conv => whnf
  · have hn : isNode i = false := by
      simp only [gt_iff_lt, decide_eq_true_eq] at h2
      simp [isNode]
      omega
    refine ⟨false, [], ?_⟩
    conv => whnf
    rw [hz hn]
    exact ⟨rfl, rfl⟩
  have hn : isNode i = true := by
    simp only [gt_iff_lt, decide_eq_false_iff_not] at h1 h2
    simp [isNode]
    omega
  refine And.intro (by show 12 + 1 < 4294967296; omega) ?_
  conv => whnf
  refine (cs hn).mono fun r st e => ?_
  obtain ⟨rfl, rfl⟩ := e
  conv => whnf
  refine ⟨false, [], ?_⟩
  conv => whnf
  exact ⟨rfl, rfl⟩
theorem c_keyR (i : Int) : FnOK Tryd.prog D 193 [(AV.sc (.int .i64 (i)))] [] (fun r st => r = .ar 32 .lf (by8 (keyB i)) ∧ st = []) := by
  refine c_keyR_aux i (keyB i) (fun hn => ?_) (fun hn => ?_)
  · have e : keyB i = shaB (seedB ++ [UInt8.ofNat i.toNat]) := by
      unfold keyB
      rw [if_pos hn]
    rw [e, w8i i hn]
    have e2 : [(AV.sc (.int .u8 (116))), (AV.sc (.int .u8 (105))), (AV.sc (.int .u8 (116))), (AV.sc (.int .u8 (104))), (AV.sc (.int .u8 (105))), (AV.sc (.int .u8 (110))), (AV.sc (.int .u8 (103))), (AV.sc (.int .u8 (32))), (AV.sc (.int .u8 (107))), (AV.sc (.int .u8 (101))), (AV.sc (.int .u8 (121))), (AV.sc (.int .u8 (32)))] ++ [(AV.sc (.int .u8 (((UInt8.ofNat i.toNat).toNat : Int))))] = by8 (seedB ++ [UInt8.ofNat i.toNat]) := rfl
    rw [e2]
    exact c_refsha _ (by simp [seedB])
  · unfold keyB
    rw [if_neg (by rw [hn]; simp)]
    exact z32_is
/-- The tag of bytes. -/
theorem c_tagR_aux (i : Int) (d : UInt8) (b Y T : List UInt8) (hb : b.length < 100000) (hY : Y.length = 32) (ck : FnOK Tryd.prog D 193 [(AV.sc (.int .i64 (i)))] [] (fun r st => r = .ar 32 .lf (by8 Y) ∧ st = []))
    (cm : isNode i = true → FnOK Tryd.prog D 194 [(AV.sl .lf (by8 (Y)) .ro), .sl .lf ([(AV.sc (.int .u8 ((d.toNat : Int))))] ++ by8 b) .ro] [] (fun r st => r = .ar 32 .lf (by8 T) ∧ st = [])) (hz : isNode i = false → by8 T = List.replicate 32 (AV.sc (.int .u8 (0)))) :
    FnOK Tryd.prog D 185 [(AV.sc (.int .i64 (i))), (AV.sc (.int .u8 ((d.toNat : Int)))), (AV.sl .lf (by8 (b)) .ro)] [] (fun r st => r = .ar 32 .lf (by8 T) ∧ st = []) := by
  refine fnok_of_W hmix tabOK Tryd.func185 rfl rfl (Nat.le_of_ble_eq_true rfl) ?_
  conv => whnf
  refine Branch.of (fun h1 => ?_) (fun h1 => ?_) <;> rw [h1] <;> conv => whnf
  · have hn : isNode i = false := by
      simp only [decide_eq_true_eq] at h1
      simp [isNode]
      omega
    refine ⟨false, [], ?_⟩
    conv => whnf
    rw [hz hn]
    exact ⟨rfl, rfl⟩
  refine Branch.of (fun h2 => ?_) (fun h2 => ?_) <;> rw [h2] <;> conv => whnf
  · have hn : isNode i = false := by
      simp only [gt_iff_lt, decide_eq_true_eq] at h2
      simp [isNode]
      omega
    refine ⟨false, [], ?_⟩
    conv => whnf
    rw [hz hn]
    exact ⟨rfl, rfl⟩
  have hn : isNode i = true := by
    simp only [gt_iff_lt, decide_eq_false_iff_not] at h1 h2
    simp [isNode]
    omega
  refine (ck).mono fun r st e => ?_
  obtain ⟨rfl, rfl⟩ := e
  conv => whnf
  refine ⟨true, [1, 2, 6, 7, 8, 9], fun τ => ∃ j : Nat, j ≤ 32 ∧ τ = ⟨36, [(1, (AV.sc (.int .u8 ((d.toNat : Int))))), (2, (AV.sl .lf (by8 (b)) .ro)), (6, .pt 0 []), (7, .pt 1 []), (8, (AV.sl .lf (by8 (Y.take j)) (.own 0))), (9, (AV.sc (.int .i64 ((j : Int)))))], ⟨[(.ar 32 .lf (List.replicate 32 (AV.sc (.int .u8 (0)))), false), (.ar 32 .lf (by8 Y), false)], [0], 1⟩⟩, fun τ => 32 - (slotI τ 9).toNat, ?_, ?_⟩
  · conv => whnf
    exact ⟨0, by omega, rfl⟩
  rintro τ ⟨j, hj, rfl⟩
  conv => whnf
  refine Branch.of (fun h3 => ?_) (fun h3 => ?_) <;> rw [h3] <;> conv => whnf
  · simp only [decide_eq_true_eq] at h3
    have hjY : j < Y.length := by omega
    repeat (refine And.intro (by first | omega) ?_; conv => whnf)
    rw [Int.toNat_natCast]
    refine ⟨_, at8n hjY, ?_⟩
    conv => whnf
    refine And.intro (by rw [len8, List.length_take]; show _ + 1 < _; omega) ?_
    conv => whnf
    rw [snocU, show Y.take j ++ [Y[j]] = Y.take (j + 1) from (List.take_succ_eq_append_getElem hjY).symm, w64 (x := (j : Int) + 1) (by omega) (by omega)]
    refine ⟨⟨j + 1, by omega, rfl⟩, ?_⟩
    show 32 - ((j : Int) + 1).toNat < 32 - (j : Int).toNat
    omega
  · simp only [decide_eq_false_iff_not] at h3
    have e : j = 32 := by omega
    subst e
    rw [List.take_of_length_le (l := Y) (by omega)]
    refine And.intro (by rw [len8]; show 1 + _ < _; omega) ?_
    conv => whnf
    refine (cm hn).mono fun r st e => ?_
    obtain ⟨rfl, rfl⟩ := e
    conv => whnf
    refine ⟨false, [], ?_⟩
    conv => whnf
    exact ⟨rfl, rfl⟩
theorem c_tagR (i : Int) (d : UInt8) (b : List UInt8) (hb : b.length < 100000) : FnOK Tryd.prog D 185 [(AV.sc (.int .i64 (i))), (AV.sc (.int .u8 ((d.toNat : Int)))), (AV.sl .lf (by8 (b)) .ro)] [] (fun r st => r = .ar 32 .lf (by8 (tagB i d b)) ∧ st = []) := by
  refine c_tagR_aux i d b (keyB i) (tagB i d b) hb (keyB_len i) (c_keyR i) (fun hn => ?_) (fun hn => ?_)
  · have e : tagB i d b = macB (keyB i) (d :: b) := by
      unfold tagB
      rw [if_pos hn]
    rw [e]
    exact c_macR (keyB i) (d :: b) (by rw [keyB_len]; omega) (by simp; omega)
  · unfold tagB
    rw [if_neg (by rw [hn]; simp)]
    exact z32_is
/-- How many are enough. -/
theorem c_quorumR (n : Int) : FnOK Tryd.prog D 52 [(AV.sc (.int .i64 (n)))] [] (fun r st => r = (AV.sc (.int .i64 (quo n))) ∧ st = []) := by
  refine fnok_of_W hmix tabOK Tryd.func52 rfl rfl (Nat.le_of_ble_eq_true rfl) ?_
  conv => whnf
  refine ⟨false, [0, 3], fun τ => ∃ f : Nat, f ≤ 11 ∧ (∀ g : Nat, g < f → n ≠ 2 * (g : Int) + 1) ∧ τ = ⟨15, [(0, (AV.sc (.int .i64 (n)))), (3, (AV.sc (.int .i64 ((f : Int)))))], ⟨[], [], 0⟩⟩, fun τ => 11 - (slotI τ 3).toNat, ?_, ?_⟩
  · conv => whnf
    exact ⟨0, by omega, by simp, rfl⟩
  rintro τ ⟨f, hf, hall, rfl⟩
  conv => whnf
  refine Branch.of (fun h1 => ?_) (fun h1 => ?_) <;> rw [h1] <;> conv => whnf
  · simp only [decide_eq_true_eq] at h1
    rw [w64 (x := 2 * (f : Int)) (by omega) (by omega), w64 (x := 2 * (f : Int) + 1) (by omega) (by omega)]
    refine Branch.of (fun h2 => ?_) (fun h2 => ?_) <;> rw [h2] <;> conv => whnf
    · simp only [beq_iff_eq] at h2
      rw [w64 (x := (f : Int) + 1) (by omega) (by omega)]
      refine ⟨false, [], ?_⟩
      conv => whnf
      refine ⟨?_, rfl⟩
      unfold quo
      rw [if_pos ⟨by simp [isNode]; omega, by omega⟩, show ((n.toNat / 2 + 1 : Nat) : Int) = (f : Int) + 1 by omega]
    · simp only [beq_eq_false_iff_ne, ne_eq] at h2
      rw [w64 (x := (f : Int) + 1) (by omega) (by omega)]
      refine ⟨⟨f + 1, by omega, fun g hg => ?_, rfl⟩, ?_⟩
      · by_cases e : g = f
        · rw [e]; exact h2
        · exact hall g (by omega)
      · show 11 - ((f : Int) + 1).toNat < 11 - (f : Int).toNat
        omega
  · simp only [decide_eq_false_iff_not] at h1
    refine ⟨false, [], ?_⟩
    conv => whnf
    refine ⟨?_, rfl⟩
    unfold quo
    rw [if_neg]
    rintro ⟨h2, h3⟩
    simp only [isNode, Bool.and_eq_true, decide_eq_true_eq] at h2
    exact hall (n.toNat / 2) (by omega) (by omega)
end Go.WL.T7
