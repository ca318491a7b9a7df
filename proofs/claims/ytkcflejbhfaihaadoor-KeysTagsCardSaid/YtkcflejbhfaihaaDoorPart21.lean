/- Tags by the reference; quorums; whether a tag is a part's. No condition. -/
import Derived.Test.YtkcflejbhfaihaaDoorPart20
set_option linter.unusedVariables false
set_option linter.unusedSimpArgs false
namespace Go.WL.T4
open Go.WL Go.Proofs
set_option maxRecDepth 20000
set_option maxHeartbeats 8000000
theorem c_tagR_aux (i : Int) (d : UInt8) (b Y T : List UInt8) (hb : b.length < 100000) (hY : Y.length = 32) (ck : FnOK Tryd.prog D 41 [(AV.sc (.int .i64 (i)))] [] (fun r st => r = .ar 32 .lf (by8 Y) ∧ st = []))
    (cm : isNode i = true → FnOK Tryd.prog D 33 [(AV.sl .lf (by8 (Y)) .ro), .sl .lf ([(AV.sc (.int .u8 ((d.toNat : Int))))] ++ by8 b) .ro] [] (fun r st => r = .ar 32 .lf (by8 T) ∧ st = [])) (hz : isNode i = false → by8 T = List.replicate 32 (AV.sc (.int .u8 (0)))) :
    FnOK Tryd.prog D 39 [(AV.sc (.int .i64 (i))), (AV.sc (.int .u8 ((d.toNat : Int)))), (AV.sl .lf (by8 (b)) .ro)] [] (fun r st => r = .ar 32 .lf (by8 T) ∧ st = []) := by
  refine fnok_of_W hmix tabOK Tryd.func39 rfl rfl (Nat.le_of_ble_eq_true rfl) ?_
  conv => whnf
  refine Branch.of (fun h1 => ?_) (fun h1 => ?_) <;> rw [h1] <;> conv => whnf
  · have hn : isNode i = false := by
      simp only [decide_eq_true_eq] at h1
      simp [isNode]
      omega
    refine ⟨false, [], ?_⟩
    conv => whnf
    rw [hz hn]
    exact ⟨rfl, rfl⟩
  refine Branch.of (fun h2 => ?_) (fun h2 => ?_) <;> rw [h2] <;> conv => whnf
  · have hn : isNode i = false := by
      simp only [gt_iff_lt, decide_eq_true_eq] at h2
      simp [isNode]
      omega
    refine ⟨false, [], ?_⟩
    conv => whnf
    rw [hz hn]
    exact ⟨rfl, rfl⟩
  have hn : isNode i = true := by
    simp only [gt_iff_lt, decide_eq_false_iff_not] at h1 h2
    simp [isNode]
    omega
  refine (ck).mono fun r st e => ?_
  obtain ⟨rfl, rfl⟩ := e
  conv => whnf
  refine ⟨true, [1, 2, 6, 7, 8, 9], fun τ => ∃ j : Nat, j ≤ 32 ∧ τ = ⟨36, [(1, (AV.sc (.int .u8 ((d.toNat : Int))))), (2, (AV.sl .lf (by8 (b)) .ro)), (6, .pt 0 []), (7, .pt 1 []), (8, (AV.sl .lf (by8 (Y.take j)) (.own 0))), (9, (AV.sc (.int .i64 ((j : Int)))))], ⟨[(.ar 32 .lf (List.replicate 32 (AV.sc (.int .u8 (0)))), false), (.ar 32 .lf (by8 Y), false)], [0], 1⟩⟩, fun τ => 32 - (slotI τ 9).toNat, ?_, ?_⟩
  · conv => whnf
    exact ⟨0, by omega, rfl⟩
  rintro τ ⟨j, hj, rfl⟩
  conv => whnf
  refine Branch.of (fun h3 => ?_) (fun h3 => ?_) <;> rw [h3] <;> conv => whnf
  · simp only [decide_eq_true_eq] at h3
    have hjY : j < Y.length := by omega
    repeat (refine And.intro (by first | omega) ?_; conv => whnf)
    rw [Int.toNat_natCast]
    refine ⟨_, at8n hjY, ?_⟩
    conv => whnf
    refine And.intro (by rw [len8, List.length_take]; show _ + 1 < _; omega) ?_
    conv => whnf
    rw [snoc8, show Y.take j ++ [Y[j]] = Y.take (j + 1) from (List.take_succ_eq_append_getElem hjY).symm, w64 (x := (j : Int) + 1) (by omega) (by omega)]
    refine ⟨⟨j + 1, by omega, rfl⟩, ?_⟩
    show 32 - ((j : Int) + 1).toNat < 32 - (j : Int).toNat
    omega
  · simp only [decide_eq_false_iff_not] at h3
    have e : j = 32 := by omega
    subst e
    rw [List.take_of_length_le (l := Y) (by omega)]
    refine And.intro (by rw [len8]; show 1 + _ < _; omega) ?_
    conv => whnf
    refine (cm hn).mono fun r st e => ?_
    obtain ⟨rfl, rfl⟩ := e
    conv => whnf
    refine ⟨false, [], ?_⟩
    conv => whnf
    exact ⟨rfl, rfl⟩
theorem c_tagR (i : Int) (d : UInt8) (b : List UInt8) (hb : b.length < 100000) : FnOK Tryd.prog D 39 [(AV.sc (.int .i64 (i))), (AV.sc (.int .u8 ((d.toNat : Int)))), (AV.sl .lf (by8 (b)) .ro)] [] (fun r st => r = .ar 32 .lf (by8 (tagB i d b)) ∧ st = []) := by
  refine c_tagR_aux i d b (keyB i) (tagB i d b) hb (keyB_len i) (c_keyR i) (fun hn => ?_) (fun hn => ?_)
  · have e : tagB i d b = macB (keyB i) (d :: b) := by
      unfold tagB
      rw [if_pos hn]
    rw [e]
    exact c_macR (keyB i) (d :: b) (by rw [keyB_len]; omega) (by simp; omega)
  · unfold tagB
    rw [if_neg (by rw [hn]; simp)]
    exact z32_is
/-- How many are enough. -/
def quo (n : Int) : Int := if isNode n = true ∧ n.toNat % 2 = 1 then ((n.toNat / 2 + 1 : Nat) : Int) else 0
theorem c_quorum (n : Int) : FnOK Tryd.prog D 44 [(AV.sc (.int .i64 (n)))] [] (fun r st => r = (AV.sc (.int .i64 (quo n))) ∧ st = []) := by
  refine fnok_of_W hmix tabOK Tryd.func44 rfl rfl (Nat.le_of_ble_eq_true rfl) ?_
  conv => whnf
  refine (c_node n).mono fun r st e => ?_
  obtain ⟨rfl, rfl⟩ := e
  conv => whnf
  cases hn : isNode n
  · conv => whnf
    refine ⟨false, [], ?_⟩
    conv => whnf
    refine ⟨?_, rfl⟩
    unfold quo
    rw [if_neg (by rw [hn]; simp)]
  · conv => whnf
    have hb := hn
    simp only [isNode, Bool.and_eq_true, decide_eq_true_eq] at hb
    obtain ⟨m, rfl⟩ := Int.eq_ofNat_of_zero_le (show 0 ≤ n by omega)
    refine ⟨by omega, ?_⟩
    conv => whnf
    rw [show Int.tmod (m : Int) 2 = ((m % 2 : Nat) : Int) from rfl]
    refine Branch.of (fun h2 => ?_) (fun h2 => ?_) <;> rw [h2] <;> conv => whnf
    · refine ⟨false, [], ?_⟩
      conv => whnf
      refine ⟨?_, rfl⟩
      unfold quo
      rw [if_neg]
      simp only [beq_iff_eq] at h2
      rw [Int.toNat_natCast]
      omega
    · simp only [beq_eq_false_iff_ne, ne_eq] at h2
      refine ⟨by omega, ?_⟩
      conv => whnf
      rw [show Int.tdiv (m : Int) 2 = ((m / 2 : Nat) : Int) from rfl, w64 (x := ((m / 2 : Nat) : Int)) (by omega) (by omega), w64 (x := ((m / 2 : Nat) : Int) + 1) (by omega) (by omega)]
      refine ⟨false, [], ?_⟩
      conv => whnf
      refine ⟨?_, rfl⟩
      unfold quo
      rw [if_pos ⟨hn, by rw [Int.toNat_natCast]; omega⟩, Int.toNat_natCast]
      rfl
theorem c_quorumR (n : Int) : FnOK Tryd.prog D 45 [(AV.sc (.int .i64 (n)))] [] (fun r st => r = (AV.sc (.int .i64 (quo n))) ∧ st = []) := by
  refine fnok_of_W hmix tabOK Tryd.func45 rfl rfl (Nat.le_of_ble_eq_true rfl) ?_
  conv => whnf
  refine ⟨false, [0, 3], fun τ => ∃ f : Nat, f ≤ 11 ∧ (∀ g : Nat, g < f → n ≠ 2 * (g : Int) + 1) ∧ τ = ⟨15, [(0, (AV.sc (.int .i64 (n)))), (3, (AV.sc (.int .i64 ((f : Int)))))], ⟨[], [], 0⟩⟩, fun τ => 11 - (slotI τ 3).toNat, ?_, ?_⟩
  · conv => whnf
    exact ⟨0, by omega, by simp, rfl⟩
  rintro τ ⟨f, hf, hall, rfl⟩
  conv => whnf
  refine Branch.of (fun h1 => ?_) (fun h1 => ?_) <;> rw [h1] <;> conv => whnf
  · simp only [decide_eq_true_eq] at h1
    rw [w64 (x := 2 * (f : Int)) (by omega) (by omega), w64 (x := 2 * (f : Int) + 1) (by omega) (by omega)]
    refine Branch.of (fun h2 => ?_) (fun h2 => ?_) <;> rw [h2] <;> conv => whnf
    · simp only [beq_iff_eq] at h2
      rw [w64 (x := (f : Int) + 1) (by omega) (by omega)]
      refine ⟨false, [], ?_⟩
      conv => whnf
      refine ⟨?_, rfl⟩
      unfold quo
      rw [if_pos ⟨by simp [isNode]; omega, by omega⟩, show ((n.toNat / 2 + 1 : Nat) : Int) = (f : Int) + 1 by omega]
    · simp only [beq_eq_false_iff_ne, ne_eq] at h2
      rw [w64 (x := (f : Int) + 1) (by omega) (by omega)]
      refine ⟨⟨f + 1, by omega, fun g hg => ?_, rfl⟩, ?_⟩
      · by_cases e : g = f
        · rw [e]; exact h2
        · exact hall g (by omega)
      · show 11 - ((f : Int) + 1).toNat < 11 - (f : Int).toNat
        omega
  · simp only [decide_eq_false_iff_not] at h1
    refine ⟨false, [], ?_⟩
    conv => whnf
    refine ⟨?_, rfl⟩
    unfold quo
    rw [if_neg]
    rintro ⟨h2, h3⟩
    simp only [isNode, Bool.and_eq_true, decide_eq_true_eq] at h2
    exact hall (n.toNat / 2) (by omega) (by omega)
theorem c_check_aux (i : Int) (d : UInt8) (tag T : List UInt8) (ps : List (List UInt8)) (b : Bool) (ht : tag.length = 32) (hT : T.length = 32)
    (ct : FnOK Tryd.prog D 38 [(AV.sc (.int .i64 (i))), (AV.sc (.int .u8 ((d.toNat : Int)))), .sl .lf (ps.map fun b => (AV.sl .lf (by8 (b)) .ro)) .ro] [] (fun r st => r = .ar 32 .lf (by8 T) ∧ st = [])) (hy : isNode i = true → b = (tag == T)) (hno : isNode i = false → b = false) :
    FnOK Tryd.prog D 42 [(AV.sc (.int .i64 (i))), (AV.sc (.int .u8 ((d.toNat : Int)))), .ar 32 .lf (by8 tag), .sl .lf (ps.map fun b => (AV.sl .lf (by8 (b)) .ro)) .ro] [] (fun r st => r = (AV.sc (.bool (b))) ∧ st = []) := by
  refine fnok_of_W hmix tabOK Tryd.func42 rfl rfl (Nat.le_of_ble_eq_true rfl) ?_
  conv => whnf
  refine ⟨tabF42R1, by decide +kernel, ?_⟩
  conv => whnf
  refine ⟨_, _, c_node i, ?_⟩
  conv => whnf
  cases hn : isNode i
  · conv => whnf
    rw [hno hn]
    refine ⟨false, [], ?_⟩
    conv => whnf
    exact ⟨rfl, rfl⟩
  · conv => whnf
    refine ⟨_, _, ct, ?_⟩
    conv => whnf
    refine ⟨_, _, c_samehash tag T ht hT, ?_⟩
    conv => whnf
    rw [hy hn]
    refine ⟨false, [], ?_⟩
    conv => whnf
    exact ⟨rfl, rfl⟩
theorem c_check (i : Int) (d : UInt8) (tag : List UInt8) (ps : List (List UInt8)) (b : Bool) (ht : tag.length = 32) (hl : ps.length < 100000) (hf : ps.flatten.length < 1000000) (hy : isNode i = true → b = (tag == tagB i d ps.flatten)) (hno : isNode i = false → b = false) {xs : List AV} {m : Mark} (hm : m = .ex ∨ m = .ro) (h : Weaks xs (ps.map (fun b => (AV.sl .lf (by8 (b)) .ro)))) :
    FnOK Tryd.prog D 42 [(AV.sc (.int .i64 (i))), (AV.sc (.int .u8 ((d.toNat : Int)))), .ar 32 .lf (by8 tag), .sl .lf xs m] [] (fun r st => r = (AV.sc (.bool (b))) ∧ st = []) :=
  (c_check_aux i d tag (tagB i d ps.flatten) ps b ht (tagB_len _ _ _) (c_tag0 i d ps hl hf) hy hno).weak (.cons (Weak.refl _) (.cons (Weak.refl _) (.cons (Weak.refl _) (.cons (.sl hm h) .nil))))
end Go.WL.T4
