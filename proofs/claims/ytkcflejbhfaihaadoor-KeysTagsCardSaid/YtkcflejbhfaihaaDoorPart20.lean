/- Keys of parts: the reference's; tags. No condition. -/
import Derived.Test.YtkcflejbhfaihaaDoorPart19
set_option linter.unusedVariables false
set_option linter.unusedSimpArgs false
namespace Go.WL.T4
open Go.WL Go.Proofs
set_option maxRecDepth 20000
set_option maxHeartbeats 8000000
theorem c_keyR_aux (i : Int) (K : List UInt8) (cs : isNode i = true → FnOK Tryd.prog D 17 [.sl .lf ([(AV.sc (.int .u8 (116))), (AV.sc (.int .u8 (105))), (AV.sc (.int .u8 (116))), (AV.sc (.int .u8 (104))), (AV.sc (.int .u8 (105))), (AV.sc (.int .u8 (110))), (AV.sc (.int .u8 (103))), (AV.sc (.int .u8 (32))), (AV.sc (.int .u8 (107))), (AV.sc (.int .u8 (101))), (AV.sc (.int .u8 (121))), (AV.sc (.int .u8 (32)))] ++ [(AV.sc (.int .u8 (IntKind.u8.wrap i)))]) .ro] [] (fun r st => r = .ar 32 .lf (by8 K) ∧ st = [])) (hz : isNode i = false → by8 K = List.replicate 32 (AV.sc (.int .u8 (0)))) :
    FnOK Tryd.prog D 41 [(AV.sc (.int .i64 (i)))] [] (fun r st => r = .ar 32 .lf (by8 K) ∧ st = []) := by
  refine fnok_of_Ws [11] hmix tabOK Tryd.func41 rfl rfl (Nat.le_of_ble_eq_true rfl) ?_
  conv => whnf
  refine Branch.of (fun h1 => ?_) (fun h1 => ?_) <;> rw [h1] <;> conv => whnf
  · have hn : isNode i = false := by
      simp only [decide_eq_true_eq] at h1
      simp [isNode]
      omega
    refine ⟨false, [], ?_⟩
    conv => whnf
    rw [hz hn]
    exact ⟨rfl, rfl⟩
  refine Branch.of (fun h2 => ?_) (fun h2 => ?_) <;> rw [h2] <;> conv => whnf
  · have hn : isNode i = false := by
      simp only [gt_iff_lt, decide_eq_true_eq] at h2
      simp [isNode]
      omega
    refine ⟨false, [], ?_⟩
    conv => whnf
    rw [hz hn]
    exact ⟨rfl, rfl⟩
  have hn : isNode i = true := by
    simp only [gt_iff_lt, decide_eq_false_iff_not] at h1 h2
    simp [isNode]
    omega
  refine And.intro (by show 12 + 1 < 4294967296; omega) ?_
  conv => whnf
  refine (cs hn).mono fun r st e => ?_
  obtain ⟨rfl, rfl⟩ := e
  conv => whnf
  refine ⟨false, [], ?_⟩
  conv => whnf
  exact ⟨rfl, rfl⟩
theorem c_keyR (i : Int) : FnOK Tryd.prog D 41 [(AV.sc (.int .i64 (i)))] [] (fun r st => r = .ar 32 .lf (by8 (keyB i)) ∧ st = []) := by
  refine c_keyR_aux i (keyB i) (fun hn => ?_) (fun hn => ?_)
  · have e : keyB i = shaB (seedB ++ [UInt8.ofNat i.toNat]) := by
      unfold keyB
      rw [if_pos hn]
    rw [e, w8i i hn]
    have e2 : [(AV.sc (.int .u8 (116))), (AV.sc (.int .u8 (105))), (AV.sc (.int .u8 (116))), (AV.sc (.int .u8 (104))), (AV.sc (.int .u8 (105))), (AV.sc (.int .u8 (110))), (AV.sc (.int .u8 (103))), (AV.sc (.int .u8 (32))), (AV.sc (.int .u8 (107))), (AV.sc (.int .u8 (101))), (AV.sc (.int .u8 (121))), (AV.sc (.int .u8 (32)))] ++ [(AV.sc (.int .u8 (((UInt8.ofNat i.toNat).toNat : Int))))] = by8 (seedB ++ [UInt8.ofNat i.toNat]) := rfl
    rw [e2]
    exact c_refsha _ (by simp [seedB])
  · unfold keyB
    rw [if_neg (by rw [hn]; simp)]
    exact z32_is
/-- The tag of bytes. -/
def tagB (i : Int) (d : UInt8) (b : List UInt8) : List UInt8 := if isNode i then macB (keyB i) (d :: b) else z32
theorem macB_len (k b : List UInt8) : (macB k b).length = 32 := shaB_len _
theorem tagB_len (i : Int) (d : UInt8) (b : List UInt8) : (tagB i d b).length = 32 := by
  unfold tagB
  split
  · exact macB_len _ _
  · rfl
theorem c_tag_aux (i : Int) (d : UInt8) (ps : List (List UInt8)) (Y T : List UInt8) (hY : Y.length = 32) (ck : FnOK Tryd.prog D 40 [(AV.sc (.int .i64 (i)))] [] (fun r st => r = .ar 32 .lf (by8 Y) ∧ st = []))
    (cc : FnOK Tryd.prog D 71 [.sl .lf [.sl .lf [.sl .lf [(AV.sc (.int .u8 ((d.toNat : Int))))] .ex] .ex, .sl .lf (ps.map fun b => (AV.sl .lf (by8 (b)) .ro)) .ro] .ex] [] (fun r st => r = .sl .lf (([d] :: ps).map fun b => (AV.sl .lf (by8 (b)) .ro)) .ro ∧ st = []))
    (cm : isNode i = true → FnOK Tryd.prog D 32 [(AV.sl .lf (by8 (Y)) .ro), .sl .lf (([d] :: ps).map fun b => (AV.sl .lf (by8 (b)) .ro)) .ro] [] (fun r st => r = .ar 32 .lf (by8 T) ∧ st = [])) (hz : isNode i = false → by8 T = List.replicate 32 (AV.sc (.int .u8 (0)))) :
    FnOK Tryd.prog D 38 [(AV.sc (.int .i64 (i))), (AV.sc (.int .u8 ((d.toNat : Int)))), .sl .lf (ps.map fun b => (AV.sl .lf (by8 (b)) .ro)) .ro] [] (fun r st => r = .ar 32 .lf (by8 T) ∧ st = []) := by
  refine fnok_of_Ws [1004007] hmix tabOK Tryd.func38 rfl rfl (Nat.le_of_ble_eq_true rfl) ?_
  conv => whnf
  refine (c_node i).mono fun r st e => ?_
  obtain ⟨rfl, rfl⟩ := e
  conv => whnf
  cases hn : isNode i
  · conv => whnf
    refine ⟨false, [], ?_⟩
    conv => whnf
    rw [hz hn]
    exact ⟨rfl, rfl⟩
  · conv => whnf
    refine (ck).mono fun r st e => ?_
    obtain ⟨rfl, rfl⟩ := e
    conv => whnf
    refine ⟨tabF38R4, by decide +kernel, ?_⟩
    conv => whnf
    repeat (refine And.intro (by first | omega) ?_; conv => whnf)
    have e1 : List.take (32 - 0) (List.drop 0 (by8 Y)) = by8 Y := List.take_of_length_le (by rw [List.drop_zero, len8]; omega)
    rw [e1]
    refine ⟨_, _, cc, ?_⟩
    conv => whnf
    refine ⟨_, _, cm hn, ?_⟩
    conv => whnf
    refine ⟨false, [], ?_⟩
    conv => whnf
    exact ⟨rfl, rfl⟩
theorem c_tag0 (i : Int) (d : UInt8) (ps : List (List UInt8)) (hl : ps.length < 100000) (ht : ps.flatten.length < 1000000) :
    FnOK Tryd.prog D 38 [(AV.sc (.int .i64 (i))), (AV.sc (.int .u8 ((d.toNat : Int)))), .sl .lf (ps.map fun b => (AV.sl .lf (by8 (b)) .ro)) .ro] [] (fun r st => r = .ar 32 .lf (by8 (tagB i d ps.flatten)) ∧ st = []) := by
  have cc := c_concatL [[(AV.sl .lf (by8 ([d])) .ro)], ps.map fun b => (AV.sl .lf (by8 (b)) .ro)] (by simp) (by simp [totL]; omega)
  have e3 : [[(AV.sl .lf (by8 ([d])) .ro)], ps.map fun b => (AV.sl .lf (by8 (b)) .ro)].flatten = ([d] :: ps).map fun b => (AV.sl .lf (by8 (b)) .ro) := by simp
  rw [e3] at cc
  refine c_tag_aux i d ps (keyB i) (tagB i d ps.flatten) (keyB_len i) (c_key i) (cc.weak (.cons (.sl (.inl rfl) (.cons (.sl (.inl rfl) (.cons (.sl (.inl rfl) (Weaks.refl _)) .nil)) (.cons (.sl (.inr rfl) (Weaks.refl _)) .nil))) .nil)) (fun hn => ?_) (fun hn => ?_)
  · have e : tagB i d ps.flatten = macB (keyB i) ([d] :: ps).flatten := by
      unfold tagB
      rw [if_pos hn]
      rfl
    rw [e]
    exact c_mac (keyB i) ([d] :: ps) (by rw [keyB_len]; omega) (by simp; omega) (by simp [-List.length_flatten]; omega) (.inr rfl) (Weaks.refl _) (.inr rfl)
  · unfold tagB
    rw [if_neg (by rw [hn]; simp)]
    exact z32_is
theorem c_tag (i : Int) (d : UInt8) (ps : List (List UInt8)) (hl : ps.length < 100000) (ht : ps.flatten.length < 1000000) {xs : List AV} {m : Mark} (hm : m = .ex ∨ m = .ro) (h : Weaks xs (ps.map (fun b => (AV.sl .lf (by8 (b)) .ro)))) :
    FnOK Tryd.prog D 38 [(AV.sc (.int .i64 (i))), (AV.sc (.int .u8 ((d.toNat : Int)))), .sl .lf xs m] [] (fun r st => r = .ar 32 .lf (by8 (tagB i d ps.flatten)) ∧ st = []) :=
  (c_tag0 i d ps hl ht).weak (.cons (Weak.refl _) (.cons (Weak.refl _) (.cons (.sl hm h) .nil)))
end Go.WL.T4
