/- Keys of parts. No condition. -/
import Derived.Test.YtmpnboonjpcmpaaGreatDoorPart10
set_option linter.unusedVariables false
set_option linter.unusedSimpArgs false
namespace Go.WL.T7z
open Go.WL Go.Proofs
set_option maxRecDepth 20000
set_option maxHeartbeats 8000000
theorem c_mac_aux (key : List UInt8) (ps : List (List UInt8)) (B I O M R : List UInt8) (hB : B.length = 64)
    (cb : FnOK Tryz.prog D 99 [(AV.sl .lf (by8 (key)) .ro)] [] (fun r st => r = .ar 64 .lf (by8 B) ∧ st = []))
    (ct : FnOK Tryz.prog D 100 [.ar 64 .lf (by8 B), (AV.sc (.int .u8 (54)))] [] (fun r st => r = (AV.sl .lf (by8 (I)) .ro) ∧ st = [])) (cu : FnOK Tryz.prog D 100 [.ar 64 .lf (by8 B), (AV.sc (.int .u8 (92)))] [] (fun r st => r = (AV.sl .lf (by8 (O)) .ro) ∧ st = [])) (hM : M.length = 32)
    (cc : FnOK Tryz.prog D 87 [.sl .lf [.sl .lf [(AV.sl .lf (by8 (I)) .ro)] .ex, .sl .lf (ps.map fun b => (AV.sl .lf (by8 (b)) .ro)) .ro] .ex] [] (fun r st => r = .sl .lf ((I :: ps).map fun b => (AV.sl .lf (by8 (b)) .ro)) .ro ∧ st = []))
    (ci : FnOK Tryz.prog D 42 [.sl .lf ((I :: ps).map fun b => (AV.sl .lf (by8 (b)) .ro)) .ro] [] (fun r st => r = .ar 32 .lf (by8 M) ∧ st = []))
    (co : FnOK Tryz.prog D 42 [.sl .lf [(AV.sl .lf (by8 (O)) .ro), (AV.sl .lf (by8 (M)) .ro)] .ex] [] (fun r st => r = .ar 32 .lf (by8 R) ∧ st = [])) :
    FnOK Tryz.prog D 86 [(AV.sl .lf (by8 (key)) .ro), .sl .lf (ps.map fun b => (AV.sl .lf (by8 (b)) .ro)) .ro] [] (fun r st => r = .ar 32 .lf (by8 R) ∧ st = []) := by
  refine fnok_of_Ws [1003006] hmix tabOK Tryz.func86 rfl rfl (Nat.le_of_ble_eq_true rfl) ?_
  conv => whnf
  refine (cb).mono fun r st e => ?_
  obtain ⟨rfl, rfl⟩ := e
  conv => whnf
  refine (ct).mono fun r st e => ?_
  obtain ⟨rfl, rfl⟩ := e
  conv => whnf
  refine (cc).mono fun r st e => ?_
  obtain ⟨rfl, rfl⟩ := e
  conv => whnf
  refine (ci).mono fun r st e => ?_
  obtain ⟨rfl, rfl⟩ := e
  conv => whnf
  refine ⟨tabF86R3, by decide +kernel, ?_⟩
  conv => whnf
  refine ⟨_, _, cu, ?_⟩
  conv => whnf
  repeat (refine And.intro (by first | omega) ?_; conv => whnf)
  have e1 : List.take (32 - 0) (List.drop 0 (by8 M)) = by8 M := List.take_of_length_le (by rw [List.drop_zero, len8]; omega)
  rw [e1]
  refine ⟨_, _, co, ?_⟩
  conv => whnf
  refine ⟨false, [], ?_⟩
  conv => whnf
  exact ⟨rfl, rfl⟩
theorem hk_flat (key : List UInt8) : [key].flatten = key := by simp
theorem c_mac0 (key : List UInt8) (ps : List (List UInt8)) (hk : key.length < 1000000) (hl : ps.length < 900000) (ht : ps.flatten.length < 90000000) :
    FnOK Tryz.prog D 86 [(AV.sl .lf (by8 (key)) .ro), .sl .lf (ps.map fun b => (AV.sl .lf (by8 (b)) .ro)) .ro] [] (fun r st => r = .ar 32 .lf (by8 (macB key ps.flatten)) ∧ st = []) := by
  have hB := blk_len key
  have e1 : (tw 54 (blk key) :: ps).flatten = tw 54 (blk key) ++ ps.flatten := rfl
  have e2 : [tw 92 (blk key), shaB (tw 54 (blk key) ++ ps.flatten)].flatten = tw 92 (blk key) ++ shaB (tw 54 (blk key) ++ ps.flatten) := by simp
  have ci := c_sha (tw 54 (blk key) :: ps) (by simp; omega) (by rw [e1, List.length_append, tw_len]; omega) (.inr rfl) (Weaks.refl _)
  rw [e1] at ci
  have co := c_sha [tw 92 (blk key), shaB (tw 54 (blk key) ++ ps.flatten)] (by simp) (by rw [e2, List.length_append, tw_len, shaB_len]; omega) (.inl rfl) (Weaks.refl _)
  rw [e2] at co
  have cc := c_concatL [[(AV.sl .lf (by8 (tw 54 (blk key))) .ro)], ps.map fun b => (AV.sl .lf (by8 (b)) .ro)] (by simp) (by simp [totL]; omega)
  have e3 : [[(AV.sl .lf (by8 (tw 54 (blk key))) .ro)], ps.map fun b => (AV.sl .lf (by8 (b)) .ro)].flatten = (tw 54 (blk key) :: ps).map fun b => (AV.sl .lf (by8 (b)) .ro) := by simp
  rw [e3] at cc
  exact c_mac_aux key ps (blk key) (tw 54 (blk key)) (tw 92 (blk key)) (shaB (tw 54 (blk key) ++ ps.flatten)) (macB key ps.flatten) hB (c_block key hk) (c_turned _ hB 54) (c_turned _ hB 92) (shaB_len _)
    (cc.weak (.cons (.sl (.inl rfl) (.cons (.sl (.inl rfl) (Weaks.refl _)) (.cons (.sl (.inr rfl) (Weaks.refl _)) .nil))) .nil)) ci co
theorem c_mac (key : List UInt8) (ps : List (List UInt8)) (hk : key.length < 1000000) (hl : ps.length < 900000) (ht : ps.flatten.length < 90000000) {xs : List AV} {m : Mark} (hm : m = .ex ∨ m = .ro) (h : Weaks xs (ps.map (fun b => (AV.sl .lf (by8 (b)) .ro)))) {k : Mark} (hk2 : k = .ex ∨ k = .ro) :
    FnOK Tryz.prog D 86 [.sl .lf (by8 key) k, .sl .lf xs m] [] (fun r st => r = .ar 32 .lf (by8 (macB key ps.flatten)) ∧ st = []) :=
  (c_mac0 key ps hk hl ht).weak (.cons (.sl hk2 (Weaks.refl _)) (.cons (.sl hm h) .nil))
end Go.WL.T7z
namespace Go.WL.T7z
open Go.WL Go.Proofs
set_option maxRecDepth 20000
set_option maxHeartbeats 8000000
def isNode (i : Int) : Bool := decide (1 ≤ i) && decide (i ≤ 21)
theorem c_node (i : Int) : FnOK Tryz.prog D 63 [(AV.sc (.int .i64 (i)))] [] (fun r st => r = (AV.sc (.bool (isNode i))) ∧ st = []) := by
  refine fnok_of_W hmix tabOK Tryz.func63 rfl rfl (Nat.le_of_ble_eq_true rfl) ?_
  conv => whnf
  refine Branch.of (fun h1 => ?_) (fun h1 => ?_) <;> rw [h1] <;> conv => whnf
  · refine ⟨false, [], ?_⟩
    conv => whnf
    refine ⟨?_, rfl⟩
    congr 2
    unfold isNode
    rw [show decide (1 ≤ i) = true from h1, Bool.true_and]
  · refine ⟨false, [], ?_⟩
    conv => whnf
    refine ⟨?_, rfl⟩
    congr 2
    unfold isNode
    rw [show decide (1 ≤ i) = false from h1, Bool.false_and]
def seedB : List UInt8 := [116, 105, 116, 104, 105, 110, 103, 32, 107, 101, 121, 32]
def keyB (i : Int) : List UInt8 := if isNode i then shaB (seedB ++ [UInt8.ofNat i.toNat]) else z32
theorem keyB_len (i : Int) : (keyB i).length = 32 := by
  unfold keyB
  split
  · exact shaB_len _
  · rfl
theorem w8i (i : Int) (h : isNode i = true) : IntKind.u8.wrap i = ((UInt8.ofNat i.toNat).toNat : Int) := by
  simp only [isNode, Bool.and_eq_true, decide_eq_true_eq] at h
  rw [wu8 (by omega) (by omega)]
  have : (UInt8.ofNat i.toNat).toNat = i.toNat := by
    rw [UInt8.toNat_ofNat']
    omega
  omega
theorem c_key_aux (i : Int) (K : List UInt8) (cs : isNode i = true → FnOK Tryz.prog D 42 [.sl .lf [.sl .lf [(AV.sc (.int .u8 (116))), (AV.sc (.int .u8 (105))), (AV.sc (.int .u8 (116))), (AV.sc (.int .u8 (104))), (AV.sc (.int .u8 (105))), (AV.sc (.int .u8 (110))), (AV.sc (.int .u8 (103))), (AV.sc (.int .u8 (32))), (AV.sc (.int .u8 (107))), (AV.sc (.int .u8 (101))), (AV.sc (.int .u8 (121))), (AV.sc (.int .u8 (32)))] .ro, .sl .lf [(AV.sc (.int .u8 (IntKind.u8.wrap i)))] .ex] .ex] [] (fun r st => r = .ar 32 .lf (by8 K) ∧ st = [])) (hz : isNode i = false → by8 K = List.replicate 32 (AV.sc (.int .u8 (0)))) :
    FnOK Tryz.prog D 85 [(AV.sc (.int .i64 (i)))] [] (fun r st => r = .ar 32 .lf (by8 K) ∧ st = []) := by
  refine fnok_of_W hmix tabOK Tryz.func85 rfl rfl (Nat.le_of_ble_eq_true rfl) ?_
  conv => whnf
  refine (c_node i).mono fun r st e => ?_
  obtain ⟨rfl, rfl⟩ := e
  conv => whnf
  cases hn : isNode i
  · conv => whnf
    refine ⟨false, [], ?_⟩
    conv => whnf
    rw [hz hn]
    exact ⟨rfl, rfl⟩
  · conv => whnf
    refine (cs hn).mono fun r st e => ?_
    obtain ⟨rfl, rfl⟩ := e
    conv => whnf
    refine ⟨false, [], ?_⟩
    conv => whnf
    exact ⟨rfl, rfl⟩
theorem c_key (i : Int) : FnOK Tryz.prog D 85 [(AV.sc (.int .i64 (i)))] [] (fun r st => r = .ar 32 .lf (by8 (keyB i)) ∧ st = []) := by
  refine c_key_aux i (keyB i) (fun hn => ?_) (fun hn => ?_)
  · have e : keyB i = shaB [seedB, [UInt8.ofNat i.toNat]].flatten := by
      unfold keyB
      rw [if_pos hn]
      rfl
    rw [e, w8i i hn]
    exact c_sha [seedB, [UInt8.ofNat i.toNat]] (by simp) (by simp [seedB]) (.inl rfl) (.cons (Weak.refl _) (.cons (.sl (.inl rfl) (Weaks.refl _)) .nil))
  · unfold keyB
    rw [if_neg (by rw [hn]; simp)]
    exact z32_is
end Go.WL.T7z
