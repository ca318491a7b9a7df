/- Keys of parts. No condition. -/
import Derived.Test.YtkcflejbhfaihaaDoorPart18
set_option linter.unusedVariables false
set_option linter.unusedSimpArgs false
namespace Go.WL.T4
open Go.WL Go.Proofs
set_option maxRecDepth 20000
set_option maxHeartbeats 8000000
def isNode (i : Int) : Bool := decide (1 ≤ i) && decide (i ≤ 21)
theorem c_node (i : Int) : FnOK Tryd.prog D 43 [(AV.sc (.int .i64 (i)))] [] (fun r st => r = (AV.sc (.bool (isNode i))) ∧ st = []) := by
  refine fnok_of_W hmix tabOK Tryd.func43 rfl rfl (Nat.le_of_ble_eq_true rfl) ?_
  conv => whnf
  refine Branch.of (fun h1 => ?_) (fun h1 => ?_) <;> rw [h1] <;> conv => whnf
  · refine ⟨false, [], ?_⟩
    conv => whnf
    refine ⟨?_, rfl⟩
    congr 2
    unfold isNode
    rw [show decide (1 ≤ i) = true from h1, Bool.true_and]
  · refine ⟨false, [], ?_⟩
    conv => whnf
    refine ⟨?_, rfl⟩
    congr 2
    unfold isNode
    rw [show decide (1 ≤ i) = false from h1, Bool.false_and]
def z32 : List UInt8 := [0, 0, 0, 0, 0, 0, 0, 0, 0, 0, 0, 0, 0, 0, 0, 0, 0, 0, 0, 0, 0, 0, 0, 0, 0, 0, 0, 0, 0, 0, 0, 0]
theorem z32_is : by8 z32 = List.replicate 32 (AV.sc (.int .u8 (0))) := rfl
def seedB : List UInt8 := [116, 105, 116, 104, 105, 110, 103, 32, 107, 101, 121, 32]
def keyB (i : Int) : List UInt8 := if isNode i then shaB (seedB ++ [UInt8.ofNat i.toNat]) else z32
theorem keyB_len (i : Int) : (keyB i).length = 32 := by
  unfold keyB
  split
  · exact shaB_len _
  · rfl
theorem w8i (i : Int) (h : isNode i = true) : IntKind.u8.wrap i = ((UInt8.ofNat i.toNat).toNat : Int) := by
  simp only [isNode, Bool.and_eq_true, decide_eq_true_eq] at h
  rw [wu8 (by omega) (by omega)]
  have : (UInt8.ofNat i.toNat).toNat = i.toNat := by
    rw [UInt8.toNat_ofNat']
    omega
  omega
theorem c_key_aux (i : Int) (K : List UInt8) (cs : isNode i = true → FnOK Tryd.prog D 16 [.sl .lf [.sl .lf [(AV.sc (.int .u8 (116))), (AV.sc (.int .u8 (105))), (AV.sc (.int .u8 (116))), (AV.sc (.int .u8 (104))), (AV.sc (.int .u8 (105))), (AV.sc (.int .u8 (110))), (AV.sc (.int .u8 (103))), (AV.sc (.int .u8 (32))), (AV.sc (.int .u8 (107))), (AV.sc (.int .u8 (101))), (AV.sc (.int .u8 (121))), (AV.sc (.int .u8 (32)))] .ro, .sl .lf [(AV.sc (.int .u8 (IntKind.u8.wrap i)))] .ex] .ex] [] (fun r st => r = .ar 32 .lf (by8 K) ∧ st = [])) (hz : isNode i = false → by8 K = List.replicate 32 (AV.sc (.int .u8 (0)))) :
    FnOK Tryd.prog D 40 [(AV.sc (.int .i64 (i)))] [] (fun r st => r = .ar 32 .lf (by8 K) ∧ st = []) := by
  refine fnok_of_W hmix tabOK Tryd.func40 rfl rfl (Nat.le_of_ble_eq_true rfl) ?_
  conv => whnf
  refine (c_node i).mono fun r st e => ?_
  obtain ⟨rfl, rfl⟩ := e
  conv => whnf
  cases hn : isNode i
  · conv => whnf
    refine ⟨false, [], ?_⟩
    conv => whnf
    rw [hz hn]
    exact ⟨rfl, rfl⟩
  · conv => whnf
    refine (cs hn).mono fun r st e => ?_
    obtain ⟨rfl, rfl⟩ := e
    conv => whnf
    refine ⟨false, [], ?_⟩
    conv => whnf
    exact ⟨rfl, rfl⟩
theorem c_key (i : Int) : FnOK Tryd.prog D 40 [(AV.sc (.int .i64 (i)))] [] (fun r st => r = .ar 32 .lf (by8 (keyB i)) ∧ st = []) := by
  refine c_key_aux i (keyB i) (fun hn => ?_) (fun hn => ?_)
  · have e : keyB i = shaB [seedB, [UInt8.ofNat i.toNat]].flatten := by
      unfold keyB
      rw [if_pos hn]
      rfl
    rw [e, w8i i hn]
    exact c_sha [seedB, [UInt8.ofNat i.toNat]] (by simp) (by simp [seedB]) (.inl rfl) (.cons (Weak.refl _) (.cons (.sl (.inl rfl) (Weaks.refl _)) .nil))
  · unfold keyB
    rw [if_neg (by rw [hn]; simp)]
    exact z32_is
end Go.WL.T4
