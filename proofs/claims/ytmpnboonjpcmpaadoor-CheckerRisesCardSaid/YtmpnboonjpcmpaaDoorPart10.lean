/- Keys of parts: the reference's; tags. No condition. -/
import Derived.Test.YtmpnboonjpcmpaaDoorPart09
set_option linter.unusedVariables false
set_option linter.unusedSimpArgs false
namespace Go.WL.T7
open Go.WL Go.Proofs
set_option maxRecDepth 20000
set_option maxHeartbeats 8000000
def isNode (i : Int) : Bool := decide (1 ≤ i) && decide (i ≤ 21)
theorem c_node (i : Int) : FnOK Tryd.prog D 140 [(AV.sc (.int .i64 (i)))] [] (fun r st => r = (AV.sc (.bool (isNode i))) ∧ st = []) := by
  refine fnok_of_W hmix tabOK Tryd.func140 rfl rfl (Nat.le_of_ble_eq_true rfl) ?_
  conv => whnf
  refine Branch.of (fun h1 => ?_) (fun h1 => ?_) <;> rw [h1] <;> conv => whnf
  · refine ⟨false, [], ?_⟩
    conv => whnf
    refine ⟨?_, rfl⟩
    congr 2
    unfold isNode
    rw [show decide (1 ≤ i) = true from h1, Bool.true_and]
  · refine ⟨false, [], ?_⟩
    conv => whnf
    refine ⟨?_, rfl⟩
    congr 2
    unfold isNode
    rw [show decide (1 ≤ i) = false from h1, Bool.false_and]
def seedB : List UInt8 := [116, 105, 116, 104, 105, 110, 103, 32, 107, 101, 121, 32]
def keyB (i : Int) : List UInt8 := if isNode i then shaB (seedB ++ [UInt8.ofNat i.toNat]) else z32
theorem keyB_len (i : Int) : (keyB i).length = 32 := by
  unfold keyB
  split
  · exact shaB_len _
  · rfl
theorem w8i (i : Int) (h : isNode i = true) : IntKind.u8.wrap i = ((UInt8.ofNat i.toNat).toNat : Int) := by
  simp only [isNode, Bool.and_eq_true, decide_eq_true_eq] at h
  rw [wu8 (by omega) (by omega)]
  have : (UInt8.ofNat i.toNat).toNat = i.toNat := by
    rw [UInt8.toNat_ofNat']
    omega
  omega
theorem c_key_aux (i : Int) (K : List UInt8) (cs : isNode i = true → FnOK Tryd.prog D 100 [.sl .lf [.sl .lf [(AV.sc (.int .u8 (116))), (AV.sc (.int .u8 (105))), (AV.sc (.int .u8 (116))), (AV.sc (.int .u8 (104))), (AV.sc (.int .u8 (105))), (AV.sc (.int .u8 (110))), (AV.sc (.int .u8 (103))), (AV.sc (.int .u8 (32))), (AV.sc (.int .u8 (107))), (AV.sc (.int .u8 (101))), (AV.sc (.int .u8 (121))), (AV.sc (.int .u8 (32)))] .ro, .sl .lf [(AV.sc (.int .u8 (IntKind.u8.wrap i)))] .ex] .ex] [] (fun r st => r = .ar 32 .lf (by8 K) ∧ st = [])) (hz : isNode i = false → by8 K = List.replicate 32 (AV.sc (.int .u8 (0)))) :
    FnOK Tryd.prog D 190 [(AV.sc (.int .i64 (i)))] [] (fun r st => r = .ar 32 .lf (by8 K) ∧ st = []) := by
  refine fnok_of_W hmix tabOK Tryd.func190 rfl rfl (Nat.le_of_ble_eq_true rfl) ?_
  conv => whnf
  refine (c_node i).mono fun r st e => ?_
  obtain ⟨rfl, rfl⟩ := e
  conv => whnf
  cases hn : isNode i
  · conv => whnf
    refine ⟨false, [], ?_⟩
    conv => whnf
    rw [hz hn]
    exact ⟨rfl, rfl⟩
  · conv => whnf
    refine (cs hn).mono fun r st e => ?_
    obtain ⟨rfl, rfl⟩ := e
    conv => whnf
    refine ⟨false, [], ?_⟩
    conv => whnf
    exact ⟨rfl, rfl⟩
theorem c_key (i : Int) : FnOK Tryd.prog D 190 [(AV.sc (.int .i64 (i)))] [] (fun r st => r = .ar 32 .lf (by8 (keyB i)) ∧ st = []) := by
  refine c_key_aux i (keyB i) (fun hn => ?_) (fun hn => ?_)
  · have e : keyB i = shaB [seedB, [UInt8.ofNat i.toNat]].flatten := by
      unfold keyB
      rw [if_pos hn]
      rfl
    rw [e, w8i i hn]
    exact c_sha [seedB, [UInt8.ofNat i.toNat]] (by simp) (by simp [seedB]) (.inl rfl) (.cons (Weak.refl _) (.cons (.sl (.inl rfl) (Weaks.refl _)) .nil))
  · unfold keyB
    rw [if_neg (by rw [hn]; simp)]
    exact z32_is
end Go.WL.T7
namespace Go.WL.T7
open Go.WL Go.Proofs
set_option maxRecDepth 20000
set_option maxHeartbeats 8000000
def tagB (i : Int) (d : UInt8) (b : List UInt8) : List UInt8 := if isNode i then macB (keyB i) (d :: b) else z32
theorem macB_len (k b : List UInt8) : (macB k b).length = 32 := shaB_len _
theorem tagB_len (i : Int) (d : UInt8) (b : List UInt8) : (tagB i d b).length = 32 := by
  unfold tagB
  split
  · exact macB_len _ _
  · rfl
theorem c_tag_aux (i : Int) (d : UInt8) (ps : List (List UInt8)) (Y T : List UInt8) (hY : Y.length = 32) (ck : FnOK Tryd.prog D 190 [(AV.sc (.int .i64 (i)))] [] (fun r st => r = .ar 32 .lf (by8 Y) ∧ st = []))
    (cc : FnOK Tryd.prog D 192 [.sl .lf [.sl .lf [.sl .lf [(AV.sc (.int .u8 ((d.toNat : Int))))] .ex] .ex, .sl .lf (ps.map fun b => (AV.sl .lf (by8 (b)) .ro)) .ro] .ex] [] (fun r st => r = .sl .lf (([d] :: ps).map fun b => (AV.sl .lf (by8 (b)) .ro)) .ro ∧ st = []))
    (cm : isNode i = true → FnOK Tryd.prog D 191 [(AV.sl .lf (by8 (Y)) .ro), .sl .lf (([d] :: ps).map fun b => (AV.sl .lf (by8 (b)) .ro)) .ro] [] (fun r st => r = .ar 32 .lf (by8 T) ∧ st = [])) (hz : isNode i = false → by8 T = List.replicate 32 (AV.sc (.int .u8 (0)))) :
    FnOK Tryd.prog D 184 [(AV.sc (.int .i64 (i))), (AV.sc (.int .u8 ((d.toNat : Int)))), .sl .lf (ps.map fun b => (AV.sl .lf (by8 (b)) .ro)) .ro] [] (fun r st => r = .ar 32 .lf (by8 T) ∧ st = []) := by
  refine fnok_of_Ws [1004007] hmix tabOK Tryd.func184 rfl rfl (Nat.le_of_ble_eq_true rfl) ?_
  conv => whnf
  refine (c_node i).mono fun r st e => ?_
  obtain ⟨rfl, rfl⟩ := e
  conv => whnf
  cases hn : isNode i
  · conv => whnf
    refine ⟨false, [], ?_⟩
    conv => whnf
    rw [hz hn]
    exact ⟨rfl, rfl⟩
  · conv => whnf
    refine (ck).mono fun r st e => ?_
    obtain ⟨rfl, rfl⟩ := e
    conv => whnf
    refine ⟨tabF184R4, by decide +kernel, ?_⟩
    conv => whnf
    repeat (refine And.intro (by first | omega) ?_; conv => whnf)
    have e1 : List.take (32 - 0) (List.drop 0 (by8 Y)) = by8 Y := List.take_of_length_le (by rw [List.drop_zero, len8]; omega)
    rw [e1]
    refine ⟨_, _, cc, ?_⟩
    conv => whnf
    refine ⟨_, _, cm hn, ?_⟩
    conv => whnf
    refine ⟨false, [], ?_⟩
    conv => whnf
    exact ⟨rfl, rfl⟩
theorem c_tag0 (i : Int) (d : UInt8) (ps : List (List UInt8)) (hl : ps.length < 100000) (ht : ps.flatten.length < 1000000) :
    FnOK Tryd.prog D 184 [(AV.sc (.int .i64 (i))), (AV.sc (.int .u8 ((d.toNat : Int)))), .sl .lf (ps.map fun b => (AV.sl .lf (by8 (b)) .ro)) .ro] [] (fun r st => r = .ar 32 .lf (by8 (tagB i d ps.flatten)) ∧ st = []) := by
  have cc := c_concatL [[(AV.sl .lf (by8 ([d])) .ro)], ps.map fun b => (AV.sl .lf (by8 (b)) .ro)] (by simp) (by simp [totL]; omega)
  have e3 : [[(AV.sl .lf (by8 ([d])) .ro)], ps.map fun b => (AV.sl .lf (by8 (b)) .ro)].flatten = ([d] :: ps).map fun b => (AV.sl .lf (by8 (b)) .ro) := by simp
  rw [e3] at cc
  refine c_tag_aux i d ps (keyB i) (tagB i d ps.flatten) (keyB_len i) (c_key i) (cc.weak (.cons (.sl (.inl rfl) (.cons (.sl (.inl rfl) (.cons (.sl (.inl rfl) (Weaks.refl _)) .nil)) (.cons (.sl (.inr rfl) (Weaks.refl _)) .nil))) .nil)) (fun hn => ?_) (fun hn => ?_)
  · have e : tagB i d ps.flatten = macB (keyB i) ([d] :: ps).flatten := by
      unfold tagB
      rw [if_pos hn]
      rfl
    rw [e]
    exact c_mac (keyB i) ([d] :: ps) (by rw [keyB_len]; omega) (by simp; omega) (by simp [-List.length_flatten]; omega) (.inr rfl) (Weaks.refl _) (.inr rfl)
  · unfold tagB
    rw [if_neg (by rw [hn]; simp)]
    exact z32_is
theorem c_tag (i : Int) (d : UInt8) (ps : List (List UInt8)) (hl : ps.length < 100000) (ht : ps.flatten.length < 1000000) {xs : List AV} {m : Mark} (hm : m = .ex ∨ m = .ro) (h : Weaks xs (ps.map (fun b => (AV.sl .lf (by8 (b)) .ro)))) :
    FnOK Tryd.prog D 184 [(AV.sc (.int .i64 (i))), (AV.sc (.int .u8 ((d.toNat : Int)))), .sl .lf xs m] [] (fun r st => r = .ar 32 .lf (by8 (tagB i d ps.flatten)) ∧ st = []) :=
  (c_tag0 i d ps hl ht).weak (.cons (Weak.refl _) (.cons (Weak.refl _) (.cons (.sl hm h) .nil)))
def quo (n : Int) : Int := if isNode n = true ∧ n.toNat % 2 = 1 then ((n.toNat / 2 + 1 : Nat) : Int) else 0
theorem c_quorum (n : Int) : FnOK Tryd.prog D 91 [(AV.sc (.int .i64 (n)))] [] (fun r st => r = (AV.sc (.int .i64 (quo n))) ∧ st = []) := by
  refine fnok_of_W hmix tabOK Tryd.func91 rfl rfl (Nat.le_of_ble_eq_true rfl) ?_
  conv => whnf
  refine (c_node n).mono fun r st e => ?_
  obtain ⟨rfl, rfl⟩ := e
  conv => whnf
  cases hn : isNode n
  · conv => whnf
    refine ⟨false, [], ?_⟩
    conv => whnf
    refine ⟨?_, rfl⟩
    unfold quo
    rw [if_neg (by rw [hn]; simp)]
  · conv => whnf
    have hb := hn
    simp only [isNode, Bool.and_eq_true, decide_eq_true_eq] at hb
    obtain ⟨m, rfl⟩ := Int.eq_ofNat_of_zero_le (show 0 ≤ n by omega)
    refine ⟨by omega, ?_⟩
    conv => whnf
    rw [show Int.tmod (m : Int) 2 = ((m % 2 : Nat) : Int) from rfl]
    refine Branch.of (fun h2 => ?_) (fun h2 => ?_) <;> rw [h2] <;> conv => whnf
    · refine ⟨false, [], ?_⟩
      conv => whnf
      refine ⟨?_, rfl⟩
      unfold quo
      rw [if_neg]
      simp only [beq_iff_eq] at h2
      rw [Int.toNat_natCast]
      omega
    · simp only [beq_eq_false_iff_ne, ne_eq] at h2
      refine ⟨by omega, ?_⟩
      conv => whnf
      rw [show Int.tdiv (m : Int) 2 = ((m / 2 : Nat) : Int) from rfl, w64 (x := ((m / 2 : Nat) : Int)) (by omega) (by omega), w64 (x := ((m / 2 : Nat) : Int) + 1) (by omega) (by omega)]
      refine ⟨false, [], ?_⟩
      conv => whnf
      refine ⟨?_, rfl⟩
      unfold quo
      rw [if_pos ⟨hn, by rw [Int.toNat_natCast]; omega⟩, Int.toNat_natCast]
      rfl
theorem c_check_aux (i : Int) (d : UInt8) (tag T : List UInt8) (ps : List (List UInt8)) (b : Bool) (ht : tag.length = 32) (hT : T.length = 32)
    (ct : FnOK Tryd.prog D 184 [(AV.sc (.int .i64 (i))), (AV.sc (.int .u8 ((d.toNat : Int)))), .sl .lf (ps.map fun b => (AV.sl .lf (by8 (b)) .ro)) .ro] [] (fun r st => r = .ar 32 .lf (by8 T) ∧ st = [])) (hy : isNode i = true → b = (tag == T)) (hno : isNode i = false → b = false) :
    FnOK Tryd.prog D 167 [(AV.sc (.int .i64 (i))), (AV.sc (.int .u8 ((d.toNat : Int)))), .ar 32 .lf (by8 tag), .sl .lf (ps.map fun b => (AV.sl .lf (by8 (b)) .ro)) .ro] [] (fun r st => r = (AV.sc (.bool (b))) ∧ st = []) := by
  refine fnok_of_W hmix tabOK Tryd.func167 rfl rfl (Nat.le_of_ble_eq_true rfl) ?_
  conv => whnf
  refine ⟨tabF167R1, by decide +kernel, ?_⟩
  conv => whnf
  refine ⟨_, _, c_node i, ?_⟩
  conv => whnf
  cases hn : isNode i
  · conv => whnf
    rw [hno hn]
    refine ⟨false, [], ?_⟩
    conv => whnf
    exact ⟨rfl, rfl⟩
  · conv => whnf
    refine ⟨_, _, ct, ?_⟩
    conv => whnf
    refine ⟨_, _, c_samehash tag T ht hT, ?_⟩
    conv => whnf
    rw [hy hn]
    refine ⟨false, [], ?_⟩
    conv => whnf
    exact ⟨rfl, rfl⟩
theorem c_check (i : Int) (d : UInt8) (tag : List UInt8) (ps : List (List UInt8)) (b : Bool) (ht : tag.length = 32) (hl : ps.length < 100000) (hf : ps.flatten.length < 1000000) (hy : isNode i = true → b = (tag == tagB i d ps.flatten)) (hno : isNode i = false → b = false) {xs : List AV} {m : Mark} (hm : m = .ex ∨ m = .ro) (h : Weaks xs (ps.map (fun b => (AV.sl .lf (by8 (b)) .ro)))) :
    FnOK Tryd.prog D 167 [(AV.sc (.int .i64 (i))), (AV.sc (.int .u8 ((d.toNat : Int)))), .ar 32 .lf (by8 tag), .sl .lf xs m] [] (fun r st => r = (AV.sc (.bool (b))) ∧ st = []) :=
  (c_check_aux i d tag (tagB i d ps.flatten) ps b ht (tagB_len _ _ _) (c_tag0 i d ps hl hf) hy hno).weak (.cons (Weak.refl _) (.cons (Weak.refl _) (.cons (Weak.refl _) (.cons (.sl hm h) .nil))))
end Go.WL.T7
