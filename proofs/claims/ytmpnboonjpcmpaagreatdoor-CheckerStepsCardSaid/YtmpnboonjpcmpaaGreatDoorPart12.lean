/- Keys of parts: the reference's; tags. No condition. -/
import Derived.Test.YtmpnboonjpcmpaaGreatDoorPart11
set_option linter.unusedVariables false
set_option linter.unusedSimpArgs false
namespace Go.WL.T7z
open Go.WL Go.Proofs
set_option maxRecDepth 20000
set_option maxHeartbeats 8000000
def tagB (i : Int) (d : UInt8) (b : List UInt8) : List UInt8 := if isNode i then macB (keyB i) (d :: b) else z32
theorem macB_len (k b : List UInt8) : (macB k b).length = 32 := shaB_len _
theorem tagB_len (i : Int) (d : UInt8) (b : List UInt8) : (tagB i d b).length = 32 := by
  unfold tagB
  split
  · exact macB_len _ _
  · rfl
theorem c_tag_aux (i : Int) (d : UInt8) (ps : List (List UInt8)) (Y T : List UInt8) (hY : Y.length = 32) (ck : FnOK Tryz.prog D 85 [(AV.sc (.int .i64 (i)))] [] (fun r st => r = .ar 32 .lf (by8 Y) ∧ st = []))
    (cc : FnOK Tryz.prog D 87 [.sl .lf [.sl .lf [.sl .lf [(AV.sc (.int .u8 ((d.toNat : Int))))] .ex] .ex, .sl .lf (ps.map fun b => (AV.sl .lf (by8 (b)) .ro)) .ro] .ex] [] (fun r st => r = .sl .lf (([d] :: ps).map fun b => (AV.sl .lf (by8 (b)) .ro)) .ro ∧ st = []))
    (cm : isNode i = true → FnOK Tryz.prog D 86 [(AV.sl .lf (by8 (Y)) .ro), .sl .lf (([d] :: ps).map fun b => (AV.sl .lf (by8 (b)) .ro)) .ro] [] (fun r st => r = .ar 32 .lf (by8 T) ∧ st = [])) (hz : isNode i = false → by8 T = List.replicate 32 (AV.sc (.int .u8 (0)))) :
    FnOK Tryz.prog D 66 [(AV.sc (.int .i64 (i))), (AV.sc (.int .u8 ((d.toNat : Int)))), .sl .lf (ps.map fun b => (AV.sl .lf (by8 (b)) .ro)) .ro] [] (fun r st => r = .ar 32 .lf (by8 T) ∧ st = []) := by
  refine fnok_of_Ws [1004007] hmix tabOK Tryz.func66 rfl rfl (Nat.le_of_ble_eq_true rfl) ?_
  conv => whnf
  refine (c_node i).mono fun r st e => ?_
  obtain ⟨rfl, rfl⟩ := e
  conv => whnf
  cases hn : isNode i
  · conv => whnf
    refine ⟨false, [], ?_⟩
    conv => whnf
    rw [hz hn]
    exact ⟨rfl, rfl⟩
  · conv => whnf
    refine (ck).mono fun r st e => ?_
    obtain ⟨rfl, rfl⟩ := e
    conv => whnf
    refine ⟨tabF66R4, by decide +kernel, ?_⟩
    conv => whnf
    repeat (refine And.intro (by first | omega) ?_; conv => whnf)
    have e1 : List.take (32 - 0) (List.drop 0 (by8 Y)) = by8 Y := List.take_of_length_le (by rw [List.drop_zero, len8]; omega)
    rw [e1]
    refine ⟨_, _, cc, ?_⟩
    conv => whnf
    refine ⟨_, _, cm hn, ?_⟩
    conv => whnf
    refine ⟨false, [], ?_⟩
    conv => whnf
    exact ⟨rfl, rfl⟩
theorem c_tag0 (i : Int) (d : UInt8) (ps : List (List UInt8)) (hl : ps.length < 100000) (ht : ps.flatten.length < 1000000) :
    FnOK Tryz.prog D 66 [(AV.sc (.int .i64 (i))), (AV.sc (.int .u8 ((d.toNat : Int)))), .sl .lf (ps.map fun b => (AV.sl .lf (by8 (b)) .ro)) .ro] [] (fun r st => r = .ar 32 .lf (by8 (tagB i d ps.flatten)) ∧ st = []) := by
  have cc := c_concatL [[(AV.sl .lf (by8 ([d])) .ro)], ps.map fun b => (AV.sl .lf (by8 (b)) .ro)] (by simp) (by simp [totL]; omega)
  have e3 : [[(AV.sl .lf (by8 ([d])) .ro)], ps.map fun b => (AV.sl .lf (by8 (b)) .ro)].flatten = ([d] :: ps).map fun b => (AV.sl .lf (by8 (b)) .ro) := by simp
  rw [e3] at cc
  refine c_tag_aux i d ps (keyB i) (tagB i d ps.flatten) (keyB_len i) (c_key i) (cc.weak (.cons (.sl (.inl rfl) (.cons (.sl (.inl rfl) (.cons (.sl (.inl rfl) (Weaks.refl _)) .nil)) (.cons (.sl (.inr rfl) (Weaks.refl _)) .nil))) .nil)) (fun hn => ?_) (fun hn => ?_)
  · have e : tagB i d ps.flatten = macB (keyB i) ([d] :: ps).flatten := by
      unfold tagB
      rw [if_pos hn]
      rfl
    rw [e]
    exact c_mac (keyB i) ([d] :: ps) (by rw [keyB_len]; omega) (by simp; omega) (by simp [-List.length_flatten]; omega) (.inr rfl) (Weaks.refl _) (.inr rfl)
  · unfold tagB
    rw [if_neg (by rw [hn]; simp)]
    exact z32_is
theorem c_tag (i : Int) (d : UInt8) (ps : List (List UInt8)) (hl : ps.length < 100000) (ht : ps.flatten.length < 1000000) {xs : List AV} {m : Mark} (hm : m = .ex ∨ m = .ro) (h : Weaks xs (ps.map (fun b => (AV.sl .lf (by8 (b)) .ro)))) :
    FnOK Tryz.prog D 66 [(AV.sc (.int .i64 (i))), (AV.sc (.int .u8 ((d.toNat : Int)))), .sl .lf xs m] [] (fun r st => r = .ar 32 .lf (by8 (tagB i d ps.flatten)) ∧ st = []) :=
  (c_tag0 i d ps hl ht).weak (.cons (Weak.refl _) (.cons (Weak.refl _) (.cons (.sl hm h) .nil)))
def quo (n : Int) : Int := if isNode n = true ∧ n.toNat % 2 = 1 then ((n.toNat / 2 + 1 : Nat) : Int) else 0
theorem c_quorum (n : Int) : FnOK Tryz.prog D 37 [(AV.sc (.int .i64 (n)))] [] (fun r st => r = (AV.sc (.int .i64 (quo n))) ∧ st = []) := by
  refine fnok_of_W hmix tabOK Tryz.func37 rfl rfl (Nat.le_of_ble_eq_true rfl) ?_
  conv => whnf
  refine (c_node n).mono fun r st e => ?_
  obtain ⟨rfl, rfl⟩ := e
  conv => whnf
  cases hn : isNode n
  · conv => whnf
    refine ⟨false, [], ?_⟩
    conv => whnf
    refine ⟨?_, rfl⟩
    unfold quo
    rw [if_neg (by rw [hn]; simp)]
  · conv => whnf
    have hb := hn
    simp only [isNode, Bool.and_eq_true, decide_eq_true_eq] at hb
    obtain ⟨m, rfl⟩ := Int.eq_ofNat_of_zero_le (show 0 ≤ n by omega)
    refine ⟨by omega, ?_⟩
    conv => whnf
    rw [show Int.tmod (m : Int) 2 = ((m % 2 : Nat) : Int) from rfl]
    refine Branch.of (fun h2 => ?_) (fun h2 => ?_) <;> rw [h2] <;> conv => whnf
    · refine ⟨false, [], ?_⟩
      conv => whnf
      refine ⟨?_, rfl⟩
      unfold quo
      rw [if_neg]
      simp only [beq_iff_eq] at h2
      rw [Int.toNat_natCast]
      omega
    · simp only [beq_eq_false_iff_ne, ne_eq] at h2
      refine ⟨by omega, ?_⟩
      conv => whnf
      rw [show Int.tdiv (m : Int) 2 = ((m / 2 : Nat) : Int) from rfl, w64 (x := ((m / 2 : Nat) : Int)) (by omega) (by omega), w64 (x := ((m / 2 : Nat) : Int) + 1) (by omega) (by omega)]
      refine ⟨false, [], ?_⟩
      conv => whnf
      refine ⟨?_, rfl⟩
      unfold quo
      rw [if_pos ⟨hn, by rw [Int.toNat_natCast]; omega⟩, Int.toNat_natCast]
      rfl
theorem c_check_aux (i : Int) (d : UInt8) (tag T : List UInt8) (ps : List (List UInt8)) (b : Bool) (ht : tag.length = 32) (hT : T.length = 32)
    (ct : FnOK Tryz.prog D 66 [(AV.sc (.int .i64 (i))), (AV.sc (.int .u8 ((d.toNat : Int)))), .sl .lf (ps.map fun b => (AV.sl .lf (by8 (b)) .ro)) .ro] [] (fun r st => r = .ar 32 .lf (by8 T) ∧ st = [])) (hy : isNode i = true → b = (tag == T)) (hno : isNode i = false → b = false) :
    FnOK Tryz.prog D 39 [(AV.sc (.int .i64 (i))), (AV.sc (.int .u8 ((d.toNat : Int)))), .ar 32 .lf (by8 tag), .sl .lf (ps.map fun b => (AV.sl .lf (by8 (b)) .ro)) .ro] [] (fun r st => r = (AV.sc (.bool (b))) ∧ st = []) := by
  refine fnok_of_W hmix tabOK Tryz.func39 rfl rfl (Nat.le_of_ble_eq_true rfl) ?_
  conv => whnf
  refine ⟨tabF39R1, by decide +kernel, ?_⟩
  conv => whnf
  refine ⟨_, _, c_node i, ?_⟩
  conv => whnf
  cases hn : isNode i
  · conv => whnf
    rw [hno hn]
    refine ⟨false, [], ?_⟩
    conv => whnf
    exact ⟨rfl, rfl⟩
  · conv => whnf
    refine ⟨_, _, ct, ?_⟩
    conv => whnf
    refine ⟨_, _, c_samehash tag T ht hT, ?_⟩
    conv => whnf
    rw [hy hn]
    refine ⟨false, [], ?_⟩
    conv => whnf
    exact ⟨rfl, rfl⟩
theorem c_check (i : Int) (d : UInt8) (tag : List UInt8) (ps : List (List UInt8)) (b : Bool) (ht : tag.length = 32) (hl : ps.length < 100000) (hf : ps.flatten.length < 1000000) (hy : isNode i = true → b = (tag == tagB i d ps.flatten)) (hno : isNode i = false → b = false) {xs : List AV} {m : Mark} (hm : m = .ex ∨ m = .ro) (h : Weaks xs (ps.map (fun b => (AV.sl .lf (by8 (b)) .ro)))) :
    FnOK Tryz.prog D 39 [(AV.sc (.int .i64 (i))), (AV.sc (.int .u8 ((d.toNat : Int)))), .ar 32 .lf (by8 tag), .sl .lf xs m] [] (fun r st => r = (AV.sc (.bool (b))) ∧ st = []) :=
  (c_check_aux i d tag (tagB i d ps.flatten) ps b ht (tagB_len _ _ _) (c_tag0 i d ps hl hf) hy hno).weak (.cons (Weak.refl _) (.cons (Weak.refl _) (.cons (Weak.refl _) (.cons (.sl hm h) .nil))))
end Go.WL.T7z
