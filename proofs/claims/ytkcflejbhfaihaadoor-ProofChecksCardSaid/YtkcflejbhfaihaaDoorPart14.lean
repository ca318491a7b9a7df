/- Leaves, knots, roots. No condition. -/
import Derived.Test.YtkcflejbhfaihaaDoorPart12
import Derived.Test.YtkcflejbhfaihaaDoorPart13
import Derived.Test.YtkcflejbhfaihaaDoorWordsC
set_option linter.unusedVariables false
set_option linter.unusedSimpArgs false
namespace Go.WL.T4
open Go.WL Go.Proofs
set_option maxRecDepth 20000
set_option maxHeartbeats 8000000
def leafB (t : List UInt8) : List UInt8 := shaB (0 :: t)
def knotB (a b : List UInt8) : List UInt8 := shaB (1 :: (a ++ b))
theorem c_leaf_aux (t R : List UInt8) (cs : FnOK Tryd.prog D 16 [.sl .lf [.sl .lf [(AV.sc (.int .u8 (0)))] .ex, (AV.sl .lf (by8 (t)) .ro)] .ex] [] (fun r st => r = .ar 32 .lf (by8 R) ∧ st = [])) :
    FnOK Tryd.prog D 74 [(AV.sl .lf (by8 (t)) .ro)] [] (fun r st => r = .ar 32 .lf (by8 R) ∧ st = []) := by
  refine fnok_of_W hmix tabOK Tryd.func74 rfl rfl (Nat.le_of_ble_eq_true rfl) ?_
  conv => whnf
  refine (cs).mono fun r st e => ?_
  obtain ⟨rfl, rfl⟩ := e
  conv => whnf
  refine ⟨false, [], ?_⟩
  conv => whnf
  exact ⟨rfl, rfl⟩
theorem c_leaf (t : List UInt8) (ht : t.length < 10000000) : FnOK Tryd.prog D 74 [(AV.sl .lf (by8 (t)) .ro)] [] (fun r st => r = .ar 32 .lf (by8 (leafB t)) ∧ st = []) := by
  have h := c_sha [[0], t] (by simp) (by simp; omega) (m := .ex) (.inl rfl) (xs := [.sl .lf [(AV.sc (.int .u8 (0)))] .ex, (AV.sl .lf (by8 (t)) .ro)]) (.cons (.sl (.inl rfl) (Weaks.refl _)) (.cons (.sl (.inr rfl) (Weaks.refl _)) .nil))
  rw [show [[0], t].flatten = 0 :: t by simp] at h
  exact c_leaf_aux t (leafB t) h
theorem c_knot_aux (a b R : List UInt8) (ha : a.length = 32) (hb : b.length = 32) (cs : FnOK Tryd.prog D 16 [.sl .lf [.sl .lf [(AV.sc (.int .u8 (1)))] .ex, (AV.sl .lf (by8 (a)) .ro), (AV.sl .lf (by8 (b)) .ro)] .ex] [] (fun r st => r = .ar 32 .lf (by8 R) ∧ st = [])) :
    FnOK Tryd.prog D 76 [.ar 32 .lf (by8 a), .ar 32 .lf (by8 b)] [] (fun r st => r = .ar 32 .lf (by8 R) ∧ st = []) := by
  refine fnok_of_Ws [1001002, 1001003] hmix tabOK Tryd.func76 rfl rfl (Nat.le_of_ble_eq_true rfl) ?_
  conv => whnf
  refine ⟨tabF76R1, by decide +kernel, ?_⟩
  conv => whnf
  have e1 : List.take (32 - 0) (List.drop 0 (by8 a)) = by8 a := List.take_of_length_le (by rw [List.drop_zero, len8]; omega)
  have e2 : List.take (32 - 0) (List.drop 0 (by8 b)) = by8 b := List.take_of_length_le (by rw [List.drop_zero, len8]; omega)
  repeat (refine And.intro (by first | omega) ?_; conv => whnf)
  rw [e1, e2]
  refine ⟨_, _, cs, ?_⟩
  conv => whnf
  refine ⟨false, [], ?_⟩
  conv => whnf
  exact ⟨rfl, rfl⟩
theorem c_knot (a b : List UInt8) (ha : a.length = 32) (hb : b.length = 32) : FnOK Tryd.prog D 76 [.ar 32 .lf (by8 a), .ar 32 .lf (by8 b)] [] (fun r st => r = .ar 32 .lf (by8 (knotB a b)) ∧ st = []) := by
  have h := c_sha [[1], a, b] (by simp) (by simp; omega) (m := .ex) (.inl rfl) (xs := [.sl .lf [(AV.sc (.int .u8 (1)))] .ex, (AV.sl .lf (by8 (a)) .ro), (AV.sl .lf (by8 (b)) .ro)]) (.cons (.sl (.inl rfl) (Weaks.refl _)) (.cons (.sl (.inr rfl) (Weaks.refl _)) (.cons (.sl (.inr rfl) (Weaks.refl _)) .nil)))
  rw [show [[1], a, b].flatten = 1 :: (a ++ b) by simp] at h
  exact c_knot_aux a b (knotB a b) ha hb h
theorem c_leafR_aux (t R : List UInt8) (ht : t.length < 10000000) (cs : FnOK Tryd.prog D 17 [.sl .lf ([(AV.sc (.int .u8 (0)))] ++ by8 t) .ro] [] (fun r st => r = .ar 32 .lf (by8 R) ∧ st = [])) :
    FnOK Tryd.prog D 77 [(AV.sl .lf (by8 (t)) .ro)] [] (fun r st => r = .ar 32 .lf (by8 R) ∧ st = []) := by
  refine fnok_of_W hmix tabOK Tryd.func77 rfl rfl (Nat.le_of_ble_eq_true rfl) ?_
  conv => whnf
  refine And.intro (by rw [len8]; show 1 + _ < _; omega) ?_
  conv => whnf
  refine (cs).mono fun r st e => ?_
  obtain ⟨rfl, rfl⟩ := e
  conv => whnf
  refine ⟨false, [], ?_⟩
  conv => whnf
  exact ⟨rfl, rfl⟩
theorem c_leafR (t : List UInt8) (ht : t.length < 10000000) : FnOK Tryd.prog D 77 [(AV.sl .lf (by8 (t)) .ro)] [] (fun r st => r = .ar 32 .lf (by8 (leafB t)) ∧ st = []) :=
  c_leafR_aux t (leafB t) ht (c_refsha (0 :: t) (by simp; omega))
theorem c_bytesR (h : List UInt8) (hl : h.length = 32) : FnOK Tryd.prog D 82 [.ar 32 .lf (by8 h)] [] (fun r st => r = (AV.sl .lf (by8 (h)) (.own 0)) ∧ st = []) := by
  refine fnok_of_W hmix tabOK Tryd.func82 rfl rfl (Nat.le_of_ble_eq_true rfl) ?_
  conv => whnf
  refine ⟨true, [1, 3, 4], fun τ => ∃ j : Nat, j ≤ 32 ∧ τ = ⟨17, [(1, .pt 0 []), (3, (AV.sl .lf (by8 (h.take j)) (.own 0))), (4, (AV.sc (.int .i64 ((j : Int)))))], ⟨[(.ar 32 .lf (by8 h), false)], [0], 1⟩⟩, fun τ => 32 - (slotI τ 4).toNat, ?_, ?_⟩
  · conv => whnf
    exact ⟨0, by omega, rfl⟩
  rintro τ ⟨j, hj, rfl⟩
  conv => whnf
  refine Branch.of (fun h1 => ?_) (fun h1 => ?_) <;> rw [h1] <;> conv => whnf
  · simp only [decide_eq_true_eq] at h1
    have hjl : j < h.length := by omega
    repeat (refine And.intro (by first | omega) ?_; conv => whnf)
    rw [Int.toNat_natCast]
    refine ⟨_, at8n hjl, ?_⟩
    conv => whnf
    refine And.intro (by rw [len8, List.length_take]; show _ + 1 < _; omega) ?_
    conv => whnf
    rw [snocU, show h.take j ++ [h[j]] = h.take (j + 1) from (List.take_succ_eq_append_getElem hjl).symm, w64 (x := (j : Int) + 1) (by omega) (by omega)]
    refine ⟨⟨j + 1, by omega, rfl⟩, ?_⟩
    show 32 - ((j : Int) + 1).toNat < 32 - (j : Int).toNat
    omega
  · simp only [decide_eq_false_iff_not] at h1
    have e : j = 32 := by omega
    subst e
    rw [List.take_of_length_le (by omega)]
    refine ⟨false, [], ?_⟩
    conv => whnf
    exact ⟨rfl, rfl⟩
theorem c_knotR_aux (a b R : List UInt8) (ha : a.length = 32) (hb : b.length = 32) (cs : FnOK Tryd.prog D 17 [.sl .lf ([(AV.sc (.int .u8 (1)))] ++ by8 a ++ by8 b) .ro] [] (fun r st => r = .ar 32 .lf (by8 R) ∧ st = [])) :
    FnOK Tryd.prog D 79 [.ar 32 .lf (by8 a), .ar 32 .lf (by8 b)] [] (fun r st => r = .ar 32 .lf (by8 R) ∧ st = []) := by
  refine fnok_of_W hmix tabOK Tryd.func79 rfl rfl (Nat.le_of_ble_eq_true rfl) ?_
  conv => whnf
  refine ⟨tabF79R1, by decide +kernel, ?_⟩
  conv => whnf
  refine ⟨_, _, c_bytesR a ha, ?_⟩
  conv => whnf
  refine And.intro (by rw [len8, ha]; decide) ?_
  conv => whnf
  refine ⟨_, _, c_bytesR b hb, ?_⟩
  conv => whnf
  refine And.intro (by rw [List.length_append, len8, len8, ha, hb]; decide) ?_
  conv => whnf
  refine ⟨_, _, cs, ?_⟩
  conv => whnf
  refine ⟨false, [], ?_⟩
  conv => whnf
  exact ⟨rfl, rfl⟩
theorem c_knotR (a b : List UInt8) (ha : a.length = 32) (hb : b.length = 32) : FnOK Tryd.prog D 79 [.ar 32 .lf (by8 a), .ar 32 .lf (by8 b)] [] (fun r st => r = .ar 32 .lf (by8 (knotB a b)) ∧ st = []) := by
  refine c_knotR_aux a b (knotB a b) ha hb ?_
  have := c_refsha (1 :: (a ++ b)) (by simp; omega)
  rw [show by8 (1 :: (a ++ b)) = [(AV.sc (.int .u8 (1)))] ++ by8 a ++ by8 b by simp [by8]] at this
  exact this
end Go.WL.T4
