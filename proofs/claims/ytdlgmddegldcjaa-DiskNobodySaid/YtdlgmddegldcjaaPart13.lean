/- Nobody's disk: the law. No condition. -/
import Derived.Test.YtdlgmddegldcjaaPart12
set_option linter.unusedVariables false
set_option linter.unusedSimpArgs false
namespace Go.WL.T5
open Go.WL Go.Proofs
set_option maxRecDepth 20000
set_option maxHeartbeats 8000000
theorem c_awake18 : FnOK Try.prog D 16 [] [] (fun r st => r = (AV.sc (.bool (true))) ∧ st = []) := by
  refine fnok_of_Ws [7500005] hmix tabOK Try.func16 rfl rfl (Nat.le_of_ble_eq_true rfl) ?_
  conv => whnf
  refine (c_new 9 (by decide) (by decide)).mono fun r st e => ?_
  obtain ⟨rfl, rfl⟩ := e
  conv => whnf
  refine ((c_append0 ⟨[], 0, 9, -1, false, []⟩ [1, 2, 3] rfl (by simp [WFk]) (by decide)).weak (.cons (Weak.refl _) (.cons (.sl (m := .ex) (.inl rfl) (Weaks.refl _)) .nil))).mono ?_
  rw [show appP ⟨[], 0, 9, -1, false, []⟩ [1, 2, 3] = (⟨[1, 2, 3], 0, 9, -1, false, []⟩, 0) from rfl]
  rintro r st ⟨rfl, ⟨h, _⟩ | ⟨cap, c2, L, hL, rfl⟩⟩
  · cases h
  conv => whnf
  refine ⟨[(0, [0])], ?_⟩
  conv => whnf
  rw [List.drop_zero, hL.2.2.2]
  refine (c_crashR ⟨[1, 2, 3], 0, 9, -1, false, []⟩ 2 (by simp [WFk]) (by decide)).mono ?_
  rw [show crashP ⟨[1, 2, 3], 0, 9, -1, false, []⟩ 2 = ⟨[1, 2], 2, 9, -1, false, []⟩ from rfl]
  rintro r st ⟨rfl, ⟨h, _⟩ | ⟨cap', c2', L', hL', rfl⟩⟩
  · cases h
  conv => whnf
  refine (c_all1 ⟨[1, 2], 2, 9, -1, false, []⟩ cap' c2' L' hL' (by simp [WFk])).mono fun r st e => ?_
  obtain ⟨rfl, rfl⟩ := e
  conv => whnf
  refine (c_safe1 ⟨[1, 2], 2, 9, -1, false, []⟩ cap' c2' L').mono fun r st e => ?_
  obtain ⟨rfl, rfl⟩ := e
  conv => whnf
  refine ⟨false, [], ?_⟩
  conv => whnf
  exact ⟨rfl, rfl⟩
def lay0 (b : List UInt8) (cp : Nat) : List AV := List.replicate 0 (AV.sc (.int .u8 (0))) ++ by8 b ++ List.replicate (cp - ((List.replicate 0 (AV.sc (.int .u8 (0)))).length + b.length)) (AV.sc (.int .u8 (0)))
theorem okl_lay0 (b : List UInt8) (cp : Nat) (h : b.length ≤ cp) : OKL b cp cp (lay0 b cp) := by
  have := okl_app b cp (List.replicate (cp - b.length) (AV.sc (.int .u8 (0)))) h (by rw [List.length_replicate])
  unfold lay0
  rw [show (List.replicate 0 (AV.sc (.int .u8 (0)))).length + b.length = b.length by simp]
  exact this
theorem c_append0e (sf room armed : Int) (h : List UInt8) (w1 : 0 ≤ room) (w2 : room ≤ 1048576) : FnOK Try.prog D 25 [.pt 0 [], (AV.sl .lf (by8 ([])) .ro)] [(AV.st [.sl .lf [] .ex, .sc (.int .i64 ((⟨[], sf, room, armed, false, h⟩ : Pk)).sf), .sc (.int .i64 ((⟨[], sf, room, armed, false, h⟩ : Pk)).room), .sc (.bool true), .sc (.int .i64 ((⟨[], sf, room, armed, false, h⟩ : Pk)).armed), .sc (.bool ((⟨[], sf, room, armed, false, h⟩ : Pk)).dead), .sl .lf (by8 ((⟨[], sf, room, armed, false, h⟩ : Pk)).h) .ro])] (fun r st => r = (AV.sc (.int .i64 (0))) ∧ st = [(AV.st [.sl .lf [] .ex, .sc (.int .i64 ((⟨[], sf, room, armed, false, h⟩ : Pk)).sf), .sc (.int .i64 ((⟨[], sf, room, armed, false, h⟩ : Pk)).room), .sc (.bool true), .sc (.int .i64 ((⟨[], sf, room, armed, false, h⟩ : Pk)).armed), .sc (.bool ((⟨[], sf, room, armed, false, h⟩ : Pk)).dead), .sl .lf (by8 ((⟨[], sf, room, armed, false, h⟩ : Pk)).h) .ro])]) := by
  refine fnok_of_Ws [41] hmix tabOK Try.func25 rfl rfl (Nat.le_of_ble_eq_true rfl) ?_
  conv => whnf
  refine (c_off0 ⟨_, sf, room, armed, false, h⟩).mono fun r st e => ?_
  obtain ⟨rfl, rfl⟩ := e
  conv => whnf
  refine ⟨tabF25R4, by decide +kernel, ?_⟩
  conv => whnf
  rw [decide_eq_false (p := _ > _) (by show ¬ (0 : Int) > IntKind.i64.wrap (room - 0); rw [w64 (by omega) (by omega)]; omega)]
  conv => whnf
  refine ⟨false, [], ?_⟩
  conv => whnf
  exact ⟨rfl, rfl⟩
end Go.WL.T5
