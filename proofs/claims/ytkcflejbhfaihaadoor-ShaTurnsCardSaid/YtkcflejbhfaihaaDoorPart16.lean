/- awake of the laws of sums. No condition. -/
import Derived.Test.YtkcflejbhfaihaaDoorPart09
import Derived.Test.YtkcflejbhfaihaaDoorPart15
set_option linter.unusedVariables false
set_option linter.unusedSimpArgs false
namespace Go.WL.T4
open Go.WL Go.Proofs Go.RowKit
set_option maxRecDepth 20000
set_option maxHeartbeats 8000000
theorem c_hex (h : List UInt8) (hl : h.length = 32) : FnOK Tryd.prog D 29 [.ar 32 .lf (by8 h)] [] (fun r st => r = .sc (.string (strB (hexB h))) ∧ st = []) := by
  refine .ofCalls _ Tryd.func29 (by decide) (by kernel_rfl) (.string (strB (hexB h))) rfl ⟨rfl, rfl⟩ fun E us hr => ?_
  obtain ⟨vs, rfl, _, h2⟩ := repL_ar8 hr
  obtain rfl : vs = [] := h2
  exact Tryd.hex _ (by simp [hl]) h hl (fun k hk => by simp [hk]) E.w
theorem c_indexByte (s : ByteArray) (c : UInt8) : FnOK Tryd.prog D 68 [.sc (.string s), (AV.sc (.int .u8 ((c.toNat : Int))))] [] (fun r st => r = (AV.sc (.int .i64 (Lib.indexByte s.data.toList c))) ∧ st = []) := by
  refine .ofCalls _ Tryd.func68 (by decide) (by kernel_rfl) (.int .i64 (Lib.indexByte s.data.toList c)) rfl ⟨rfl, rfl⟩ fun E us hr => ?_
  obtain ⟨vs, rfl, h2⟩ := repL_sc hr
  obtain ⟨vs, rfl, h3⟩ := repL_sc h2
  obtain rfl : vs = [] := h3
  refine (Tryd.strings_IndexByte s c.toNat E.w).mono fun e w' ⟨h1, h2⟩ => ⟨?_, ?_⟩
  · rw [h1]
    simp
  · rw [h2]
    exact Below.refl _ _
end Go.WL.T4
namespace Go.WL.T4
open Go.WL Go.Proofs
set_option maxRecDepth 20000
set_option maxHeartbeats 8000000
theorem abc_sum : hexB (shaB [97, 98, 99]) = [98, 97, 55, 56, 49, 54, 98, 102, 56, 102, 48, 49, 99, 102, 101, 97, 52, 49, 52, 49, 52, 48, 100, 101, 53, 100, 97, 101, 50, 50, 50, 51, 98, 48, 48, 51, 54, 49, 97, 51, 57, 54, 49, 55, 55, 97, 57, 99, 98, 52, 49, 48, 102, 102, 54, 49, 102, 50, 48, 48, 49, 53, 97, 100] := by decide +kernel
theorem c_awake2_aux (M H : List UInt8) (hH : H = [98, 97, 55, 56, 49, 54, 98, 102, 56, 102, 48, 49, 99, 102, 101, 97, 52, 49, 52, 49, 52, 48, 100, 101, 53, 100, 97, 101, 50, 50, 50, 51, 98, 48, 48, 51, 54, 49, 97, 51, 57, 54, 49, 55, 55, 97, 57, 99, 98, 52, 49, 48, 102, 102, 54, 49, 102, 50, 48, 48, 49, 53, 97, 100])
    (cs : FnOK Tryd.prog D 16 [.sl .lf [.sl .lf [(AV.sc (.int .u8 (97)))] .ro, .sl .lf [(AV.sc (.int .u8 (98))), (AV.sc (.int .u8 (99)))] .ro] .ex] [] (fun r st => r = .ar 32 .lf (by8 M) ∧ st = []))
    (ch : FnOK Tryd.prog D 29 [.ar 32 .lf (by8 M)] [] (fun r st => r = .sc (.string (strB H)) ∧ st = [])) :
    FnOK Tryd.prog D 15 [] [] (fun r st => r = (AV.sc (.bool (true))) ∧ st = []) := by
  refine fnok_of_W hmix tabOK Tryd.func15 rfl rfl (Nat.le_of_ble_eq_true rfl) ?_
  conv => whnf
  refine (cs).mono fun r st e => ?_
  obtain ⟨rfl, rfl⟩ := e
  conv => whnf
  refine (ch).mono fun r st e => ?_
  obtain ⟨rfl, rfl⟩ := e
  conv => whnf
  refine ⟨false, [], ?_⟩
  conv => whnf
  refine ⟨?_, rfl⟩
  congr 2
  rw [strB_list, hH, beq_iff_eq, ByteArray.toList_eq]
theorem c_awake2 : FnOK Tryd.prog D 15 [] [] (fun r st => r = (AV.sc (.bool (true))) ∧ st = []) := by
  have cs := c_sha [[97], [98, 99]] (by decide) (by decide) (m := .ex) (.inl rfl) (Weaks.refl _)
  exact c_awake2_aux _ _ abc_sum cs (c_hex _ (shaB_len _))
end Go.WL.T4
