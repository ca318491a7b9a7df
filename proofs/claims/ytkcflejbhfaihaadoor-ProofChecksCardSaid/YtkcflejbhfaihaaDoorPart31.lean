/- awake of the laws of receipts' proofs. No condition. -/
import Derived.Test.YtkcflejbhfaihaaDoorPart30
set_option linter.unusedVariables false
set_option linter.unusedSimpArgs false
namespace Go.WL.T4
open Go.WL Go.Proofs
set_option maxRecDepth 20000
set_option maxHeartbeats 8000000
theorem c_awake45_aux (p R : List UInt8) (hz : R.length = 32)
    (cR : FnOK Tryd.prog D 84 [.sl (.nd [.ar 32 .lf, .lf, .lf, .lf]) [.st [.ar 32 .lf (List.replicate 32 (AV.sc (.int .u8 (0)))), (AV.sc (.int .i64 (1))), (AV.sc (.int .i64 (0))), (AV.sc (.int .i64 (0)))], .st [.ar 32 .lf (List.replicate 32 (AV.sc (.int .u8 (0)))), (AV.sc (.int .i64 (1))), (AV.sc (.int .i64 (1))), (AV.sc (.int .i64 (13)))]] .ex] [] (fun r st => r = .tup [.ar 32 .lf (by8 R), (AV.sc (.int .i64 (0)))] ∧ st = []))
    (cP : FnOK Tryd.prog D 85 [.sl (.nd [.ar 32 .lf, .lf, .lf, .lf]) [.st [.ar 32 .lf (List.replicate 32 (AV.sc (.int .u8 (0)))), (AV.sc (.int .i64 (1))), (AV.sc (.int .i64 (0))), (AV.sc (.int .i64 (0)))], .st [.ar 32 .lf (List.replicate 32 (AV.sc (.int .u8 (0)))), (AV.sc (.int .i64 (1))), (AV.sc (.int .i64 (1))), (AV.sc (.int .i64 (13)))]] .ex, (AV.sc (.int .i64 (1)))] [] (fun r st => r = .tup [.sl (.ar 32 .lf) (byH [p]) (.own 0), (AV.sc (.int .i64 (0)))] ∧ st = []))
    (cy : FnOK Tryd.prog D 59 [.ar 32 .lf (by8 R), (AV.sc (.int .i64 (2))), .st [.ar 32 .lf (List.replicate 32 (AV.sc (.int .u8 (0)))), (AV.sc (.int .i64 (1))), (AV.sc (.int .i64 (1))), (AV.sc (.int .i64 (13)))], .sl (.ar 32 .lf) (byH [p]) .ro] [] (fun r st => r = (AV.sc (.bool (true))) ∧ st = []))
    (cn : FnOK Tryd.prog D 59 [.ar 32 .lf (by8 R), (AV.sc (.int .i64 (2))), .st [.ar 32 .lf (List.replicate 32 (AV.sc (.int .u8 (0)))), (AV.sc (.int .i64 (1))), (AV.sc (.int .i64 (0))), (AV.sc (.int .i64 (0)))], .sl (.ar 32 .lf) (byH [p]) .ro] [] (fun r st => r = (AV.sc (.bool (false))) ∧ st = []))
    (cf : FnOK Tryd.prog D 86 [.sl (.nd [.ar 32 .lf, .lf, .lf, .lf]) [.st [.ar 32 .lf (List.replicate 32 (AV.sc (.int .u8 (0)))), (AV.sc (.int .i64 (1))), (AV.sc (.int .i64 (0))), (AV.sc (.int .i64 (0)))], .st [.ar 32 .lf (List.replicate 32 (AV.sc (.int .u8 (0)))), (AV.sc (.int .i64 (1))), (AV.sc (.int .i64 (1))), (AV.sc (.int .i64 (13)))]] .ex, .ar 32 .lf ((AV.sc (.int .u8 (1))) :: List.replicate 31 (AV.sc (.int .u8 (0))))] [] (fun r st => r = (AV.sc (.int .i64 (-1))) ∧ st = [])) :
    FnOK Tryd.prog D 58 [] [] (fun r st => r = (AV.sc (.bool (true))) ∧ st = []) := by
  refine fnok_of_W hmix tabOK Tryd.func58 rfl rfl (Nat.le_of_ble_eq_true rfl) ?_
  conv => whnf
  refine (cR).mono fun r st e => ?_
  obtain ⟨rfl, rfl⟩ := e
  conv => whnf
  refine (cP).mono fun r st e => ?_
  obtain ⟨rfl, rfl⟩ := e
  conv => whnf
  refine ⟨tabF58R4, by decide +kernel, ?_⟩
  conv => whnf
  repeat (refine And.intro (by first | omega) ?_; conv => whnf)
  refine ⟨_, rfl, ?_⟩
  conv => whnf
  refine ⟨_, _, cy, ?_⟩
  conv => whnf
  repeat (refine And.intro (by first | omega) ?_; conv => whnf)
  refine ⟨_, rfl, ?_⟩
  conv => whnf
  refine ⟨_, _, cn, ?_⟩
  conv => whnf
  refine ⟨_, _, cf, ?_⟩
  conv => whnf
  refine ⟨false, [], ?_⟩
  conv => whnf
  exact ⟨rfl, rfl⟩
def rc0 : Rc := ⟨z32, 1, 0, 0⟩
def rc1 : Rc := ⟨z32, 1, 1, 13⟩
def idOne : List UInt8 := 1 :: List.replicate 31 0
def rt45 : List UInt8 := rootF 2 [putC rc0, putC rc1]
theorem may450 : mayR rc0.h rc0.p rc0.c = true := by rw [mayR_eq]; decide
theorem may45 : mayR rc1.h rc1.p rc1.c = true := by rw [mayR_eq]; decide
theorem okR01 : okR [rc0, rc1] := by
  intro i hi
  match i, hi with
  | 0, _ => exact ⟨rfl, may450, rfl⟩
  | 1, _ => exact ⟨rfl, may45, rfl⟩
theorem pr45_is : proveF 2 [putC rc0, putC rc1] 1 = [leafB (putC rc0)] := by decide +kernel
theorem chk45 : chkR rt45 2 rc1 [leafB (putC rc0)] = true := by decide +kernel
theorem chk45n : chkR rt45 2 rc0 [leafB (putC rc0)] = false := by decide +kernel
theorem weak45 : Weaks [.st [.ar 32 .lf (List.replicate 32 (AV.sc (.int .u8 (0)))), (AV.sc (.int .i64 (1))), (AV.sc (.int .i64 (0))), (AV.sc (.int .i64 (0)))], .st [.ar 32 .lf (List.replicate 32 (AV.sc (.int .u8 (0)))), (AV.sc (.int .i64 (1))), (AV.sc (.int .i64 (1))), (AV.sc (.int .i64 (13)))]] (rcsA [rc0, rc1]) := Weaks.refl _
theorem c_awake45 : FnOK Tryd.prog D 58 [] [] (fun r st => r = (AV.sc (.bool (true))) ∧ st = []) := by
  have ct := c_ptexts [rc0, rc1] (by decide) okR01
  rw [show [rc0, rc1].map putC = [putC rc0, putC rc1] from rfl] at ct
  have ht : ∀ t ∈ [putC rc0, putC rc1], t.length < 10000000 := by
    intro t h
    simp only [List.mem_cons, List.not_mem_nil, or_false] at h
    rcases h with rfl | rfl
    · have := putC_len (x := rc0) (by decide) may450
      omega
    · have := putC_len (x := rc1) (by decide) may45
      omega
  have cR := (c_proot [rc0, rc1] _ rt45 ct (c_root 2 [putC rc0, putC rc1] (by decide) (by decide) ht)).weak (.cons (.sl (.inl rfl) weak45) .nil)
  have cp := c_prove 2 [putC rc0, putC rc1] 1 (by decide) (by decide) (by decide) (by decide) ht
  rw [pr45_is] at cp
  have cP := (c_pprove [rc0, rc1] 1 _ [leafB (putC rc0)] ct (c_Prove [putC rc0, putC rc1] 1 (by decide) [leafB (putC rc0)] cp)).weak (.cons (.sl (.inl rfl) weak45) (.cons (Weak.refl _) .nil))
  have hl : ∀ p ∈ [leafB (putC rc0)], p.length = 32 := by
    intro p h
    simp only [List.mem_cons, List.not_mem_nil, or_false] at h
    rw [h]
    exact shaB_len _
  have cy := c_pcheck rt45 2 rc1 [leafB (putC rc0)] (rootF_len _ _) (by decide) (by decide) hl
  rw [chk45, may45] at cy
  have cn := c_pcheck rt45 2 rc0 [leafB (putC rc0)] (rootF_len _ _) (by decide) (by decide) hl
  rw [chk45n, Bool.and_false] at cn
  have cf := (c_pfind_aux [rc0, rc1] idOne (c_indexR [rc0, rc1] idOne (by decide) (by decide) (by decide) (by decide))).weak (.cons (.sl (.inl rfl) weak45) (.cons (Weak.refl _) .nil))
  exact c_awake45_aux (leafB (putC rc0)) rt45 (rootF_len _ _) cR cP cy cn cf
end Go.WL.T4
