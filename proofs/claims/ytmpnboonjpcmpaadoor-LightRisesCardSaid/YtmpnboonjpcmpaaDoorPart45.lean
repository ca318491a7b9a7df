/- LightSteps. No condition. -/
import Derived.Test.YtmpnboonjpcmpaaDoorPart43
set_option linter.unusedVariables false
set_option linter.unusedSimpArgs false
namespace Go.WL.T7b
open Go.WL Go.Proofs
set_option maxRecDepth 20000
set_option maxHeartbeats 8000000
def at0 : At := ⟨0, 0, 0, 0, z32, 0, z32, z32⟩
def cA44 : Cl := ⟨3, z32, 0, 0⟩
def bA44 : Bl := ⟨z32, 2, 1, 1, []⟩
theorem fits44 : fitsC cA44 bA44 = true := by decide +kernel
theorem step44 : (stepL cA44 [] at0 []).2 = 1 := by decide +kernel
theorem c_awake44_aux (H : List UInt8) (S : Cl)
    (cn : FnOK Tryd.prog D 51 [(AV.sc (.int .i64 (3)))] [] (fun r st => r = .tup [(AV.st [.sc (.int .i64 (cA44).n), .ar 32 .lf (by8 (cA44).g), .sc (.int .i64 (cA44).v), .sc (.int .i64 (cA44).h)]), (AV.sc (.int .i64 (0)))] ∧ st = []))
    (cs : FnOK Tryd.prog D 49 [(AV.st [.sc (.int .i64 (cA44).n), .ar 32 .lf (by8 (cA44).g), .sc (.int .i64 (cA44).v), .sc (.int .i64 (cA44).h)]), .sl (.nd [.ar 32 .lf, .lf, .lf, .lf, .lf]) [] .ex, .st [(AV.st [.sc (.int .i64 (at0).by_), .sc (.int .i64 (at0).k), .sc (.int .i64 (at0).v), .sc (.int .i64 (at0).ph), .ar 32 .lf (by8 (at0).h), .sc (.int .i64 (at0).pv), .ar 32 .lf (by8 (at0).pg), .ar 32 .lf (by8 (at0).tag)]), .sl (.nd [.lf, .ar 32 .lf]) [] .ex]] [] (fun r st => r = .tup [(AV.st [.sc (.int .i64 (S).n), .ar 32 .lf (by8 (S).g), .sc (.int .i64 (S).v), .sc (.int .i64 (S).h)]), (AV.sc (.int .i64 (1)))] ∧ st = []))
    (cf : FnOK Tryd.prog D 47 [(AV.st [.sc (.int .i64 (cA44).n), .ar 32 .lf (by8 (cA44).g), .sc (.int .i64 (cA44).v), .sc (.int .i64 (cA44).h)]), .st [.ar 32 .lf (by8 z32), (AV.sc (.int .i64 (2))), (AV.sc (.int .i64 (1))), (AV.sc (.int .i64 (1))), .sl (.nd [.lf, .lf, .lf, .lf, .lf, .lf, .lf]) [] .ex]] [] (fun r st => r = (AV.sc (.bool (true))) ∧ st = []))
    (cb : FnOK Tryd.prog D 45 [(AV.st [.sc (.int .i64 (cA44).n), .ar 32 .lf (by8 (cA44).g), .sc (.int .i64 (cA44).v), .sc (.int .i64 (cA44).h)]), .st [.ar 32 .lf (by8 z32), (AV.sc (.int .i64 (2))), (AV.sc (.int .i64 (1))), (AV.sc (.int .i64 (1))), .sl (.nd [.lf, .lf, .lf, .lf, .lf, .lf, .lf]) [] .ex]] [] (fun r st => r = .st [(AV.sc (.int .i64 (3))), .ar 32 .lf (by8 H), (AV.sc (.int .i64 (2))), (AV.sc (.int .i64 (1)))] ∧ st = [])) :
    FnOK Tryd.prog D 44 [] [] (fun r st => r = (AV.sc (.bool (true))) ∧ st = []) := by
  refine fnok_of_W hmix tabOK Tryd.func44 rfl rfl (Nat.le_of_ble_eq_true rfl) ?_
  conv => whnf
  refine (cn).mono fun r st e => ?_
  obtain ⟨rfl, rfl⟩ := e
  conv => whnf
  refine (cs).mono fun r st e => ?_
  obtain ⟨rfl, rfl⟩ := e
  conv => whnf
  refine (cf).mono fun r st e => ?_
  obtain ⟨rfl, rfl⟩ := e
  conv => whnf
  refine (cb).mono fun r st e => ?_
  obtain ⟨rfl, rfl⟩ := e
  conv => whnf
  refine ⟨false, [], ?_⟩
  conv => whnf
  exact ⟨rfl, rfl⟩
theorem quo3 : quo 3 = 2 := by decide +kernel
theorem wk44 : Weak (.st [.ar 32 .lf (by8 z32), (AV.sc (.int .i64 (2))), (AV.sc (.int .i64 (1))), (AV.sc (.int .i64 (1))), .sl (.nd [.lf, .lf, .lf, .lf, .lf, .lf, .lf]) [] .ex]) (AV.st [.ar 32 .lf (by8 (bA44).p), .sc (.int .i64 (bA44).v), .sc (.int .i64 (bA44).h), .sc (.int .i64 (bA44).by_), .sl (.nd [.lf, .lf, .lf, .lf, .lf, .lf, .lf]) (txsA (bA44).txs) .ro]) :=
  .st rfl (.cons (Weak.refl _) (.cons (Weak.refl _) (.cons (Weak.refl _) (.cons (Weak.refl _) (.cons (.sl (.inl rfl) .nil) .nil)))))
theorem wkC0 : Weak (.st [(AV.st [.sc (.int .i64 (at0).by_), .sc (.int .i64 (at0).k), .sc (.int .i64 (at0).v), .sc (.int .i64 (at0).ph), .ar 32 .lf (by8 (at0).h), .sc (.int .i64 (at0).pv), .ar 32 .lf (by8 (at0).pg), .ar 32 .lf (by8 (at0).tag)]), .sl (.nd [.lf, .ar 32 .lf]) [] .ex]) (.st [(AV.st [.sc (.int .i64 (at0).by_), .sc (.int .i64 (at0).k), .sc (.int .i64 (at0).v), .sc (.int .i64 (at0).ph), .ar 32 .lf (by8 (at0).h), .sc (.int .i64 (at0).pv), .ar 32 .lf (by8 (at0).pg), .ar 32 .lf (by8 (at0).tag)]), (AV.sl (.nd [.lf, .ar 32 .lf]) (sigsA ([])) .ro)]) := .st rfl (.cons (Weak.refl _) (.cons (.sl (.inl rfl) .nil) .nil))
theorem c_awake44 : FnOK Tryd.prog D 44 [] [] (fun r st => r = (AV.sc (.bool (true))) ∧ st = []) := by
  have okb : okB bA44 := ⟨by decide, fun t ht => by simp [bA44] at ht, rfl⟩
  refine c_awake44_aux (blH bA44) (stepL cA44 [] at0 []).1 ?_ ?_ ?_ ?_
  · have := c_lnew 3
    rw [quo3] at this
    exact this
  · have := (c_lstep cA44 [] at0 [] (by decide) (fun b hb => by simp at hb) (by decide) ⟨rfl, rfl, rfl⟩ (fun s hs => by simp at hs)).weak (args := [(AV.st [.sc (.int .i64 (cA44).n), .ar 32 .lf (by8 (cA44).g), .sc (.int .i64 (cA44).v), .sc (.int .i64 (cA44).h)]), .sl (.nd [.ar 32 .lf, .lf, .lf, .lf, .lf]) [] .ex, .st [(AV.st [.sc (.int .i64 (at0).by_), .sc (.int .i64 (at0).k), .sc (.int .i64 (at0).v), .sc (.int .i64 (at0).ph), .ar 32 .lf (by8 (at0).h), .sc (.int .i64 (at0).pv), .ar 32 .lf (by8 (at0).pg), .ar 32 .lf (by8 (at0).tag)]), .sl (.nd [.lf, .ar 32 .lf]) [] .ex]])
      (.cons (Weak.refl _) (.cons (.sl (.inl rfl) .nil) (.cons wkC0 .nil)))
    rw [step44] at this
    exact this
  · have := (c_fits cA44 bA44 okb.1 okb.2.1).weak (args := [(AV.st [.sc (.int .i64 (cA44).n), .ar 32 .lf (by8 (cA44).g), .sc (.int .i64 (cA44).v), .sc (.int .i64 (cA44).h)]), .st [.ar 32 .lf (by8 z32), (AV.sc (.int .i64 (2))), (AV.sc (.int .i64 (1))), (AV.sc (.int .i64 (1))), .sl (.nd [.lf, .lf, .lf, .lf, .lf, .lf, .lf]) [] .ex]]) (.cons (Weak.refl _) (.cons wk44 .nil))
    rw [fits44] at this
    exact this
  · have := (c_behind cA44 bA44 okb.1 okb.2.1 okb.2.2).weak (args := [(AV.st [.sc (.int .i64 (cA44).n), .ar 32 .lf (by8 (cA44).g), .sc (.int .i64 (cA44).v), .sc (.int .i64 (cA44).h)]), .st [.ar 32 .lf (by8 z32), (AV.sc (.int .i64 (2))), (AV.sc (.int .i64 (1))), (AV.sc (.int .i64 (1))), .sl (.nd [.lf, .lf, .lf, .lf, .lf, .lf, .lf]) [] .ex]]) (.cons (Weak.refl _) (.cons wk44 .nil))
    unfold behC at this
    rw [if_pos fits44] at this
    exact this
end Go.WL.T7b
