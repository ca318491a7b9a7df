/- Proofs, by the program. No condition. -/
import Derived.Test.YtkcflejbhfaihaaDoorPart18
set_option linter.unusedVariables false
set_option linter.unusedSimpArgs false
namespace Go.WL.T4
open Go.WL Go.Proofs
set_option maxRecDepth 20000
set_option maxHeartbeats 8000000
/-- Hashes, as cells of a row. -/
def byH (l : List (List UInt8)) : List AV := l.map fun h => .ar 32 .lf (by8 h)
theorem lenH (l : List (List UInt8)) : (byH l).length = l.length := by simp [byH]
theorem snocH (l : List (List UInt8)) (h : List UInt8) : byH l ++ [.ar 32 .lf (by8 h)] = byH (l ++ [h]) := by simp [byH]
/-- The proof of a place. -/
def proveF : Nat → List (List UInt8) → Nat → List (List UInt8)
  | 0, _, _ => []
  | n + 1, l, a => if l.length = 1 then [] else if a < hf l.length then proveF n (l.take (hf l.length)) a ++ [rootF n (l.drop (hf l.length))] else proveF n (l.drop (hf l.length)) (a - hf l.length) ++ [rootF n (l.take (hf l.length))]
theorem c_prove_aux (l : List (List UInt8)) (a : Nat) (h1 : 1 ≤ l.length) (hal : a < l.length) (hl : l.length ≤ 100000) (R X : List (List UInt8)) (Y : List UInt8) (hX : X.length ≤ l.length)
    (hR : l.length = 1 → R = []) (hR2 : l.length ≠ 1 → R = X ++ [Y])
    (ca : l.length ≠ 1 → a < hf l.length → FnOK Tryd.prog D 73 [.sl .lf (byL (l.take (hf l.length))) .ro, (AV.sc (.int .i64 ((a : Int))))] [] (fun r st => r = .sl (.ar 32 .lf) (byH X) (.own 0) ∧ st = []))
    (cra : l.length ≠ 1 → a < hf l.length → FnOK Tryd.prog D 50 [.sl .lf (byL (l.drop (hf l.length))) .ro] [] (fun r st => r = .ar 32 .lf (by8 Y) ∧ st = []))
    (cb : l.length ≠ 1 → ¬ a < hf l.length → FnOK Tryd.prog D 73 [.sl .lf (byL (l.drop (hf l.length))) .ro, (AV.sc (.int .i64 (((a - hf l.length : Nat) : Int))))] [] (fun r st => r = .sl (.ar 32 .lf) (byH X) (.own 0) ∧ st = []))
    (crb : l.length ≠ 1 → ¬ a < hf l.length → FnOK Tryd.prog D 50 [.sl .lf (byL (l.take (hf l.length))) .ro] [] (fun r st => r = .ar 32 .lf (by8 Y) ∧ st = [])) :
    FnOK Tryd.prog D 73 [.sl .lf (byL l) .ro, (AV.sc (.int .i64 ((a : Int))))] [] (fun r st => r = .sl (.ar 32 .lf) (byH R) (.own 0) ∧ st = []) := by
  refine fnok_of_W hmix tabOK Tryd.func73 rfl rfl (Nat.le_of_ble_eq_true rfl) ?_
  conv => whnf
  rw [lenL]
  refine Branch.of (fun e1 => ?_) (fun e1 => ?_) <;> rw [e1] <;> conv => whnf
  · simp only [beq_iff_eq] at e1
    rw [hR (by omega)]
    refine ⟨true, [], ?_⟩
    conv => whnf
    exact ⟨rfl, rfl⟩
  simp only [beq_eq_false_iff_ne, ne_eq] at e1
  have e : l.length ≠ 1 := by omega
  have hh := hf_lt l.length (by omega)
  have hp := hf_pos l.length
  rw [lenL]
  refine (c_half l.length (by omega) (by omega)).mono fun r st e => ?_
  obtain ⟨rfl, rfl⟩ := e
  conv => whnf
  refine Branch.of (fun e2 => ?_) (fun e2 => ?_) <;> rw [e2] <;> conv => whnf
  · simp only [decide_eq_true_eq] at e2
    have e2 : a < hf l.length := by omega
    refine ⟨tabF73R5, by decide +kernel, ?_⟩
    conv => whnf
    repeat (refine And.intro (by first | omega) ?_; conv => whnf)
    refine And.intro (by rw [lenL]; omega) ?_
    conv => whnf
    rw [takeL]
    refine ⟨_, _, ca e e2, ?_⟩
    conv => whnf
    refine ⟨by omega, ?_⟩
    conv => whnf
    refine And.intro (by rw [lenL]; omega) ?_
    conv => whnf
    refine And.intro (Nat.le_refl _) ?_
    conv => whnf
    rw [dropL]
    refine ⟨_, _, cra e e2, ?_⟩
    conv => whnf
    refine And.intro (by rw [lenH]; show _ + 1 < _; omega) ?_
    conv => whnf
    rw [snocH, ← hR2 e]
    refine ⟨false, [], ?_⟩
    conv => whnf
    exact ⟨rfl, rfl⟩
  · simp only [decide_eq_false_iff_not] at e2
    have e2 : ¬ a < hf l.length := by omega
    refine ⟨tabF73R6, by decide +kernel, ?_⟩
    conv => whnf
    refine ⟨by omega, ?_⟩
    conv => whnf
    refine And.intro (by rw [lenL]; omega) ?_
    conv => whnf
    refine And.intro (Nat.le_refl _) ?_
    conv => whnf
    rw [dropL, w64 (x := (a : Int) - (hf l.length : Int)) (by omega) (by omega), show (a : Int) - (hf l.length : Int) = ((a - hf l.length : Nat) : Int) by omega]
    refine ⟨_, _, cb e e2, ?_⟩
    conv => whnf
    repeat (refine And.intro (by first | omega) ?_; conv => whnf)
    refine And.intro (by rw [lenL]; omega) ?_
    conv => whnf
    rw [takeL]
    refine ⟨_, _, crb e e2, ?_⟩
    conv => whnf
    refine And.intro (by rw [lenH]; show _ + 1 < _; omega) ?_
    conv => whnf
    rw [snocH, ← hR2 e]
    refine ⟨false, [], ?_⟩
    conv => whnf
    exact ⟨rfl, rfl⟩
end Go.WL.T4
