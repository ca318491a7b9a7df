/- Roots. No condition. -/
import Derived.Test.YtkcflejbhfaihaaDoorPart14
set_option linter.unusedVariables false
set_option linter.unusedSimpArgs false
namespace Go.WL.T4
open Go.WL Go.Proofs
set_option maxRecDepth 20000
set_option maxHeartbeats 8000000
/-- Texts, as cells of a row. -/
def byL (l : List (List UInt8)) : List AV := l.map fun b => (AV.sl .lf (by8 (b)) .ro)
theorem lenL (l : List (List UInt8)) : (byL l).length = l.length := by simp [byL]
theorem takeL (l : List (List UInt8)) (k : Nat) : List.take ((k : Int).toNat - 0) (List.drop 0 (byL l)) = byL (l.take k) := by simp [byL]
theorem dropL (l : List (List UInt8)) (k : Nat) : List.take ((byL l).length - (k : Int).toNat) (List.drop (k : Int).toNat (byL l)) = byL (l.drop k) := by
  rw [lenL, Int.toNat_natCast, byL, ← List.map_drop, ← List.map_take, List.take_of_length_le (by rw [List.length_drop]; omega)]
  rfl
/-- The root of texts. -/
def rootF : Nat → List (List UInt8) → List UInt8
  | 0, _ => z32
  | n + 1, l => if l.length = 0 then z32 else if l.length = 1 then leafB (l.headD []) else knotB (rootF n (l.take (hf l.length))) (rootF n (l.drop (hf l.length)))
theorem rootF_len (n : Nat) (l : List (List UInt8)) : (rootF n l).length = 32 := by
  cases n with
  | zero => rfl
  | succ n =>
    unfold rootF
    split
    · rfl
    · split
      · exact shaB_len _
      · exact shaB_len _
theorem c_root_aux (l : List (List UInt8)) (R A B : List UInt8) (hl : l.length ≤ 100000) (h0 : l.length = 0 → by8 R = List.replicate 32 (AV.sc (.int .u8 (0))))
    (h1 : ∀ t, l = [t] → FnOK Tryd.prog D 74 [(AV.sl .lf (by8 (t)) .ro)] [] (fun r st => r = .ar 32 .lf (by8 R) ∧ st = []))
    (ca : 2 ≤ l.length → FnOK Tryd.prog D 50 [.sl .lf (byL (l.take (hf l.length))) .ro] [] (fun r st => r = .ar 32 .lf (by8 A) ∧ st = []))
    (cb : 2 ≤ l.length → FnOK Tryd.prog D 50 [.sl .lf (byL (l.drop (hf l.length))) .ro] [] (fun r st => r = .ar 32 .lf (by8 B) ∧ st = []))
    (ck : 2 ≤ l.length → FnOK Tryd.prog D 76 [.ar 32 .lf (by8 A), .ar 32 .lf (by8 B)] [] (fun r st => r = .ar 32 .lf (by8 R) ∧ st = [])) :
    FnOK Tryd.prog D 50 [.sl .lf (byL l) .ro] [] (fun r st => r = .ar 32 .lf (by8 R) ∧ st = []) := by
  refine fnok_of_W hmix tabOK Tryd.func50 rfl rfl (Nat.le_of_ble_eq_true rfl) ?_
  conv => whnf
  rw [lenL]
  refine Branch.of (fun e0 => ?_) (fun e0 => ?_) <;> rw [e0] <;> conv => whnf
  · refine ⟨false, [], ?_⟩
    conv => whnf
    simp only [beq_iff_eq] at e0
    rw [h0 (by omega)]
    exact ⟨rfl, rfl⟩
  refine Branch.of (fun e1 => ?_) (fun e1 => ?_) <;> rw [e1] <;> conv => whnf
  · simp only [beq_iff_eq] at e1
    obtain ⟨t, rfl⟩ : ∃ t, l = [t] := List.length_eq_one_iff.1 (by omega)
    repeat (refine And.intro (by first | omega) ?_; conv => whnf)
    refine ⟨_, (show (byL [t])[Int.toNat 0]? = some (AV.sl .lf (by8 (t)) .ro) from rfl), ?_⟩
    conv => whnf
    refine (h1 t rfl).mono fun r st e => ?_
    obtain ⟨rfl, rfl⟩ := e
    conv => whnf
    refine ⟨false, [], ?_⟩
    conv => whnf
    exact ⟨rfl, rfl⟩
  simp only [beq_eq_false_iff_ne, ne_eq] at e0 e1
  have h2 : 2 ≤ l.length := by omega
  have hh := hf_lt l.length h2
  rw [lenL]
  refine (c_half l.length h2 (by omega)).mono fun r st e => ?_
  obtain ⟨rfl, rfl⟩ := e
  conv => whnf
  refine ⟨tabF50R7, by decide +kernel, ?_⟩
  conv => whnf
  repeat (refine And.intro (by first | omega) ?_; conv => whnf)
  refine And.intro (by rw [lenL]; omega) ?_
  conv => whnf
  rw [takeL]
  refine ⟨_, _, ca h2, ?_⟩
  conv => whnf
  refine ⟨by omega, ?_⟩
  conv => whnf
  refine And.intro (by rw [lenL]; omega) ?_
  conv => whnf
  refine And.intro (Nat.le_refl _) ?_
  conv => whnf
  rw [dropL]
  refine ⟨_, _, cb h2, ?_⟩
  conv => whnf
  refine ⟨_, _, ck h2, ?_⟩
  conv => whnf
  refine ⟨false, [], ?_⟩
  conv => whnf
  exact ⟨rfl, rfl⟩
end Go.WL.T4
