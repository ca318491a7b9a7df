/- The laws of sums: ShaOf. No condition. -/
import Derived.Test.YtkcflejbhfaihaaDoorPart16
import Derived.Test.YtkcflejbhfaihaaDoorPart19
set_option linter.unusedVariables false
set_option linter.unusedSimpArgs false
namespace Go.WL.T4
open Go.WL Go.Proofs
set_option maxRecDepth 20000
set_option maxHeartbeats 8000000
theorem sl_take (b : List UInt8) (i : Nat) : List.take (((i : Nat) : Int).toNat - 0) (List.drop 0 (by8 b)) = by8 (b.take i) := by simp [by8]
theorem sl_mid (b : List UInt8) (i k : Nat) : List.take (((k : Nat) : Int).toNat - ((i : Nat) : Int).toNat) (List.drop ((i : Nat) : Int).toNat (by8 b)) = by8 ((b.drop i).take (k - i)) := by simp [by8]
theorem sl_drop (b : List UInt8) (k : Nat) : List.take ((by8 b).length - ((k : Nat) : Int).toNat) (List.drop ((k : Nat) : Int).toNat (by8 b)) = by8 (b.drop k) := by
  rw [len8, Int.toNat_natCast, by8, ← List.map_drop, List.take_of_length_le (by rw [List.length_map, List.length_drop]; omega)]
  rfl
theorem three_parts (b : List UInt8) (i k : Nat) (h : i ≤ k) : [b.take i, (b.drop i).take (k - i), b.drop k].flatten = b := by
  have e : b.drop k = (b.drop i).drop (k - i) := by rw [List.drop_drop]; congr 1; omega
  rw [List.flatten_cons, List.flatten_cons, List.flatten_cons, List.flatten_nil, List.append_nil, e, List.take_append_drop, List.take_append_drop]
theorem c_shaOf_aux (b R : List UInt8) (x y : Nat) (hx : x < 65536) (hy : y < 65536) (hR : R.length = 32)
    (ca : FnOK Tryd.prog D 15 [] [] (fun r st => r = (AV.sc (.bool (true))) ∧ st = []))
    (cs : b.length ≤ 1000 → ∀ ps : List (List UInt8), ps.length < 10 → ps.flatten = b → FnOK Tryd.prog D 16 [.sl .lf (ps.map fun b => (AV.sl .lf (by8 (b)) .ro)) .ex] [] (fun r st => r = .ar 32 .lf (by8 R) ∧ st = []))
    (cr : b.length ≤ 1000 → FnOK Tryd.prog D 17 [(AV.sl .lf (by8 (b)) .ro)] [] (fun r st => r = .ar 32 .lf (by8 R) ∧ st = [])) :
    FnOK Tryd.prog D 3 [(AV.sl .lf (by8 (b)) .ro), (AV.sc (.int .u16 ((x : Int)))), (AV.sc (.int .u16 ((y : Int))))] [] (fun r _ => r = (AV.sc (.bool (true)))) := by
  have hlen := len8 b
  refine fnok_of_W hmix tabOK Tryd.func3 rfl rfl (Nat.le_of_ble_eq_true rfl) ?_
  conv => whnf
  rw [hlen]
  refine Branch.of (fun h1 => ?_) (fun h1 => ?_) <;> rw [h1] <;> conv => whnf
  · refine (ca).mono fun r st e => ?_
    obtain ⟨rfl, rfl⟩ := e
    conv => whnf
    refine ⟨false, [], ?_⟩
    conv => whnf
  simp only [gt_iff_lt, decide_eq_false_iff_not] at h1
  have hb : b.length ≤ 1000 := by omega
  rw [hlen, w64 (x := (b.length : Int) + 1) (by omega) (by omega), w64 (x := (x : Int)) (by omega) (by omega)]
  repeat (refine And.intro (by first | omega) ?_; conv => whnf)
  have hi : x % (b.length + 1) < b.length + 1 := Nat.mod_lt _ (by omega)
  rw [show Int.tmod (x : Int) ((b.length : Int) + 1) = ((x % (b.length + 1) : Nat) : Int) from rfl]
  generalize x % (b.length + 1) = i at hi
  rw [hlen, w64 (x := (b.length : Int) + 1) (by omega) (by omega), w64 (x := (y : Int)) (by omega) (by omega), w64 (x := (b.length : Int) + 1 - (i : Int)) (by omega) (by omega)]
  repeat (refine And.intro (by first | omega) ?_; conv => whnf)
  have hk : y % (b.length + 1 - i) < b.length + 1 - i := Nat.mod_lt _ (by omega)
  rw [show (b.length : Int) + 1 - (i : Int) = ((b.length + 1 - i : Nat) : Int) by omega, show Int.tmod (y : Int) ((b.length + 1 - i : Nat) : Int) = ((y % (b.length + 1 - i) : Nat) : Int) from rfl]
  generalize y % (b.length + 1 - i) = k at hk
  rw [w64 (x := (i : Int) + (k : Int)) (by omega) (by omega), show (i : Int) + (k : Int) = ((i + k : Nat) : Int) by omega]
  refine ⟨tabF3R5, by decide +kernel, ?_⟩
  conv => whnf
  refine ⟨_, _, (cs hb [b] (by simp) (by simp)), ?_⟩
  conv => whnf
  refine ⟨_, _, (cr hb), ?_⟩
  conv => whnf
  refine ⟨R, R, rfl, rfl, ?_⟩
  conv => whnf
  rw [beq_self_eq_true]
  conv => whnf
  repeat (refine And.intro (by first | omega) ?_; conv => whnf)
  rw [sl_take]
  repeat (refine And.intro (by first | omega) ?_; conv => whnf)
  rw [sl_mid]
  repeat (refine And.intro (by first | omega) ?_; conv => whnf)
  rw [sl_drop]
  refine ⟨_, _, (cs hb [b.take i, (b.drop i).take (i + k - i), b.drop (i + k)] (by simp) (three_parts b i (i + k) (by omega))), ?_⟩
  conv => whnf
  refine ⟨_, _, (cr hb), ?_⟩
  conv => whnf
  refine ⟨R, R, rfl, rfl, ?_⟩
  conv => whnf
  rw [beq_self_eq_true]
  conv => whnf
  refine ⟨_, _, ca, ?_⟩
  conv => whnf
  refine ⟨false, [], ?_⟩
  conv => whnf
theorem c_shaOf (b : List UInt8) (x y : Nat) (hx : x < 65536) (hy : y < 65536) : FnOK Tryd.prog D 3 [(AV.sl .lf (by8 (b)) .ro), (AV.sc (.int .u16 ((x : Int)))), (AV.sc (.int .u16 ((y : Int))))] [] (fun r _ => r = (AV.sc (.bool (true)))) := by
  refine c_shaOf_aux b (shaB b) x y hx hy (shaB_len _) c_awake2 (fun hb ps hp he => ?_) (fun hb => c_refsha b (by omega))
  have := c_sha ps (by omega) (by rw [he]; omega) (m := .ex) (.inl rfl) (Weaks.refl _)
  rw [he] at this
  exact this
end Go.WL.T4
