/- Texts filled; the first state: the program's. No condition. -/
import Derived.Test.YtcmdkiejkheahaaDoorPart19
import Derived.Test.YtcmdkiejkheahaaDoorPart03
set_option linter.unusedVariables false
set_option linter.unusedSimpArgs false
namespace Go.WL.T6d
open Go.WL Go.Proofs
set_option maxRecDepth 20000
set_option maxHeartbeats 8000000
theorem w8m (n : Nat) : IntKind.u8.wrap ((n : Nat) : Int) = ((UInt8.ofNat n).toNat : Int) := by
  simp only [IntKind.wrap, IntKind.signed, IntKind.bits]
  simp
def be8 (m : Nat) : List UInt8 := (List.range 8).map fun j => UInt8.ofNat (m / 2 ^ (8 * (7 - j)))
def head (n : Nat) : List UInt8 := 128 :: List.replicate ((119 - n % 64) % 64) 0
def endB (n : Nat) : List UInt8 := head n ++ be8 (n * 8)
def fill (b : List UInt8) : List UInt8 := b ++ endB b.length
theorem be8_len (m : Nat) : (be8 m).length = 8 := by simp [be8]
theorem endB_len (n : Nat) : (endB n).length ≤ 72 := by
  have : (119 - n % 64) % 64 < 64 := Nat.mod_lt _ (by decide)
  simp [endB, head, be8_len]
  omega
theorem fill_len (b : List UInt8) : (fill b).length % 64 = 0 := by
  simp [fill, endB, head, be8_len]
  omega
theorem c_ending (n : Nat) (hn : n < 4294967296) : FnOK Tryd.prog D 124 [(AV.sc (.int .i64 ((n : Int))))] [] (fun r st => r = (AV.sl .lf (by8 (endB n)) (.own 0)) ∧ st = []) := by
  refine fnok_of_W hmix tabOK Tryd.func124 rfl rfl (Nat.le_of_ble_eq_true rfl) ?_
  conv => whnf
  repeat (refine And.intro (by first | omega) ?_; conv => whnf)
  have e1 : Int.tmod (n : Int) 64 = ((n % 64 : Nat) : Int) := rfl
  rw [e1, w64 (x := 119 - ((n % 64 : Nat) : Int)) (by omega) (by omega), show 119 - ((n % 64 : Nat) : Int) = ((119 - n % 64 : Nat) : Int) by omega, show Int.tmod ((119 - n % 64 : Nat) : Int) 64 = (((119 - n % 64) % 64 : Nat) : Int) from rfl]
  have hk : (119 - n % 64) % 64 < 64 := Nat.mod_lt _ (by decide)
  have hh : head n = 128 :: List.replicate ((119 - n % 64) % 64) 0 := rfl
  generalize (119 - n % 64) % 64 = k at hk hh
  repeat (refine And.intro (by first | omega) ?_; conv => whnf)
  refine And.intro (by simp; omega) ?_
  conv => whnf
  have hhl : (head n).length = k + 1 := by rw [hh]; simp
  have hE : endB n = head n ++ be8 (n * 8) := rfl
  generalize head n = H at hh hhl hE
  refine ⟨true, [0, 3, 4], fun τ => ∃ j : Nat, j ≤ 8 ∧ τ = ⟨26, [(0, (AV.sc (.int .i64 ((n : Int))))), (3, (AV.sl .lf (by8 (H ++ (be8 (n * 8)).take j)) (.own 0))), (4, (AV.sc (.int .i64 (7 - (j : Int)))))], ⟨[], [0], 1⟩⟩, fun τ => (slotI τ 4 + 1).toNat, ?_, ?_⟩
  · conv => whnf
    refine ⟨0, by omega, ?_⟩
    rw [hh]
    simp [by8]
  rintro τ ⟨j, hj, rfl⟩
  conv => whnf
  refine Branch.of (fun h1 => ?_) (fun h1 => ?_) <;> rw [h1] <;> conv => whnf
  · simp only [ge_iff_le, decide_eq_true_eq] at h1
    have hj8 : j < 8 := by omega
    have hjl : j < (be8 (n * 8)).length := by rw [be8_len]; exact hj8
    rw [wu64 (x := (n : Int)) (by omega) (by omega), wu64 (x := (n : Int) * 8) (by omega) (by omega), w64 (x := 8 * (7 - (j : Int))) (by omega) (by omega), show (n : Int) * 8 = ((n * 8 : Nat) : Int) by omega, show 8 * (7 - (j : Int)) = ((8 * (7 - j) : Nat) : Int) by omega]
    repeat (refine And.intro (by first | omega) ?_; conv => whnf)
    have hv : IntKind.u8.wrap (Int.fdiv ((n * 8 : Nat) : Int) (2 ^ min ((8 * (7 - j) : Nat) : Int).toNat IntKind.u64.bits)) = (((be8 (n * 8))[j].toNat : Nat) : Int) := by
      rw [Int.toNat_natCast, show min (8 * (7 - j)) IntKind.u64.bits = 8 * (7 - j) from Nat.min_eq_left (by show 8 * (7 - j) ≤ 64; omega), show (2 : Int) ^ (8 * (7 - j)) = ((2 ^ (8 * (7 - j)) : Nat) : Int) by simp, Int.fdiv_eq_ediv_of_nonneg _ (Int.natCast_nonneg _)]
      rw [show ((n * 8 : Nat) : Int) / ((2 ^ (8 * (7 - j)) : Nat) : Int) = ((n * 8 / 2 ^ (8 * (7 - j)) : Nat) : Int) from rfl, w8m]
      simp [be8]
    rw [hv]
    refine And.intro (by simp [by8, hhl, be8_len]; omega) ?_
    conv => whnf
    rw [w64 (x := 7 - (j : Int) - 1) (by omega) (by omega)]
    refine ⟨⟨j + 1, by omega, ?_⟩, ?_⟩
    · rw [List.take_succ_eq_append_getElem hjl, show 7 - ((j + 1 : Nat) : Int) = 7 - (j : Int) - 1 by omega]
      simp only [by8, List.map_append, List.append_assoc]
      rfl
    · show (7 - (j : Int) - 1 + 1).toNat < (7 - (j : Int) + 1).toNat
      omega
  · simp only [ge_iff_le, decide_eq_false_iff_not] at h1
    have e : j = 8 := by omega
    subst e
    refine ⟨false, [], ?_⟩
    conv => whnf
    refine ⟨?_, rfl⟩
    rw [List.take_of_length_le (by rw [be8_len]; exact Nat.le_refl _), hE]
theorem c_fill (b : List UInt8) (hb : b.length < 1000000000) : FnOK Tryd.prog D 109 [(AV.sl .lf (by8 (b)) .ro)] [] (fun r st => r = (AV.sl .lf (by8 (fill b)) .ro) ∧ st = []) := by
  have hl := endB_len b.length
  refine fnok_of_W hmix tabOK Tryd.func109 rfl rfl (Nat.le_of_ble_eq_true rfl) ?_
  conv => whnf
  rw [len8, w64 (x := (b.length : Int) + 128) (by omega) (by omega)]
  repeat (refine And.intro (by first | omega) ?_; conv => whnf)
  refine And.intro (by simp [by8]; omega) ?_
  conv => whnf
  rw [len8]
  refine (c_ending b.length (by omega)).mono fun r st e => ?_
  obtain ⟨rfl, rfl⟩ := e
  conv => whnf
  refine And.intro (by simp [by8]; omega) ?_
  conv => whnf
  refine ⟨false, [999], ?_⟩
  conv => whnf
  refine ⟨?_, rfl⟩
  simp [fill, by8]
def startS : List (BitVec 32) := [0x6a09e667#32, 0xbb67ae85#32, 0x3c6ef372#32, 0xa54ff53a#32, 0x510e527f#32, 0x9b05688c#32, 0x1f83d9ab#32, 0x5be0cd19#32]
theorem c_start : FnOK Tryd.prog D 108 [] [] (fun r st => r = .ar 8 .lf (w32 startS) ∧ st = []) := by
  refine fnok_of_W hmix tabOK Tryd.func108 rfl rfl (Nat.le_of_ble_eq_true rfl) ?_
  conv => whnf
  refine ⟨false, [], ?_⟩
  conv => whnf
  exact ⟨rfl, rfl⟩
/-- The states behind the blocks of a text that is filled. -/
def steps (F : List UInt8) : Nat → List (BitVec 32)
  | 0 => startS
  | k + 1 => turnS (steps F k) ((F.drop (64 * k)).take 64)
def bw (x : BitVec 32) : List UInt8 := [UInt8.ofNat (x.toNat / 16777216), UInt8.ofNat (x.toNat / 65536), UInt8.ofNat (x.toNat / 256), UInt8.ofNat x.toNat]
def dig (s : List (BitVec 32)) : List UInt8 := s.flatMap bw
def shaB (b : List UInt8) : List UInt8 := dig (steps (fill b) ((fill b).length / 64))
theorem rounds_none (ws : List (BitVec 32)) (v : St) (i : Nat) : (rounds ws v i).l.length = 8 := rfl
theorem steps_len (F : List UInt8) (k : Nat) : (steps F k).length = 8 := by
  induction k with
  | zero => rfl
  | succ k ih => rw [steps, turnS, List.length_zipWith, ih, rounds_none]; rfl
theorem dig_len (s : List (BitVec 32)) : (dig s).length = 4 * s.length := by
  induction s with
  | nil => rfl
  | cons x s ih =>
    simp only [dig, List.flatMap_cons, List.length_append, List.length_cons] at ih ⊢
    rw [ih]
    simp [bw]
    omega
theorem shaB_len (b : List UInt8) : (shaB b).length = 32 := by rw [shaB, dig_len, steps_len]
end Go.WL.T6d
