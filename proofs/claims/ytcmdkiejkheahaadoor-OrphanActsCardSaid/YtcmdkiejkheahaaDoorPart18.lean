/- The words of a block: the program's. No condition. -/
import Derived.Test.YtcmdkiejkheahaaDoorPart17
set_option linter.unusedVariables false
set_option linter.unusedSimpArgs false
namespace Go.WL.T6d
open Go.WL Go.Proofs
set_option maxRecDepth 20000
set_option maxHeartbeats 8000000
/-- The word that bytes are. -/
def acc (l : List UInt8) : BitVec 32 := l.foldl (fun a c => (a <<< 8) ||| c.toBitVec.setWidth 32) 0#32
def words (b : List UInt8) : List (BitVec 32) := (List.range 16).map fun i => acc ((b.drop (4 * i)).take 4)
def sg0 (x : BitVec 32) : BitVec 32 := ror 7 x ^^^ ror 18 x ^^^ x >>> 3
def sg1 (x : BitVec 32) : BitVec 32 := ror 17 x ^^^ ror 19 x ^^^ x >>> 10
/-- One word more. -/
def more1 (w : List (BitVec 32)) : BitVec 32 := w.getD (w.length - 16) 0#32 + sg0 (w.getD (w.length - 15) 0#32) + w.getD (w.length - 7) 0#32 + sg1 (w.getD (w.length - 2) 0#32)
def schd (b : List UInt8) : Nat → List (BitVec 32)
  | 0 => words b
  | k + 1 => schd b k ++ [more1 (schd b k)]
theorem words_len (b : List UInt8) : (words b).length = 16 := by simp [words]
theorem schd_len (b : List UInt8) (k : Nat) : (schd b k).length = 16 + k := by
  induction k with
  | zero => exact words_len b
  | succ k ih => rw [schd, List.length_append, ih]; rfl
def zs (k : Nat) : List (BitVec 32) := List.replicate k 0#32
theorem w32_set (l : List (BitVec 32)) (i : Nat) (a : BitVec 32) : (w32 l).set i (.sc (.int .u32 (n32 a))) = w32 (l.set i a) := by simp [w32, List.map_set]
theorem w32_get {l z : List (BitVec 32)} {i : Nat} (h : i < l.length) : (w32 (l ++ z))[((i : Nat) : Int).toNat]? = some (.sc (.int .u32 (n32 (l.getD i 0#32)))) := by
  simp [w32, h, List.getElem?_append_left]
theorem w32_new {l : List (BitVec 32)} {k : Nat} (h : 0 < k) : (w32 (l ++ zs k))[((l.length : Nat) : Int).toNat]? = some (.sc (.int .u32 (n32 0#32))) := by
  simp [w32, zs, h]
theorem set_new (l : List (BitVec 32)) (k : Nat) (h : 0 < k) (a : BitVec 32) : (l ++ zs k).set l.length a = (l ++ [a]) ++ zs (k - 1) := by
  obtain ⟨k, rfl⟩ : ∃ m, k = m + 1 := ⟨k - 1, by omega⟩
  simp [zs, List.replicate_succ]
theorem acc_snoc (l : List UInt8) (c : UInt8) : acc (l ++ [c]) = (acc l <<< 8) ||| c.toBitVec.setWidth 32 := by simp [acc]
theorem words_at (b : List UInt8) (i : Nat) (h : i < 16) : (words b).take (i + 1) = (words b).take i ++ [acc ((b.drop (4 * i)).take 4)] := by
  rw [List.take_succ_eq_append_getElem (by rw [words_len]; exact h)]
  simp [words]
theorem sh8 (a : BitVec 32) : IntKind.u32.wrap (n32 a * 2 ^ min (Int.toNat 8) IntKind.u32.bits) = n32 (a <<< 8) := shl32 a 8
theorem c_schedule (b : List UInt8) (hb : b.length = 64) : FnOK Tryd.prog D 125 [.ar 64 .lf (by8 b)] [] (fun r st => r = .ar 64 .lf (w32 (schd b 48)) ∧ st = []) := by
  refine fnok_of_W hmix tabOK Tryd.func125 rfl rfl (Nat.le_of_ble_eq_true rfl) ?_
  conv => whnf
  refine ⟨false, [1, 2, 3, 12], fun τ => ∃ (i : Nat) (z : List AV), i ≤ 16 ∧ z = w32 ((words b).take i ++ zs (64 - i)) ∧ τ = ⟨81, [(1, .pt 0 []), (2, .pt 1 []), (3, .pt 2 []), (12, (AV.sc (.int .i64 ((i : Int)))))], ⟨[(.ar 64 .lf (by8 b), false), (.ar 64 .lf (List.replicate 64 (.sc (.int .u32 0))), false), (.ar 64 .lf z, false)], [], 0⟩⟩, fun τ => 16 - (slotI τ 12).toNat, ?_, ?_⟩
  · conv => whnf
    exact ⟨0, _, by omega, by simp [w32, zs]; rfl, rfl⟩
  rintro τ ⟨i, z, hi, hz, rfl⟩
  conv => whnf
  refine Branch.of (fun h1 => ?_) (fun h1 => ?_) <;> rw [h1] <;> conv => whnf
  · simp only [decide_eq_true_eq] at h1
    have hi16 : i < 16 := by omega
    rw [w64 (x := 4 * (i : Int)) (by omega) (by omega), w64 (x := 4 * (i : Int) + 4) (by omega) (by omega)]
    repeat (refine And.intro (by first | omega) ?_; conv => whnf)
    rw [show (4 * (i : Int) + 4).toNat - (4 * (i : Int)).toNat = 4 by omega, show (4 * (i : Int)).toNat = 4 * i by omega]
    refine ⟨false, [1, 2, 3, 4, 12, 20, 21, 22], fun τ => ∃ (j : Nat) (z : List AV), j ≤ 4 ∧ z = w32 (((words b).take i ++ [acc (((b.drop (4 * i)).take 4).take j)]) ++ zs (63 - i)) ∧ τ = ⟨81, [(1, .pt 0 []), (2, .pt 1 []), (3, .pt 2 []), (4, (AV.sc (.int .i64 ((i : Int))))), (12, (AV.sc (.int .i64 ((i : Int))))), (20, .bs 0 [] .lf (4 * i) 4 (64 - 4 * i)), (21, (AV.sc (.int .i64 (4)))), (22, (AV.sc (.int .i64 ((j : Int)))))], ⟨[(.ar 64 .lf (by8 b), false), (.ar 64 .lf (List.replicate 64 (.sc (.int .u32 0))), false), (.ar 64 .lf z, false)], [], 0⟩⟩, fun τ => 4 - (slotI τ 22).toNat, ?_, ?_⟩
    · conv => whnf
      refine ⟨0, z, by omega, ?_, rfl⟩
      rw [hz]
      congr 1
      rw [List.append_assoc]
      congr 1
      rw [show 64 - i = (63 - i) + 1 by omega]
      simp [zs, List.replicate_succ, acc]
    rintro τ ⟨j, z, hj, hz, rfl⟩
    have hpl : ((words b).take i).length = i := by rw [List.length_take, words_len]; omega
    have hal : ((b.drop (4 * i)).take 4).length = 4 := by rw [List.length_take, List.length_drop]; omega
    conv => whnf
    refine Branch.of (fun h2 => ?_) (fun h2 => ?_) <;> rw [h2] <;> conv => whnf
    · simp only [decide_eq_true_eq] at h2
      have hj4 : j < 4 := by omega
      have hjl : j < ((b.drop (4 * i)).take 4).length := by omega
      repeat (refine And.intro (by first | omega) ?_; conv => whnf)
      have hbx : (by8 b)[4 * i + ((j : Nat) : Int).toNat]? = some (.sc (.int .u8 ((((b.drop (4 * i)).take 4)[j].toNat : Nat) : Int))) := by
        rw [Int.toNat_natCast]
        simp only [by8, List.getElem?_map]
        rw [List.getElem?_eq_getElem (by omega)]
        simp
      refine ⟨_, hbx, ?_⟩
      conv => whnf
      have hg : z[((i : Nat) : Int).toNat]? = some (.sc (.int .u32 (n32 (acc (((b.drop (4 * i)).take 4).take j))))) := by
        rw [hz, w32_get (by rw [List.length_append, hpl]; simp)]
        congr 4
        rw [List.getD_eq_getElem?_getD, List.getElem?_append_right (by omega), hpl, Nat.sub_self]
        rfl
      repeat (refine And.intro (by first | omega) ?_; conv => whnf)
      refine ⟨_, hg, ?_⟩
      conv => whnf
      repeat (refine And.intro (by first | omega) ?_; conv => whnf)
      rw [sh8, c32, or32]
      repeat (refine And.intro (by first | omega) ?_; conv => whnf)
      refine ⟨_, hg, ?_⟩
      conv => whnf
      rw [w64 (x := (j : Int) + 1) (by omega) (by omega)]
      refine ⟨⟨j + 1, _, by omega, ?_, rfl⟩, ?_⟩
      · rw [List.take_succ_eq_append_getElem hjl, acc_snoc, hz, w32_set, Int.toNat_natCast]
        congr 1
        rw [List.append_assoc, List.set_append_right _ _ (by omega), hpl, Nat.sub_self, List.append_assoc]
        rfl
      · show 4 - ((j : Int) + 1).toNat < 4 - (j : Int).toNat
        omega
    · simp only [decide_eq_false_iff_not] at h2
      have e : j = 4 := by omega
      subst e
      conv => whnf
      rw [w64 (x := (i : Int) + 1) (by omega) (by omega)]
      refine ⟨⟨i + 1, z, by omega, ?_, rfl⟩, ?_⟩
      · rw [hz, words_at b i hi16, List.take_take, Nat.min_self, show 64 - (i + 1) = 63 - i by omega]
      · show 16 - ((i : Int) + 1).toNat < 16 - (i : Int).toNat
        omega
  · simp only [decide_eq_false_iff_not] at h1
    have e : i = 16 := by omega
    subst e
    conv => whnf
    refine ⟨false, [2, 3, 7], fun τ => ∃ (k : Nat) (z : List AV), k ≤ 48 ∧ z = w32 (schd b k ++ zs (48 - k)) ∧ τ = ⟨81, [(2, .pt 1 []), (3, .pt 2 []), (7, (AV.sc (.int .i64 (((16 + k : Nat) : Int)))))], ⟨[(.ar 64 .lf (by8 b), false), (.ar 64 .lf (List.replicate 64 (.sc (.int .u32 0))), false), (.ar 64 .lf z, false)], [], 0⟩⟩, fun τ => 64 - (slotI τ 7).toNat, ?_, ?_⟩
    · conv => whnf
      refine ⟨0, z, by omega, ?_, rfl⟩
      rw [hz, List.take_of_length_le (by rw [words_len]; exact Nat.le_refl _)]
      rfl
    rintro τ ⟨k, z, hk, hz, rfl⟩
    have hl := schd_len b k
    conv => whnf
    refine Branch.of (fun h3 => ?_) (fun h3 => ?_) <;> rw [h3] <;> conv => whnf
    · simp only [decide_eq_true_eq] at h3
      have hk48 : k < 48 := by omega
      have hget : ∀ i, i < 16 + k → z[((i : Nat) : Int).toNat]? = some (.sc (.int .u32 (n32 ((schd b k).getD i 0#32)))) := by
        intro i hi
        rw [hz]
        exact w32_get (by omega)
      refine ⟨tabF125R14, by decide +kernel, ?_⟩
      conv => whnf
      rw [w64 (x := ((16 + k : Nat) : Int) - 15) (by omega) (by omega), show ((16 + k : Nat) : Int) - 15 = ((k + 1 : Nat) : Int) by omega]
      repeat (refine And.intro (by first | omega) ?_; conv => whnf)
      refine ⟨_, hget (k + 1) (by omega), ?_⟩
      conv => whnf
      rw [w64 (x := ((16 + k : Nat) : Int) - 2) (by omega) (by omega), show ((16 + k : Nat) : Int) - 2 = ((k + 14 : Nat) : Int) by omega]
      repeat (refine And.intro (by first | omega) ?_; conv => whnf)
      refine ⟨_, hget (k + 14) (by omega), ?_⟩
      conv => whnf
      refine (c_right _ 7 (by decide) (by decide)).mono fun r st e => ?_
      obtain ⟨rfl, rfl⟩ := e
      conv => whnf
      refine (c_right _ 18 (by decide) (by decide)).mono fun r st e => ?_
      obtain ⟨rfl, rfl⟩ := e
      conv => whnf
      rw [xor32]
      repeat (refine And.intro (by first | omega) ?_; conv => whnf)
      rw [show Int.fdiv (n32 ((schd b k).getD (k + 1) 0#32)) (2 ^ min (Int.toNat 3) IntKind.u32.bits) = n32 ((schd b k).getD (k + 1) 0#32 >>> 3) from shr32 _ 3, xor32]
      refine (c_right _ 17 (by decide) (by decide)).mono fun r st e => ?_
      obtain ⟨rfl, rfl⟩ := e
      conv => whnf
      refine (c_right _ 19 (by decide) (by decide)).mono fun r st e => ?_
      obtain ⟨rfl, rfl⟩ := e
      conv => whnf
      rw [xor32]
      repeat (refine And.intro (by first | omega) ?_; conv => whnf)
      rw [show Int.fdiv (n32 ((schd b k).getD (k + 14) 0#32)) (2 ^ min (Int.toNat 10) IntKind.u32.bits) = n32 ((schd b k).getD (k + 14) 0#32 >>> 10) from shr32 _ 10, xor32]
      refine ⟨tabF125R17, by decide +kernel, ?_⟩
      conv => whnf
      rw [w64 (x := ((16 + k : Nat) : Int) - 16) (by omega) (by omega), show ((16 + k : Nat) : Int) - 16 = ((k : Nat) : Int) by omega]
      repeat (refine And.intro (by first | omega) ?_; conv => whnf)
      refine ⟨_, hget k (by omega), ?_⟩
      conv => whnf
      rw [add32, w64 (x := ((16 + k : Nat) : Int) - 7) (by omega) (by omega), show ((16 + k : Nat) : Int) - 7 = ((k + 9 : Nat) : Int) by omega]
      repeat (refine And.intro (by first | omega) ?_; conv => whnf)
      refine ⟨_, hget (k + 9) (by omega), ?_⟩
      conv => whnf
      rw [add32, add32]
      repeat (refine And.intro (by first | omega) ?_; conv => whnf)
      have hnew : z[(((16 + k : Nat) : Nat) : Int).toNat]? = some (.sc (.int .u32 (n32 0#32))) := by
        rw [hz, ← hl]
        exact w32_new (by omega)
      refine ⟨_, hnew, ?_⟩
      conv => whnf
      rw [w64 (x := ((16 + k : Nat) : Int) + 1) (by omega) (by omega)]
      refine ⟨⟨k + 1, _, by omega, ?_, rfl⟩, ?_⟩
      · rw [hz, w32_set, Int.toNat_natCast, ← hl, set_new _ _ (by omega), schd, more1, hl, show 48 - k - 1 = 48 - (k + 1) by omega, show 16 + k - 16 = k by omega, show 16 + k - 15 = k + 1 by omega, show 16 + k - 7 = k + 9 by omega, show 16 + k - 2 = k + 14 by omega]
        rfl
      · show 64 - (((16 + k : Nat) : Int) + 1).toNat < 64 - (((16 + k : Nat) : Int)).toNat
        omega
    · simp only [decide_eq_false_iff_not] at h3
      have e : k = 48 := by omega
      subst e
      conv => whnf
      refine ⟨false, [], ?_⟩
      conv => whnf
      refine ⟨?_, rfl⟩
      rw [hz]
      simp [zs]
end Go.WL.T6d
