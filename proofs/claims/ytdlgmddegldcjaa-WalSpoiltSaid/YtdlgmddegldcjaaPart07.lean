/- Bytes: the same, copied; a number's. No condition. -/
import Derived.Test.YtdlgmddegldcjaaPart06
import Derived.Test.YtdlgmddegldcjaaPart02
import Derived.Test.YtdlgmddegldcjaaWordsD
set_option linter.unusedVariables false
set_option linter.unusedSimpArgs false
namespace Go.WL.T5
open Go.WL Go.Proofs
set_option maxRecDepth 20000
set_option maxHeartbeats 2000000
/-- The check of bytes. -/
@[irreducible] def chk (l : List UInt8) : BitVec 32 := crc 0#32 l
theorem chk_eq (l : List UInt8) : crc 0#32 l = chk l := by unfold chk; rfl
theorem c_ref (b : List UInt8) (hl : b.length < 1000000) : FnOK Try.prog D 113 [(AV.sl .lf (by8 (b)) .ro)] [] (fun r st => r = (AV.sc (.int .u32 (n32 (chk b)))) ∧ st = []) := by
  rw [← chk_eq]
  exact c_refcrc b hl
theorem c_crcs (ps : List (List UInt8)) (hl : ps.length < 1000000) (hp : ∀ p ∈ ps, p.length < 1000000000) {xs : List AV} {m : Mark} (hm : m = .ex ∨ m = .ro) (h : Weaks xs (ps.map (fun b => (AV.sl .lf (by8 (b)) .ro)))) : FnOK Try.prog D 110 [.sl .lf xs m] [] (fun r st => r = (AV.sc (.int .u32 (n32 (chk ps.flatten)))) ∧ st = []) := by
  rw [← chk_eq]
  exact (c_crc ps hl hp).weak (.cons (.sl hm h) .nil)
theorem known : crc 0#32 [49, 50, 51, 52, 53, 54, 55, 56, 57] = 0x3010bf7f#32 := by decide +kernel
theorem xor8K (a b : UInt8) : IntKind.u8.wrap ((BitVec.ofInt IntKind.u8.bits (a.toNat : Int) ^^^ BitVec.ofInt IntKind.u8.bits (b.toNat : Int)).toNat : Int) = ((a ^^^ b).toNat : Int) := by
  have h1 := (a ^^^ b).toNat_lt
  have e : ∀ c : UInt8, BitVec.ofInt IntKind.u8.bits (c.toNat : Int) = c.toBitVec := by
    intro c
    show BitVec.ofInt 8 (c.toNat : Int) = _
    simp
  rw [e, e]
  exact wu8 (by omega) (by have := (a ^^^ b).toNat_lt; show ((a ^^^ b).toNat : Int) < 256; omega)
theorem by8_takeK (k : Nat) (b : List UInt8) : (by8 b).take k = by8 (b.take k) := by simp [by8]
theorem by8_drop (k : Nat) (b : List UInt8) : (by8 b).drop k = by8 (b.drop k) := by simp [by8]
theorem by8_cutK (k : Nat) (b : List UInt8) : ((by8 b).drop k).take ((by8 b).length - k) = by8 (b.drop k) := by
  rw [by8_drop, by8_takeK, List.take_of_length_le]
  rw [by8_len, List.length_drop]
  exact Nat.le_refl _
theorem zip_take (f : UInt8 → UInt8 → UInt8) : ∀ l m : List UInt8, List.zipWith f l m = List.zipWith f l (m.take l.length)
  | [], m => by simp
  | x :: l, [] => by simp
  | x :: l, y :: m => by
    simp only [List.length_cons, List.take_succ_cons, List.zipWith_cons_cons]
    rw [← zip_take f l m]
end Go.WL.T5
namespace Go.WL.T5
open Go.WL Go.Proofs
set_option maxRecDepth 20000
set_option maxHeartbeats 4000000
theorem len8 (b : List UInt8) : (by8 b).length = b.length := by simp [by8]
theorem at8 {b : List UInt8} {i : Nat} (h : i < b.length) : (by8 b)[((i : Nat) : Int).toNat]? = some ((AV.sc (.int .u8 ((b[i].toNat : Int))))) := by simp [by8, h]
theorem ne8 (x y : UInt8) : (((x.toNat : Nat) : Int) != ((y.toNat : Nat) : Int)) = (x != y) := by
  by_cases h : x = y
  · subst h; simp
  · have : ((x.toNat : Nat) : Int) ≠ ((y.toNat : Nat) : Int) := fun e => h (UInt8.toNat_inj.1 (by omega))
    rw [bne_iff_ne .. |>.2 this, bne_iff_ne .. |>.2 h]
theorem c_same0 (a b : List UInt8) (ha : a.length < 9223372036854775807) : FnOK Try.prog D 23 [(AV.sl .lf (by8 (a)) .ro), (AV.sl .lf (by8 (b)) .ro)] [] (fun r st => r = (AV.sc (.bool (a == b))) ∧ st = []) := by
  refine fnok_of_W hmix tabOK Try.func23 rfl rfl (Nat.le_of_ble_eq_true rfl) ?_
  conv => whnf
  rw [len8, len8]
  refine Branch.of (fun h => ?_) (fun h => ?_) <;> rw [h] <;> conv => whnf
  · refine ⟨false, [], ?_⟩
    conv => whnf
    refine ⟨?_, rfl⟩
    have hne : a.length ≠ b.length := by
      simp only [bne_iff_ne, ne_eq] at h
      omega
    rw [show (a == b) = false from beq_eq_false_iff_ne.2 fun e => hne (by rw [e])]
  have hl : a.length = b.length := by
    simp only [bne_eq_false_iff_eq] at h
    omega
  refine ⟨false, [0, 1, 5], fun τ => ∃ i : Nat, i ≤ a.length ∧ a.take i = b.take i ∧ τ = ⟨26, [(0, (AV.sl .lf (by8 (a)) .ro)), (1, (AV.sl .lf (by8 (b)) .ro)), (5, (AV.sc (.int .i64 ((i : Int)))))], ⟨[], [], 0⟩⟩, fun τ => a.length - (slotI τ 5).toNat, ?_, ?_⟩
  · conv => whnf
    exact ⟨0, Nat.zero_le _, by simp, rfl⟩
  · rintro τ ⟨i, i1, i2, rfl⟩
    conv => whnf
    rw [len8]
    refine Branch.of (fun h2 => ?_) (fun h2 => ?_) <;> rw [h2] <;> conv => whnf
    · simp only [decide_eq_true_eq] at h2
      have ia : i < a.length := by omega
      have ib : i < b.length := by omega
      refine ⟨tabF23R6, by decide +kernel, ?_⟩
      conv => whnf
      refine ⟨by omega, _, at8 ia, ?_⟩
      conv => whnf
      refine ⟨by omega, _, at8 ib, ?_⟩
      conv => whnf
      rw [ne8]
      generalize hx : a[i] = x
      generalize hy : b[i] = y
      refine Branch.of (fun h3 => ?_) (fun h3 => ?_) <;> rw [h3] <;> conv => whnf
      · refine ⟨false, [], ?_⟩
        conv => whnf
        refine ⟨?_, rfl⟩
        have hne : a ≠ b := by
          intro e
          subst e
          rw [hx] at hy
          subst hy
          simp at h3
        rw [show (a == b) = false from beq_eq_false_iff_ne.2 hne]
      · rw [w64 (x := (i : Int) + 1) (by omega) (by omega)]
        refine ⟨⟨i + 1, by omega, ?_, rfl⟩, ?_⟩
        · rw [List.take_succ_eq_append_getElem ia, List.take_succ_eq_append_getElem ib, i2, hx, hy]
          simp only [bne_eq_false_iff_eq] at h3
          rw [h3]
        · show a.length - ((i : Int) + 1).toNat < a.length - (i : Int).toNat
          omega
    · simp only [decide_eq_false_iff_not] at h2
      refine ⟨false, [], ?_⟩
      conv => whnf
      refine ⟨?_, rfl⟩
      have e : i = a.length := by omega
      subst e
      rw [List.take_length, hl, List.take_length] at i2
      rw [i2, beq_self_eq_true]
theorem c_same (a b : List UInt8) (ha : a.length < 9223372036854775807) {m1 m2 : Mark} (h1 : m1 = .ex ∨ m1 = .ro) (h2 : m2 = .ex ∨ m2 = .ro) : FnOK Try.prog D 23 [.sl .lf (by8 a) m1, .sl .lf (by8 b) m2] [] (fun r st => r = (AV.sc (.bool (a == b))) ∧ st = []) :=
  (c_same0 a b ha).weak (.cons (.sl h1 (Weaks.refl _)) (.cons (.sl h2 (Weaks.refl _)) .nil))
theorem c_clone0 (b : List UInt8) (hb : b.length < 4294967296) : FnOK Try.prog D 78 [(AV.sl .lf (by8 (b)) .ro)] [] (fun r st => r = (AV.sl .lf (by8 (b)) (.own 0)) ∧ st = []) := by
  refine fnok_of_W hmix tabOK Try.func78 rfl rfl (Nat.le_of_ble_eq_true rfl) ?_
  conv => whnf
  intro nl hnl
  conv => whnf
  refine Branch.of (fun h => ?_) (fun h => ?_) <;> rw [h] <;> conv => whnf
  · have hb0 : b = [] := by
      by_cases c : by8 b = []
      · simpa [by8] using c
      · rw [hnl c] at h; exact absurd h (by simp)
    subst hb0
    refine ⟨true, [], ?_⟩
    conv => whnf
    exact ⟨rfl, rfl⟩
  · refine ⟨by rw [len8]; simp; omega, ?_⟩
    conv => whnf
    refine ⟨false, [], ?_⟩
    conv => whnf
    exact ⟨rfl, rfl⟩
end Go.WL.T5
