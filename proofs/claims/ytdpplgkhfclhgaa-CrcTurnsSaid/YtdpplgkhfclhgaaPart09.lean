/- Records: four bytes of a number, and back. No condition. -/
import Derived.Test.YtdpplgkhfclhgaaPart08
import Derived.Test.YtdpplgkhfclhgaaPart07
set_option linter.unusedVariables false
set_option linter.unusedSimpArgs false
namespace Go.WL.T8
open Go.WL Go.Proofs
set_option maxRecDepth 20000
set_option maxHeartbeats 2000000
/-- The check of bytes. -/
@[irreducible] def chk (l : List UInt8) : BitVec 32 := crc 0#32 l
theorem chk_eq (l : List UInt8) : crc 0#32 l = chk l := by unfold chk; rfl
theorem c_crcs (ps : List (List UInt8)) (hl : ps.length < 1000000) (hp : ∀ p ∈ ps, p.length < 1000000000) {xs : List AV} {m : Mark} (hm : m = .ex ∨ m = .ro) (h : Weaks xs (ps.map (fun b => (AV.sl .lf (by8 (b)) .ro)))) : FnOK Try.prog D 20 [.sl .lf xs m] [] (fun r st => r = (AV.sc (.int .u32 (n32 (chk ps.flatten)))) ∧ st = []) := by
  rw [← chk_eq]
  exact (c_crc ps hl hp).weak (.cons (.sl hm h) .nil)
theorem known : crc 0#32 [49, 50, 51, 52, 53, 54, 55, 56, 57] = 0x3010bf7f#32 := by decide +kernel
theorem c_crcawake  : FnOK Try.prog D 6 [] [] (fun r st => r = .sc (.bool true) ∧ st = []) := by
  refine fnok_of_W hmix tabOK Try.func6 rfl rfl (Nat.le_of_ble_eq_true rfl) ?_
  conv => whnf
  refine (c_crcs [[49, 50, 51, 52], [53, 54, 55, 56, 57]] (by decide) (by decide) (.inl rfl) (Weaks.refl _)).mono fun r st e => ?_
  obtain ⟨rfl, rfl⟩ := e
  rw [show chk ([[49, 50, 51, 52], [53, 54, 55, 56, 57]] : List (List UInt8)).flatten = 0x3010bf7f#32 from (chk_eq _).symm.trans known]
  conv => whnf
  refine ⟨false, [], ?_⟩
  conv => whnf
  exact ⟨rfl, rfl⟩
theorem xor8K (a b : UInt8) : IntKind.u8.wrap ((BitVec.ofInt IntKind.u8.bits (a.toNat : Int) ^^^ BitVec.ofInt IntKind.u8.bits (b.toNat : Int)).toNat : Int) = ((a ^^^ b).toNat : Int) := by
  have h1 := (a ^^^ b).toNat_lt
  have e : ∀ c : UInt8, BitVec.ofInt IntKind.u8.bits (c.toNat : Int) = c.toBitVec := by
    intro c
    show BitVec.ofInt 8 (c.toNat : Int) = _
    simp
  rw [e, e]
  exact wu8 (by omega) (by have := (a ^^^ b).toNat_lt; show ((a ^^^ b).toNat : Int) < 256; omega)
theorem by8_takeK (k : Nat) (b : List UInt8) : (by8 b).take k = by8 (b.take k) := by simp [by8]
theorem by8_drop (k : Nat) (b : List UInt8) : (by8 b).drop k = by8 (b.drop k) := by simp [by8]
theorem by8_cutK (k : Nat) (b : List UInt8) : ((by8 b).drop k).take ((by8 b).length - k) = by8 (b.drop k) := by
  rw [by8_drop, by8_takeK, List.take_of_length_le]
  rw [by8_len, List.length_drop]
  exact Nat.le_refl _
theorem zip_take (f : UInt8 → UInt8 → UInt8) : ∀ l m : List UInt8, List.zipWith f l m = List.zipWith f l (m.take l.length)
  | [], m => by simp
  | x :: l, [] => by simp
  | x :: l, y :: m => by
    simp only [List.length_cons, List.take_succ_cons, List.zipWith_cons_cons]
    rw [← zip_take f l m]
end Go.WL.T8
namespace Go.WL.T8
open Go.WL Go.Proofs
set_option maxRecDepth 20000
set_option maxHeartbeats 4000000
/-- A number's four bytes. -/
def b4 (n : Nat) : List UInt8 := [UInt8.ofNat (n / 16777216), UInt8.ofNat (n / 65536), UInt8.ofNat (n / 256), UInt8.ofNat n]
/-- The number that four bytes are. -/
def n4 (a b c d : UInt8) : Nat := a.toNat * 16777216 + b.toNat * 65536 + c.toNat * 256 + d.toNat
theorem b4_len (n : Nat) : (b4 n).length = 4 := rfl
theorem n4_lt (a b c d : UInt8) : n4 a b c d < 4294967296 := by
  have h1 := a.toNat_lt
  have h2 := b.toNat_lt
  have h3 := c.toNat_lt
  have h4 := d.toNat_lt
  unfold n4
  omega
theorem b4_n4 (a b c d : UInt8) : b4 (n4 a b c d) = [a, b, c, d] := by
  have h1 := a.toNat_lt
  have h2 := b.toNat_lt
  have h3 := c.toNat_lt
  have h4 := d.toNat_lt
  have e : ∀ (x : UInt8) (k : Nat), k % 256 = x.toNat → UInt8.ofNat k = x := by
    intro x k h
    apply UInt8.toNat_inj.1
    simp [h]
  unfold b4 n4
  rw [e a, e b, e c, e d] <;> omega
theorem n4_b4 (n : Nat) (h : n < 4294967296) : n4 (UInt8.ofNat (n / 16777216)) (UInt8.ofNat (n / 65536)) (UInt8.ofNat (n / 256)) (UInt8.ofNat n) = n := by
  unfold n4
  simp
  omega
theorem fd (n k : Nat) : Int.fdiv ((n : Nat) : Int) ((k : Nat) : Int) = ((n / k : Nat) : Int) := by
  rw [Int.fdiv_eq_ediv_of_nonneg _ (by omega)]
  omega
theorem w8mK (n : Nat) : IntKind.u8.wrap ((n : Nat) : Int) = ((UInt8.ofNat n).toNat : Int) := by
  simp only [IntKind.wrap, IntKind.signed, IntKind.bits]
  simp
theorem or32n (x k y : Nat) (hy : y < 2 ^ k) (hs : x * 2 ^ k + y < 4294967296) : IntKind.u32.wrap ((BitVec.ofInt IntKind.u32.bits ((x * 2 ^ k : Nat) : Int) ||| BitVec.ofInt IntKind.u32.bits ((y : Nat) : Int)).toNat : Int) = ((x * 2 ^ k + y : Nat) : Int) := by
  have e : (BitVec.ofInt IntKind.u32.bits ((x * 2 ^ k : Nat) : Int) ||| BitVec.ofInt IntKind.u32.bits ((y : Nat) : Int)).toNat = x * 2 ^ k + y := by
    rw [BitVec.toNat_or, BitVec.ofInt_natCast, BitVec.ofInt_natCast, BitVec.toNat_ofNat, BitVec.toNat_ofNat, show (2 : Nat) ^ IntKind.u32.bits = 4294967296 from by decide, Nat.mod_eq_of_lt (by omega), Nat.mod_eq_of_lt (by omega), Nat.mul_comm, ← Nat.two_pow_add_eq_or_of_lt hy, Nat.mul_comm]
  rw [e]
  exact wu32 (by omega) (by omega)
theorem sh32 (x k : Nat) (hk : k ≤ 32) (h : x * 2 ^ k < 4294967296) : IntKind.u32.wrap (((x : Nat) : Int) * 2 ^ min (Int.toNat (k : Int)) IntKind.u32.bits) = ((x * 2 ^ k : Nat) : Int) := by
  rw [Int.toNat_natCast, show min k IntKind.u32.bits = k from Nat.min_eq_left hk]
  rw [show ((x : Nat) : Int) * 2 ^ k = ((x * 2 ^ k : Nat) : Int) by simp]
  exact wu32 (by omega) (by omega)
theorem c_four (n : Nat) : FnOK Try.prog D 21 [(AV.sc (.int .u32 ((n : Int))))] [] (fun r st => r = (AV.sl .lf (by8 (b4 n)) .ex) ∧ st = []) := by
  refine fnok_of_W hmix tabOK Try.func21 rfl rfl (Nat.le_of_ble_eq_true rfl) ?_
  conv => whnf
  repeat (refine And.intro (by first | omega) ?_; conv => whnf)
  refine ⟨false, [], ?_⟩
  conv => whnf
  refine ⟨?_, rfl⟩
  congr 1
  have e24 : (2 : Int) ^ min (Int.toNat 24) IntKind.u32.bits = ((16777216 : Nat) : Int) := by decide
  have e16 : (2 : Int) ^ min (Int.toNat 16) IntKind.u32.bits = ((65536 : Nat) : Int) := by decide
  have e8 : (2 : Int) ^ min (Int.toNat 8) IntKind.u32.bits = ((256 : Nat) : Int) := by decide
  rw [e24, e16, e8, fd, fd, fd, w8mK, w8mK, w8mK, w8mK]
  rfl
theorem c_numberK (a b c d : UInt8) (l : List UInt8) : FnOK Try.prog D 23 [(AV.sl .lf (by8 (a :: b :: c :: d :: l)) .ro)] [] (fun r st => r = (AV.sc (.int .u32 ((n4 a b c d : Int)))) ∧ st = []) := by
  refine fnok_of_W hmix tabOK Try.func23 rfl rfl (Nat.le_of_ble_eq_true rfl) ?_
  conv => whnf
  refine ⟨tabF23R1, by decide +kernel, ?_⟩
  conv => whnf
  repeat (refine And.intro (by first | omega) ?_; conv => whnf)
  refine ⟨_, rfl, ?_⟩
  conv => whnf
  repeat (refine And.intro (by first | omega) ?_; conv => whnf)
  refine ⟨_, rfl, ?_⟩
  conv => whnf
  repeat (refine And.intro (by first | omega) ?_; conv => whnf)
  refine ⟨_, rfl, ?_⟩
  conv => whnf
  repeat (refine And.intro (by first | omega) ?_; conv => whnf)
  refine ⟨_, rfl, ?_⟩
  conv => whnf
  refine ⟨false, [], ?_⟩
  conv => whnf
  refine ⟨?_, rfl⟩
  have h1 := a.toNat_lt
  have h2 := b.toNat_lt
  have h3 := c.toNat_lt
  have h4 := d.toNat_lt
  have w : ∀ x : UInt8, IntKind.u32.wrap (x.toNat : Int) = (x.toNat : Int) := fun x => wu32 (by omega) (by have := x.toNat_lt; omega)
  rw [w, w, w, w]
  have s1 := sh32 a.toNat 24 (by decide) (by omega)
  have s2 := sh32 b.toNat 16 (by decide) (by omega)
  have s3 := sh32 c.toNat 8 (by decide) (by omega)
  have o1 := or32n a.toNat 24 (b.toNat * 2 ^ 16) (by omega) (by omega)
  have o2 := or32n (a.toNat * 2 ^ 8 + b.toNat) 16 (c.toNat * 2 ^ 8) (by omega) (by omega)
  have o3 := or32n (a.toNat * 2 ^ 16 + b.toNat * 2 ^ 8 + c.toNat) 8 d.toNat (by omega) (by omega)
  rw [show ((24 : Nat) : Int) = 24 from rfl] at s1
  rw [show ((16 : Nat) : Int) = 16 from rfl] at s2
  rw [show ((8 : Nat) : Int) = 8 from rfl] at s3
  rw [s1, s2, s3, o1, show a.toNat * 2 ^ 24 + b.toNat * 2 ^ 16 = (a.toNat * 2 ^ 8 + b.toNat) * 2 ^ 16 by omega, o2, show (a.toNat * 2 ^ 8 + b.toNat) * 2 ^ 16 + c.toNat * 2 ^ 8 = (a.toNat * 2 ^ 16 + b.toNat * 2 ^ 8 + c.toNat) * 2 ^ 8 by omega, o3]
  congr 3
  unfold n4
  omega
end Go.WL.T8
