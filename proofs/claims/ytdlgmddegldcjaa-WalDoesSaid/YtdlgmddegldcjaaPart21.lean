/- CrcOf: the law's own code. No condition. -/
import Derived.Test.YtdlgmddegldcjaaPart20
set_option linter.unusedVariables false
set_option linter.unusedSimpArgs false
namespace Go.WL.T5
open Go.WL Go.Proofs
set_option maxRecDepth 20000
set_option maxHeartbeats 2000000
/-- The check of bytes. -/
@[irreducible] def chk (l : List UInt8) : BitVec 32 := crc 0#32 l
theorem chk_eq (l : List UInt8) : crc 0#32 l = chk l := by unfold chk; rfl
theorem c_ref (b : List UInt8) (hl : b.length < 1000000) : FnOK Try.prog D 113 [(AV.sl .lf (by8 (b)) .ro)] [] (fun r st => r = (AV.sc (.int .u32 (n32 (chk b)))) ∧ st = []) := by
  rw [← chk_eq]
  exact c_refcrc b hl
theorem c_crcs (ps : List (List UInt8)) (hl : ps.length < 1000000) (hp : ∀ p ∈ ps, p.length < 1000000000) {xs : List AV} {m : Mark} (hm : m = .ex ∨ m = .ro) (h : Weaks xs (ps.map (fun b => (AV.sl .lf (by8 (b)) .ro)))) : FnOK Try.prog D 110 [.sl .lf xs m] [] (fun r st => r = (AV.sc (.int .u32 (n32 (chk ps.flatten)))) ∧ st = []) := by
  rw [← chk_eq]
  exact (c_crc ps hl hp).weak (.cons (.sl hm h) .nil)
theorem known : crc 0#32 [49, 50, 51, 52, 53, 54, 55, 56, 57] = 0x3010bf7f#32 := by decide +kernel
theorem xor8K (a b : UInt8) : IntKind.u8.wrap ((BitVec.ofInt IntKind.u8.bits (a.toNat : Int) ^^^ BitVec.ofInt IntKind.u8.bits (b.toNat : Int)).toNat : Int) = ((a ^^^ b).toNat : Int) := by
  have h1 := (a ^^^ b).toNat_lt
  have e : ∀ c : UInt8, BitVec.ofInt IntKind.u8.bits (c.toNat : Int) = c.toBitVec := by
    intro c
    show BitVec.ofInt 8 (c.toNat : Int) = _
    simp
  rw [e, e]
  exact wu8 (by omega) (by have := (a ^^^ b).toNat_lt; show ((a ^^^ b).toNat : Int) < 256; omega)
theorem by8_takeK (k : Nat) (b : List UInt8) : (by8 b).take k = by8 (b.take k) := by simp [by8]
theorem by8_drop (k : Nat) (b : List UInt8) : (by8 b).drop k = by8 (b.drop k) := by simp [by8]
theorem by8_cutK (k : Nat) (b : List UInt8) : ((by8 b).drop k).take ((by8 b).length - k) = by8 (b.drop k) := by
  rw [by8_drop, by8_takeK, List.take_of_length_le]
  rw [by8_len, List.length_drop]
  exact Nat.le_refl _
theorem zip_take (f : UInt8 → UInt8 → UInt8) : ∀ l m : List UInt8, List.zipWith f l m = List.zipWith f l (m.take l.length)
  | [], m => by simp
  | x :: l, [] => by simp
  | x :: l, y :: m => by
    simp only [List.length_cons, List.take_succ_cons, List.zipWith_cons_cons]
    rw [← zip_take f l m]
end Go.WL.T5
