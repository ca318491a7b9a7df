/- A state behind a block: the reference's. No condition. -/
import Derived.Test.YtmpnboonjpcmpaaDoorPart09
set_option linter.unusedVariables false
set_option linter.unusedSimpArgs false
namespace Go.WL.T7b
open Go.WL Go.Proofs
set_option maxRecDepth 20000
set_option maxHeartbeats 8000000
theorem step8 (x : BitVec 32) (c : UInt8) (h : x.toNat < 16777216) : ((x <<< 8) ||| c.toBitVec.setWidth 32).toNat = x.toNat * 256 + c.toNat := by
  have hc := c.toNat_lt
  rw [BitVec.toNat_or, BitVec.toNat_shiftLeft, Nat.shiftLeft_eq, Nat.mod_eq_of_lt (by omega), show (c.toBitVec.setWidth 32).toNat = c.toNat by simp, Nat.mul_comm, ← Nat.two_pow_add_eq_or_of_lt (by omega : c.toNat < 2 ^ 8), Nat.mul_comm]
theorem acc4 (a b c d : UInt8) : (acc [a, b, c, d]).toNat = a.toNat * 16777216 + b.toNat * 65536 + c.toNat * 256 + d.toNat := by
  have h1 := a.toNat_lt
  have h2 := b.toNat_lt
  have h3 := c.toNat_lt
  have h4 := d.toNat_lt
  have e0 : (0#32 : BitVec 32).toNat = 0 := rfl
  have e1 := step8 0#32 a (by omega)
  have e2 := step8 (0#32 <<< 8 ||| a.toBitVec.setWidth 32) b (by omega)
  have e3 := step8 ((0#32 <<< 8 ||| a.toBitVec.setWidth 32) <<< 8 ||| b.toBitVec.setWidth 32) c (by omega)
  have e4 := step8 (((0#32 <<< 8 ||| a.toBitVec.setWidth 32) <<< 8 ||| b.toBitVec.setWidth 32) <<< 8 ||| c.toBitVec.setWidth 32) d (by omega)
  show ((((0#32 <<< 8 ||| a.toBitVec.setWidth 32) <<< 8 ||| b.toBitVec.setWidth 32) <<< 8 ||| c.toBitVec.setWidth 32) <<< 8 ||| d.toBitVec.setWidth 32).toNat = _
  omega
theorem ch_is (e f g : BitVec 32) : (e &&& f) ||| (~~~e &&& g) = (e &&& f) ^^^ (~~~e &&& g) := by
  apply BitVec.eq_of_getLsbD_eq
  intro i hi
  simp only [BitVec.getLsbD_or, BitVec.getLsbD_and, BitVec.getLsbD_xor, BitVec.getLsbD_not, hi, decide_true, Bool.true_and]
  cases e.getLsbD i <;> cases f.getLsbD i <;> cases g.getLsbD i <;> rfl
theorem maj_is (a b c : BitVec 32) : (a &&& b) ||| (a &&& c) ||| (b &&& c) = (a &&& b) ^^^ (a &&& c) ^^^ (b &&& c) := by
  apply BitVec.eq_of_getLsbD_eq
  intro i hi
  simp only [BitVec.getLsbD_or, BitVec.getLsbD_and, BitVec.getLsbD_xor]
  cases a.getLsbD i <;> cases b.getLsbD i <;> cases c.getLsbD i <;> rfl
theorem max_sub (a : BitVec 32) : IntKind.u32.wrap (4294967295 - n32 a) = n32 (~~~a) := by
  have h := a.isLt
  rw [wu32 (by show 0 ≤ 4294967295 - ((a.toNat : Nat) : Int); omega) (by show 4294967295 - ((a.toNat : Nat) : Int) < 4294967296; omega)]
  show _ = (((~~~a).toNat : Nat) : Int)
  rw [BitVec.toNat_not]
  show 4294967295 - ((a.toNat : Nat) : Int) = ((4294967295 - a.toNat : Nat) : Int)
  omega
def wp (b : List UInt8) (i : Nat) : List (BitVec 32) := (schd b (i - 16)).take i
theorem wp_low (b : List UInt8) (i : Nat) (h : i < 16) : wp b (i + 1) = wp b i ++ [acc ((b.drop (4 * i)).take 4)] := by
  unfold wp
  rw [show i + 1 - 16 = 0 by omega, show i - 16 = 0 by omega]
  exact words_at b i h
theorem wp_high (b : List UInt8) (i : Nat) (h : 16 ≤ i) : wp b i = schd b (i - 16) := by
  unfold wp
  rw [List.take_of_length_le]
  rw [schd_len]
  omega
theorem wp_len (b : List UInt8) (i : Nat) : (wp b i).length = i := by
  unfold wp
  rw [List.length_take, schd_len]
  omega
theorem wp_next (b : List UInt8) (i : Nat) (h : 16 ≤ i) : wp b (i + 1) = wp b i ++ [more1 (wp b i)] := by
  rw [wp_high b i h, wp_high b (i + 1) (by omega), show i + 1 - 16 = (i - 16) + 1 by omega, schd]
theorem more_is (w : List (BitVec 32)) (i : Nat) (h : w.length = i) (h16 : 16 ≤ i) : (ror 17 (w.getD (i - 2) 0#32) ^^^ ror 19 (w.getD (i - 2) 0#32) ^^^ w.getD (i - 2) 0#32 >>> 10) + w.getD (i - 7) 0#32 + (ror 7 (w.getD (i - 15) 0#32) ^^^ ror 18 (w.getD (i - 15) 0#32) ^^^ w.getD (i - 15) 0#32 >>> 3) + w.getD (i - 16) 0#32 = more1 w := by
  unfold more1 sg0 sg1
  rw [h]
  ac_rfl
theorem zip_comm (s v : List (BitVec 32)) : List.zipWith (· + ·) v s = List.zipWith (· + ·) s v := by
  rw [List.zipWith_comm]
  congr 1
  funext a b
  exact BitVec.add_comm _ _
theorem sumw (a b c d : UInt8) : IntKind.u32.wrap (IntKind.u32.wrap (IntKind.u32.wrap (IntKind.u32.wrap (IntKind.u32.wrap (a.toNat : Int) * 16777216) + IntKind.u32.wrap (IntKind.u32.wrap (b.toNat : Int) * 65536)) + IntKind.u32.wrap (IntKind.u32.wrap (c.toNat : Int) * 256)) + IntKind.u32.wrap (d.toNat : Int)) = n32 (acc [a, b, c, d]) := by
  have h1 := a.toNat_lt
  have h2 := b.toNat_lt
  have h3 := c.toNat_lt
  have h4 := d.toNat_lt
  have h := acc4 a b c d
  rw [wu32 (x := (a.toNat : Int)) (by omega) (by omega), wu32 (x := (b.toNat : Int)) (by omega) (by omega), wu32 (x := (c.toNat : Int)) (by omega) (by omega), wu32 (x := (d.toNat : Int)) (by omega) (by omega),
    wu32 (x := (a.toNat : Int) * 16777216) (by omega) (by omega), wu32 (x := (b.toNat : Int) * 65536) (by omega) (by omega), wu32 (x := (c.toNat : Int) * 256) (by omega) (by omega),
    wu32 (x := (a.toNat : Int) * 16777216 + (b.toNat : Int) * 65536) (by omega) (by omega), wu32 (x := (a.toNat : Int) * 16777216 + (b.toNat : Int) * 65536 + (c.toNat : Int) * 256) (by omega) (by omega), wu32 (x := (a.toNat : Int) * 16777216 + (b.toNat : Int) * 65536 + (c.toNat : Int) * 256 + (d.toNat : Int)) (by omega) (by omega)]
  show _ = (((acc [a, b, c, d]).toNat : Nat) : Int)
  omega
theorem take4 (b : List UInt8) (i : Nat) (h : i + 3 < b.length) : (b.drop i).take 4 = [b[i], b[i + 1], b[i + 2], b[i + 3]] := by
  rw [List.drop_eq_getElem_cons (by omega), List.drop_eq_getElem_cons (by omega : i + 1 < b.length), List.drop_eq_getElem_cons (by omega : i + 1 + 1 < b.length), List.drop_eq_getElem_cons (by omega : i + 1 + 1 + 1 < b.length)]
  rfl
theorem rnd_or (v : St) (k w : BitVec 32) : (rnd v k w).l = [v.h + (ror 6 v.e ^^^ ror 11 v.e ^^^ ror 25 v.e) + ((v.e &&& v.f) ||| (~~~v.e &&& v.g)) + k + w + ((ror 2 v.a ^^^ ror 13 v.a ^^^ ror 22 v.a) + ((v.a &&& v.b) ||| (v.a &&& v.c) ||| (v.b &&& v.c))), v.a, v.b, v.c,
    v.d + (v.h + (ror 6 v.e ^^^ ror 11 v.e ^^^ ror 25 v.e) + ((v.e &&& v.f) ||| (~~~v.e &&& v.g)) + k + w), v.e, v.f, v.g] := by
  rw [ch_is, maj_is]
  rfl
end Go.WL.T7b
