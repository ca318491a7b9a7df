/- Words of 32 bits, as the machine's numbers. No condition. -/
import Derived.Test.YtkcflejbhfaihaaDoorPart07
import Derived.Test.YtkcflejbhfaihaaDoorPart08
import Derived.Test.YtkcflejbhfaihaaDoorWordsC
import Derived.Test.YtkcflejbhfaihaaDoorPart02
set_option linter.unusedVariables false
set_option linter.unusedSimpArgs false
namespace Go.Proofs
open Go.RowKit Go.WL
theorem hex_tab : ∀ n : Fin 16, ({ data := #[48, 49, 50, 51, 52, 53, 54, 55, 56, 57, 97, 98, 99, 100, 101, 102] } : ByteArray)[n.val]'n.isLt = hexd n.val := by decide +kernel
theorem hex_get (n : Nat) (h : n < 16) : ({ data := #[48, 49, 50, 51, 52, 53, 54, 55, 56, 57, 97, 98, 99, 100, 101, 102] } : ByteArray)[n]'h = hexd n := hex_tab ⟨n, h⟩
set_option maxHeartbeats 4000000 in
set_option maxRecDepth 100000 in
theorem Tryd.hex (cs : Array Value) (hs : cs.size = 32) (h : List UInt8) (hl : h.length = 32) (hc : ∀ k (hk : k < h.length), cs[k]? = some (.int .u8 h[k].toNat)) (w : World) :
    Calls Tryd.prog 29 #[.agg cs] w fun e w' => e = .returned (.string (strB (hexB h))) ∧ Below w.heap.size w w' := by
  have hg : ((w.alloc (Obj.cells cs 26)).alloc (Obj.cells #[Value.pointer none, Value.slice none 0 0] 102)).heap[w.heap.size]? = some (.cells cs 26 (0, 0)) :=
    (Go.heap_alloc_old _ _ (by simp)).trans (Go.heap_alloc_new _ _)
  have hi : (Tryd.prog.info? 26).map (·.size) = some cs.size := by rw [hs]; kernel_rfl
  go_enter Tryd.func29, Tryd.ntmps29
  go_wp2_with (refine wpList_load_row (by rfl) 26 (.tmp 1) (by rfl) w.heap.size (by rfl) 26 cs (0, 0) _ hg Tryd.underlying26 (by rfl) hi ?_)
  go_loopw [7] (fun i wr => ∃ k : Nat, k ≤ 32 ∧ i = .int .i64 k ∧ Lib.IsBuilder 102 5 (w.heap.size + 1) (w.heap.size + 1) (Lib.byteCells (hexB (h.take k))) wr ∧ Below (w.heap.size + 1) (w.alloc (Obj.cells cs 26)) wr) (fun i _ => 32 - (intOf i).toNat)
  case atStart =>
    refine ⟨0, by omega, rfl, ?_, ?_⟩
    · have := Lib.fresh_isBuilder 102 5 (w.alloc (Obj.cells cs 26))
      rw [show (w.alloc (Obj.cells cs 26)).heap.size = w.heap.size + 1 by simp] at this
      exact this
    · exact (Below.refl _ _).alloc (by simp) _
  case round =>
    obtain ⟨k, hk, rfl, hI, hb⟩ := hrel
    have hsz := hb.size
    by_cases h32 : k < 32
    · have hck := hc k (by omega)
      have hlt := h[k].toNat_lt
      have hix : (Instr.index 26 (.agg cs) (.int .i64 (k : Int))).run Tryd.prog wr = .ok (.int .u8 h[k].toNat) wr := by
        simp [Instr.index, asIntOf, run_underlying' Tryd.underlying26, Tryd.sizeOf5, part, Tryd.isAgg5, hck, h32]
      go_wp2_with (go_at_call 69; refine (Tryd.writeByte (w.heap.size + 1) (w.heap.size + 1) _ _ _ hI (by rw [Lib.byteCells_length, hexB_len, List.length_take]; omega) (by simp at hsz; omega)).mono ?_)
      rintro e W1 ⟨rfl, h1, b1⟩
      go_wp2_with (go_at_call 69; refine (Tryd.writeByte (w.heap.size + 1) (w.heap.size + 1) _ _ _ (Or.inr h1) (by simp only [List.length_append, Lib.byteCells_length, hexB_len, List.length_take, List.length_singleton]; omega) (by have := b1.size; simp at hsz; omega)).mono ?_)
      rintro e W2 ⟨rfl, h2, b2⟩
      go_wp2
      go_roundw
      case rel =>
        refine ⟨k + 1, by omega, rfl, ?_, (hb.trans b1).trans b2⟩
        refine Or.inr ?_
        rw [← hexB_snoc h k (by omega), Lib.byteCells_append, Lib.byteCells_append]
        have e1 := hex_get (h[k].toNat / 16) (by omega)
        have e2 := hex_get (h[k].toNat % 16) (by omega)
        rw [← e1, ← e2]
        exact h2
      case measure => simp [intOf]; omega
    · obtain rfl : k = 32 := by omega
      go_wp2_with (go_at_call 70; refine (Tryd.Builder_String_any (w.heap.size + 1) (w.heap.size + 1) (hexB (h.take 32)) _ hI (by simp at hsz; omega)).mono ?_)
      rintro e W1 ⟨rfl, b1⟩
      go_wp2
      go_ret
      rw [List.take_of_length_le (by omega)]
      refine ⟨rfl, ?_⟩
      exact (((Below.refl w.heap.size w).alloc (Nat.le_refl _) _).trans ((hb.trans b1).mono (by omega)))
end Go.Proofs
namespace Go.WL.T4
open Go.WL Go.Proofs
set_option maxRecDepth 20000
abbrev n32 (b : BitVec 32) : Int := (b.toNat : Int)

theorem ofn32 (a : BitVec 32) : BitVec.ofInt 32 (n32 a) = a := by
  simp [n32]
theorem r32 (a : BitVec 32) : 0 ≤ n32 a ∧ n32 a < 4294967296 := by
  have := a.isLt
  show 0 ≤ (a.toNat : Int) ∧ (a.toNat : Int) < 4294967296
  omega
theorem wn32 (a : BitVec 32) : IntKind.u32.wrap (n32 a) = n32 a := wu32 (r32 a).1 (r32 a).2
theorem xor32 (a b : BitVec 32) : IntKind.u32.wrap ((BitVec.ofInt IntKind.u32.bits (n32 a) ^^^ BitVec.ofInt IntKind.u32.bits (n32 b)).toNat : Int) = n32 (a ^^^ b) := by
  show IntKind.u32.wrap ((BitVec.ofInt 32 (n32 a) ^^^ BitVec.ofInt 32 (n32 b)).toNat : Int) = _
  rw [ofn32, ofn32]
  exact wn32 _
theorem and32 (a b : BitVec 32) : IntKind.u32.wrap ((BitVec.ofInt IntKind.u32.bits (n32 a) &&& BitVec.ofInt IntKind.u32.bits (n32 b)).toNat : Int) = n32 (a &&& b) := by
  show IntKind.u32.wrap ((BitVec.ofInt 32 (n32 a) &&& BitVec.ofInt 32 (n32 b)).toNat : Int) = _
  rw [ofn32, ofn32]
  exact wn32 _
theorem shl32 (a : BitVec 32) (k : Nat) : IntKind.u32.wrap (n32 a * 2 ^ k) = n32 (a <<< k) := by
  simp only [IntKind.wrap, IntKind.signed, IntKind.bits, n32, BitVec.toNat_shiftLeft, Nat.shiftLeft_eq, Bool.false_and, Bool.false_eq_true, if_false]
  norm_cast
theorem c32 (c : UInt8) : IntKind.u32.wrap (c.toNat : Int) = n32 (c.toBitVec.setWidth 32) := by
  have h := c.toNat_lt
  rw [wu32 (by omega) (by omega)]
  simp [n32]
theorem add32 (a b : BitVec 32) : IntKind.u32.wrap (n32 a + n32 b) = n32 (a + b) := by
  simp only [IntKind.wrap, IntKind.signed, IntKind.bits, n32, BitVec.toNat_add, Bool.false_and, Bool.false_eq_true, if_false]
  norm_cast
theorem or32 (a b : BitVec 32) : IntKind.u32.wrap ((BitVec.ofInt IntKind.u32.bits (n32 a) ||| BitVec.ofInt IntKind.u32.bits (n32 b)).toNat : Int) = n32 (a ||| b) := by
  show IntKind.u32.wrap ((BitVec.ofInt 32 (n32 a) ||| BitVec.ofInt 32 (n32 b)).toNat : Int) = _
  rw [ofn32, ofn32]
  exact wn32 _
theorem not32 (a : BitVec 32) : IntKind.u32.wrap ((BitVec.ofInt IntKind.u32.bits 4294967295 ^^^ BitVec.ofInt IntKind.u32.bits (n32 a)).toNat : Int) = n32 (~~~a) := by
  show IntKind.u32.wrap ((BitVec.ofInt 32 4294967295 ^^^ BitVec.ofInt 32 (n32 a)).toNat : Int) = _
  rw [ofn32, show (BitVec.ofInt 32 4294967295 : BitVec 32) = BitVec.allOnes 32 by decide, BitVec.allOnes_xor]
  exact wn32 _
theorem shr32 (a : BitVec 32) (k : Nat) : Int.fdiv (n32 a) (2 ^ k) = n32 (a >>> k) := by
  show Int.fdiv ((a.toNat : Nat) : Int) (2 ^ k) = (((a >>> k).toNat : Nat) : Int)
  rw [BitVec.toNat_ushiftRight, Nat.shiftRight_eq_div_pow, show (2 : Int) ^ k = ((2 ^ k : Nat) : Int) by simp, Int.fdiv_eq_ediv_of_nonneg _ (Int.natCast_nonneg _)]
  rfl
/-- A word, as a value. -/
def w32 (l : List (BitVec 32)) : List AV := l.map fun a => .sc (.int .u32 (n32 a))
theorem w32_len (l : List (BitVec 32)) : (w32 l).length = l.length := by simp [w32]
theorem w32_at {l : List (BitVec 32)} {i : Nat} (h : i < l.length) : (w32 l)[((i : Nat) : Int).toNat]? = some (.sc (.int .u32 (n32 l[i]))) := by simp [w32, h]
/-- A word turned to the right, bit by bit. -/
def ror1 (x : BitVec 32) : BitVec 32 := x >>> 1 ||| x <<< 31
def ror : Nat → BitVec 32 → BitVec 32
  | 0, x => x
  | n + 1, x => ror1 (ror n x)
theorem ror1_bit (x : BitVec 32) (i : Nat) (h : i < 32) : (ror1 x).getLsbD i = x.getLsbD ((i + 1) % 32) := by
  unfold ror1
  simp only [BitVec.getLsbD_or, BitVec.getLsbD_ushiftRight, BitVec.getLsbD_shiftLeft]
  by_cases h1 : i = 31
  · subst h1
    simp
  · rw [Nat.mod_eq_of_lt (by omega)]
    simp [show i < 31 by omega, Nat.add_comm]
theorem ror_bit (n : Nat) (x : BitVec 32) (i : Nat) (h : i < 32) : (ror n x).getLsbD i = x.getLsbD ((i + n) % 32) := by
  induction n generalizing i with
  | zero => rw [ror, Nat.add_zero, Nat.mod_eq_of_lt h]
  | succ n ih =>
    rw [ror, ror1_bit _ _ h, ih _ (Nat.mod_lt _ (by omega))]
    congr 1
    omega
theorem ror_is (n : Nat) (x : BitVec 32) (h0 : 0 < n) (h1 : n < 32) : x <<< (32 - n) ||| x >>> n = ror n x := by
  apply BitVec.eq_of_getLsbD_eq
  intro i hi
  rw [ror_bit n x i hi]
  simp only [BitVec.getLsbD_or, BitVec.getLsbD_ushiftRight, BitVec.getLsbD_shiftLeft]
  by_cases h2 : i + n < 32
  · rw [Nat.mod_eq_of_lt h2]
    simp [show i < 32 - n by omega, Nat.add_comm]
  · rw [show (i + n) % 32 = i - (32 - n) by omega]
    have h3 : ¬ i < 32 - n := by omega
    have h4 : x.getLsbD (n + i) = false := BitVec.getLsbD_of_ge _ _ (by omega)
    simp [hi, h3, h4]
end Go.WL.T4
