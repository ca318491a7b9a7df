/- Hex digits of a sum, by the reference. No condition. -/
import Derived.Test.YtkcflejbhfaihaaDoorPart12
set_option linter.unusedVariables false
set_option linter.unusedSimpArgs false
namespace Go.WL.T4
open Go.WL Go.Proofs
set_option maxRecDepth 20000
set_option maxHeartbeats 8000000
/-- Bytes, as a string. -/
def strB (l : List UInt8) : ByteArray := ⟨l.toArray⟩
theorem strB_app (a b : List UInt8) : strB a ++ strB b = strB (a ++ b) := by
  apply ByteArray.ext
  simp [strB]
theorem strB_size (l : List UInt8) : (strB l).size = l.length := by simp [strB, ByteArray.size]
theorem strB_list (l : List UInt8) : (strB l).toList = l := by rw [ByteArray.toList_eq]; simp [strB]
def hexd (n : Nat) : UInt8 := UInt8.ofNat (if n < 10 then 48 + n else 87 + n)
theorem hex_ext : ∀ n : Fin 16, (({ data := #[48, 49, 50, 51, 52, 53, 54, 55, 56, 57, 97, 98, 99, 100, 101, 102] } : ByteArray).extract n.val (n.val + 1)).data.toList = [hexd n.val] := by decide +kernel
theorem hex_at (n : Nat) (h : n < 16) : ({ data := #[48, 49, 50, 51, 52, 53, 54, 55, 56, 57, 97, 98, 99, 100, 101, 102] } : ByteArray).extract n (n + 1) = strB [hexd n] := by
  apply ByteArray.ext
  apply Array.toList_inj.1
  rw [hex_ext ⟨n, h⟩]
  rfl
def hexB (l : List UInt8) : List UInt8 := l.flatMap fun c => [hexd (c.toNat / 16), hexd (c.toNat % 16)]
theorem hexB_len (l : List UInt8) : (hexB l).length = 2 * l.length := by
  induction l with
  | nil => rfl
  | cons c l ih =>
    have : hexB (c :: l) = [hexd (c.toNat / 16), hexd (c.toNat % 16)] ++ hexB l := rfl
    have h2 : ([hexd (c.toNat / 16), hexd (c.toNat % 16)] : List UInt8).length = 2 := rfl
    have h3 := congrArg List.length this
    rw [List.length_append] at h3
    have h4 : (c :: l).length = l.length + 1 := rfl
    omega
theorem hexB_snoc (l : List UInt8) (i : Nat) (h : i < l.length) : hexB (l.take i) ++ [hexd (l[i].toNat / 16)] ++ [hexd (l[i].toNat % 16)] = hexB (l.take (i + 1)) := by
  rw [List.take_succ_eq_append_getElem h, hexB, hexB, List.flatMap_append, List.append_assoc]
  rfl
theorem c_hexR (h : List UInt8) (hl : h.length = 32) : FnOK Tryd.prog D 30 [.ar 32 .lf (by8 h)] [] (fun r st => r = .sc (.string (strB (hexB h))) ∧ st = []) := by
  refine fnok_of_W hmix tabOK Tryd.func30 rfl rfl (Nat.le_of_ble_eq_true rfl) ?_
  conv => whnf
  refine ⟨false, [1, 3, 4, 5], fun τ => ∃ (i : Nat) (s : ByteArray), i ≤ 32 ∧ s = strB (hexB (h.take i)) ∧ τ = ⟨36, [(1, .pt 0 []), (3, .sc (.string { data := #[48, 49, 50, 51, 52, 53, 54, 55, 56, 57, 97, 98, 99, 100, 101, 102] })), (4, .sc (.string s)), (5, (AV.sc (.int .i64 ((i : Int)))))], ⟨[(.ar 32 .lf (by8 h), false)], [], 0⟩⟩, fun τ => 32 - (slotI τ 5).toNat, ?_, ?_⟩
  · conv => whnf
    exact ⟨0, _, by omega, rfl, rfl⟩
  rintro τ ⟨i, s, hi, hs, rfl⟩
  have hss : s.size = 2 * i := by rw [hs, strB_size, hexB_len, List.length_take]; omega
  conv => whnf
  refine Branch.of (fun h1 => ?_) (fun h1 => ?_) <;> rw [h1] <;> conv => whnf
  · simp only [decide_eq_true_eq] at h1
    have hi32 : i < h.length := by omega
    have hc := h[i].toNat_lt
    refine ⟨tabF30R6, by decide +kernel, ?_⟩
    conv => whnf
    repeat (refine And.intro (by first | omega) ?_; conv => whnf)
    rw [Int.toNat_natCast]
    refine ⟨_, at8n hi32, ?_⟩
    conv => whnf
    repeat (refine And.intro (by first | omega) ?_; conv => whnf)
    refine ⟨_, at8n hi32, ?_⟩
    conv => whnf
    have hq : IntKind.u8.wrap (Int.tdiv (h[i].toNat : Int) 16) = ((h[i].toNat / 16 : Nat) : Int) := by
      rw [show Int.tdiv (h[i].toNat : Int) 16 = ((h[i].toNat / 16 : Nat) : Int) from rfl]
      exact wu8 (by omega) (by omega)
    have hq1 : IntKind.u8.wrap (((h[i].toNat / 16 : Nat) : Int) + 1) = ((h[i].toNat / 16 + 1 : Nat) : Int) := wu8 (by omega) (by omega)
    have hr1 : IntKind.u8.wrap (((h[i].toNat % 16 : Nat) : Int) + 1) = ((h[i].toNat % 16 + 1 : Nat) : Int) := wu8 (by omega) (by omega)
    rw [hq]
    repeat (refine And.intro (by first | omega) ?_; conv => whnf)
    rw [hq1]
    refine And.intro (by show _ ≤ 16; omega) ?_
    conv => whnf
    rw [Int.toNat_natCast, Int.toNat_natCast, hex_at _ (by omega)]
    refine And.intro (by rw [strB_size, hss]; show _ + 1 < _; omega) ?_
    conv => whnf
    repeat (refine And.intro (by first | omega) ?_; conv => whnf)
    rw [Int.toNat_natCast]
    refine ⟨_, at8n hi32, ?_⟩
    conv => whnf
    repeat (refine And.intro (by first | omega) ?_; conv => whnf)
    refine ⟨_, at8n hi32, ?_⟩
    conv => whnf
    rw [show Int.tmod (h[i].toNat : Int) 16 = ((h[i].toNat % 16 : Nat) : Int) from rfl]
    repeat (refine And.intro (by first | omega) ?_; conv => whnf)
    rw [hr1]
    repeat (refine And.intro (by first | omega) ?_; conv => whnf)
    refine And.intro (by show _ ≤ 16; omega) ?_
    conv => whnf
    rw [Int.toNat_natCast, Int.toNat_natCast, hex_at _ (by omega)]
    refine And.intro (by rw [ByteArray.size_append, strB_size, strB_size, hss]; show _ + 1 + 1 < _; omega) ?_
    conv => whnf
    rw [w64 (x := (i : Int) + 1) (by omega) (by omega)]
    refine ⟨⟨i + 1, _, by omega, ?_, rfl⟩, ?_⟩
    · rw [hs, strB_app, strB_app, hexB_snoc h i hi32]
    · show 32 - ((i : Int) + 1).toNat < 32 - (i : Int).toNat
      omega
  · simp only [decide_eq_false_iff_not] at h1
    have e : i = 32 := by omega
    subst e
    rw [List.take_of_length_le (by omega)] at hs
    subst hs
    refine ⟨false, [], ?_⟩
    conv => whnf
    exact ⟨rfl, rfl⟩
end Go.WL.T4
