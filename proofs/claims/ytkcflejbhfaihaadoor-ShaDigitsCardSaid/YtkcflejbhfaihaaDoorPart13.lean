/- Digits read, by the program and the reference. No condition. -/
import Derived.Test.YtkcflejbhfaihaaDoorPart12
set_option linter.unusedVariables false
set_option linter.unusedSimpArgs false
namespace Go.WL.T4b
open Go.WL Go.Proofs
set_option maxRecDepth 20000
set_option maxHeartbeats 8000000
/-- Where a digit stands among the sixteen; below 0: nowhere. -/
def digs : List UInt8 := [48, 49, 50, 51, 52, 53, 54, 55, 56, 57, 97, 98, 99, 100, 101, 102]
def ixd (c : UInt8) : Int := Lib.indexByte digs c
theorem ixd_all : ∀ c : Fin 256, (ixd (UInt8.ofNat c.val) = -1 ∧ ∀ n : Fin 16, hexd n.val ≠ UInt8.ofNat c.val) ∨ (0 ≤ ixd (UInt8.ofNat c.val) ∧ ixd (UInt8.ofNat c.val) < 16 ∧ hexd (ixd (UInt8.ofNat c.val)).toNat = UInt8.ofNat c.val) := by decide +kernel
theorem ixd_is (c : UInt8) : (ixd c = -1 ∧ ∀ n, n < 16 → hexd n ≠ c) ∨ ∃ n : Nat, n < 16 ∧ ixd c = n ∧ hexd n = c := by
  have := ixd_all ⟨c.toNat, c.toNat_lt⟩
  simp only [UInt8.ofNat_toNat] at this
  rcases this with ⟨h1, h2⟩ | ⟨h1, h2, h3⟩
  · exact .inl ⟨h1, fun n hn => h2 ⟨n, hn⟩⟩
  · exact .inr ⟨(ixd c).toNat, by omega, by omega, h3⟩
theorem hexB_at : ∀ (g : List UInt8) (k : Nat) (h : k < g.length), (hexB g)[2 * k]? = some (hexd (g[k].toNat / 16)) ∧ (hexB g)[2 * k + 1]? = some (hexd (g[k].toNat % 16))
  | [], k, h => by simp at h
  | c :: g, 0, h => by exact ⟨rfl, rfl⟩
  | c :: g, k + 1, h => by
    have := hexB_at g k (by simpa using h)
    have e : hexB (c :: g) = hexd (c.toNat / 16) :: hexd (c.toNat % 16) :: hexB g := rfl
    rw [e, show 2 * (k + 1) = 2 * k + 1 + 1 by omega, List.getElem?_cons_succ, List.getElem?_cons_succ, List.getElem?_cons_succ, List.getElem?_cons_succ, List.getElem_cons_succ]
    exact this
/-- What digits are read as: a hash, or none. -/
def Read (s : List UInt8) (r : AV) : Prop := (∃ g : List UInt8, g.length = 32 ∧ s = hexB g ∧ r = .tup [.ar 32 .lf (by8 g), (AV.sc (.bool (true)))]) ∨ ((∀ g : List UInt8, g.length = 32 → s ≠ hexB g) ∧ r = .tup [.ar 32 .lf (List.replicate 32 (AV.sc (.int .u8 (0)))), (AV.sc (.bool (false)))])
theorem str_at {s : List UInt8} {i : Nat} (h : i < s.length) : (strB s).toList[((i : Nat) : Int).toNat]? = some s[i] := by rw [strB_list, Int.toNat_natCast, List.getElem?_eq_getElem h]
theorem c_ix (c : UInt8) : FnOK Tryd.prog D 68 [.sc (.string { data := #[48, 49, 50, 51, 52, 53, 54, 55, 56, 57, 97, 98, 99, 100, 101, 102] }), (AV.sc (.int .u8 ((c.toNat : Int))))] [] (fun r st => r = (AV.sc (.int .i64 (ixd c))) ∧ st = []) := c_indexByte _ c
theorem c_unhex (s : List UInt8) (hs : s.length < 1000000) : FnOK Tryd.prog D 27 [.sc (.string (strB s))] [] (fun r st => Read s r ∧ st = []) := by
  have hsz := strB_size s
  refine fnok_of_W hmix tabOK Tryd.func27 rfl rfl (Nat.le_of_ble_eq_true rfl) ?_
  conv => whnf
  rw [hsz]
  refine Branch.of (fun h1 => ?_) (fun h1 => ?_) <;> rw [h1] <;> conv => whnf
  · refine ⟨false, [], ?_⟩
    conv => whnf
    refine ⟨.inr ⟨fun g hg e => ?_, rfl⟩, rfl⟩
    simp only [bne_iff_ne, ne_eq] at h1
    rw [e, hexB_len, hg] at h1
    exact h1 rfl
  simp only [bne_eq_false_iff_eq] at h1
  have hl : s.length = 64 := by omega
  refine ⟨false, [0, 2, 4, 12], fun τ => ∃ (i : Nat) (g : List UInt8) (y : List AV), i ≤ 32 ∧ g.length = i ∧ s.take (2 * i) = hexB g ∧ y = by8 (g ++ List.replicate (32 - i) 0) ∧ τ = ⟨42, [(0, .sc (.string (strB s))), (2, .pt 0 []), (4, .pt 1 []), (12, (AV.sc (.int .i64 ((i : Int)))))], ⟨[(.ar 32 .lf (List.replicate 32 (AV.sc (.int .u8 (0)))), false), (.ar 32 .lf y, false)], [], 0⟩⟩, fun τ => 32 - (slotI τ 12).toNat, ?_, ?_⟩
  · conv => whnf
    exact ⟨0, [], _, by omega, rfl, rfl, rfl, rfl⟩
  rintro τ ⟨i, g, y, hi, hg, ht, hy, rfl⟩
  conv => whnf
  refine Branch.of (fun h2 => ?_) (fun h2 => ?_) <;> rw [h2] <;> conv => whnf
  rotate_left
  · simp only [decide_eq_false_iff_not] at h2
    have e : i = 32 := by omega
    subst e
    rw [List.take_of_length_le (by omega)] at ht
    rw [hy, Nat.sub_self, List.replicate_zero, List.append_nil]
    refine ⟨false, [], ?_⟩
    conv => whnf
    exact ⟨.inl ⟨g, hg, ht, rfl⟩, rfl⟩
  simp only [decide_eq_true_eq] at h2
  have hi32 : i < 32 := by omega
  have q0 : 2 * i < s.length := by omega
  have q1 : 2 * i + 1 < s.length := by omega
  have no0 : (∀ n, n < 16 → hexd n ≠ s[2 * i]) → ∀ g : List UInt8, g.length = 32 → s ≠ hexB g := by
    intro hn g hgl he
    have h3 := (hexB_at g i (by omega)).1
    have hb := g[i].toNat_lt
    rw [← he, List.getElem?_eq_getElem q0] at h3
    exact hn (g[i].toNat / 16) (by omega) (Option.some.inj h3).symm
  have no1 : (∀ n, n < 16 → hexd n ≠ s[2 * i + 1]) → ∀ g : List UInt8, g.length = 32 → s ≠ hexB g := by
    intro hn g hgl he
    have h3 := (hexB_at g i (by omega)).2
    have hb := g[i].toNat_lt
    rw [← he, List.getElem?_eq_getElem q1] at h3
    exact hn (g[i].toNat % 16) (by omega) (Option.some.inj h3).symm
  have d0 := ixd_is s[2 * i]
  have d1 := ixd_is s[2 * i + 1]
  refine ⟨tabF27R7, by decide +kernel, ?_⟩
  conv => whnf
  rw [w64 (x := 2 * (i : Int)) (by omega) (by omega), show 2 * (i : Int) = ((2 * i : Nat) : Int) by omega]
  repeat (refine And.intro (by first | omega) ?_; conv => whnf)
  refine ⟨_, str_at q0, ?_⟩
  conv => whnf
  refine ⟨_, _, c_ix s[2 * i], ?_⟩
  conv => whnf
  rw [w64 (x := 2 * (i : Int)) (by omega) (by omega), show 2 * (i : Int) = ((2 * i : Nat) : Int) by omega, w64 (x := ((2 * i : Nat) : Int) + 1) (by omega) (by omega), show ((2 * i : Nat) : Int) + 1 = ((2 * i + 1 : Nat) : Int) by omega]
  repeat (refine And.intro (by first | omega) ?_; conv => whnf)
  refine ⟨_, str_at q1, ?_⟩
  conv => whnf
  refine ⟨_, _, c_ix s[2 * i + 1], ?_⟩
  conv => whnf
  rcases d0 with ⟨e0, n0⟩ | ⟨x, hx, e0, f0⟩
  · rw [e0]
    conv => whnf
    refine ⟨false, [], ?_⟩
    conv => whnf
    exact ⟨.inr ⟨no0 n0, rfl⟩, rfl⟩
  rw [e0]
  conv => whnf
  rcases d1 with ⟨e1, n1⟩ | ⟨z, hz, e1, f1⟩
  · rw [e1]
    conv => whnf
    refine ⟨false, [], ?_⟩
    conv => whnf
    exact ⟨.inr ⟨no1 n1, rfl⟩, rfl⟩
  rw [e1]
  conv => whnf
  repeat (refine And.intro (by first | omega) ?_; conv => whnf)
  have hxz : 16 * x + z < 256 := by omega
  rw [w64 (x := 16 * (x : Int)) (by omega) (by omega), w64 (x := 16 * (x : Int) + (z : Int)) (by omega) (by omega), show 16 * (x : Int) + (z : Int) = ((16 * x + z : Nat) : Int) by omega, w8m]
  rw [hy, Int.toNat_natCast]
  have hyl : (g ++ List.replicate (32 - i) 0).length = 32 := by simp; omega
  refine ⟨_, at8n (by rw [hyl]; omega), ?_⟩
  conv => whnf
  rw [by8_set, w64 (x := (i : Int) + 1) (by omega) (by omega)]
  refine ⟨⟨i + 1, g ++ [UInt8.ofNat (16 * x + z)], _, by omega, by simp [hg], ?_, rfl, ?_⟩, ?_⟩
  · have hu : (UInt8.ofNat (16 * x + z)).toNat = 16 * x + z := by rw [UInt8.toNat_ofNat']; omega
    have e : hexB (g ++ [UInt8.ofNat (16 * x + z)]) = hexB g ++ [hexd ((16 * x + z) / 16), hexd ((16 * x + z) % 16)] := by
      rw [hexB, hexB, List.flatMap_append, List.flatMap_singleton, hu]
    rw [e, show (16 * x + z) / 16 = x by omega, show (16 * x + z) % 16 = z by omega, f0, f1, ← ht, show 2 * (i + 1) = 2 * i + 1 + 1 by omega, List.take_succ_eq_append_getElem q1, List.take_succ_eq_append_getElem q0, List.append_assoc]
    rfl
  · congr 4
    rw [List.set_append_right _ _ (by omega), hg, Nat.sub_self, show 32 - i = (32 - (i + 1)) + 1 by omega, List.replicate_succ, List.append_assoc]
    rfl
  · show 32 - ((i : Int) + 1).toNat < 32 - (i : Int).toNat
    omega
end Go.WL.T4b
