/- Receipts: put and got. No condition. -/
import Derived.Test.YtkcflejbhfaihaaDoorPart28
set_option linter.unusedVariables false
set_option linter.unusedSimpArgs false
namespace Go.WL.T4
open Go.WL Go.Proofs
set_option maxRecDepth 20000
set_option maxHeartbeats 8000000
theorem c_num' (b : List UInt8) (n : Nat) (hb : b.length < 4000000000) (hn : n < 18446744073709551616) {m : Mark} (hm : m = .ex ∨ m = .ro) : FnOK Tryd.prog D 100 [.sl .lf (by8 b) m, (AV.sc (.int .u64 ((n : Int))))] [] (fun r st => r = (AV.sl .lf (by8 (b ++ num n)) (.own 0)) ∧ st = []) := c_num b n hb hn hm
theorem c_hashnil (g : List UInt8) (hg : g.length = 32) : FnOK Tryd.prog D 99 [.sl .lf [] .ex, .ar 32 .lf (by8 g)] [] (fun r st => r = (AV.sl .lf (by8 (g)) (.own 0)) ∧ st = []) := by
  have := c_hash0 [] g (by simp) hg
  rw [List.nil_append] at this
  exact this.weak (.cons (.sl (.inl rfl) (Weaks.refl _)) (.cons (.refl _) .nil))
/-- What a receipt is put as. -/
def putR (g : List UInt8) (h p c : Nat) : List UInt8 := g ++ (num h ++ (num p ++ num c))
theorem c_put_no (g : List UInt8) (h p c : Int) (hm : mayR h p c = false) : FnOK Tryd.prog D 87 [.st [.ar 32 .lf (by8 g), (AV.sc (.int .i64 (h))), (AV.sc (.int .i64 (p))), (AV.sc (.int .i64 (c)))]] [] (fun r st => r = .tup [.sl .lf [] .ex, (AV.sc (.int .i64 (1)))] ∧ st = []) := by
  have c1 := c_may g h p c
  rw [hm] at c1
  refine fnok_of_W hmix tabOK Tryd.func87 rfl rfl (Nat.le_of_ble_eq_true rfl) ?_
  conv => whnf
  refine c1.mono fun r st e => ?_
  obtain ⟨rfl, rfl⟩ := e
  conv => whnf
  refine ⟨false, [], ?_⟩
  conv => whnf
  exact ⟨rfl, rfl⟩
theorem c_put_yes (g : List UInt8) (h p c : Nat) (hg : g.length = 32) (hm : mayR h p c = true) : FnOK Tryd.prog D 87 [.st [.ar 32 .lf (by8 g), (AV.sc (.int .i64 ((h : Int)))), (AV.sc (.int .i64 ((p : Int)))), (AV.sc (.int .i64 ((c : Int))))]] [] (fun r st => r = .tup [(AV.sl .lf (by8 (putR g h p c)) (.own 0)), (AV.sc (.int .i64 (0)))] ∧ st = []) := by
  have c1 := c_may g h p c
  rw [hm] at c1
  rw [mayR_eq, decide_eq_true_eq] at hm
  refine fnok_of_W hmix tabOK Tryd.func87 rfl rfl (Nat.le_of_ble_eq_true rfl) ?_
  conv => whnf
  refine c1.mono fun r st e => ?_
  obtain ⟨rfl, rfl⟩ := e
  conv => whnf
  refine (c_hashnil g hg).mono fun r st e => ?_
  obtain ⟨rfl, rfl⟩ := e
  conv => whnf
  refine ⟨false, [4, 19, 20, 21], fun τ => ∃ i : Nat, i ≤ 3 ∧ τ = ⟨31, [(4, (AV.sl .lf (by8 (g ++ (([h, p, c] : List Nat).take i).flatMap num)) (.own 0))), (19, .sl .lf [(AV.sc (.int .i64 ((h : Int)))), (AV.sc (.int .i64 ((p : Int)))), (AV.sc (.int .i64 ((c : Int))))] .ex), (20, (AV.sc (.int .i64 (3)))), (21, (AV.sc (.int .i64 ((i : Int)))))], ⟨[(.st [.ar 32 .lf (by8 g), (AV.sc (.int .i64 ((h : Int)))), (AV.sc (.int .i64 ((p : Int)))), (AV.sc (.int .i64 ((c : Int))))], false)], [0], 1⟩⟩, fun τ => 3 - (slotI τ 21).toNat, ?_, ?_⟩
  · conv => whnf
    exact ⟨0, by omega, by rw [List.take_zero, List.flatMap_nil, List.append_nil]; rfl⟩
  · rintro τ ⟨i, hi, rfl⟩
    have hat : ∀ (hi : i < 3), ([(AV.sc (.int .i64 ((h : Int)))), (AV.sc (.int .i64 ((p : Int)))), (AV.sc (.int .i64 ((c : Int))))] : List AV)[((i : Nat) : Int).toNat]? = some ((AV.sc (.int .i64 (((([h, p, c] : List Nat)[i] : Nat) : Int))))) := by
      intro hi
      rw [Int.toNat_natCast]
      match i, hi with
      | 0, _ => rfl
      | 1, _ => rfl
      | 2, _ => rfl
    have hls : ∀ (hi : i < 3), ([h, p, c] : List Nat).take (i + 1) = ([h, p, c] : List Nat).take i ++ [([h, p, c] : List Nat)[i]] := fun hi => List.take_succ_eq_append_getElem (by simpa using hi)
    have hle : ∀ (hi : i < 3), ([h, p, c] : List Nat)[i] < 1099511627777 := by
      intro hi
      match i, hi with
      | 0, _ => show h < _; omega
      | 1, _ => show p < _; omega
      | 2, _ => show c < _; omega
    have hlen : ((([h, p, c] : List Nat).take i).flatMap num).length ≤ 30 := by
      have h1 := num_ten (n := h) (by omega)
      have h2 := num_ten (n := p) (by omega)
      have h3 := num_ten (n := c) (by omega)
      match i, hi with
      | 0, _ => simp
      | 1, _ => simp; omega
      | 2, _ => simp; omega
      | 3, _ => simp; omega
    conv => whnf
    refine Branch.of (fun h3 => ?_) (fun h3 => ?_) <;> rw [h3] <;> conv => whnf
    · simp only [decide_eq_true_eq] at h3
      have hi3 : i < 3 := by omega
      refine ⟨by omega, _, hat hi3, ?_⟩
      have hls := hls hi3
      have hle := hle hi3
      generalize ([h, p, c] : List Nat)[i] = k at hls hle
      conv => whnf
      rw [wu64 (x := ((k : Nat) : Int)) (by omega) (by omega)]
      refine (c_num _ k (by rw [List.length_append]; omega) (by omega) (.inr rfl)).mono fun r st e => ?_
      obtain ⟨rfl, rfl⟩ := e
      conv => whnf
      rw [w64 (x := (i : Int) + 1) (by omega) (by omega)]
      refine ⟨⟨i + 1, by omega, ?_⟩, ?_⟩
      · rw [hls, List.flatMap_append, List.append_assoc]
        simp
      · show 3 - ((i : Int) + 1).toNat < 3 - (i : Int).toNat
        omega
    · simp only [decide_eq_false_iff_not] at h3
      have e : i = 3 := by omega
      subst e
      refine ⟨false, [], ?_⟩
      conv => whnf
      refine ⟨?_, rfl⟩
      congr 4
      simp [putR]
theorem num_one {n : Nat} (h : n < 128) : num n = [UInt8.ofNat n] := num_low h
theorem c_refbytes (g : List UInt8) (h p c : Nat) (hg : g.length = 32) (hm : mayR h p c = true) : FnOK Tryd.prog D 61 [.st [.ar 32 .lf (by8 g), (AV.sc (.int .i64 ((h : Int)))), (AV.sc (.int .i64 ((p : Int)))), (AV.sc (.int .i64 ((c : Int))))]] [] (fun r st => r = (AV.sl .lf (by8 (putR g h p c)) (.own 0)) ∧ st = []) := by
  rw [mayR_eq, decide_eq_true_eq] at hm
  refine fnok_of_W hmix tabOK Tryd.func61 rfl rfl (Nat.le_of_ble_eq_true rfl) ?_
  conv => whnf
  refine ⟨tabF61R1, by decide +kernel, ?_⟩
  conv => whnf
  refine ⟨_, _, c_hbytes g hg, ?_⟩
  conv => whnf
  rw [wu64 (x := ((h : Nat) : Int)) (by omega) (by omega)]
  refine ⟨_, _, c_refnum h (by omega), ?_⟩
  conv => whnf
  have h1 := num_ten (n := h) (by omega)
  refine ⟨by rw [len8, len8]; omega, ?_⟩
  conv => whnf
  rw [by8_app]
  refine ⟨by rw [len8]; simp; omega, ?_⟩
  conv => whnf
  rw [w8n (n := p) (by omega), w8n (n := c) (by omega)]
  have e2 : by8 (g ++ num h) ++ [AV.sc (.int .u8 ((p : Nat) : Int)), AV.sc (.int .u8 ((c : Nat) : Int))] = by8 (putR g h p c) := by
    rw [sc8 (n := p) (by omega), sc8 (n := c) (by omega), putR, num_one (n := p) (by omega), num_one (n := c) (by omega)]
    simp [by8]
  rw [e2]
  refine ⟨false, [], ?_⟩
  conv => whnf
  exact ⟨rfl, rfl⟩
end Go.WL.T4
