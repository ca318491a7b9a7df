/- Receipts: which one bytes are. No condition. -/
import Derived.Test.YtcmdkiejkheahaaDoorPart11
import Derived.Test.YtcmdkiejkheahaaDoorPart14
set_option linter.unusedVariables false
set_option linter.unusedSimpArgs false
namespace Go.WL.T6d
open Go.WL Go.Proofs
set_option maxRecDepth 20000
set_option maxHeartbeats 8000000
theorem c_num' (b : List UInt8) (n : Nat) (hb : b.length < 4000000000) (hn : n < 18446744073709551616) {m : Mark} (hm : m = .ex ∨ m = .ro) : FnOK Tryd.prog D 68 [.sl .lf (by8 b) m, (AV.sc (.int .u64 ((n : Int))))] [] (fun r st => r = (AV.sl .lf (by8 (b ++ num n)) (.own 0)) ∧ st = []) := c_num b n hb hn hm
theorem c_hashnil (g : List UInt8) (hg : g.length = 32) : FnOK Tryd.prog D 85 [.sl .lf [] .ex, .ar 32 .lf (by8 g)] [] (fun r st => r = (AV.sl .lf (by8 (g)) (.own 0)) ∧ st = []) := by
  have := c_hash0 [] g (by simp) hg
  rw [List.nil_append] at this
  exact this.weak (.cons (.sl (.inl rfl) (Weaks.refl _)) (.cons (.refl _) .nil))
/-- What a receipt is put as. -/
def putR (g : List UInt8) (h p c : Nat) : List UInt8 := g ++ (num h ++ (num p ++ num c))
theorem c_put_no (g : List UInt8) (h p c : Int) (hm : mayR h p c = false) : FnOK Tryd.prog D 92 [.st [.ar 32 .lf (by8 g), (AV.sc (.int .i64 (h))), (AV.sc (.int .i64 (p))), (AV.sc (.int .i64 (c)))]] [] (fun r st => r = .tup [.sl .lf [] .ex, (AV.sc (.int .i64 (1)))] ∧ st = []) := by
  have c1 := c_may g h p c
  rw [hm] at c1
  refine fnok_of_W hmix tabOK Tryd.func92 rfl rfl (Nat.le_of_ble_eq_true rfl) ?_
  conv => whnf
  refine c1.mono fun r st e => ?_
  obtain ⟨rfl, rfl⟩ := e
  conv => whnf
  refine ⟨false, [], ?_⟩
  conv => whnf
  exact ⟨rfl, rfl⟩
theorem c_put_yes (g : List UInt8) (h p c : Nat) (hg : g.length = 32) (hm : mayR h p c = true) : FnOK Tryd.prog D 92 [.st [.ar 32 .lf (by8 g), (AV.sc (.int .i64 ((h : Int)))), (AV.sc (.int .i64 ((p : Int)))), (AV.sc (.int .i64 ((c : Int))))]] [] (fun r st => r = .tup [(AV.sl .lf (by8 (putR g h p c)) (.own 0)), (AV.sc (.int .i64 (0)))] ∧ st = []) := by
  have c1 := c_may g h p c
  rw [hm] at c1
  rw [mayR_eq, decide_eq_true_eq] at hm
  refine fnok_of_W hmix tabOK Tryd.func92 rfl rfl (Nat.le_of_ble_eq_true rfl) ?_
  conv => whnf
  refine c1.mono fun r st e => ?_
  obtain ⟨rfl, rfl⟩ := e
  conv => whnf
  refine (c_hashnil g hg).mono fun r st e => ?_
  obtain ⟨rfl, rfl⟩ := e
  conv => whnf
  refine ⟨false, [4, 19, 20, 21], fun τ => ∃ i : Nat, i ≤ 3 ∧ τ = ⟨31, [(4, (AV.sl .lf (by8 (g ++ (([h, p, c] : List Nat).take i).flatMap num)) (.own 0))), (19, .sl .lf [(AV.sc (.int .i64 ((h : Int)))), (AV.sc (.int .i64 ((p : Int)))), (AV.sc (.int .i64 ((c : Int))))] .ex), (20, (AV.sc (.int .i64 (3)))), (21, (AV.sc (.int .i64 ((i : Int)))))], ⟨[(.st [.ar 32 .lf (by8 g), (AV.sc (.int .i64 ((h : Int)))), (AV.sc (.int .i64 ((p : Int)))), (AV.sc (.int .i64 ((c : Int))))], false)], [0], 1⟩⟩, fun τ => 3 - (slotI τ 21).toNat, ?_, ?_⟩
  · conv => whnf
    exact ⟨0, by omega, by rw [List.take_zero, List.flatMap_nil, List.append_nil]; rfl⟩
  · rintro τ ⟨i, hi, rfl⟩
    have hat : ∀ (hi : i < 3), ([(AV.sc (.int .i64 ((h : Int)))), (AV.sc (.int .i64 ((p : Int)))), (AV.sc (.int .i64 ((c : Int))))] : List AV)[((i : Nat) : Int).toNat]? = some ((AV.sc (.int .i64 (((([h, p, c] : List Nat)[i] : Nat) : Int))))) := by
      intro hi
      rw [Int.toNat_natCast]
      match i, hi with
      | 0, _ => rfl
      | 1, _ => rfl
      | 2, _ => rfl
    have hls : ∀ (hi : i < 3), ([h, p, c] : List Nat).take (i + 1) = ([h, p, c] : List Nat).take i ++ [([h, p, c] : List Nat)[i]] := fun hi => List.take_succ_eq_append_getElem (by simpa using hi)
    have hle : ∀ (hi : i < 3), ([h, p, c] : List Nat)[i] < 1099511627777 := by
      intro hi
      match i, hi with
      | 0, _ => show h < _; omega
      | 1, _ => show p < _; omega
      | 2, _ => show c < _; omega
    have hlen : ((([h, p, c] : List Nat).take i).flatMap num).length ≤ 30 := by
      have h1 := num_ten (n := h) (by omega)
      have h2 := num_ten (n := p) (by omega)
      have h3 := num_ten (n := c) (by omega)
      match i, hi with
      | 0, _ => simp
      | 1, _ => simp; omega
      | 2, _ => simp; omega
      | 3, _ => simp; omega
    conv => whnf
    refine Branch.of (fun h3 => ?_) (fun h3 => ?_) <;> rw [h3] <;> conv => whnf
    · simp only [decide_eq_true_eq] at h3
      have hi3 : i < 3 := by omega
      refine ⟨by omega, _, hat hi3, ?_⟩
      have hls := hls hi3
      have hle := hle hi3
      generalize ([h, p, c] : List Nat)[i] = k at hls hle
      conv => whnf
      rw [wu64 (x := ((k : Nat) : Int)) (by omega) (by omega)]
      refine (c_num _ k (by rw [List.length_append]; omega) (by omega) (.inr rfl)).mono fun r st e => ?_
      obtain ⟨rfl, rfl⟩ := e
      conv => whnf
      rw [w64 (x := (i : Int) + 1) (by omega) (by omega)]
      refine ⟨⟨i + 1, by omega, ?_⟩, ?_⟩
      · rw [hls, List.flatMap_append, List.append_assoc]
        simp
      · show 3 - ((i : Int) + 1).toNat < 3 - (i : Int).toNat
        omega
    · simp only [decide_eq_false_iff_not] at h3
      have e : i = 3 := by omega
      subst e
      refine ⟨false, [], ?_⟩
      conv => whnf
      refine ⟨?_, rfl⟩
      congr 4
      simp [putR]
theorem num_one {n : Nat} (h : n < 128) : num n = [UInt8.ofNat n] := num_low h
end Go.WL.T6d
namespace Go.WL.T6d
open Go.WL Go.Proofs
set_option maxRecDepth 20000
set_option maxHeartbeats 8000000
/-- The receipt that bytes are: its parts, and whether there is one. -/
def getF (B : List UInt8) : List UInt8 × Nat × Nat × Nat × Bool :=
  let x1 := fhash B 0 false
  let x2 := fupto B x1.2.1 x1.2.2 1099511627776
  let x3 := fupto B x2.2.1 x2.2.2 7
  let x4 := fupto B x3.2.1 x3.2.2 20
  if x4.2.2 = false ∧ x4.2.1 = B.length ∧ mayR x2.1 x3.1 x4.1 = true then (x1.1, x2.1, x3.1, x4.1, true) else (List.replicate 32 0, 0, 0, 0, false)
def cod (b : Bool) : Int := if b then 0 else 2
theorem fupto_w (B : List UInt8) (a : Nat) (top : Int) : (fupto B a true top).2.2 = true := by
  have h : (fnum B a true).2.2 = true := by unfold fnum; simp
  unfold fupto
  simp [h]
theorem c_get (B : List UInt8) (hB : B.length < 3000000) : FnOK Tryd.prog D 93 [(AV.sl .lf (by8 (B)) .ro)] [] (fun r st => r = .tup [.st [.ar 32 .lf (by8 (getF B).1), (AV.sc (.int .i64 (((getF B).2.1 : Int)))), (AV.sc (.int .i64 (((getF B).2.2.1 : Int)))), (AV.sc (.int .i64 (((getF B).2.2.2.1 : Int))))], (AV.sc (.int .i64 (cod (getF B).2.2.2.2)))] ∧ st = []) := by
  have c1 := c_rhash B false (by omega)
  have k1 := fhash_rhash B 0 false
  have a1 := fhash_at B 0 false (by omega)
  rw [List.drop_zero] at k1
  rw [k1] at c1
  obtain ⟨G, hg⟩ : ∃ G, G = getF B := ⟨_, rfl⟩
  rw [← hg]
  unfold getF at hg
  simp only at hg
  generalize fhash B 0 false = x1 at c1 a1 hg
  obtain ⟨g, p1, w1⟩ := x1
  simp only at c1 a1 hg
  have c2 := c_upto (B.drop p1) w1 1099511627776 (by decide) (by simp; omega)
  have a2 := fupto_at B p1 w1 1099511627776 a1
  rw [fupto_rupto] at c2
  generalize fupto B p1 w1 1099511627776 = x2 at c2 a2 hg
  obtain ⟨h, p2, w2⟩ := x2
  simp only at c2 a2 hg
  have c3 := c_upto (B.drop p2) w2 7 (by decide) (by simp; omega)
  have a3 := fupto_at B p2 w2 7 a2
  rw [fupto_rupto] at c3
  generalize fupto B p2 w2 7 = x3 at c3 a3 hg
  obtain ⟨p, p3, w3⟩ := x3
  simp only at c3 a3 hg
  have c4 := c_upto (B.drop p3) w3 20 (by decide) (by simp; omega)
  have a4 := fupto_at B p3 w3 20 a3
  rw [fupto_rupto] at c4
  generalize fupto B p3 w3 20 = x4 at c4 a4 hg
  obtain ⟨c, p4, w4⟩ := x4
  simp only at c4 a4 hg
  refine fnok_of_W hmix tabOK Tryd.func93 rfl rfl (Nat.le_of_ble_eq_true rfl) ?_
  conv => whnf
  refine (c_read0 B (by omega)).mono fun r st e => ?_
  obtain ⟨rfl, rfl⟩ := e
  conv => whnf
  refine c1.mono fun r st e => ?_
  obtain ⟨rfl, rfl⟩ := e
  conv => whnf
  refine c2.mono fun r st e => ?_
  obtain ⟨rfl, rfl⟩ := e
  conv => whnf
  refine c3.mono fun r st e => ?_
  obtain ⟨rfl, rfl⟩ := e
  conv => whnf
  refine c4.mono fun r st e => ?_
  obtain ⟨rfl, rfl⟩ := e
  conv => whnf
  cases w4 with
  | true =>
    have c5 := c_done (B.drop p4) true
    rw [Bool.not_true, Bool.false_and] at c5
    refine c5.mono fun r st e => ?_
    obtain ⟨rfl, rfl⟩ := e
    conv => whnf
    rw [if_neg (by simp)] at hg
    subst hg
    refine ⟨false, [], ?_⟩
    conv => whnf
    exact ⟨rfl, rfl⟩
  | false =>
    have c5 := c_done (B.drop p4) false
    rw [Bool.not_false, Bool.true_and, empty_at B p4 a4] at c5
    by_cases e4 : p4 = B.length
    · rw [show ((((p4 : Nat) : Int) == ((B.length : Nat) : Int))) = true by rw [e4]; exact beq_self_eq_true _] at c5
      refine c5.mono fun r st e => ?_
      obtain ⟨rfl, rfl⟩ := e
      conv => whnf
      have c6 := c_may g h p c
      cases hmay : mayR h p c with
      | true =>
        rw [hmay] at c6
        refine c6.mono fun r st e => ?_
        obtain ⟨rfl, rfl⟩ := e
        conv => whnf
        rw [if_pos ⟨rfl, e4, hmay⟩] at hg
        subst hg
        refine ⟨false, [], ?_⟩
        conv => whnf
        exact ⟨rfl, rfl⟩
      | false =>
        rw [hmay] at c6
        refine c6.mono fun r st e => ?_
        obtain ⟨rfl, rfl⟩ := e
        conv => whnf
        rw [if_neg (by simp [hmay])] at hg
        subst hg
        refine ⟨false, [], ?_⟩
        conv => whnf
        exact ⟨rfl, rfl⟩
    · rw [show ((((p4 : Nat) : Int) == ((B.length : Nat) : Int))) = false by rw [beq_eq_false_iff_ne]; omega] at c5
      refine c5.mono fun r st e => ?_
      obtain ⟨rfl, rfl⟩ := e
      conv => whnf
      rw [if_neg (by simp [e4])] at hg
      subst hg
      refine ⟨false, [], ?_⟩
      conv => whnf
      exact ⟨rfl, rfl⟩
end Go.WL.T6d
