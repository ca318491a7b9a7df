/- ShaSteps. No condition. -/
import Derived.Test.YtkcflejbhfaihaaDoorPart12
import Derived.Test.YtkcflejbhfaihaaDoorWordsC
set_option linter.unusedVariables false
set_option linter.unusedSimpArgs false
namespace Go.WL.T4b
open Go.WL Go.Proofs
set_option maxRecDepth 20000
set_option maxHeartbeats 8000000
theorem four_sum (x : BitVec 32) (a b c d : UInt8) (ha : a = UInt8.ofNat (x.toNat / 2 ^ 24)) (hb : b = UInt8.ofNat (x.toNat / 2 ^ 16)) (hc : c = UInt8.ofNat (x.toNat / 2 ^ 8)) (hd : d = UInt8.ofNat (x.toNat / 2 ^ 0)) :
    IntKind.u32.wrap (IntKind.u32.wrap (IntKind.u32.wrap (IntKind.u32.wrap (IntKind.u32.wrap (a.toNat : Int) * 16777216) + IntKind.u32.wrap (IntKind.u32.wrap (b.toNat : Int) * 65536)) + IntKind.u32.wrap (IntKind.u32.wrap (c.toNat : Int) * 256)) + IntKind.u32.wrap (d.toNat : Int)) = n32 x := by
  have hx := x.isLt
  have h1 := a.toNat_lt
  have h2 := b.toNat_lt
  have h3 := c.toNat_lt
  have h4 := d.toNat_lt
  have e1 : a.toNat = x.toNat / 16777216 := by rw [ha, UInt8.toNat_ofNat']; omega
  have e2 : b.toNat = x.toNat / 65536 % 256 := by rw [hb, UInt8.toNat_ofNat']
  have e3 : c.toNat = x.toNat / 256 % 256 := by rw [hc, UInt8.toNat_ofNat']
  have e4 : d.toNat = x.toNat % 256 := by rw [hd, UInt8.toNat_ofNat']; simp
  rw [wu32 (x := (a.toNat : Int)) (by omega) (by omega), wu32 (x := (b.toNat : Int)) (by omega) (by omega), wu32 (x := (c.toNat : Int)) (by omega) (by omega), wu32 (x := (d.toNat : Int)) (by omega) (by omega)]
  rw [wu32 (x := (a.toNat : Int) * 16777216) (by omega) (by omega), wu32 (x := (b.toNat : Int) * 65536) (by omega) (by omega), wu32 (x := (c.toNat : Int) * 256) (by omega) (by omega)]
  rw [wu32 (x := (a.toNat : Int) * 16777216 + (b.toNat : Int) * 65536) (by omega) (by omega), wu32 (x := (a.toNat : Int) * 16777216 + (b.toNat : Int) * 65536 + (c.toNat : Int) * 256) (by omega) (by omega), wu32 (by omega) (by omega)]
  show _ = (x.toNat : Int)
  omega
theorem c_shaSteps_aux (b F R : List UInt8) (hFl : b.length < F.length) (hFu : F.length ≤ b.length + 72) (hF : F.length % 64 = 0) (T : Nat → List AV) (h0 : (T 0)[Int.toNat 0]? = some (AV.sc (.int .u32 (1779033703)))) (h7 : (T 0)[Int.toNat 7]? = some (AV.sc (.int .u32 (1541459225)))) (s : List (BitVec 32)) (hs8 : s.length = 8) (hTs : T (F.length / 64) = w32 s) (hR : R = dig s)
    (cst : FnOK Tryd.prog D 26 [] [] (fun r st => r = .ar 8 .lf (T 0) ∧ st = []))
    (ctt : ∀ k, 64 * (k + 1) ≤ F.length → FnOK Tryd.prog D 21 [.ar 8 .lf (T k), .ar 64 .lf (by8 ((F.drop (64 * k)).take 64))] [] (fun r st => r = .ar 8 .lf (T (k + 1)) ∧ st = []))
    (ca : FnOK Tryd.prog D 15 [] [] (fun r st => r = (AV.sc (.bool (true))) ∧ st = []))
    (cf : b.length ≤ 1000 → FnOK Tryd.prog D 20 [(AV.sl .lf (by8 (b)) .ro)] [] (fun r st => r = (AV.sl .lf (by8 (F)) .ro) ∧ st = []))
    (co : b.length ≤ 1000 → FnOK Tryd.prog D 16 [.sl .lf [(AV.sl .lf (by8 (b)) .ro)] .ex] [] (fun r st => r = .ar 32 .lf (by8 R) ∧ st = [])) :
    FnOK Tryd.prog D 5 [(AV.sl .lf (by8 (b)) .ro)] [] (fun r _ => r = (AV.sc (.bool (true)))) := by
  have hlen := len8 b
  have hlF := len8 F
  refine fnok_of_W hmix tabOK Tryd.func5 rfl rfl (Nat.le_of_ble_eq_true rfl) ?_
  conv => whnf
  rw [hlen]
  refine Branch.of (fun h1 => ?_) (fun h1 => ?_) <;> rw [h1] <;> conv => whnf
  · refine (ca).mono fun r st e => ?_
    obtain ⟨rfl, rfl⟩ := e
    conv => whnf
    refine ⟨false, [], ?_⟩
    conv => whnf
  simp only [gt_iff_lt, decide_eq_false_iff_not] at h1
  have hb : b.length ≤ 1000 := by omega
  refine (cf hb).mono fun r st e => ?_
  obtain ⟨rfl, rfl⟩ := e
  conv => whnf
  refine (cst).mono fun r st e => ?_
  obtain ⟨rfl, rfl⟩ := e
  conv => whnf
  rw [hlF]
  repeat (refine And.intro (by first | omega) ?_; conv => whnf)
  rw [show Int.tmod (F.length : Int) 64 = ((F.length % 64 : Nat) : Int) from rfl, hF]
  conv => whnf
  rw [hlF, hlen]
  refine Branch.of (fun hh => ?_) (fun hh => ?_)
  · exfalso; simp only [gt_iff_lt, ge_iff_le, decide_eq_true_eq, decide_eq_false_iff_not, beq_iff_eq, beq_eq_false_iff_ne, bne_iff_ne, bne_eq_false_iff_eq, ne_eq] at hh; first | done | omega | (simp at hh; done)
  try rw [hh]
  clear hh
  conv => whnf
  repeat (refine And.intro (by first | omega) ?_; conv => whnf)
  refine ⟨_, h0, ?_⟩
  conv => whnf
  repeat (refine And.intro (by first | omega) ?_; conv => whnf)
  refine ⟨_, h7, ?_⟩
  conv => whnf
  refine ⟨false, [0, 3, 4, 5], fun τ => ∃ (k : Nat) (z : List AV), 64 * k ≤ F.length ∧ z = T k ∧ τ = ⟨103, [(0, (AV.sl .lf (by8 (b)) .ro)), (3, (AV.sl .lf (by8 (F)) .ro)), (4, .pt 0 []), (5, (AV.sc (.int .i64 (((64 * k : Nat) : Int)))))], ⟨[(.ar 8 .lf z, false)], [], 0⟩⟩, fun τ => (F.length - (slotI τ 5).toNat), ?_, ?_⟩
  · conv => whnf
    exact ⟨0, _, by omega, rfl, rfl⟩
  rintro τ ⟨k, z, hk, hz, rfl⟩
  apply enter1 (fun τ h => h)
  intro kk kA kB
  conv => whnf
  rw [hlF]
  refine Branch.of (fun h2 => ?_) (fun h2 => ?_) <;> rw [h2] <;> conv => whnf
  · simp only [decide_eq_true_eq] at h2
    have hk2 : 64 * (k + 1) ≤ F.length := by omega
    have hll : ((F.drop (64 * k)).take 64).length = 64 := by rw [List.length_take, List.length_drop]; omega
    have ct := ctt k hk2
    rw [← hz] at ct
    have hgl : ∀ j, j < 64 → F.getD (64 * k + j) 0 = ((F.drop (64 * k)).take 64).getD j 0 := by
      intro j hj
      rw [List.getD_eq_getElem?_getD, List.getD_eq_getElem?_getD, List.getElem?_take_of_lt hj, List.getElem?_drop]
    generalize (F.drop (64 * k)).take 64 = L at hll ct hgl
    obtain ⟨Y, hY0, hYa, hYs, hY64⟩ : ∃ Y : Nat → List AV, Y 0 = List.replicate 64 (AV.sc (.int .u8 (0))) ∧ (∀ j, j < 64 → ∃ q : Int, (Y j)[j]? = some (AV.sc (.int .u8 (q)))) ∧ (∀ j, j < 64 → (Y j).set j (AV.sc (.int .u8 (((L.getD j 0).toNat : Int)))) = Y (j + 1)) ∧ Y 64 = by8 L := by
      refine ⟨fun j => by8 (prt L j), by simp [prt, by8], fun j hj => ⟨_, at8n (by rw [prt_len L j hll (by omega)]; omega)⟩, fun j hj => ?_, ?_⟩
      · show (by8 (prt L j)).set j _ = by8 (prt L (j + 1))
        rw [by8_set, prt_set L j hll hj]
      · show by8 (prt L 64) = by8 L
        rw [prt_all L hll]
    refine ⟨false, [0, 3, 4, 5, 6, 7], fun τ => ∃ (j : Nat) (y : List AV), j ≤ 64 ∧ y = Y j ∧ τ = ⟨103, [(0, (AV.sl .lf (by8 (b)) .ro)), (3, (AV.sl .lf (by8 (F)) .ro)), (4, .pt 0 []), (5, (AV.sc (.int .i64 (((64 * k : Nat) : Int))))), (6, .pt 1 []), (7, (AV.sc (.int .i64 ((j : Int)))))], ⟨[(.ar 8 .lf z, false), (.ar 64 .lf y, false)], [], 0⟩⟩, fun τ => 64 - (slotI τ 7).toNat, ?_, ?_⟩
    · conv => whnf
      exact ⟨0, _, by omega, hY0.symm, rfl⟩
    rintro τ ⟨j, y, hj, hy, rfl⟩
    apply enter1 (fun τ h => h)
    intro kj jA jB
    conv => whnf
    refine Branch.of (fun h3 => ?_) (fun h3 => ?_) <;> rw [h3] <;> conv => whnf
    · simp only [decide_eq_true_eq] at h3
      have hj64 : j < 64 := by omega
      rw [w64 (x := ((64 * k : Nat) : Int) + (j : Int)) (by omega) (by omega), show ((64 * k : Nat) : Int) + (j : Int) = ((64 * k + j : Nat) : Int) by omega]
      repeat (refine And.intro (by first | omega) ?_; conv => whnf)
      have hat : (by8 F)[((64 * k + j : Nat) : Int).toNat]? = some (AV.sc (.int .u8 ((L.getD j 0).toNat))) := by
        rw [← hgl j hj64, Int.toNat_natCast, at8n (by omega), List.getD_eq_getElem?_getD, List.getElem?_eq_getElem (by omega)]
        rfl
      refine ⟨_, hat, ?_⟩
      conv => whnf
      repeat (refine And.intro (by first | omega) ?_; conv => whnf)
      obtain ⟨q, hq⟩ := hYa j hj64
      rw [hy, Int.toNat_natCast]
      refine ⟨_, hq, ?_⟩
      conv => whnf
      refine jA _ ?_
      conv => whnf
      rw [hYs j hj64, w64 (x := (j : Int) + 1) (by omega) (by omega)]
      refine ⟨⟨j + 1, _, by omega, rfl, rfl⟩, ?_⟩
      show 64 - ((j : Int) + 1).toNat < 64 - (j : Int).toNat
      omega
    · simp only [decide_eq_false_iff_not] at h3
      exact jB (show j = 64 by omega)
    intro e
    subst e
    rw [hy, hY64]
    conv => whnf
    refine ct.mono fun r st e => ?_
    obtain ⟨rfl, rfl⟩ := e
    conv => whnf
    refine kA _ ?_
    conv => whnf
    rw [w64 (x := ((64 * k : Nat) : Int) + 64) (by omega) (by omega)]
    refine ⟨⟨k + 1, _, by omega, rfl, rfl⟩, ?_⟩
    show F.length - (((64 * k : Nat) : Int) + 64).toNat < F.length - (((64 * k : Nat) : Int)).toNat
    omega
  · simp only [decide_eq_false_iff_not] at h2
    exact kB (show ¬ (((64 * k : Nat) : Int)) < (F.length : Int) from h2)
  intro h2
  have hkk : k = F.length / 64 := by omega
  have hsl := hs8
  rw [hkk, hTs] at hz
  have hRl : R.length = 32 := by rw [hR, dig_len, hsl]
  have hRat : ∀ j, j < 32 → R.getD j 0 = UInt8.ofNat ((s.getD (j / 4) 0#32).toNat / 2 ^ (24 - 8 * (j % 4))) := by
    intro j hj
    rw [hR]
    exact dig_at s j (by omega)
  subst hz
  conv => whnf
  refine (co hb).mono fun r st e => ?_
  obtain ⟨rfl, rfl⟩ := e
  conv => whnf
  refine ⟨false, [4, 8, 9], fun τ => ∃ j : Nat, j ≤ 8 ∧ τ = ⟨103, [(4, .pt 0 []), (8, .pt 1 []), (9, (AV.sc (.int .i64 ((j : Int)))))], ⟨[(.ar 8 .lf (w32 s), false), (.ar 32 .lf (by8 R), false)], [], 0⟩⟩, fun τ => 8 - (slotI τ 9).toNat, ?_, ?_⟩
  · conv => whnf
    exact ⟨0, by omega, rfl⟩
  rintro τ ⟨j, hj, rfl⟩
  apply enter1 (fun τ h => h)
  intro kj jA jB
  conv => whnf
  refine Branch.of (fun h4 => ?_) (fun h4 => ?_) <;> rw [h4] <;> conv => whnf
  · simp only [decide_eq_true_eq] at h4
    have hj8 : j < 8 := by omega
    have hat : ∀ q : Nat, q < 32 → (by8 R)[q]? = some (AV.sc (.int .u8 ((R.getD q 0).toNat))) := by
      intro q hq
      rw [at8n (by omega), List.getD_eq_getElem?_getD, List.getElem?_eq_getElem (by omega)]
      rfl
    refine ⟨tabF5R20, by decide +kernel, ?_⟩
    conv => whnf
    rw [w64 (x := 4 * (j : Int)) (by omega) (by omega), show 4 * (j : Int) = ((4 * j : Nat) : Int) by omega]
    repeat (refine And.intro (by first | omega) ?_; conv => whnf)
    rw [Int.toNat_natCast]
    refine ⟨_, hat (4 * j) (by omega), ?_⟩
    conv => whnf
    rw [w64 (x := 4 * (j : Int)) (by omega) (by omega), show 4 * (j : Int) = ((4 * j : Nat) : Int) by omega, w64 (x := ((4 * j : Nat) : Int) + 1) (by omega) (by omega), show ((4 * j : Nat) : Int) + 1 = ((4 * j + 1 : Nat) : Int) by omega]
    repeat (refine And.intro (by first | omega) ?_; conv => whnf)
    rw [Int.toNat_natCast]
    refine ⟨_, hat (4 * j + 1) (by omega), ?_⟩
    conv => whnf
    rw [w64 (x := 4 * (j : Int)) (by omega) (by omega), show 4 * (j : Int) = ((4 * j : Nat) : Int) by omega, w64 (x := ((4 * j : Nat) : Int) + 2) (by omega) (by omega), show ((4 * j : Nat) : Int) + 2 = ((4 * j + 2 : Nat) : Int) by omega]
    repeat (refine And.intro (by first | omega) ?_; conv => whnf)
    rw [Int.toNat_natCast]
    refine ⟨_, hat (4 * j + 2) (by omega), ?_⟩
    conv => whnf
    rw [w64 (x := 4 * (j : Int)) (by omega) (by omega), show 4 * (j : Int) = ((4 * j : Nat) : Int) by omega, w64 (x := ((4 * j : Nat) : Int) + 3) (by omega) (by omega), show ((4 * j : Nat) : Int) + 3 = ((4 * j + 3 : Nat) : Int) by omega]
    repeat (refine And.intro (by first | omega) ?_; conv => whnf)
    rw [Int.toNat_natCast]
    refine ⟨_, hat (4 * j + 3) (by omega), ?_⟩
    conv => whnf
    have hsj : s.getD j 0#32 = s[j] := by rw [List.getD_eq_getElem?_getD, List.getElem?_eq_getElem (by omega)]; rfl
    have g : ∀ q, q < 4 → R.getD (4 * j + q) 0 = UInt8.ofNat (s[j].toNat / 2 ^ (24 - 8 * q)) := by
      intro q hq
      rw [hRat (4 * j + q) (by omega), show (4 * j + q) / 4 = j by omega, show (4 * j + q) % 4 = q by omega, hsj]
    have g0 := g 0 (by omega)
    rw [Nat.add_zero] at g0
    refine swap (four_sum s[j] _ _ _ _ g0 (g 1 (by omega)) (g 2 (by omega)) (g 3 (by omega))) ?_
    intro v hv
    repeat (refine And.intro (by first | omega) ?_; conv => whnf)
    refine ⟨_, w32_at (l := s) (i := j) (by omega), ?_⟩
    conv => whnf
    rw [show (v != n32 s[j]) = false by rw [hv]; simp]
    conv => whnf
    refine jA _ ?_
    conv => whnf
    rw [w64 (x := (j : Int) + 1) (by omega) (by omega)]
    refine ⟨⟨j + 1, by omega, rfl⟩, ?_⟩
    show 8 - ((j : Int) + 1).toNat < 8 - (j : Int).toNat
    omega
  · exact jB trivial
  intro _
  conv => whnf
  refine (ca).mono fun r st e => ?_
  obtain ⟨rfl, rfl⟩ := e
  conv => whnf
  refine ⟨false, [], ?_⟩
  conv => whnf
theorem c_shaSteps (b : List UInt8) : FnOK Tryd.prog D 5 [(AV.sl .lf (by8 (b)) .ro)] [] (fun r _ => r = (AV.sc (.bool (true)))) := by
  have hl : (fill b).length = b.length + (endB b.length).length := by rw [fill, List.length_append]
  have h1 := endB_len b.length
  have h2 : 0 < (endB b.length).length := by
    unfold endB
    rw [List.length_append, be8_len]
    omega
  refine c_shaSteps_aux b (fill b) (shaB b) (by omega) (by omega) (fill_len b) (fun k => w32 (steps (fill b) k)) rfl rfl (steps (fill b) ((fill b).length / 64)) (steps_len _ _) rfl rfl c_start (fun k hk => c_turnP (steps (fill b) k) _ (steps_len _ k) (by rw [List.length_take, List.length_drop]; omega)) c_awake2 (fun hb => c_fill b (by omega)) (fun hb => ?_)
  have := c_sha [b] (by simp) (by simp; omega) (m := .ex) (.inl rfl) (Weaks.refl _)
  rw [show [b].flatten = b by simp] at this
  exact this
end Go.WL.T4b
