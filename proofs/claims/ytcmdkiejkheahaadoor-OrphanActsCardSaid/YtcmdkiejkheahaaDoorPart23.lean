/- The sum of a text: the reference's. No condition. -/
import Derived.Test.YtcmdkiejkheahaaDoorPart22
set_option linter.unusedVariables false
set_option linter.unusedSimpArgs false
namespace Go.WL.T6d
open Go.WL Go.Proofs
set_option maxRecDepth 20000
set_option maxHeartbeats 8000000
theorem be8_list (m : Nat) : by8 (be8 m) = [(AV.sc (.int .u8 ((UInt8.ofNat (m / 2 ^ 56)).toNat))), (AV.sc (.int .u8 ((UInt8.ofNat (m / 2 ^ 48)).toNat))), (AV.sc (.int .u8 ((UInt8.ofNat (m / 2 ^ 40)).toNat))), (AV.sc (.int .u8 ((UInt8.ofNat (m / 2 ^ 32)).toNat))), (AV.sc (.int .u8 ((UInt8.ofNat (m / 2 ^ 24)).toNat))), (AV.sc (.int .u8 ((UInt8.ofNat (m / 2 ^ 16)).toNat))), (AV.sc (.int .u8 ((UInt8.ofNat (m / 2 ^ 8)).toNat))), (AV.sc (.int .u8 ((UInt8.ofNat (m / 2 ^ 0)).toNat)))] := by
  simp [by8, be8, List.range, List.range.loop]
theorem sh64 (m k : Nat) (hk : k ≤ 64) (j : Int) (hj : j.toNat = k) : IntKind.u8.wrap (Int.fdiv ((m : Nat) : Int) (2 ^ min j.toNat IntKind.u64.bits)) = ((UInt8.ofNat (m / 2 ^ k)).toNat : Int) := by
  rw [hj, show min k IntKind.u64.bits = k from Nat.min_eq_left hk, show (2 : Int) ^ k = ((2 ^ k : Nat) : Int) by simp, Int.fdiv_eq_ediv_of_nonneg _ (Int.natCast_nonneg _)]
  exact w8m _
theorem c_fillR (b : List UInt8) (hb : b.length < 1000000000) : FnOK Tryd.prog D 111 [(AV.sl .lf (by8 (b)) .ro)] [] (fun r st => r = (AV.sl .lf (by8 (fill b)) (.own 0)) ∧ st = []) := by
  have hfill : fill b = b ++ (128 :: List.replicate ((119 - b.length % 64) % 64) 0) ++ be8 (b.length * 8) := by simp [fill, endB, head]
  have hk : (119 - b.length % 64) % 64 < 64 := Nat.mod_lt _ (by decide)
  have hkm : (b.length + 1 + (119 - b.length % 64) % 64) % 64 = 56 := by omega
  have hko : ∀ j, j ≤ (119 - b.length % 64) % 64 → (b.length + 1 + j) % 64 = 56 → j = (119 - b.length % 64) % 64 := by intro j h1 h2; omega
  have aux : ∀ (G : List UInt8) (k : Nat), G = b ++ (128 :: List.replicate k 0) ++ be8 (b.length * 8) → k < 64 → (b.length + 1 + k) % 64 = 56 → (∀ j, j ≤ k → (b.length + 1 + j) % 64 = 56 → j = k) → FnOK Tryd.prog D 111 [(AV.sl .lf (by8 (b)) .ro)] [] (fun r st => r = (AV.sl .lf (by8 (G)) (.own 0)) ∧ st = []) := by
    intro G k hG hk hkm hko
    refine fnok_of_W hmix tabOK Tryd.func111 rfl rfl (Nat.le_of_ble_eq_true rfl) ?_
    conv => whnf
    refine And.intro (by simp [by8]; try omega) ?_
    conv => whnf
    refine And.intro (by simp [by8]; try omega) ?_
    conv => whnf
    refine ⟨false, [0, 3], fun τ => ∃ j : Nat, j ≤ k ∧ τ = ⟨47, [(0, (AV.sl .lf (by8 (b)) .ro)), (3, (AV.sl .lf (by8 (b ++ (128 :: List.replicate j 0))) (.own 0)))], ⟨[], [0], 1⟩⟩, fun τ => match lookV τ.tm 3 with | some (.sl _ xs _) => b.length + 100 - xs.length | _ => 0, ?_, ?_⟩
    · conv => whnf
      exact ⟨0, by omega, by simp [by8]⟩
    rintro τ ⟨j, hj, rfl⟩
    have hlen : (by8 (b ++ (128 :: List.replicate j 0))).length = b.length + 1 + j := by simp [by8]; omega
    conv => whnf
    repeat (refine And.intro (by first | omega) ?_; conv => whnf)
    rw [hlen, show Int.tmod ((b.length + 1 + j : Nat) : Int) 64 = (((b.length + 1 + j) % 64 : Nat) : Int) from rfl]
    refine Branch.of (fun h1 => ?_) (fun h1 => ?_) <;> rw [h1] <;> conv => whnf
    · simp only [bne_iff_ne, ne_eq] at h1
      have hjk : j < k := by
        rcases Nat.lt_or_ge j k with h | h
        · exact h
        · obtain rfl : j = k := by omega
          exact absurd (by omega) h1
      refine And.intro (by rw [hlen]; simp <;> omega) ?_
      conv => whnf
      refine ⟨⟨j + 1, by omega, ?_⟩, ?_⟩
      · have e : by8 (b ++ (128 :: List.replicate (j + 1) 0)) = by8 (b ++ (128 :: List.replicate j 0)) ++ [(AV.sc (.int .u8 (0)))] := by
          rw [List.replicate_succ']
          simp [by8]
        rw [e]
      · show b.length + 100 - (by8 (b ++ (128 :: List.replicate j 0)) ++ [(AV.sc (.int .u8 (0)))]).length < b.length + 100 - (by8 (b ++ (128 :: List.replicate j 0))).length
        rw [List.length_append, hlen]
        simp only [List.length_cons, List.length_nil]
        omega
    · simp only [bne_eq_false_iff_eq] at h1
      have e : j = k := hko j hj (by omega)
      subst e
      conv => whnf
      rw [len8, wu64 (x := (b.length : Int)) (by omega) (by omega), wu64 (x := (b.length : Int) * 8) (by omega) (by omega), show (b.length : Int) * 8 = ((b.length * 8 : Nat) : Int) by omega]
      repeat (refine And.intro (by first | omega) ?_; conv => whnf)
      refine And.intro (by rw [hlen]; simp <;> omega) ?_
      conv => whnf
      refine ⟨false, [], ?_⟩
      conv => whnf
      refine ⟨?_, rfl⟩
      rw [hG, show by8 (b ++ (128 :: List.replicate j 0) ++ be8 (b.length * 8)) = by8 (b ++ (128 :: List.replicate j 0)) ++ by8 (be8 (b.length * 8)) by simp [by8], be8_list,
        sh64 _ 56 (by decide) 56 rfl, sh64 _ 48 (by decide) 48 rfl, sh64 _ 40 (by decide) 40 rfl, sh64 _ 32 (by decide) 32 rfl, sh64 _ 24 (by decide) 24 rfl, sh64 _ 16 (by decide) 16 rfl, sh64 _ 8 (by decide) 8 rfl, w8m, Nat.pow_zero, Nat.div_one]
  exact aux _ _ hfill hk hkm hko
end Go.WL.T6d
namespace Go.WL.T6d
open Go.WL Go.Proofs
set_option maxRecDepth 20000
set_option maxHeartbeats 8000000
theorem c_refsha_aux (b F R : List UInt8) (hb : b.length < 100000000) (cf : FnOK Tryd.prog D 111 [(AV.sl .lf (by8 (b)) .ro)] [] (fun r st => r = (AV.sl .lf (by8 (F)) (.own 0)) ∧ st = [])) (hF : F.length % 64 = 0) (hFl : F.length ≤ b.length + 72)
    (hsha : R = dig (steps F (F.length / 64))) : FnOK Tryd.prog D 73 [(AV.sl .lf (by8 (b)) .ro)] [] (fun r st => r = .ar 32 .lf (by8 R) ∧ st = []) := by
  refine fnok_of_W hmix tabOK Tryd.func73 rfl rfl (Nat.le_of_ble_eq_true rfl) ?_
  conv => whnf
  refine cf.mono fun r st e => ?_
  obtain ⟨rfl, rfl⟩ := e
  conv => whnf
  refine ⟨false, [2, 3, 4, 5], fun τ => ∃ (k : Nat) (z : List AV), 64 * k ≤ F.length ∧ z = w32 (steps F k) ∧ τ = ⟨54, [(2, .pt 0 []), (3, .pt 1 []), (4, (AV.sl .lf (by8 (F)) (.own 0))), (5, (AV.sc (.int .i64 (((64 * k : Nat) : Int)))))], ⟨[(.ar 32 .lf (List.replicate 32 (AV.sc (.int .u8 (0)))), false), (.ar 8 .lf z, false)], [0], 1⟩⟩, fun τ => (F.length - (slotI τ 5).toNat), ?_, ?_⟩
  · conv => whnf
    exact ⟨0, _, by omega, rfl, rfl⟩
  rintro τ ⟨k, z, hk, hz, rfl⟩
  conv => whnf
  rw [len8]
  refine Branch.of (fun h1 => ?_) (fun h1 => ?_) <;> rw [h1] <;> conv => whnf
  · simp only [decide_eq_true_eq] at h1
    have hk2 : 64 * (k + 1) ≤ F.length := by omega
    have hll : ((F.drop (64 * k)).take 64).length = 64 := by rw [List.length_take, List.length_drop]; omega
    have ct := c_turnR (steps F k) ((F.drop (64 * k)).take 64) (steps_len F k) hll
    rw [← hz, show w32 (turnS (steps F k) ((F.drop (64 * k)).take 64)) = w32 (steps F (k + 1)) from rfl] at ct
    have hgl : ∀ j, j < 64 → F.getD (64 * k + j) 0 = ((F.drop (64 * k)).take 64).getD j 0 := by
      intro j hj
      rw [List.getD_eq_getElem?_getD, List.getD_eq_getElem?_getD, List.getElem?_take_of_lt hj, List.getElem?_drop]
    generalize (F.drop (64 * k)).take 64 = L at hll ct hgl
    refine ⟨false, [2, 3, 4, 5, 6, 7], fun τ => ∃ (j : Nat) (y : List AV), j ≤ 64 ∧ y = by8 (prt L j) ∧ τ = ⟨54, [(2, .pt 0 []), (3, .pt 1 []), (4, (AV.sl .lf (by8 (F)) (.own 0))), (5, (AV.sc (.int .i64 (((64 * k : Nat) : Int))))), (6, .pt 2 []), (7, (AV.sc (.int .i64 ((j : Int)))))], ⟨[(.ar 32 .lf (List.replicate 32 (AV.sc (.int .u8 (0)))), false), (.ar 8 .lf z, false), (.ar 64 .lf y, false)], [0], 1⟩⟩, fun τ => 64 - (slotI τ 7).toNat, ?_, ?_⟩
    · conv => whnf
      exact ⟨0, _, by omega, by simp [prt, by8], rfl⟩
    rintro τ ⟨j, y, hj, hy, rfl⟩
    conv => whnf
    refine Branch.of (fun h2 => ?_) (fun h2 => ?_) <;> rw [h2] <;> conv => whnf
    · simp only [decide_eq_true_eq] at h2
      have hj64 : j < 64 := by omega
      rw [w64 (x := ((64 * k : Nat) : Int) + (j : Int)) (by omega) (by omega), show ((64 * k : Nat) : Int) + (j : Int) = ((64 * k + j : Nat) : Int) by omega]
      repeat (refine And.intro (by first | omega) ?_; conv => whnf)
      have hat : (by8 F)[((64 * k + j : Nat) : Int).toNat]? = some (AV.sc (.int .u8 ((L.getD j 0).toNat))) := by
        rw [← hgl j hj64, Int.toNat_natCast, at8n (by omega), List.getD_eq_getElem?_getD, List.getElem?_eq_getElem (by omega)]
        rfl
      refine ⟨_, hat, ?_⟩
      conv => whnf
      repeat (refine And.intro (by first | omega) ?_; conv => whnf)
      rw [hy, Int.toNat_natCast]
      refine ⟨_, at8n (by rw [prt_len L j hll hj]; omega), ?_⟩
      conv => whnf
      rw [by8_set, prt_set L j hll hj64, w64 (x := (j : Int) + 1) (by omega) (by omega)]
      refine ⟨⟨j + 1, _, by omega, rfl, rfl⟩, ?_⟩
      show 64 - ((j : Int) + 1).toNat < 64 - (j : Int).toNat
      omega
    · simp only [decide_eq_false_iff_not] at h2
      have e : j = 64 := by omega
      subst e
      rw [hy, prt_all L hll]
      conv => whnf
      refine ct.mono fun r st e => ?_
      obtain ⟨rfl, rfl⟩ := e
      conv => whnf
      rw [w64 (x := ((64 * k : Nat) : Int) + 64) (by omega) (by omega)]
      refine ⟨⟨k + 1, _, by omega, rfl, rfl⟩, ?_⟩
      show F.length - (((64 * k : Nat) : Int) + 64).toNat < F.length - (((64 * k : Nat) : Int)).toNat
      omega
  simp only [decide_eq_false_iff_not] at h1
  have hkk : k = F.length / 64 := by omega
  have hsl := steps_len F k
  rw [← hkk] at hsha
  generalize steps F k = s at hz hsha hsl
  have hRl : R.length = 32 := by rw [hsha, dig_len, hsl]
  have hRat : ∀ j, j < 32 → R.getD j 0 = UInt8.ofNat ((s.getD (j / 4) 0#32).toNat / 2 ^ (24 - 8 * (j % 4))) := by
    intro j hj
    rw [hsha]
    exact dig_at s j (by omega)
  subst hz
  conv => whnf
  refine ⟨false, [2, 3, 8, 9], fun τ => ∃ (j : Nat) (y : List AV), j ≤ 32 ∧ y = by8 (R.take j ++ List.replicate (32 - j) 0) ∧ τ = ⟨54, [(2, .pt 0 []), (3, .pt 1 []), (8, .pt 2 []), (9, (AV.sc (.int .i64 ((j : Int)))))], ⟨[(.ar 32 .lf (List.replicate 32 (AV.sc (.int .u8 (0)))), false), (.ar 8 .lf (w32 s), false), (.ar 32 .lf y, false)], [], 0⟩⟩, fun τ => 32 - (slotI τ 9).toNat, ?_, ?_⟩
  · conv => whnf
    exact ⟨0, _, by omega, by simp [by8], rfl⟩
  rintro τ ⟨j, y, hj, hy, rfl⟩
  conv => whnf
  refine Branch.of (fun h3 => ?_) (fun h3 => ?_) <;> rw [h3] <;> conv => whnf
  · simp only [decide_eq_true_eq] at h3
    have hj32 : j < 32 := by omega
    have hs1 : j / 4 < s.length := by omega
    repeat (refine And.intro (by first | omega) ?_; conv => whnf)
    rw [show Int.tdiv (j : Int) 4 = ((j / 4 : Nat) : Int) from rfl, w64 (x := ((j / 4 : Nat) : Int)) (by omega) (by omega)]
    repeat (refine And.intro (by first | omega) ?_; conv => whnf)
    refine ⟨_, w32_d (l := s) hs1, ?_⟩
    conv => whnf
    repeat (refine And.intro (by first | omega) ?_; conv => whnf)
    rw [show Int.tmod (j : Int) 4 = ((j % 4 : Nat) : Int) from rfl, w64 (x := 8 * ((j % 4 : Nat) : Int)) (by omega) (by omega), w64 (x := 24 - 8 * ((j % 4 : Nat) : Int)) (by omega) (by omega), wu64 (x := 24 - 8 * ((j % 4 : Nat) : Int)) (by omega) (by omega)]
    repeat (refine And.intro (by first | omega) ?_; conv => whnf)
    have hval : IntKind.u8.wrap (Int.fdiv (n32 (s.getD (j / 4) 0#32)) (2 ^ min (24 - 8 * ((j % 4 : Nat) : Int)).toNat IntKind.u32.bits)) = ((R.getD j 0).toNat : Int) := by
      rw [show (24 - 8 * ((j % 4 : Nat) : Int)).toNat = 24 - 8 * (j % 4) by omega, show min (24 - 8 * (j % 4)) IntKind.u32.bits = 24 - 8 * (j % 4) from Nat.min_eq_left (by show 24 - 8 * (j % 4) ≤ 32; omega),
        show (2 : Int) ^ (24 - 8 * (j % 4)) = ((2 ^ (24 - 8 * (j % 4)) : Nat) : Int) by simp, Int.fdiv_eq_ediv_of_nonneg _ (Int.natCast_nonneg _), hRat j hj32]
      exact w8m _
    rw [hval]
    repeat (refine And.intro (by first | omega) ?_; conv => whnf)
    have hyl : (R.take j ++ List.replicate (32 - j) 0).length = 32 := by simp; omega
    rw [hy, Int.toNat_natCast]
    refine ⟨_, at8n (by rw [hyl]; omega), ?_⟩
    conv => whnf
    rw [by8_set, w64 (x := (j : Int) + 1) (by omega) (by omega)]
    refine ⟨⟨j + 1, _, by omega, ?_, rfl⟩, ?_⟩
    · congr 1
      have h1 : (R.take j).length = j := by rw [List.length_take]; omega
      rw [List.set_append_right _ _ (by omega), h1, Nat.sub_self, show 32 - j = (32 - (j + 1)) + 1 by omega, List.replicate_succ, List.take_succ_eq_append_getElem (by omega : j < R.length), List.getD_eq_getElem?_getD, List.getElem?_eq_getElem (by omega), List.append_assoc]
      rfl
    · show 32 - ((j : Int) + 1).toNat < 32 - (j : Int).toNat
      omega
  · simp only [decide_eq_false_iff_not] at h3
    have e : j = 32 := by omega
    subst e
    conv => whnf
    refine ⟨false, [], ?_⟩
    conv => whnf
    refine ⟨?_, rfl⟩
    rw [hy, Nat.sub_self, List.replicate_zero, List.append_nil, List.take_of_length_le (by omega)]
/-- The sum of any text, by the reference. -/
theorem c_refsha (b : List UInt8) (hb : b.length < 100000000) : FnOK Tryd.prog D 73 [(AV.sl .lf (by8 (b)) .ro)] [] (fun r st => r = .ar 32 .lf (by8 (shaB b)) ∧ st = []) := by
  refine c_refsha_aux b (fill b) (shaB b) hb (c_fillR b (by omega)) (fill_len b) ?_ rfl
  have := endB_len b.length
  simp only [fill, List.length_append]
  omega
end Go.WL.T6d
