/- Texts filled, the sum of a text: the reference's. No condition. -/
import Derived.Test.YtcmdkiejkheahaaDoorPart24
set_option linter.unusedVariables false
set_option linter.unusedSimpArgs false
namespace Go.WL.T6d
open Go.WL Go.Proofs
set_option maxRecDepth 20000
set_option maxHeartbeats 8000000
theorem be8_list (m : Nat) : by8 (be8 m) = [(AV.sc (.int .u8 ((UInt8.ofNat (m / 2 ^ 56)).toNat))), (AV.sc (.int .u8 ((UInt8.ofNat (m / 2 ^ 48)).toNat))), (AV.sc (.int .u8 ((UInt8.ofNat (m / 2 ^ 40)).toNat))), (AV.sc (.int .u8 ((UInt8.ofNat (m / 2 ^ 32)).toNat))), (AV.sc (.int .u8 ((UInt8.ofNat (m / 2 ^ 24)).toNat))), (AV.sc (.int .u8 ((UInt8.ofNat (m / 2 ^ 16)).toNat))), (AV.sc (.int .u8 ((UInt8.ofNat (m / 2 ^ 8)).toNat))), (AV.sc (.int .u8 ((UInt8.ofNat (m / 2 ^ 0)).toNat)))] := by
  simp [by8, be8, List.range, List.range.loop]
theorem sh64 (m k : Nat) (hk : k ≤ 64) (j : Int) (hj : j.toNat = k) : IntKind.u8.wrap (Int.fdiv ((m : Nat) : Int) (2 ^ min j.toNat IntKind.u64.bits)) = ((UInt8.ofNat (m / 2 ^ k)).toNat : Int) := by
  rw [hj, show min k IntKind.u64.bits = k from Nat.min_eq_left hk, show (2 : Int) ^ k = ((2 ^ k : Nat) : Int) by simp, Int.fdiv_eq_ediv_of_nonneg _ (Int.natCast_nonneg _)]
  exact w8m _
theorem c_fillR (b : List UInt8) (hb : b.length < 1000000000) : FnOK Tryd.prog D 111 [(AV.sl .lf (by8 (b)) .ro)] [] (fun r st => r = (AV.sl .lf (by8 (fill b)) (.own 0)) ∧ st = []) := by
  have hfill : fill b = b ++ (128 :: List.replicate ((119 - b.length % 64) % 64) 0) ++ be8 (b.length * 8) := by simp [fill, endB, head]
  have hk : (119 - b.length % 64) % 64 < 64 := Nat.mod_lt _ (by decide)
  have hkm : (b.length + 1 + (119 - b.length % 64) % 64) % 64 = 56 := by omega
  have hko : ∀ j, j ≤ (119 - b.length % 64) % 64 → (b.length + 1 + j) % 64 = 56 → j = (119 - b.length % 64) % 64 := by intro j h1 h2; omega
  have aux : ∀ (G : List UInt8) (k : Nat), G = b ++ (128 :: List.replicate k 0) ++ be8 (b.length * 8) → k < 64 → (b.length + 1 + k) % 64 = 56 → (∀ j, j ≤ k → (b.length + 1 + j) % 64 = 56 → j = k) → FnOK Tryd.prog D 111 [(AV.sl .lf (by8 (b)) .ro)] [] (fun r st => r = (AV.sl .lf (by8 (G)) (.own 0)) ∧ st = []) := by
    intro G k hG hk hkm hko
    refine fnok_of_W hmix tabOK Tryd.func111 rfl rfl (Nat.le_of_ble_eq_true rfl) ?_
    conv => whnf
    refine And.intro (by simp [by8]; try omega) ?_
    conv => whnf
    refine And.intro (by simp [by8]; try omega) ?_
    conv => whnf
    refine ⟨false, [0, 3], fun τ => ∃ j : Nat, j ≤ k ∧ τ = ⟨47, [(0, (AV.sl .lf (by8 (b)) .ro)), (3, (AV.sl .lf (by8 (b ++ (128 :: List.replicate j 0))) (.own 0)))], ⟨[], [0], 1⟩⟩, fun τ => match lookV τ.tm 3 with | some (.sl _ xs _) => b.length + 100 - xs.length | _ => 0, ?_, ?_⟩
    · conv => whnf
      exact ⟨0, by omega, by simp [by8]⟩
    rintro τ ⟨j, hj, rfl⟩
    have hlen : (by8 (b ++ (128 :: List.replicate j 0))).length = b.length + 1 + j := by simp [by8]; omega
    conv => whnf
    repeat (refine And.intro (by first | omega) ?_; conv => whnf)
    rw [hlen, show Int.tmod ((b.length + 1 + j : Nat) : Int) 64 = (((b.length + 1 + j) % 64 : Nat) : Int) from rfl]
    refine Branch.of (fun h1 => ?_) (fun h1 => ?_) <;> rw [h1] <;> conv => whnf
    · simp only [bne_iff_ne, ne_eq] at h1
      have hjk : j < k := by
        rcases Nat.lt_or_ge j k with h | h
        · exact h
        · obtain rfl : j = k := by omega
          exact absurd (by omega) h1
      refine And.intro (by rw [hlen]; simp <;> omega) ?_
      conv => whnf
      refine ⟨⟨j + 1, by omega, ?_⟩, ?_⟩
      · have e : by8 (b ++ (128 :: List.replicate (j + 1) 0)) = by8 (b ++ (128 :: List.replicate j 0)) ++ [(AV.sc (.int .u8 (0)))] := by
          rw [List.replicate_succ']
          simp [by8]
        rw [e]
      · show b.length + 100 - (by8 (b ++ (128 :: List.replicate j 0)) ++ [(AV.sc (.int .u8 (0)))]).length < b.length + 100 - (by8 (b ++ (128 :: List.replicate j 0))).length
        rw [List.length_append, hlen]
        simp only [List.length_cons, List.length_nil]
        omega
    · simp only [bne_eq_false_iff_eq] at h1
      have e : j = k := hko j hj (by omega)
      subst e
      conv => whnf
      rw [len8, wu64 (x := (b.length : Int)) (by omega) (by omega), wu64 (x := (b.length : Int) * 8) (by omega) (by omega), show (b.length : Int) * 8 = ((b.length * 8 : Nat) : Int) by omega]
      repeat (refine And.intro (by first | omega) ?_; conv => whnf)
      refine And.intro (by rw [hlen]; simp <;> omega) ?_
      conv => whnf
      refine ⟨false, [], ?_⟩
      conv => whnf
      refine ⟨?_, rfl⟩
      rw [hG, show by8 (b ++ (128 :: List.replicate j 0) ++ be8 (b.length * 8)) = by8 (b ++ (128 :: List.replicate j 0)) ++ by8 (be8 (b.length * 8)) by simp [by8], be8_list,
        sh64 _ 56 (by decide) 56 rfl, sh64 _ 48 (by decide) 48 rfl, sh64 _ 40 (by decide) 40 rfl, sh64 _ 32 (by decide) 32 rfl, sh64 _ 24 (by decide) 24 rfl, sh64 _ 16 (by decide) 16 rfl, sh64 _ 8 (by decide) 8 rfl, w8m, Nat.pow_zero, Nat.div_one]
  exact aux _ _ hfill hk hkm hko
end Go.WL.T6d
