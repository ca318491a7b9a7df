/- The reference reads numbers. No condition. -/
import Derived.Test.YtcmdkiejkheahaaDoorPart10
set_option linter.unusedVariables false
set_option linter.unusedSimpArgs false
namespace Go.WL.T6d
open Go.WL Go.Proofs
set_option maxRecDepth 20000
set_option maxHeartbeats 4000000
/-- What reading a number makes of the reference's reader: the number, the place, whether something was wrong. -/
def fnum (B : List UInt8) (at_ : Nat) (w : Bool) : Nat × Nat × Bool :=
  if w = true ∨ (rdn (B.drop at_) 0 0).2 = 0 then (0, at_, true) else ((rdn (B.drop at_) 0 0).1, at_ + (rdn (B.drop at_) 0 0).2, false)
theorem wn64 (k : Nat) : IntKind.u64.wrap ((k : Nat) : Int) = ((k % 18446744073709551616 : Nat) : Int) := by
  simp [IntKind.wrap, IntKind.signed, IntKind.bits]
theorem c_readnum (B : List UInt8) (at_ : Nat) (w : Bool) (hB : B.length < 4000000000) (hat : at_ ≤ B.length) : FnOK Tryd.prog D 115 [.st [(AV.sl .lf (by8 (B)) .ro), (AV.sc (.int .i64 ((at_ : Int)))), (AV.sc (.bool (w)))]] [] (fun r st => r = .tup [.st [(AV.sl .lf (by8 (B)) .ro), (AV.sc (.int .i64 (((fnum B at_ w).2.1 : Int)))), (AV.sc (.bool ((fnum B at_ w).2.2)))], (AV.sc (.int .u64 (((fnum B at_ w).1 : Int))))] ∧ st = []) := by
  cases w with
  | true =>
    rw [show fnum B at_ true = (0, at_, true) from if_pos (.inl rfl)]
    refine fnok_of_W hmix tabOK Tryd.func115 rfl rfl (Nat.le_of_ble_eq_true rfl) ?_
    conv => whnf
    refine ⟨false, [], ?_⟩
    conv => whnf
    exact ⟨rfl, rfl⟩
  | false =>
    have hf : fnum B at_ false = if (rdn (B.drop at_) 0 0).2 = 0 then (0, at_, true) else ((rdn (B.drop at_) 0 0).1, at_ + (rdn (B.drop at_) 0 0).2, false) := by
      unfold fnum
      simp
    rw [hf]
    generalize hl : B.drop at_ = l
    have hll : l.length = B.length - at_ := by rw [← hl]; simp
    have hget : ∀ (i : Nat) (hi : i < l.length), (by8 B)[((at_ + i : Nat) : Int).toNat]? = some ((AV.sc (.int .u8 ((l[i].toNat : Int))))) := by
      intro i hi
      have h1 : at_ + i < B.length := by omega
      rw [at8 h1]
      congr 4
      simp [← hl]
    refine fnok_of_W hmix tabOK Tryd.func115 rfl rfl (Nat.le_of_ble_eq_true rfl) ?_
    conv => whnf
    refine ⟨false, [1, 2, 3, 4, 5, 6], fun τ => ∃ i : Nat, i ≤ 10 ∧ i ≤ l.length ∧ (∀ x ∈ l.take i, 128 ≤ x.toNat) ∧ τ = ⟨73, [(1, .pt 0 []), (2, .pt 1 []), (3, (AV.sc (.int .u64 (0)))), (4, (AV.sc (.int .u64 (((val (l.take i) % 18446744073709551616 : Nat) : Int))))), (5, (AV.sc (.int .u64 (((128 ^ i % 18446744073709551616 : Nat) : Int))))), (6, (AV.sc (.int .i64 ((i : Int)))))], ⟨[(.st [(AV.sl .lf (by8 (B)) .ro), (AV.sc (.int .i64 ((at_ : Int)))), (AV.sc (.bool (false)))], false), (.st [.sl .lf [] .ex, (AV.sc (.int .i64 (0))), (AV.sc (.bool (false)))], false)], [], 0⟩⟩, fun τ => 11 - (slotI τ 6).toNat, ?_, ?_⟩
    · conv => whnf
      exact ⟨0, by omega, by omega, by simp, rfl⟩
    · rintro τ ⟨i, i1, i2, i3, rfl⟩
      generalize hnv : val (l.take i) % 18446744073709551616 = nv
      generalize huv : 128 ^ i % 18446744073709551616 = uv
      have hnvl : nv < 18446744073709551616 := by omega
      have huvl : uv < 18446744073709551616 := by omega
      have wat : IntKind.i64.wrap (((at_ : Nat) : Int) + ((i : Nat) : Int)) = ((at_ + i : Nat) : Int) := by rw [w64 (by omega) (by omega)]; omega
      conv => whnf
      refine Branch.of (fun h => ?_) (fun h => ?_) <;> rw [h] <;> conv => whnf
      · simp only [decide_eq_true_eq] at h
        rw [wat, len8]
        refine Branch.of (fun h2 => ?_) (fun h2 => ?_) <;> rw [h2] <;> conv => whnf
        · simp only [decide_eq_true_eq] at h2
          have hi : i < l.length := by omega
          have hgi := hget i hi
          have hts := List.take_succ_eq_append_getElem hi
          have hvs := val_snoc (l.take i) l[i]
          rw [← hts, List.length_take, Nat.min_eq_left (by omega)] at hvs
          generalize hc : l[i] = c at hgi hts hvs
          have hno : ∀ n, c.toNat < 128 → n = val (l.take (i + 1)) % 18446744073709551616 → l.take (i + 1) ≠ num n → (rdn l 0 0).2 = 0 := fun n h1 h2 h3 => rdn_no hi i3 (by rw [hc]; exact h1) h2 h3
          rw [wat]
          refine ⟨by omega, _, hgi, ?_⟩
          conv => whnf
          refine ⟨by omega, ?_⟩
          conv => whnf
          rw [Int.tmod_eq_emod_of_nonneg (by omega), show ((c.toNat : Nat) : Int) % 128 = ((c.toNat % 128 : Nat) : Int) by omega, wu64 (x := ((c.toNat % 128 : Nat) : Int)) (by omega) (by omega), ← Int.natCast_mul (c.toNat % 128) uv, wn64 (c.toNat % 128 * uv), ← Int.natCast_add nv (c.toNat % 128 * uv % 18446744073709551616), wn64 (nv + c.toNat % 128 * uv % 18446744073709551616)]
          have hn2 : (nv + c.toNat % 128 * uv % 18446744073709551616) % 18446744073709551616 = val (l.take (i + 1)) % 18446744073709551616 := by
            rw [hvs, ← hnv, ← huv]
            simp [Nat.add_mod, Nat.mul_mod]
          rw [hn2]
          rw [wat]
          refine ⟨by omega, _, hgi, ?_⟩
          have hu2 : IntKind.u64.wrap (((uv : Nat) : Int) * 128) = ((128 ^ (i + 1) % 18446744073709551616 : Nat) : Int) := by
            rw [show ((uv : Nat) : Int) * 128 = ((uv * 128 : Nat) : Int) by omega, wn64, ← huv, Nat.pow_succ]
            congr 1
            simp [Nat.mul_mod]
          rw [hu2]
          have hvl : val (l.take (i + 1)) % 18446744073709551616 < 18446744073709551616 := Nat.mod_lt _ (by decide)
          conv => whnf
          refine Branch.of (fun h3 => ?_) (fun h3 => ?_) <;> rw [h3] <;> conv => whnf
          · simp only [decide_eq_true_eq] at h3
            have hc128 : c.toNat < 128 := by omega
            generalize hv : val (l.take (i + 1)) % 18446744073709551616 = v at hvl
            refine ⟨tabF115R11, by decide +kernel, ?_⟩
            conv => whnf
            refine ⟨_, _, c_refnum v hvl, ?_⟩
            conv => whnf
            have wat2 : IntKind.i64.wrap (((at_ + i : Nat) : Int) + 1) = ((at_ + i + 1 : Nat) : Int) := by rw [w64 (by omega) (by omega)]; omega
            rw [wat, wat2]
            refine ⟨by omega, ?_⟩
            conv => whnf
            refine ⟨by omega, ?_⟩
            conv => whnf
            refine ⟨by omega, by rw [len8]; omega, ?_⟩
            conv => whnf
            have hsl : List.take ((((at_ + i + 1 : Nat) : Int)).toNat - ((at_ : Nat) : Int).toNat) (List.drop ((at_ : Nat) : Int).toNat (by8 B)) = by8 (l.take (i + 1)) := by
              rw [Int.toNat_natCast, Int.toNat_natCast, show at_ + i + 1 - at_ = i + 1 by omega, ← hl]
              simp [by8]
            rw [hsl]
            have h10 := num_ten hvl
            have cs := c_same (num v) (l.take (i + 1)) (by omega) (m1 := .ro) (m2 := .ro) (.inr rfl) (.inr rfl)
            by_cases hsame : l.take (i + 1) = num v
            · rw [show (num v == l.take (i + 1)) = true by rw [hsame]; exact beq_self_eq_true _] at cs
              refine ⟨_, _, cs, ?_⟩
              conv => whnf
              have hy := rdn_yes hsame hi hvl
              rw [hy, if_neg (by simp)]
              rw [wat, wat2]
              refine ⟨false, [], ?_⟩
              conv => whnf
              exact ⟨rfl, rfl⟩
            · rw [show (num v == l.take (i + 1)) = false from beq_eq_false_iff_ne.2 fun e => hsame e.symm] at cs
              refine ⟨_, _, cs, ?_⟩
              conv => whnf
              rw [if_pos (hno v hc128 hv.symm hsame)]
              refine ⟨false, [], ?_⟩
              conv => whnf
              exact ⟨rfl, rfl⟩
          · simp only [decide_eq_false_iff_not] at h3
            rw [w64 (x := (i : Int) + 1) (by omega) (by omega)]
            refine ⟨⟨i + 1, by omega, by omega, fun x hx => ?_, rfl⟩, ?_⟩
            · rw [hts] at hx
              rcases List.mem_append.1 hx with hx | hx
              · exact i3 x hx
              · rw [List.mem_singleton.1 hx]; omega
            · show 11 - ((i : Int) + 1).toNat < 11 - (i : Int).toNat
              omega
        · simp only [decide_eq_false_iff_not] at h2
          have hno : (rdn l 0 0).2 = 0 := rdn_none (i := i) (.inr (by omega)) i3
          rw [if_pos hno]
          refine ⟨false, [], ?_⟩
          conv => whnf
          exact ⟨rfl, rfl⟩
      · simp only [decide_eq_false_iff_not] at h
        have hno : (rdn l 0 0).2 = 0 := rdn_none (i := i) (.inl (by omega)) i3
        rw [if_pos hno]
        refine ⟨false, [], ?_⟩
        conv => whnf
        exact ⟨rfl, rfl⟩
end Go.WL.T6d
