/- slices.Concat into a box. No condition. -/
import Derived.Test.YtdlgmddegldcjaaPart07
set_option linter.unusedVariables false
set_option linter.unusedSimpArgs false
namespace Go.WL.T5
open Go.WL Go.Proofs
set_option maxRecDepth 20000
set_option maxHeartbeats 4000000
/-- Bytes in a box of c2 places, of which cap are the slice's. -/
def OKB (b : List UInt8) (cap c2 : Nat) (L : List AV) : Prop := b.length ≤ cap ∧ cap ≤ c2 ∧ L.length = c2 ∧ L.take b.length = by8 b
theorem c_concatBx (ps : List (List UInt8)) (hl : ps.length < 1000000) (ht : tot ps < 1000000000) (h0 : 0 < tot ps) : FnOK Try.prog D 80 [.sl .lf (ps.map (fun b => (AV.sl .lf (by8 (b)) .ro))) .ro] [] (fun r st => ∃ cap L, OKB ps.flatten cap cap L ∧ r = .bs 0 [] .lf 0 ps.flatten.length cap ∧ st = [.ar cap .lf L]) := by
  refine fnok_of_Ws [33] hmix tabOK Try.func80 rfl rfl (Nat.le_of_ble_eq_true rfl) ?_
  conv => whnf
  refine ⟨false, [0, 3, 9, 10, 11], fun τ => ∃ i : Nat, i ≤ ps.length ∧ τ = ⟨36, [(0, .sl .lf (ps.map fun b => (AV.sl .lf (by8 (b)) .ro)) .ro), (3, (AV.sc (.int .i64 ((tot (ps.take i) : Int))))), (9, .sl .lf (ps.map fun b => (AV.sl .lf (by8 (b)) .ro)) .ro), (10, (AV.sc (.int .i64 ((ps.length : Int))))), (11, (AV.sc (.int .i64 ((i : Int)))))], ⟨[], [], 0⟩⟩, fun τ => ps.length - (slotI τ 11).toNat, ?_, ?_⟩
  · conv => whnf
    rw [List.length_map]
    exact ⟨0, by omega, rfl⟩
  rintro τ ⟨i, hi, rfl⟩
  conv => whnf
  refine Branch.of (fun h3 => ?_) (fun h3 => ?_) <;> rw [h3] <;> conv => whnf
  · simp only [decide_eq_true_eq] at h3
    have ih : i < ps.length := by omega
    have t1 := tot_snoc ps i ih
    have t2 := tot_le ps (i + 1)
    refine ⟨by omega, _, ro_atK ih, ?_⟩
    conv => whnf
    rw [len8, w64 (x := (tot (ps.take i) : Int) + (ps[i].length : Int)) (by omega) (by omega)]
    conv => whnf
    rw [w64 (x := (i : Int) + 1) (by omega) (by omega)]
    refine ⟨⟨i + 1, by omega, ?_⟩, ?_⟩
    · rw [t1]
      rfl
    · show ps.length - ((i : Int) + 1).toNat < ps.length - (i : Int).toNat
      omega
  simp only [decide_eq_false_iff_not] at h3
  have e : i = ps.length := by omega
  subst e
  rw [List.take_length]
  refine (c_grow (tot ps) (by omega) (by omega)).mono fun r st e => ?_
  obtain ⟨cap, zs, hc, hz, rfl, rfl⟩ := e
  conv => whnf
  refine ⟨false, [6, 25, 26, 27], fun τ => ∃ (i : Nat) (zs : List AV), i ≤ ps.length ∧ zs.length = cap ∧ zs.take (tot (ps.take i)) = by8 (ps.take i).flatten ∧ τ = ⟨36, [(6, .bs 0 [] .lf 0 (tot (ps.take i)) cap), (25, .sl .lf (ps.map fun b => (AV.sl .lf (by8 (b)) .ro)) .ro), (26, (AV.sc (.int .i64 ((ps.length : Int))))), (27, (AV.sc (.int .i64 ((i : Int)))))], ⟨[(.ar cap .lf zs, false)], [], 0⟩⟩, fun τ => ps.length - (slotI τ 27).toNat, ?_, ?_⟩
  · conv => whnf
    rw [List.length_map]
    exact ⟨0, zs, by omega, hz, by simp [tot, by8], rfl⟩
  rintro τ ⟨i, zs, hi, hz, hzs, rfl⟩
  conv => whnf
  refine Branch.of (fun h4 => ?_) (fun h4 => ?_) <;> rw [h4] <;> conv => whnf
  · simp only [decide_eq_true_eq] at h4
    have ih : i < ps.length := by omega
    have t1 := tot_snoc ps i ih
    have t2 := tot_le ps (i + 1)
    refine ⟨by omega, _, ro_atK ih, ?_⟩
    conv => whnf
    refine Branch.yes (b := Nat.ble (tot (ps.take i) + (by8 ps[i]).length) cap) (Nat.ble_eq_true_of_le (by rw [len8]; omega)) ?_
    conv => whnf
    rw [len8]
    rw [w64 (x := (i : Int) + 1) (by omega) (by omega)]
    refine ⟨⟨i + 1, zs.take (0 + tot (ps.take i)) ++ by8 ps[i] ++ zs.drop (0 + tot (ps.take i) + ps[i].length), by omega, ?_, ?_, ?_⟩, ?_⟩
    rotate_left 2
    · rw [t1]
      rfl
    · show ps.length - ((i : Int) + 1).toNat < ps.length - (i : Int).toNat
      omega
    · simp only [List.length_append, List.length_take, List.length_drop, len8]
      omega
    · rw [t1, Nat.zero_add, hzs, List.take_succ_eq_append_getElem ih, List.flatten_append, by8_app]
      rw [List.take_append_of_le_length (by rw [len8, List.length_append, tot_flat]; omega), List.take_of_length_le (by rw [len8, List.length_append, tot_flat]; omega)]
      simp
  · simp only [decide_eq_false_iff_not] at h4
    have e : i = ps.length := by omega
    subst e
    rw [List.take_length] at hzs ⊢
    refine ⟨false, [0], ?_⟩
    conv => whnf
    exact ⟨cap, zs, ⟨by rw [tot_flat]; exact hc, Nat.le_refl _, hz, by rw [tot_flat]; exact hzs⟩, by rw [tot_flat], rfl⟩
end Go.WL.T5
