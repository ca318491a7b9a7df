/- slices.Grow of nothing, slices.Concat: of bytes. No condition. -/
import Derived.Test.YtdlgmddegldcjaaPart03
import Derived.Test.YtdlgmddegldcjaaPart06
set_option linter.unusedVariables false
set_option linter.unusedSimpArgs false
namespace Go.WL.T5
open Go.WL Go.Proofs
set_option maxRecDepth 20000
set_option maxHeartbeats 4000000
theorem c_grow0 : FnOK Try.prog D 107 [.sl .lf [] .ex, (AV.sc (.int .i64 (0)))] [] (fun r st => r = .sl .lf [] .ex ∧ st = []) := by
  refine fnok_of_W hmix tabOK Try.func107 rfl rfl (Nat.le_of_ble_eq_true rfl) ?_
  conv => whnf
  refine ⟨false, [], ?_⟩
  conv => whnf
  exact ⟨rfl, rfl⟩
theorem c_grow (n : Nat) (h0 : 0 < n) (hn : n < 4294967296) : FnOK Try.prog D 107 [.sl .lf [] .ex, (AV.sc (.int .i64 ((n : Int))))] [] (fun r st => ∃ cap zs, n ≤ cap ∧ zs.length = cap ∧ r = .bs 0 [] .lf 0 0 cap ∧ st = [.ar cap .lf zs]) := by
  refine fnok_of_Ws [20, 22] hmix tabOK Try.func107 rfl rfl (Nat.le_of_ble_eq_true rfl) ?_
  conv => whnf
  rw [show IntKind.i64.wrap ((n : Int) - IntKind.i64.wrap ((([] : List AV).length : Int) - (([] : List AV).length : Int))) = (n : Int) by
    rw [show ((([] : List AV).length : Int) - (([] : List AV).length : Int)) = 0 from rfl, w64 (x := 0) (by omega) (by omega), w64 (by omega) (by omega)]; omega]
  refine Branch.of (fun h1 => ?_) (fun h1 => ?_) <;> rw [h1] <;> conv => whnf
  rotate_left
  · simp only [gt_iff_lt, decide_eq_false_iff_not] at h1
    omega
  refine ⟨by omega, rfl, ?_⟩
  conv => whnf
  refine ⟨by omega, by omega, Branch.yes (b := Nat.blt 0 (List.replicate (n : Int).toNat (AV.sc (.int .u8 0))).length) (by rw [List.length_replicate, Int.toNat_natCast]; simpa [Nat.blt_eq] using h0) ?_⟩
  refine ⟨by rw [List.length_replicate]; simp; omega, fun cap hc => ?_⟩
  rw [List.length_replicate] at hc
  conv => whnf
  refine ⟨Int.natCast_nonneg _, Nat.zero_le _, Nat.zero_le _, ?_⟩
  conv => whnf
  refine ⟨false, [0], ?_⟩
  conv => whnf
  refine ⟨cap, _, ?_, ?_, rfl, rfl⟩
  · simp at hc; omega
  · simp at hc ⊢; omega
def tot (ps : List (List UInt8)) : Nat := (ps.map List.length).sum
theorem tot_flat (ps : List (List UInt8)) : ps.flatten.length = tot ps := by simp [tot, List.length_flatten]
theorem tot_snoc (ps : List (List UInt8)) (i : Nat) (h : i < ps.length) : tot (ps.take (i + 1)) = tot (ps.take i) + ps[i].length := by
  rw [List.take_succ_eq_append_getElem h]
  unfold tot
  rw [List.map_append, List.sum_append]
  simp
theorem tot_le (ps : List (List UInt8)) (i : Nat) : tot (ps.take i) ≤ tot ps := by
  conv => rhs; rw [← List.take_append_drop i ps]
  unfold tot
  rw [List.map_append, List.sum_append]
  exact Nat.le_add_right _ _
theorem ro_atK {ps : List (List UInt8)} {i : Nat} (h : i < ps.length) : (ps.map fun b => (AV.sl .lf (by8 (b)) .ro))[((i : Nat) : Int).toNat]? = some (AV.sl .lf (by8 (ps[i])) .ro) := by simp [h]
theorem c_concat (ps : List (List UInt8)) (hl : ps.length < 1000000) (ht : tot ps < 1000000000) : FnOK Try.prog D 80 [.sl .lf (ps.map (fun b => (AV.sl .lf (by8 (b)) .ro))) .ro] [] (fun r st => r = (AV.sl .lf (by8 (ps.flatten)) .ro) ∧ st = []) := by
  refine fnok_of_Ws [33] hmix tabOK Try.func80 rfl rfl (Nat.le_of_ble_eq_true rfl) ?_
  conv => whnf
  refine ⟨false, [0, 3, 9, 10, 11], fun τ => ∃ i : Nat, i ≤ ps.length ∧ τ = ⟨36, [(0, .sl .lf (ps.map fun b => (AV.sl .lf (by8 (b)) .ro)) .ro), (3, (AV.sc (.int .i64 ((tot (ps.take i) : Int))))), (9, .sl .lf (ps.map fun b => (AV.sl .lf (by8 (b)) .ro)) .ro), (10, (AV.sc (.int .i64 ((ps.length : Int))))), (11, (AV.sc (.int .i64 ((i : Int)))))], ⟨[], [], 0⟩⟩, fun τ => ps.length - (slotI τ 11).toNat, ?_, ?_⟩
  · conv => whnf
    rw [List.length_map]
    exact ⟨0, by omega, rfl⟩
  rintro τ ⟨i, hi, rfl⟩
  conv => whnf
  refine Branch.of (fun h3 => ?_) (fun h3 => ?_) <;> rw [h3] <;> conv => whnf
  · simp only [decide_eq_true_eq] at h3
    have ih : i < ps.length := by omega
    have t1 := tot_snoc ps i ih
    have t2 := tot_le ps (i + 1)
    refine ⟨by omega, _, ro_atK ih, ?_⟩
    conv => whnf
    rw [len8, w64 (x := (tot (ps.take i) : Int) + (ps[i].length : Int)) (by omega) (by omega)]
    conv => whnf
    rw [w64 (x := (i : Int) + 1) (by omega) (by omega)]
    refine ⟨⟨i + 1, by omega, ?_⟩, ?_⟩
    · rw [t1]
      rfl
    · show ps.length - ((i : Int) + 1).toNat < ps.length - (i : Int).toNat
      omega
  simp only [decide_eq_false_iff_not] at h3
  have e : i = ps.length := by omega
  subst e
  rw [List.take_length]
  by_cases h0 : tot ps = 0
  · rw [h0]
    refine c_grow0.mono fun r st e => ?_
    obtain ⟨rfl, rfl⟩ := e
    conv => whnf
    have hall : ∀ i (h : i < ps.length), ps[i] = [] := by
      intro i h
      have t1 := tot_snoc ps i h
      have t2 := tot_le ps (i + 1)
      exact List.eq_nil_of_length_eq_zero (by omega)
    refine ⟨false, [6, 25, 26, 27], fun τ => ∃ i : Nat, i ≤ ps.length ∧ τ = ⟨36, [(6, .sl .lf [] .ex), (25, .sl .lf (ps.map fun b => (AV.sl .lf (by8 (b)) .ro)) .ro), (26, (AV.sc (.int .i64 ((ps.length : Int))))), (27, (AV.sc (.int .i64 ((i : Int)))))], ⟨[], [], 0⟩⟩, fun τ => ps.length - (slotI τ 27).toNat, ?_, ?_⟩
    · conv => whnf
      rw [List.length_map]
      exact ⟨0, by omega, rfl⟩
    rintro τ ⟨i, hi, rfl⟩
    conv => whnf
    refine Branch.of (fun h4 => ?_) (fun h4 => ?_) <;> rw [h4] <;> conv => whnf
    · simp only [decide_eq_true_eq] at h4
      have ih : i < ps.length := by omega
      refine ⟨by omega, _, ro_atK ih, ?_⟩
      rw [hall i ih]
      conv => whnf
      rw [w64 (x := (i : Int) + 1) (by omega) (by omega)]
      refine ⟨⟨i + 1, by omega, rfl⟩, ?_⟩
      show ps.length - ((i : Int) + 1).toNat < ps.length - (i : Int).toNat
      omega
    · refine ⟨false, [999], ?_⟩
      conv => whnf
      have hf : ps.flatten.length = 0 := by rw [tot_flat]; exact h0
      rw [List.eq_nil_of_length_eq_zero hf]
      exact ⟨rfl, rfl⟩
  · refine (c_grow (tot ps) (by omega) (by omega)).mono fun r st e => ?_
    obtain ⟨cap, zs, hc, hz, rfl, rfl⟩ := e
    conv => whnf
    refine ⟨false, [6, 25, 26, 27], fun τ => ∃ (i : Nat) (zs : List AV), i ≤ ps.length ∧ zs.length = cap ∧ zs.take (tot (ps.take i)) = by8 (ps.take i).flatten ∧ τ = ⟨36, [(6, .bs 0 [] .lf 0 (tot (ps.take i)) cap), (25, .sl .lf (ps.map fun b => (AV.sl .lf (by8 (b)) .ro)) .ro), (26, (AV.sc (.int .i64 ((ps.length : Int))))), (27, (AV.sc (.int .i64 ((i : Int)))))], ⟨[(.ar cap .lf zs, false)], [], 0⟩⟩, fun τ => ps.length - (slotI τ 27).toNat, ?_, ?_⟩
    · conv => whnf
      rw [List.length_map]
      exact ⟨0, zs, by omega, hz, by simp [tot, by8], rfl⟩
    rintro τ ⟨i, zs, hi, hz, hzs, rfl⟩
    conv => whnf
    refine Branch.of (fun h4 => ?_) (fun h4 => ?_) <;> rw [h4] <;> conv => whnf
    · simp only [decide_eq_true_eq] at h4
      have ih : i < ps.length := by omega
      have t1 := tot_snoc ps i ih
      have t2 := tot_le ps (i + 1)
      refine ⟨by omega, _, ro_atK ih, ?_⟩
      conv => whnf
      refine Branch.yes (b := Nat.ble (tot (ps.take i) + (by8 ps[i]).length) cap) (Nat.ble_eq_true_of_le (by rw [len8]; omega)) ?_
      conv => whnf
      rw [len8]
      rw [w64 (x := (i : Int) + 1) (by omega) (by omega)]
      refine ⟨⟨i + 1, zs.take (0 + tot (ps.take i)) ++ by8 ps[i] ++ zs.drop (0 + tot (ps.take i) + ps[i].length), by omega, ?_, ?_, ?_⟩, ?_⟩
      rotate_left 2
      · rw [t1]
        rfl
      · show ps.length - ((i : Int) + 1).toNat < ps.length - (i : Int).toNat
        omega
      · simp only [List.length_append, List.length_take, List.length_drop, len8]
        omega
      · rw [t1, Nat.zero_add, hzs, List.take_succ_eq_append_getElem ih, List.flatten_append, by8_app]
        rw [List.take_append_of_le_length (by rw [len8, List.length_append, tot_flat]; omega), List.take_of_length_le (by rw [len8, List.length_append, tot_flat]; omega)]
        simp
    · simp only [decide_eq_false_iff_not] at h4
      have e : i = ps.length := by omega
      subst e
      rw [List.take_length] at hzs ⊢
      refine ⟨false, [999], ?_⟩
      conv => whnf
      refine ⟨?_, rfl⟩
      congr 1
end Go.WL.T5
