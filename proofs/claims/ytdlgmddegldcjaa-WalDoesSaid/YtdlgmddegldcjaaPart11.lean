/- The disk: a byte is turned; a crash. No condition. -/
import Derived.Test.YtdlgmddegldcjaaPart10
set_option linter.unusedVariables false
set_option linter.unusedSimpArgs false
namespace Go.WL.T5
open Go.WL Go.Proofs
set_option maxRecDepth 20000
set_option maxHeartbeats 4000000
def crashP (k : Pk) (n : Int) : Pk := ⟨(k.b ++ k.h).take (k.sf + min (max n 0) (((k.b ++ k.h).length : Int) - k.sf)).toNat, k.sf + min (max n 0) (((k.b ++ k.h).length : Int) - k.sf), k.room, -1, false, []⟩
def tot2 (a b : List UInt8) : Nat := a.length + b.length
theorem c_concatB0 (ps : List (List UInt8)) (hl : ps.length < 1000000) (h0 : tot ps = 0) : FnOK Try.prog D 80 [.sl .lf (ps.map (fun b => (AV.sl .lf (by8 (b)) .ro))) .ro] [] (fun r st => r = .sl .lf [] .ex ∧ st = []) := by
  have ht : tot ps < 1000000000 := by omega
  refine fnok_of_Ws [33] hmix tabOK Try.func80 rfl rfl (Nat.le_of_ble_eq_true rfl) ?_
  conv => whnf
  refine ⟨false, [0, 3, 9, 10, 11], fun τ => ∃ i : Nat, i ≤ ps.length ∧ τ = ⟨36, [(0, .sl .lf (ps.map fun b => (AV.sl .lf (by8 (b)) .ro)) .ro), (3, (AV.sc (.int .i64 ((tot (ps.take i) : Int))))), (9, .sl .lf (ps.map fun b => (AV.sl .lf (by8 (b)) .ro)) .ro), (10, (AV.sc (.int .i64 ((ps.length : Int))))), (11, (AV.sc (.int .i64 ((i : Int)))))], ⟨[], [], 0⟩⟩, fun τ => ps.length - (slotI τ 11).toNat, ?_, ?_⟩
  · conv => whnf
    rw [List.length_map]
    exact ⟨0, by omega, rfl⟩
  rintro τ ⟨i, hi, rfl⟩
  conv => whnf
  refine Branch.of (fun h3 => ?_) (fun h3 => ?_) <;> rw [h3] <;> conv => whnf
  · simp only [decide_eq_true_eq] at h3
    have ih : i < ps.length := by omega
    have t1 := tot_snoc ps i ih
    have t2 := tot_le ps (i + 1)
    refine ⟨by omega, _, ro_atK ih, ?_⟩
    conv => whnf
    rw [len8, w64 (x := (tot (ps.take i) : Int) + (ps[i].length : Int)) (by omega) (by omega)]
    conv => whnf
    rw [w64 (x := (i : Int) + 1) (by omega) (by omega)]
    refine ⟨⟨i + 1, by omega, ?_⟩, ?_⟩
    · rw [t1]
      rfl
    · show ps.length - ((i : Int) + 1).toNat < ps.length - (i : Int).toNat
      omega
  simp only [decide_eq_false_iff_not] at h3
  have e : i = ps.length := by omega
  subst e
  rw [List.take_length]
  rw [h0]
  refine c_grow0.mono fun r st e => ?_
  obtain ⟨rfl, rfl⟩ := e
  conv => whnf
  have hall : ∀ i (h : i < ps.length), ps[i] = [] := by
    intro i h
    have t1 := tot_snoc ps i h
    have t2 := tot_le ps (i + 1)
    exact List.eq_nil_of_length_eq_zero (by omega)
  refine ⟨false, [6, 25, 26, 27], fun τ => ∃ i : Nat, i ≤ ps.length ∧ τ = ⟨36, [(6, .sl .lf [] .ex), (25, .sl .lf (ps.map fun b => (AV.sl .lf (by8 (b)) .ro)) .ro), (26, (AV.sc (.int .i64 ((ps.length : Int))))), (27, (AV.sc (.int .i64 ((i : Int)))))], ⟨[], [], 0⟩⟩, fun τ => ps.length - (slotI τ 27).toNat, ?_, ?_⟩
  · conv => whnf
    rw [List.length_map]
    exact ⟨0, by omega, rfl⟩
  rintro τ ⟨i, hi, rfl⟩
  conv => whnf
  refine Branch.of (fun h4 => ?_) (fun h4 => ?_) <;> rw [h4] <;> conv => whnf
  · simp only [decide_eq_true_eq] at h4
    have ih : i < ps.length := by omega
    refine ⟨by omega, _, ro_atK ih, ?_⟩
    rw [hall i ih]
    conv => whnf
    rw [w64 (x := (i : Int) + 1) (by omega) (by omega)]
    refine ⟨⟨i + 1, by omega, rfl⟩, ?_⟩
    show ps.length - ((i : Int) + 1).toNat < ps.length - (i : Int).toNat
    omega
  · refine ⟨false, [], ?_⟩
    conv => whnf
    exact ⟨rfl, rfl⟩
theorem c_concatB (ps : List (List UInt8)) (hl : ps.length < 1000000) (ht : tot ps < 1000000000) (h0 : 0 < tot ps) : FnOK Try.prog D 80 [.sl .lf (ps.map (fun b => (AV.sl .lf (by8 (b)) .ro))) .ro] [] (fun r st => ∃ cap L, OKL ps.flatten cap cap L ∧ r = .bs 0 [] .lf 0 ps.flatten.length cap ∧ st = [.ar cap .lf L]) := by
  refine fnok_of_Ws [33] hmix tabOK Try.func80 rfl rfl (Nat.le_of_ble_eq_true rfl) ?_
  conv => whnf
  refine ⟨false, [0, 3, 9, 10, 11], fun τ => ∃ i : Nat, i ≤ ps.length ∧ τ = ⟨36, [(0, .sl .lf (ps.map fun b => (AV.sl .lf (by8 (b)) .ro)) .ro), (3, (AV.sc (.int .i64 ((tot (ps.take i) : Int))))), (9, .sl .lf (ps.map fun b => (AV.sl .lf (by8 (b)) .ro)) .ro), (10, (AV.sc (.int .i64 ((ps.length : Int))))), (11, (AV.sc (.int .i64 ((i : Int)))))], ⟨[], [], 0⟩⟩, fun τ => ps.length - (slotI τ 11).toNat, ?_, ?_⟩
  · conv => whnf
    rw [List.length_map]
    exact ⟨0, by omega, rfl⟩
  rintro τ ⟨i, hi, rfl⟩
  conv => whnf
  refine Branch.of (fun h3 => ?_) (fun h3 => ?_) <;> rw [h3] <;> conv => whnf
  · simp only [decide_eq_true_eq] at h3
    have ih : i < ps.length := by omega
    have t1 := tot_snoc ps i ih
    have t2 := tot_le ps (i + 1)
    refine ⟨by omega, _, ro_atK ih, ?_⟩
    conv => whnf
    rw [len8, w64 (x := (tot (ps.take i) : Int) + (ps[i].length : Int)) (by omega) (by omega)]
    conv => whnf
    rw [w64 (x := (i : Int) + 1) (by omega) (by omega)]
    refine ⟨⟨i + 1, by omega, ?_⟩, ?_⟩
    · rw [t1]
      rfl
    · show ps.length - ((i : Int) + 1).toNat < ps.length - (i : Int).toNat
      omega
  simp only [decide_eq_false_iff_not] at h3
  have e : i = ps.length := by omega
  subst e
  rw [List.take_length]
  refine (c_grow (tot ps) (by omega) (by omega)).mono fun r st e => ?_
  obtain ⟨cap, zs, hc, hz, rfl, rfl⟩ := e
  conv => whnf
  refine ⟨false, [6, 25, 26, 27], fun τ => ∃ (i : Nat) (zs : List AV), i ≤ ps.length ∧ zs.length = cap ∧ zs.take (tot (ps.take i)) = by8 (ps.take i).flatten ∧ τ = ⟨36, [(6, .bs 0 [] .lf 0 (tot (ps.take i)) cap), (25, .sl .lf (ps.map fun b => (AV.sl .lf (by8 (b)) .ro)) .ro), (26, (AV.sc (.int .i64 ((ps.length : Int))))), (27, (AV.sc (.int .i64 ((i : Int)))))], ⟨[(.ar cap .lf zs, false)], [], 0⟩⟩, fun τ => ps.length - (slotI τ 27).toNat, ?_, ?_⟩
  · conv => whnf
    rw [List.length_map]
    exact ⟨0, zs, by omega, hz, by simp [tot, by8], rfl⟩
  rintro τ ⟨i, zs, hi, hz, hzs, rfl⟩
  conv => whnf
  refine Branch.of (fun h4 => ?_) (fun h4 => ?_) <;> rw [h4] <;> conv => whnf
  · simp only [decide_eq_true_eq] at h4
    have ih : i < ps.length := by omega
    have t1 := tot_snoc ps i ih
    have t2 := tot_le ps (i + 1)
    refine ⟨by omega, _, ro_atK ih, ?_⟩
    conv => whnf
    refine Branch.yes (b := Nat.ble (tot (ps.take i) + (by8 ps[i]).length) cap) (Nat.ble_eq_true_of_le (by rw [len8]; omega)) ?_
    conv => whnf
    rw [len8]
    rw [w64 (x := (i : Int) + 1) (by omega) (by omega)]
    refine ⟨⟨i + 1, zs.take (0 + tot (ps.take i)) ++ by8 ps[i] ++ zs.drop (0 + tot (ps.take i) + ps[i].length), by omega, ?_, ?_, ?_⟩, ?_⟩
    rotate_left 2
    · rw [t1]
      rfl
    · show ps.length - ((i : Int) + 1).toNat < ps.length - (i : Int).toNat
      omega
    · simp only [List.length_append, List.length_take, List.length_drop, len8]
      omega
    · rw [t1, Nat.zero_add, hzs, List.take_succ_eq_append_getElem ih, List.flatten_append, by8_app]
      rw [List.take_append_of_le_length (by rw [len8, List.length_append, tot_flat]; omega), List.take_of_length_le (by rw [len8, List.length_append, tot_flat]; omega)]
      simp
  · simp only [decide_eq_false_iff_not] at h4
    have e : i = ps.length := by omega
    subst e
    rw [List.take_length] at hzs ⊢
    refine ⟨false, [0], ?_⟩
    conv => whnf
    exact ⟨cap, zs, ⟨by rw [tot_flat]; exact hc, Nat.le_refl _, hz, by rw [tot_flat]; exact hzs⟩, by rw [tot_flat], rfl⟩
theorem c_crashR0 (room armed n : Int) (dead : Bool) : FnOK Try.prog D 28 [.pt 0 [], (AV.sc (.int .i64 (n)))] [.st [.sl .lf [] .ro, (AV.sc (.int .i64 (0))), (AV.sc (.int .i64 (room))), (AV.sc (.bool (true))), (AV.sc (.int .i64 (armed))), (AV.sc (.bool (dead))), .sl .lf [] .ro]] (fun r st => r = .tup [] ∧ st = [.st [.sl .lf [] .ex, (AV.sc (.int .i64 (0))), (AV.sc (.int .i64 (room))), (AV.sc (.bool (true))), (AV.sc (.int .i64 ((-1)))), (AV.sc (.bool (false))), .sl .lf [] .ex]]) := by
  refine fnok_of_Ws [4001009] hmix tabOK Try.func28 rfl rfl (Nat.le_of_ble_eq_true rfl) ?_
  conv => whnf
  refine ⟨tabF28R1, by decide +kernel, ?_⟩
  conv => whnf
  refine ⟨_, (c_concatB0 [[], []] (by decide) (by decide)).weak (.cons (.sl (.inl rfl) (Weaks.refl _)) .nil), ⟨_, _, rfl, rfl⟩, ?_⟩
  rintro r st ⟨rfl, rfl⟩
  conv => whnf
  refine ⟨tabF28R2, by decide +kernel, ?_⟩
  conv => whnf
  have e : IntKind.i64.wrap (0 + min (max n 0) (IntKind.i64.wrap ((([] : List AV).length : Int) - 0))) = 0 := by
    rw [show ((([] : List AV).length : Int) - 0) = 0 from rfl, w64 (x := 0) (by omega) (by omega), show min (max n 0) 0 = 0 by omega, w64 (by omega) (by omega)]
    rfl
  refine swap e ?_
  rintro v rfl
  refine ⟨by omega, by omega, by simp, ?_⟩
  conv => whnf
  refine ⟨false, [], ?_⟩
  conv => whnf
  exact ⟨rfl, rfl⟩
theorem c_crashR1 (b h : List UInt8) (sf room armed n : Int) (dead : Bool) (w4 : 0 ≤ sf) (w5 : sf ≤ b.length) (hh : ((b.length + h.length : Nat) : Int) ≤ 1048576) (h0 : 0 < tot [b, h]) : FnOK Try.prog D 28 [.pt 0 [], (AV.sc (.int .i64 (n)))] [.st [.sl .lf (by8 b) .ro, (AV.sc (.int .i64 (sf))), (AV.sc (.int .i64 (room))), (AV.sc (.bool (true))), (AV.sc (.int .i64 (armed))), (AV.sc (.bool (dead))), .sl .lf (by8 h) .ro]] (fun r st => r = .tup [] ∧ ∃ cap L, OKL (b ++ h) cap cap L ∧ st = [.st [.bs 1 [] .lf 0 (sf + min (max n 0) (((b ++ h).length : Int) - sf)).toNat cap, (AV.sc (.int .i64 (sf + min (max n 0) (((b ++ h).length : Int) - sf)))), (AV.sc (.int .i64 (room))), (AV.sc (.bool (true))), (AV.sc (.int .i64 ((-1)))), (AV.sc (.bool (false))), .sl .lf [] .ex], .ar cap .lf L]) := by
  have hfl : [b, h].flatten = b ++ h := by simp
  refine fnok_of_Ws [4001009] hmix tabOK Try.func28 rfl rfl (Nat.le_of_ble_eq_true rfl) ?_
  conv => whnf
  refine ⟨tabF28R1, by decide +kernel, ?_⟩
  conv => whnf
  refine ⟨_, (c_concatB [b, h] (by simp) (by simp [tot]; omega) h0).weak (.cons (.sl (.inl rfl) (Weaks.refl _)) .nil), ⟨_, _, _, _, okl_app [b, h].flatten _ [] (Nat.le_refl _) (by simp), rfl, rfl⟩, ?_⟩
  rintro r st ⟨cap, L, hL, rfl, rfl⟩
  rw [hfl] at hL ⊢
  generalize hall : b ++ h = all at hL ⊢
  have hl : all.length = b.length + h.length := by rw [← hall, List.length_append]
  conv => whnf
  refine ⟨tabF28R2, by decide +kernel, ?_⟩
  conv => whnf
  have e : IntKind.i64.wrap (sf + min (max n 0) (IntKind.i64.wrap ((all.length : Int) - sf))) = sf + min (max n 0) ((all.length : Int) - sf) := by
    rw [w64 (x := (all.length : Int) - sf) (by omega) (by omega), w64 (by omega) (by omega)]
  rw [e]
  generalize hm : sf + min (max n 0) ((all.length : Int) - sf) = m
  obtain ⟨j, rfl⟩ : ∃ j : Nat, m = (j : Int) := ⟨m.toNat, by omega⟩
  have hj : j ≤ all.length := by omega
  obtain ⟨c1, c2, c3, c4⟩ := hL
  refine ⟨by omega, by omega, by omega, ?_⟩
  conv => whnf
  refine ⟨false, [1], ?_⟩
  conv => whnf
  exact ⟨rfl, cap, L, ⟨c1, c2, c3, c4⟩, rfl⟩
theorem c_crashR (k : Pk) (n : Int) (hw : WFk k) (hh : ((k.b.length + k.h.length : Nat) : Int) ≤ 1048576) : FnOK Try.prog D 28 [.pt 0 [], (AV.sc (.int .i64 (n)))] [(AV.st [.sl .lf (by8 (k).b) .ro, .sc (.int .i64 (k).sf), .sc (.int .i64 (k).room), .sc (.bool true), .sc (.int .i64 (k).armed), .sc (.bool (k).dead), .sl .lf (by8 (k).h) .ro])] (fun r st => r = .tup [] ∧ P0 (crashP k n) st) := by
  obtain ⟨b, sf, room, armed, dead, h⟩ := k
  obtain ⟨w1, w2, w3, w4, w5, w6, w7⟩ := hw
  simp only at w1 w2 w3 w4 w5 w6 w7 hh
  by_cases h0 : tot [b, h] = 0
  · obtain ⟨rfl, rfl⟩ : b = [] ∧ h = [] := by
      simp only [tot, List.map_cons, List.map_nil, List.sum_cons, List.sum_nil] at h0
      exact ⟨List.eq_nil_of_length_eq_zero (by omega), List.eq_nil_of_length_eq_zero (by omega)⟩
    obtain rfl : sf = 0 := by
      simp at w5
      omega
    refine (c_crashR0 room armed n dead).postB ?_
    rintro r st ⟨rfl, rfl⟩
    have e : (0 : Int) + min (max n 0) (((([] : List UInt8) ++ []).length : Int) - 0) = 0 := by
      show (0 : Int) + min (max n 0) (((0 : Nat) : Int) - 0) = 0
      omega
    refine ⟨_, WkVs.cons (WkV.st (.cons (WkV.refl _) (.cons (WkV.refl _) (.cons (WkV.refl _) (.cons (WkV.refl _) (.cons (WkV.refl _) (.cons (WkV.refl _) (.cons WkV.ro .nil)))))))) .nil, rfl, .inl ⟨?_, ?_⟩⟩
    · simp [crashP]
    · simp only [crashP]
      rw [e]
      rfl
  · have h0 : 0 < tot [b, h] := by omega
    refine (c_crashR1 b h sf room armed n dead w4 w5 hh h0).postB ?_
    rintro r st ⟨rfl, cap, L, hL, rfl⟩
    have hl : (b ++ h).length = b.length + h.length := List.length_append
    have hm : (sf + min (max n 0) (((b ++ h).length : Int) - sf)).toNat ≤ (b ++ h).length := by omega
    refine ⟨_, WkVs.cons (WkV.st (.cons (WkV.refl _) (.cons (WkV.refl _) (.cons (WkV.refl _) (.cons (WkV.refl _) (.cons (WkV.refl _) (.cons (WkV.refl _) (.cons WkV.ro .nil)))))))) (WkVs.refl _), rfl, .inr ⟨cap, cap, L, okl_take hL _, ?_⟩⟩
    simp only [crashP]
    rw [List.length_take, Nat.min_eq_left hm]
    rfl
end Go.WL.T5
