/- The disk: its small functions. No condition. -/
import Derived.Test.YtdlgmddegldcjaaPart07
import Derived.Test.YtdlgmddegldcjaaWordsD
set_option linter.unusedVariables false
set_option linter.unusedSimpArgs false
namespace Go.WL.T5
open Go.WL Go.Proofs
set_option maxRecDepth 20000
set_option maxHeartbeats 4000000
structure Pk where
  b : List UInt8
  sf : Int
  room : Int
  armed : Int
  dead : Bool
  h : List UInt8
def stepP (k : Pk) : Pk × Bool := if k.armed = 0 then ({k with dead := true}, false) else (if 0 < k.armed then {k with armed := k.armed - 1} else k, true)
theorem c_off0 (k : Pk) : FnOK Try.prog D 77 [.pt 0 []] [(AV.st [.sl .lf [] .ex, .sc (.int .i64 (k).sf), .sc (.int .i64 (k).room), .sc (.bool true), .sc (.int .i64 (k).armed), .sc (.bool (k).dead), .sl .lf (by8 (k).h) .ro])] (fun r st => r = (AV.sc (.int .i64 (if k.dead = true then 6 else 0))) ∧ st = [(AV.st [.sl .lf [] .ex, .sc (.int .i64 (k).sf), .sc (.int .i64 (k).room), .sc (.bool true), .sc (.int .i64 (k).armed), .sc (.bool (k).dead), .sl .lf (by8 (k).h) .ro])]) := by
  obtain ⟨b, sf, room, armed, dead, h⟩ := k
  cases dead <;>
  · refine fnok_of_W hmix tabOK Try.func77 rfl rfl (Nat.le_of_ble_eq_true rfl) ?_
    conv => whnf
    refine ⟨false, [], ?_⟩
    conv => whnf
    exact ⟨rfl, rfl⟩
theorem c_off1 (k : Pk) (cap c2 : Nat) (L : List AV) : FnOK Try.prog D 77 [.pt 0 []] [(AV.st [.bs 1 [] .lf 0 (k).b.length cap, .sc (.int .i64 (k).sf), .sc (.int .i64 (k).room), .sc (.bool true), .sc (.int .i64 (k).armed), .sc (.bool (k).dead), .sl .lf (by8 (k).h) .ro]), .ar c2 .lf L] (fun r st => r = (AV.sc (.int .i64 (if k.dead = true then 6 else 0))) ∧ st = [(AV.st [.bs 1 [] .lf 0 (k).b.length cap, .sc (.int .i64 (k).sf), .sc (.int .i64 (k).room), .sc (.bool true), .sc (.int .i64 (k).armed), .sc (.bool (k).dead), .sl .lf (by8 (k).h) .ro]), .ar c2 .lf L]) := by
  obtain ⟨b, sf, room, armed, dead, h⟩ := k
  cases dead <;>
  · refine fnok_of_W hmix tabOK Try.func77 rfl rfl (Nat.le_of_ble_eq_true rfl) ?_
    conv => whnf
    refine ⟨false, [], ?_⟩
    conv => whnf
    exact ⟨rfl, rfl⟩
theorem c_step0 (k : Pk) (ha : -1 ≤ k.armed) (ha2 : k.armed < 9223372036854775808) : FnOK Try.prog D 79 [.pt 0 []] [(AV.st [.sl .lf [] .ex, .sc (.int .i64 (k).sf), .sc (.int .i64 (k).room), .sc (.bool true), .sc (.int .i64 (k).armed), .sc (.bool (k).dead), .sl .lf (by8 (k).h) .ro])] (fun r st => r = (AV.sc (.bool ((stepP k).2))) ∧ st = [(AV.st [.sl .lf [] .ex, .sc (.int .i64 ((stepP k).1).sf), .sc (.int .i64 ((stepP k).1).room), .sc (.bool true), .sc (.int .i64 ((stepP k).1).armed), .sc (.bool ((stepP k).1).dead), .sl .lf (by8 ((stepP k).1).h) .ro])]) := by
  obtain ⟨b, sf, room, armed, dead, h⟩ := k
  simp only at ha ha2
  by_cases h0 : armed = 0
  · subst h0
    refine fnok_of_W hmix tabOK Try.func79 rfl rfl (Nat.le_of_ble_eq_true rfl) ?_
    conv => whnf
    refine ⟨false, [], ?_⟩
    conv => whnf
    exact ⟨rfl, rfl⟩
  · by_cases h1 : 0 < armed
    · rw [show stepP ⟨b, sf, room, armed, dead, h⟩ = (⟨b, sf, room, armed - 1, dead, h⟩, true) by simp [stepP, h0, h1]]
      refine fnok_of_W hmix tabOK Try.func79 rfl rfl (Nat.le_of_ble_eq_true rfl) ?_
      conv => whnf
      refine Branch.of (fun hh => ?_) (fun hh => ?_)
      · exfalso; simp only [gt_iff_lt, ge_iff_le, decide_eq_true_eq, decide_eq_false_iff_not, beq_iff_eq, beq_eq_false_iff_ne, bne_iff_ne, bne_eq_false_iff_eq, ne_eq] at hh; first | done | omega | (simp at hh; done)
      try rw [hh]
      clear hh
      conv => whnf
      refine Branch.of (fun hh => ?_) (fun hh => ?_)
      rotate_left
      · exfalso; simp only [gt_iff_lt, ge_iff_le, decide_eq_true_eq, decide_eq_false_iff_not, beq_iff_eq, beq_eq_false_iff_ne, bne_iff_ne, bne_eq_false_iff_eq, ne_eq] at hh; first | done | omega | (simp at hh; done)
      try rw [hh]
      clear hh
      conv => whnf
      rw [w64 (x := armed - 1) (by omega) (by omega)]
      conv => whnf
      refine ⟨false, [], ?_⟩
      conv => whnf
      exact ⟨rfl, rfl⟩
    · rw [show stepP ⟨b, sf, room, armed, dead, h⟩ = (⟨b, sf, room, armed, dead, h⟩, true) by simp [stepP, h0, h1]]
      refine fnok_of_W hmix tabOK Try.func79 rfl rfl (Nat.le_of_ble_eq_true rfl) ?_
      conv => whnf
      refine Branch.of (fun hh => ?_) (fun hh => ?_)
      · exfalso; simp only [gt_iff_lt, ge_iff_le, decide_eq_true_eq, decide_eq_false_iff_not, beq_iff_eq, beq_eq_false_iff_ne, bne_iff_ne, bne_eq_false_iff_eq, ne_eq] at hh; first | done | omega | (simp at hh; done)
      try rw [hh]
      clear hh
      conv => whnf
      refine Branch.of (fun hh => ?_) (fun hh => ?_)
      · exfalso; simp only [gt_iff_lt, ge_iff_le, decide_eq_true_eq, decide_eq_false_iff_not, beq_iff_eq, beq_eq_false_iff_ne, bne_iff_ne, bne_eq_false_iff_eq, ne_eq] at hh; first | done | omega | (simp at hh; done)
      try rw [hh]
      clear hh
      conv => whnf
      refine ⟨false, [], ?_⟩
      conv => whnf
      exact ⟨rfl, rfl⟩
theorem c_step1 (k : Pk) (cap c2 : Nat) (L : List AV) (ha : -1 ≤ k.armed) (ha2 : k.armed < 9223372036854775808) : FnOK Try.prog D 79 [.pt 0 []] [(AV.st [.bs 1 [] .lf 0 (k).b.length cap, .sc (.int .i64 (k).sf), .sc (.int .i64 (k).room), .sc (.bool true), .sc (.int .i64 (k).armed), .sc (.bool (k).dead), .sl .lf (by8 (k).h) .ro]), .ar c2 .lf L] (fun r st => r = (AV.sc (.bool ((stepP k).2))) ∧ st = [(AV.st [.bs 1 [] .lf 0 ((stepP k).1).b.length cap, .sc (.int .i64 ((stepP k).1).sf), .sc (.int .i64 ((stepP k).1).room), .sc (.bool true), .sc (.int .i64 ((stepP k).1).armed), .sc (.bool ((stepP k).1).dead), .sl .lf (by8 ((stepP k).1).h) .ro]), .ar c2 .lf L]) := by
  obtain ⟨b, sf, room, armed, dead, h⟩ := k
  simp only at ha ha2
  by_cases h0 : armed = 0
  · subst h0
    refine fnok_of_W hmix tabOK Try.func79 rfl rfl (Nat.le_of_ble_eq_true rfl) ?_
    conv => whnf
    refine ⟨false, [], ?_⟩
    conv => whnf
    exact ⟨rfl, rfl⟩
  · by_cases h1 : 0 < armed
    · rw [show stepP ⟨b, sf, room, armed, dead, h⟩ = (⟨b, sf, room, armed - 1, dead, h⟩, true) by simp [stepP, h0, h1]]
      refine fnok_of_W hmix tabOK Try.func79 rfl rfl (Nat.le_of_ble_eq_true rfl) ?_
      conv => whnf
      refine Branch.of (fun hh => ?_) (fun hh => ?_)
      · exfalso; simp only [gt_iff_lt, ge_iff_le, decide_eq_true_eq, decide_eq_false_iff_not, beq_iff_eq, beq_eq_false_iff_ne, bne_iff_ne, bne_eq_false_iff_eq, ne_eq] at hh; first | done | omega | (simp at hh; done)
      try rw [hh]
      clear hh
      conv => whnf
      refine Branch.of (fun hh => ?_) (fun hh => ?_)
      rotate_left
      · exfalso; simp only [gt_iff_lt, ge_iff_le, decide_eq_true_eq, decide_eq_false_iff_not, beq_iff_eq, beq_eq_false_iff_ne, bne_iff_ne, bne_eq_false_iff_eq, ne_eq] at hh; first | done | omega | (simp at hh; done)
      try rw [hh]
      clear hh
      conv => whnf
      rw [w64 (x := armed - 1) (by omega) (by omega)]
      conv => whnf
      refine ⟨false, [], ?_⟩
      conv => whnf
      exact ⟨rfl, rfl⟩
    · rw [show stepP ⟨b, sf, room, armed, dead, h⟩ = (⟨b, sf, room, armed, dead, h⟩, true) by simp [stepP, h0, h1]]
      refine fnok_of_W hmix tabOK Try.func79 rfl rfl (Nat.le_of_ble_eq_true rfl) ?_
      conv => whnf
      refine Branch.of (fun hh => ?_) (fun hh => ?_)
      · exfalso; simp only [gt_iff_lt, ge_iff_le, decide_eq_true_eq, decide_eq_false_iff_not, beq_iff_eq, beq_eq_false_iff_ne, bne_iff_ne, bne_eq_false_iff_eq, ne_eq] at hh; first | done | omega | (simp at hh; done)
      try rw [hh]
      clear hh
      conv => whnf
      refine Branch.of (fun hh => ?_) (fun hh => ?_)
      · exfalso; simp only [gt_iff_lt, ge_iff_le, decide_eq_true_eq, decide_eq_false_iff_not, beq_iff_eq, beq_eq_false_iff_ne, bne_iff_ne, bne_eq_false_iff_eq, ne_eq] at hh; first | done | omega | (simp at hh; done)
      try rw [hh]
      clear hh
      conv => whnf
      refine ⟨false, [], ?_⟩
      conv => whnf
      exact ⟨rfl, rfl⟩
theorem c_dead0 (k : Pk) : FnOK Try.prog D 21 [.pt 0 []] [(AV.st [.sl .lf [] .ex, .sc (.int .i64 (k).sf), .sc (.int .i64 (k).room), .sc (.bool true), .sc (.int .i64 (k).armed), .sc (.bool (k).dead), .sl .lf (by8 (k).h) .ro])] (fun r st => r = (AV.sc (.bool (k.dead))) ∧ st = [(AV.st [.sl .lf [] .ex, .sc (.int .i64 (k).sf), .sc (.int .i64 (k).room), .sc (.bool true), .sc (.int .i64 (k).armed), .sc (.bool (k).dead), .sl .lf (by8 (k).h) .ro])]) := by
  refine fnok_of_W hmix tabOK Try.func21 rfl rfl (Nat.le_of_ble_eq_true rfl) ?_
  conv => whnf
  refine ⟨false, [], ?_⟩
  conv => whnf
  exact ⟨rfl, rfl⟩
theorem c_dead1 (k : Pk) (cap c2 : Nat) (L : List AV) : FnOK Try.prog D 21 [.pt 0 []] [(AV.st [.bs 1 [] .lf 0 (k).b.length cap, .sc (.int .i64 (k).sf), .sc (.int .i64 (k).room), .sc (.bool true), .sc (.int .i64 (k).armed), .sc (.bool (k).dead), .sl .lf (by8 (k).h) .ro]), .ar c2 .lf L] (fun r st => r = (AV.sc (.bool (k.dead))) ∧ st = [(AV.st [.bs 1 [] .lf 0 (k).b.length cap, .sc (.int .i64 (k).sf), .sc (.int .i64 (k).room), .sc (.bool true), .sc (.int .i64 (k).armed), .sc (.bool (k).dead), .sl .lf (by8 (k).h) .ro]), .ar c2 .lf L]) := by
  refine fnok_of_W hmix tabOK Try.func21 rfl rfl (Nat.le_of_ble_eq_true rfl) ?_
  conv => whnf
  refine ⟨false, [], ?_⟩
  conv => whnf
  exact ⟨rfl, rfl⟩
theorem c_safe0 (k : Pk) : FnOK Try.prog D 24 [.pt 0 []] [(AV.st [.sl .lf [] .ex, .sc (.int .i64 (k).sf), .sc (.int .i64 (k).room), .sc (.bool true), .sc (.int .i64 (k).armed), .sc (.bool (k).dead), .sl .lf (by8 (k).h) .ro])] (fun r st => r = (AV.sc (.int .i64 (k.sf))) ∧ st = [(AV.st [.sl .lf [] .ex, .sc (.int .i64 (k).sf), .sc (.int .i64 (k).room), .sc (.bool true), .sc (.int .i64 (k).armed), .sc (.bool (k).dead), .sl .lf (by8 (k).h) .ro])]) := by
  refine fnok_of_W hmix tabOK Try.func24 rfl rfl (Nat.le_of_ble_eq_true rfl) ?_
  conv => whnf
  refine ⟨false, [], ?_⟩
  conv => whnf
  exact ⟨rfl, rfl⟩
theorem c_safe1 (k : Pk) (cap c2 : Nat) (L : List AV) : FnOK Try.prog D 24 [.pt 0 []] [(AV.st [.bs 1 [] .lf 0 (k).b.length cap, .sc (.int .i64 (k).sf), .sc (.int .i64 (k).room), .sc (.bool true), .sc (.int .i64 (k).armed), .sc (.bool (k).dead), .sl .lf (by8 (k).h) .ro]), .ar c2 .lf L] (fun r st => r = (AV.sc (.int .i64 (k.sf))) ∧ st = [(AV.st [.bs 1 [] .lf 0 (k).b.length cap, .sc (.int .i64 (k).sf), .sc (.int .i64 (k).room), .sc (.bool true), .sc (.int .i64 (k).armed), .sc (.bool (k).dead), .sl .lf (by8 (k).h) .ro]), .ar c2 .lf L]) := by
  refine fnok_of_W hmix tabOK Try.func24 rfl rfl (Nat.le_of_ble_eq_true rfl) ?_
  conv => whnf
  refine ⟨false, [], ?_⟩
  conv => whnf
  exact ⟨rfl, rfl⟩
theorem c_arm0 (k : Pk) (n : Int) : FnOK Try.prog D 27 [.pt 0 [], (AV.sc (.int .i64 (n)))] [(AV.st [.sl .lf [] .ex, .sc (.int .i64 (k).sf), .sc (.int .i64 (k).room), .sc (.bool true), .sc (.int .i64 (k).armed), .sc (.bool (k).dead), .sl .lf (by8 (k).h) .ro])] (fun r st => r = .tup [] ∧ st = [(AV.st [.sl .lf [] .ex, .sc (.int .i64 ({k with armed := max n (-1)}).sf), .sc (.int .i64 ({k with armed := max n (-1)}).room), .sc (.bool true), .sc (.int .i64 ({k with armed := max n (-1)}).armed), .sc (.bool ({k with armed := max n (-1)}).dead), .sl .lf (by8 ({k with armed := max n (-1)}).h) .ro])]) := by
  refine fnok_of_W hmix tabOK Try.func27 rfl rfl (Nat.le_of_ble_eq_true rfl) ?_
  conv => whnf
  refine ⟨false, [], ?_⟩
  conv => whnf
  exact ⟨rfl, rfl⟩
theorem c_arm1 (k : Pk) (cap c2 : Nat) (L : List AV) (n : Int) : FnOK Try.prog D 27 [.pt 0 [], (AV.sc (.int .i64 (n)))] [(AV.st [.bs 1 [] .lf 0 (k).b.length cap, .sc (.int .i64 (k).sf), .sc (.int .i64 (k).room), .sc (.bool true), .sc (.int .i64 (k).armed), .sc (.bool (k).dead), .sl .lf (by8 (k).h) .ro]), .ar c2 .lf L] (fun r st => r = .tup [] ∧ st = [(AV.st [.bs 1 [] .lf 0 ({k with armed := max n (-1)}).b.length cap, .sc (.int .i64 ({k with armed := max n (-1)}).sf), .sc (.int .i64 ({k with armed := max n (-1)}).room), .sc (.bool true), .sc (.int .i64 ({k with armed := max n (-1)}).armed), .sc (.bool ({k with armed := max n (-1)}).dead), .sl .lf (by8 ({k with armed := max n (-1)}).h) .ro]), .ar c2 .lf L]) := by
  refine fnok_of_W hmix tabOK Try.func27 rfl rfl (Nat.le_of_ble_eq_true rfl) ?_
  conv => whnf
  refine ⟨false, [], ?_⟩
  conv => whnf
  exact ⟨rfl, rfl⟩
def syncP (k : Pk) : Pk × Int := if k.dead = true then (k, 6) else if (stepP k).2 = true then ({(stepP k).1 with sf := k.b.length}, 0) else ((stepP k).1, 6)
theorem c_sync0 (k : Pk) (ha : -1 ≤ k.armed) (ha2 : k.armed < 9223372036854775808) (hb0 : k.b = []) : FnOK Try.prog D 29 [.pt 0 []] [(AV.st [.sl .lf [] .ex, .sc (.int .i64 (k).sf), .sc (.int .i64 (k).room), .sc (.bool true), .sc (.int .i64 (k).armed), .sc (.bool (k).dead), .sl .lf (by8 (k).h) .ro])] (fun r st => r = (AV.sc (.int .i64 ((syncP k).2))) ∧ st = [(AV.st [.sl .lf [] .ex, .sc (.int .i64 ((syncP k).1).sf), .sc (.int .i64 ((syncP k).1).room), .sc (.bool true), .sc (.int .i64 ((syncP k).1).armed), .sc (.bool ((syncP k).1).dead), .sl .lf (by8 ((syncP k).1).h) .ro])]) := by
  obtain ⟨b, sf, room, armed, dead, h⟩ := k
  simp only at ha ha2 hb0
  subst hb0
  cases dead with
  | true =>
    refine fnok_of_W hmix tabOK Try.func29 rfl rfl (Nat.le_of_ble_eq_true rfl) ?_
    conv => whnf
    refine (c_off0 ⟨_, sf, room, armed, true, h⟩).mono fun r st e => ?_
    obtain ⟨rfl, rfl⟩ := e
    conv => whnf
    refine ⟨false, [], ?_⟩
    conv => whnf
    exact ⟨rfl, rfl⟩
  | false =>
    have cs := c_step0 ⟨[], sf, room, armed, false, h⟩ ha ha2
    have hq : (stepP ⟨[], sf, room, armed, false, h⟩).1.b = [] := by unfold stepP; split <;> (try split) <;> rfl
    rw [show syncP ⟨[], sf, room, armed, false, h⟩ = if (stepP ⟨[], sf, room, armed, false, h⟩).2 = true then ({(stepP ⟨[], sf, room, armed, false, h⟩).1 with sf := ([] : List UInt8).length}, 0) else ((stepP ⟨[], sf, room, armed, false, h⟩).1, 6) from rfl]
    generalize stepP ⟨[], sf, room, armed, false, h⟩ = q at cs hq ⊢
    obtain ⟨⟨qb, qs, qr, qa, qd, qh⟩, f⟩ := q
    simp only at hq
    subst hq
    refine fnok_of_W hmix tabOK Try.func29 rfl rfl (Nat.le_of_ble_eq_true rfl) ?_
    conv => whnf
    refine (c_off0 ⟨_, sf, room, armed, false, h⟩).mono fun r st e => ?_
    obtain ⟨rfl, rfl⟩ := e
    conv => whnf
    refine (cs).mono fun r st e => ?_
    obtain ⟨rfl, rfl⟩ := e
    conv => whnf
    cases f <;>
    · conv => whnf
      refine ⟨false, [], ?_⟩
      conv => whnf
      exact ⟨rfl, rfl⟩
theorem c_sync1 (k : Pk) (cap c2 : Nat) (L : List AV) (ha : -1 ≤ k.armed) (ha2 : k.armed < 9223372036854775808) : FnOK Try.prog D 29 [.pt 0 []] [(AV.st [.bs 1 [] .lf 0 (k).b.length cap, .sc (.int .i64 (k).sf), .sc (.int .i64 (k).room), .sc (.bool true), .sc (.int .i64 (k).armed), .sc (.bool (k).dead), .sl .lf (by8 (k).h) .ro]), .ar c2 .lf L] (fun r st => r = (AV.sc (.int .i64 ((syncP k).2))) ∧ st = [(AV.st [.bs 1 [] .lf 0 ((syncP k).1).b.length cap, .sc (.int .i64 ((syncP k).1).sf), .sc (.int .i64 ((syncP k).1).room), .sc (.bool true), .sc (.int .i64 ((syncP k).1).armed), .sc (.bool ((syncP k).1).dead), .sl .lf (by8 ((syncP k).1).h) .ro]), .ar c2 .lf L]) := by
  obtain ⟨b, sf, room, armed, dead, h⟩ := k
  simp only at ha ha2
  cases dead with
  | true =>
    refine fnok_of_W hmix tabOK Try.func29 rfl rfl (Nat.le_of_ble_eq_true rfl) ?_
    conv => whnf
    refine (c_off1 ⟨_, sf, room, armed, true, h⟩ cap c2 L).mono fun r st e => ?_
    obtain ⟨rfl, rfl⟩ := e
    conv => whnf
    refine ⟨false, [], ?_⟩
    conv => whnf
    exact ⟨rfl, rfl⟩
  | false =>
    have cs := c_step1 ⟨b, sf, room, armed, false, h⟩ cap c2 L ha ha2
    have hq : (stepP ⟨b, sf, room, armed, false, h⟩).1.b = b := by unfold stepP; split <;> (try split) <;> rfl
    rw [show syncP ⟨b, sf, room, armed, false, h⟩ = if (stepP ⟨b, sf, room, armed, false, h⟩).2 = true then ({(stepP ⟨b, sf, room, armed, false, h⟩).1 with sf := (b : List UInt8).length}, 0) else ((stepP ⟨b, sf, room, armed, false, h⟩).1, 6) from rfl]
    generalize stepP ⟨b, sf, room, armed, false, h⟩ = q at cs hq ⊢
    obtain ⟨⟨qb, qs, qr, qa, qd, qh⟩, f⟩ := q
    simp only at hq
    subst hq
    refine fnok_of_W hmix tabOK Try.func29 rfl rfl (Nat.le_of_ble_eq_true rfl) ?_
    conv => whnf
    refine (c_off1 ⟨_, sf, room, armed, false, h⟩ cap c2 L).mono fun r st e => ?_
    obtain ⟨rfl, rfl⟩ := e
    conv => whnf
    refine (cs).mono fun r st e => ?_
    obtain ⟨rfl, rfl⟩ := e
    conv => whnf
    cases f <;>
    · conv => whnf
      refine ⟨false, [], ?_⟩
      conv => whnf
      exact ⟨rfl, rfl⟩
end Go.WL.T5
