/- The reference's disk. No condition. -/
import Derived.Test.YtdlgmddegldcjaaPart12
set_option linter.unusedVariables false
set_option linter.unusedSimpArgs false
namespace Go.WL.T5
open Go.WL Go.Proofs
set_option maxRecDepth 20000
set_option maxHeartbeats 4000000
structure Rk where
  s : List UInt8
  m : List UInt8
  h : List UInt8
  room : Int
  armed : Int
  dead : Bool
def WFr (k : Rk) : Prop := 0 ≤ k.room ∧ k.room ≤ 1048576 ∧ ((k.s.length + k.m.length + k.h.length : Nat) : Int) ≤ k.room ∧ -1 ≤ k.armed ∧ k.armed < 9223372036854775808
def stepR (k : Rk) : Rk × Bool := if k.armed = 0 then ({k with dead := true}, false) else (if 0 < k.armed then {k with armed := k.armed - 1} else k, true)
def appR (k : Rk) (x : List UInt8) : Rk × Int := if k.dead = true then (k, 6) else if k.room - k.s.length - k.m.length < x.length then (k, 4) else if x = [] then (k, 0) else if (stepR k).2 = true then ({(stepR k).1 with m := k.m ++ x}, 0) else ({(stepR k).1 with h := x}, 6)
def syncR (k : Rk) : Rk × Int := if k.dead = true then (k, 6) else if (stepR k).2 = true then ({(stepR k).1 with s := k.s ++ k.m, m := []}, 0) else ((stepR k).1, 6)
def cutR (k : Rk) (n : Int) : Rk × Int := if k.dead = true then (k, 6) else if n < 0 ∨ ((k.s.length + k.m.length : Nat) : Int) < n then (k, 1) else if (stepR k).2 = true then ({(stepR k).1 with s := (k.s ++ k.m).take n.toNat, m := []}, 0) else ((stepR k).1, 6)
def crashRr (k : Rk) (n : Int) : Rk := ⟨k.s ++ (k.m ++ k.h).take (min (max n 0) ((k.m ++ k.h).length : Int)).toNat, [], [], k.room, -1, false⟩
theorem c_rnew (n : Int) : FnOK Try.prog D 18 [(AV.sc (.int .i64 (n)))] [] (fun r st => r = (AV.st [.sl .lf (by8 ((⟨[], [], [], n, -1, false⟩ : Rk)).s) .ro, .sl .lf (by8 ((⟨[], [], [], n, -1, false⟩ : Rk)).m) .ro, .sl .lf (by8 ((⟨[], [], [], n, -1, false⟩ : Rk)).h) .ro, .sc (.int .i64 ((⟨[], [], [], n, -1, false⟩ : Rk)).room), .sc (.int .i64 ((⟨[], [], [], n, -1, false⟩ : Rk)).armed), .sc (.bool ((⟨[], [], [], n, -1, false⟩ : Rk)).dead)]) ∧ st = []) := by
  refine fnok_of_W hmix tabOK Try.func18 rfl rfl (Nat.le_of_ble_eq_true rfl) ?_
  conv => whnf
  refine ⟨false, [999], ?_⟩
  conv => whnf
  exact ⟨rfl, rfl⟩
theorem c_rall (k : Rk) (hw : WFr k) : FnOK Try.prog D 76 [(AV.st [.sl .lf (by8 (k).s) .ro, .sl .lf (by8 (k).m) .ro, .sl .lf (by8 (k).h) .ro, .sc (.int .i64 (k).room), .sc (.int .i64 (k).armed), .sc (.bool (k).dead)])] [] (fun r st => r = (AV.sl .lf (by8 ((k.s ++ k.m))) .ro) ∧ st = []) := by
  obtain ⟨s, m, h, room, armed, dead⟩ := k
  obtain ⟨w1, w2, w3, w4, w5⟩ := hw
  simp only at w1 w2 w3 w4 w5
  refine fnok_of_W hmix tabOK Try.func76 rfl rfl (Nat.le_of_ble_eq_true rfl) ?_
  conv => whnf
  refine ⟨tabF76R1, by decide +kernel, ?_⟩
  conv => whnf
  refine ⟨by simp only [List.length_replicate, len8]; omega, ?_⟩
  conv => whnf
  refine ⟨by simp only [List.length_append, List.length_replicate, len8]; omega, ?_⟩
  conv => whnf
  refine ⟨false, [999], ?_⟩
  conv => whnf
  refine ⟨?_, rfl⟩
  rw [← by8_app]
  rfl
theorem c_rstep (k : Rk) (hw : WFr k) : FnOK Try.prog D 106 [(AV.st [.sl .lf (by8 (k).s) .ro, .sl .lf (by8 (k).m) .ro, .sl .lf (by8 (k).h) .ro, .sc (.int .i64 (k).room), .sc (.int .i64 (k).armed), .sc (.bool (k).dead)])] [] (fun r st => r = .tup [(AV.st [.sl .lf (by8 ((stepR k).1).s) .ro, .sl .lf (by8 ((stepR k).1).m) .ro, .sl .lf (by8 ((stepR k).1).h) .ro, .sc (.int .i64 ((stepR k).1).room), .sc (.int .i64 ((stepR k).1).armed), .sc (.bool ((stepR k).1).dead)]), (AV.sc (.bool ((stepR k).2)))] ∧ st = []) := by
  obtain ⟨s, m, h, room, armed, dead⟩ := k
  obtain ⟨w1, w2, w3, w4, w5⟩ := hw
  simp only at w1 w2 w3 w4 w5
  by_cases h0 : armed = 0
  · subst h0
    refine fnok_of_W hmix tabOK Try.func106 rfl rfl (Nat.le_of_ble_eq_true rfl) ?_
    conv => whnf
    refine ⟨false, [], ?_⟩
    conv => whnf
    exact ⟨rfl, rfl⟩
  · by_cases h1 : 0 < armed
    · rw [show stepR ⟨s, m, h, room, armed, dead⟩ = (⟨s, m, h, room, armed - 1, dead⟩, true) by simp [stepR, h0, h1]]
      refine fnok_of_W hmix tabOK Try.func106 rfl rfl (Nat.le_of_ble_eq_true rfl) ?_
      conv => whnf
      refine Branch.of (fun hh => ?_) (fun hh => ?_)
      · exfalso; simp only [gt_iff_lt, ge_iff_le, decide_eq_true_eq, decide_eq_false_iff_not, beq_iff_eq, beq_eq_false_iff_ne, bne_iff_ne, bne_eq_false_iff_eq, ne_eq] at hh; first | done | omega | (simp at hh; done)
      try rw [hh]
      clear hh
      conv => whnf
      refine Branch.of (fun hh => ?_) (fun hh => ?_)
      rotate_left
      · exfalso; simp only [gt_iff_lt, ge_iff_le, decide_eq_true_eq, decide_eq_false_iff_not, beq_iff_eq, beq_eq_false_iff_ne, bne_iff_ne, bne_eq_false_iff_eq, ne_eq] at hh; first | done | omega | (simp at hh; done)
      try rw [hh]
      clear hh
      conv => whnf
      rw [w64 (x := armed - 1) (by omega) (by omega)]
      conv => whnf
      refine ⟨false, [], ?_⟩
      conv => whnf
      exact ⟨rfl, rfl⟩
    · rw [show stepR ⟨s, m, h, room, armed, dead⟩ = (⟨s, m, h, room, armed, dead⟩, true) by simp [stepR, h0, h1]]
      refine fnok_of_W hmix tabOK Try.func106 rfl rfl (Nat.le_of_ble_eq_true rfl) ?_
      conv => whnf
      refine Branch.of (fun hh => ?_) (fun hh => ?_)
      · exfalso; simp only [gt_iff_lt, ge_iff_le, decide_eq_true_eq, decide_eq_false_iff_not, beq_iff_eq, beq_eq_false_iff_ne, bne_iff_ne, bne_eq_false_iff_eq, ne_eq] at hh; first | done | omega | (simp at hh; done)
      try rw [hh]
      clear hh
      conv => whnf
      refine Branch.of (fun hh => ?_) (fun hh => ?_)
      · exfalso; simp only [gt_iff_lt, ge_iff_le, decide_eq_true_eq, decide_eq_false_iff_not, beq_iff_eq, beq_eq_false_iff_ne, bne_iff_ne, bne_eq_false_iff_eq, ne_eq] at hh; first | done | omega | (simp at hh; done)
      try rw [hh]
      clear hh
      conv => whnf
      refine ⟨false, [], ?_⟩
      conv => whnf
      exact ⟨rfl, rfl⟩
theorem c_rapp (k : Rk) (x : List UInt8) (hw : WFr k) (hx : x.length < 1000000000) : FnOK Try.prog D 72 [(AV.st [.sl .lf (by8 (k).s) .ro, .sl .lf (by8 (k).m) .ro, .sl .lf (by8 (k).h) .ro, .sc (.int .i64 (k).room), .sc (.int .i64 (k).armed), .sc (.bool (k).dead)]), (AV.sl .lf (by8 (x)) .ro)] [] (fun r st => r = .tup [(AV.st [.sl .lf (by8 ((appR k x).1).s) .ro, .sl .lf (by8 ((appR k x).1).m) .ro, .sl .lf (by8 ((appR k x).1).h) .ro, .sc (.int .i64 ((appR k x).1).room), .sc (.int .i64 ((appR k x).1).armed), .sc (.bool ((appR k x).1).dead)]), (AV.sc (.int .i64 ((appR k x).2)))] ∧ st = []) := by
  have cs := c_rstep k hw
  obtain ⟨s, m, h, room, armed, dead⟩ := k
  obtain ⟨w1, w2, w3, w4, w5⟩ := hw
  simp only at w1 w2 w3 w4 w5
  cases dead with
  | true =>
    refine fnok_of_W hmix tabOK Try.func72 rfl rfl (Nat.le_of_ble_eq_true rfl) ?_
    conv => whnf
    refine ⟨false, [999], ?_⟩
    conv => whnf
    exact ⟨rfl, rfl⟩
  | false =>
    rw [show appR ⟨s, m, h, room, armed, false⟩ x = if room - s.length - m.length < x.length then (⟨s, m, h, room, armed, false⟩, 4) else if x = [] then (⟨s, m, h, room, armed, false⟩, 0) else if (stepR ⟨s, m, h, room, armed, false⟩).2 = true then ({(stepR ⟨s, m, h, room, armed, false⟩).1 with m := m ++ x}, 0) else ({(stepR ⟨s, m, h, room, armed, false⟩).1 with h := x}, 6) from rfl]
    have hq : (stepR ⟨s, m, h, room, armed, false⟩).1.m = m := by unfold stepR; split <;> (try split) <;> rfl
    generalize stepR ⟨s, m, h, room, armed, false⟩ = q at cs hq ⊢
    obtain ⟨⟨qs, qm, qh, qr, qa, qd⟩, f⟩ := q
    simp only at hq
    have hq := hq.symm
    subst hq
    by_cases h4 : room - s.length - m.length < x.length
    · rw [if_pos h4]
      refine fnok_of_W hmix tabOK Try.func72 rfl rfl (Nat.le_of_ble_eq_true rfl) ?_
      conv => whnf
      rw [len8, len8, len8]
      refine Branch.yes (decide_eq_true (by show (x.length : Int) > IntKind.i64.wrap (IntKind.i64.wrap (room - (s.length : Int)) - (m.length : Int)); rw [w64 (x := room - _) (by omega) (by omega), w64 (by omega) (by omega)]; omega)) ?_
      conv => whnf
      refine ⟨false, [999], ?_⟩
      conv => whnf
      exact ⟨rfl, rfl⟩
    · rw [if_neg h4]
      have hlt : ¬ (x.length : Int) > IntKind.i64.wrap (IntKind.i64.wrap (room - (s.length : Int)) - (m.length : Int)) := by
        rw [w64 (x := room - _) (by omega) (by omega), w64 (by omega) (by omega)]; omega
      by_cases h5 : x = []
      · rw [if_pos h5]
        subst h5
        refine fnok_of_W hmix tabOK Try.func72 rfl rfl (Nat.le_of_ble_eq_true rfl) ?_
        conv => whnf
        rw [len8, len8, len8]
        refine Branch.no (decide_eq_false (by show ¬ (0 : Int) > IntKind.i64.wrap (IntKind.i64.wrap (room - (s.length : Int)) - (m.length : Int)); exact hlt)) ?_
        conv => whnf
        refine ⟨false, [999], ?_⟩
        conv => whnf
        exact ⟨rfl, rfl⟩
      · rw [if_neg h5]
        have h5' := lenI_eq0 x h5
        cases f with
        | true =>
          rw [if_pos rfl]
          refine fnok_of_W hmix tabOK Try.func72 rfl rfl (Nat.le_of_ble_eq_true rfl) ?_
          conv => whnf
          rw [len8, len8, len8]
          refine Branch.no (decide_eq_false hlt) ?_
          conv => whnf
          rw [len8]
          refine Branch.of (fun hh => ?_) (fun hh => ?_)
          · exfalso; simp only [gt_iff_lt, ge_iff_le, decide_eq_true_eq, decide_eq_false_iff_not, beq_iff_eq, beq_eq_false_iff_ne, bne_iff_ne, bne_eq_false_iff_eq, ne_eq] at hh; first | done | omega | (simp at hh; done)
          try rw [hh]
          clear hh
          conv => whnf
          refine (cs).mono fun r st e => ?_
          obtain ⟨rfl, rfl⟩ := e
          conv => whnf
          refine ⟨by simp only [List.length_replicate, len8]; omega, ?_⟩
          conv => whnf
          refine ⟨by simp only [List.length_append, List.length_replicate, len8]; omega, ?_⟩
          conv => whnf
          refine ⟨false, [999], ?_⟩
          conv => whnf
          refine ⟨?_, rfl⟩
          rw [← by8_app]
          rfl
        | false =>
          rw [if_neg (fun e => Bool.noConfusion e)]
          refine fnok_of_W hmix tabOK Try.func72 rfl rfl (Nat.le_of_ble_eq_true rfl) ?_
          conv => whnf
          rw [len8, len8, len8]
          refine Branch.no (decide_eq_false hlt) ?_
          conv => whnf
          rw [len8]
          refine Branch.of (fun hh => ?_) (fun hh => ?_)
          · exfalso; simp only [gt_iff_lt, ge_iff_le, decide_eq_true_eq, decide_eq_false_iff_not, beq_iff_eq, beq_eq_false_iff_ne, bne_iff_ne, bne_eq_false_iff_eq, ne_eq] at hh; first | done | omega | (simp at hh; done)
          try rw [hh]
          clear hh
          conv => whnf
          refine (cs).mono fun r st e => ?_
          obtain ⟨rfl, rfl⟩ := e
          conv => whnf
          refine ⟨by simp only [List.length_replicate, len8]; omega, ?_⟩
          conv => whnf
          refine ⟨false, [999], ?_⟩
          conv => whnf
          exact ⟨rfl, rfl⟩
theorem c_rsync (k : Rk) (hw : WFr k) : FnOK Try.prog D 73 [(AV.st [.sl .lf (by8 (k).s) .ro, .sl .lf (by8 (k).m) .ro, .sl .lf (by8 (k).h) .ro, .sc (.int .i64 (k).room), .sc (.int .i64 (k).armed), .sc (.bool (k).dead)])] [] (fun r st => r = .tup [(AV.st [.sl .lf (by8 ((syncR k).1).s) .ro, .sl .lf (by8 ((syncR k).1).m) .ro, .sl .lf (by8 ((syncR k).1).h) .ro, .sc (.int .i64 ((syncR k).1).room), .sc (.int .i64 ((syncR k).1).armed), .sc (.bool ((syncR k).1).dead)]), (AV.sc (.int .i64 ((syncR k).2)))] ∧ st = []) := by
  have cs := c_rstep k hw
  have ca := c_rall k hw
  obtain ⟨s, m, h, room, armed, dead⟩ := k
  cases dead with
  | true =>
    refine fnok_of_W hmix tabOK Try.func73 rfl rfl (Nat.le_of_ble_eq_true rfl) ?_
    conv => whnf
    refine ⟨false, [999], ?_⟩
    conv => whnf
    exact ⟨rfl, rfl⟩
  | false =>
    rw [show syncR ⟨s, m, h, room, armed, false⟩ = if (stepR ⟨s, m, h, room, armed, false⟩).2 = true then ({(stepR ⟨s, m, h, room, armed, false⟩).1 with s := s ++ m, m := []}, 0) else ((stepR ⟨s, m, h, room, armed, false⟩).1, 6) from rfl]
    generalize stepR ⟨s, m, h, room, armed, false⟩ = q at cs ⊢
    obtain ⟨⟨qs, qm, qh, qr, qa, qd⟩, f⟩ := q
    cases f with
    | true =>
      rw [if_pos rfl]
      refine fnok_of_W hmix tabOK Try.func73 rfl rfl (Nat.le_of_ble_eq_true rfl) ?_
      conv => whnf
      refine (cs).mono fun r st e => ?_
      obtain ⟨rfl, rfl⟩ := e
      conv => whnf
      refine (ca).mono fun r st e => ?_
      obtain ⟨rfl, rfl⟩ := e
      conv => whnf
      refine ⟨false, [999], ?_⟩
      conv => whnf
      exact ⟨rfl, rfl⟩
    | false =>
      rw [if_neg (fun e => Bool.noConfusion e)]
      refine fnok_of_W hmix tabOK Try.func73 rfl rfl (Nat.le_of_ble_eq_true rfl) ?_
      conv => whnf
      refine (cs).mono fun r st e => ?_
      obtain ⟨rfl, rfl⟩ := e
      conv => whnf
      refine ⟨false, [999], ?_⟩
      conv => whnf
      exact ⟨rfl, rfl⟩
theorem c_rcut (k : Rk) (n : Int) (hw : WFr k) : FnOK Try.prog D 74 [(AV.st [.sl .lf (by8 (k).s) .ro, .sl .lf (by8 (k).m) .ro, .sl .lf (by8 (k).h) .ro, .sc (.int .i64 (k).room), .sc (.int .i64 (k).armed), .sc (.bool (k).dead)]), (AV.sc (.int .i64 (n)))] [] (fun r st => r = .tup [(AV.st [.sl .lf (by8 ((cutR k n).1).s) .ro, .sl .lf (by8 ((cutR k n).1).m) .ro, .sl .lf (by8 ((cutR k n).1).h) .ro, .sc (.int .i64 ((cutR k n).1).room), .sc (.int .i64 ((cutR k n).1).armed), .sc (.bool ((cutR k n).1).dead)]), (AV.sc (.int .i64 ((cutR k n).2)))] ∧ st = []) := by
  have cs := c_rstep k hw
  have ca := c_rall k hw
  obtain ⟨s, m, h, room, armed, dead⟩ := k
  obtain ⟨w1, w2, w3, w4, w5⟩ := hw
  simp only at w1 w2 w3 w4 w5
  cases dead with
  | true =>
    refine fnok_of_W hmix tabOK Try.func74 rfl rfl (Nat.le_of_ble_eq_true rfl) ?_
    conv => whnf
    refine ⟨false, [999], ?_⟩
    conv => whnf
    exact ⟨rfl, rfl⟩
  | false =>
    rw [show cutR ⟨s, m, h, room, armed, false⟩ n = if n < 0 ∨ ((s.length + m.length : Nat) : Int) < n then (⟨s, m, h, room, armed, false⟩, 1) else if (stepR ⟨s, m, h, room, armed, false⟩).2 = true then ({(stepR ⟨s, m, h, room, armed, false⟩).1 with s := (s ++ m).take n.toNat, m := []}, 0) else ((stepR ⟨s, m, h, room, armed, false⟩).1, 6) from rfl]
    generalize stepR ⟨s, m, h, room, armed, false⟩ = q at cs ⊢
    obtain ⟨⟨qs, qm, qh, qr, qa, qd⟩, f⟩ := q
    have hsum : IntKind.i64.wrap ((s.length : Int) + (m.length : Int)) = ((s.length + m.length : Nat) : Int) := by rw [w64 (by omega) (by omega)]; omega
    by_cases h4 : n < 0 ∨ ((s.length + m.length : Nat) : Int) < n
    · rw [if_pos h4]
      refine fnok_of_W hmix tabOK Try.func74 rfl rfl (Nat.le_of_ble_eq_true rfl) ?_
      conv => whnf
      by_cases hn : n < 0
      · refine Branch.of (fun hh => ?_) (fun hh => ?_)
        rotate_left
        · exfalso; simp only [gt_iff_lt, ge_iff_le, decide_eq_true_eq, decide_eq_false_iff_not, beq_iff_eq, beq_eq_false_iff_ne, bne_iff_ne, bne_eq_false_iff_eq, ne_eq] at hh; first | done | omega | (simp at hh; done)
        try rw [hh]
        clear hh
        conv => whnf
        refine ⟨false, [999], ?_⟩
        conv => whnf
        exact ⟨rfl, rfl⟩
      · refine Branch.of (fun hh => ?_) (fun hh => ?_)
        · exfalso; simp only [gt_iff_lt, ge_iff_le, decide_eq_true_eq, decide_eq_false_iff_not, beq_iff_eq, beq_eq_false_iff_ne, bne_iff_ne, bne_eq_false_iff_eq, ne_eq] at hh; first | done | omega | (simp at hh; done)
        try rw [hh]
        clear hh
        conv => whnf
        rw [len8, len8]
        refine Branch.yes (decide_eq_true (by show n > IntKind.i64.wrap ((s.length : Int) + (m.length : Int)); rw [hsum]; omega)) ?_
        conv => whnf
        refine ⟨false, [999], ?_⟩
        conv => whnf
        exact ⟨rfl, rfl⟩
    · rw [if_neg h4]
      have hn : ¬ n < 0 := by omega
      cases f with
      | true =>
        rw [if_pos rfl]
        refine fnok_of_W hmix tabOK Try.func74 rfl rfl (Nat.le_of_ble_eq_true rfl) ?_
        conv => whnf
        refine Branch.of (fun hh => ?_) (fun hh => ?_)
        · exfalso; simp only [gt_iff_lt, ge_iff_le, decide_eq_true_eq, decide_eq_false_iff_not, beq_iff_eq, beq_eq_false_iff_ne, bne_iff_ne, bne_eq_false_iff_eq, ne_eq] at hh; first | done | omega | (simp at hh; done)
        try rw [hh]
        clear hh
        conv => whnf
        rw [len8, len8]
        refine Branch.no (decide_eq_false (by show ¬ n > IntKind.i64.wrap ((s.length : Int) + (m.length : Int)); rw [hsum]; omega)) ?_
        conv => whnf
        refine (cs).mono fun r st e => ?_
        obtain ⟨rfl, rfl⟩ := e
        conv => whnf
        refine (ca).mono fun r st e => ?_
        obtain ⟨rfl, rfl⟩ := e
        conv => whnf
        refine ⟨by omega, by omega, by show n.toNat ≤ (by8 (s ++ m)).length; rw [len8, List.length_append]; omega, ?_⟩
        conv => whnf
        refine ⟨false, [999], ?_⟩
        conv => whnf
        refine ⟨?_, rfl⟩
        rw [show by8 ((s ++ m).take n.toNat) = (by8 (s ++ m)).take n.toNat by simp [by8]]
        rfl
      | false =>
        rw [if_neg (fun e => Bool.noConfusion e)]
        refine fnok_of_W hmix tabOK Try.func74 rfl rfl (Nat.le_of_ble_eq_true rfl) ?_
        conv => whnf
        refine Branch.of (fun hh => ?_) (fun hh => ?_)
        · exfalso; simp only [gt_iff_lt, ge_iff_le, decide_eq_true_eq, decide_eq_false_iff_not, beq_iff_eq, beq_eq_false_iff_ne, bne_iff_ne, bne_eq_false_iff_eq, ne_eq] at hh; first | done | omega | (simp at hh; done)
        try rw [hh]
        clear hh
        conv => whnf
        rw [len8, len8]
        refine Branch.no (decide_eq_false (by show ¬ n > IntKind.i64.wrap ((s.length : Int) + (m.length : Int)); rw [hsum]; omega)) ?_
        conv => whnf
        refine (cs).mono fun r st e => ?_
        obtain ⟨rfl, rfl⟩ := e
        conv => whnf
        refine ⟨false, [999], ?_⟩
        conv => whnf
        exact ⟨rfl, rfl⟩
theorem c_rcrash (k : Rk) (n : Int) (hw : WFr k) : FnOK Try.prog D 75 [(AV.st [.sl .lf (by8 (k).s) .ro, .sl .lf (by8 (k).m) .ro, .sl .lf (by8 (k).h) .ro, .sc (.int .i64 (k).room), .sc (.int .i64 (k).armed), .sc (.bool (k).dead)]), (AV.sc (.int .i64 (n)))] [] (fun r st => r = (AV.st [.sl .lf (by8 ((crashRr k n)).s) .ro, .sl .lf (by8 ((crashRr k n)).m) .ro, .sl .lf (by8 ((crashRr k n)).h) .ro, .sc (.int .i64 ((crashRr k n)).room), .sc (.int .i64 ((crashRr k n)).armed), .sc (.bool ((crashRr k n)).dead)]) ∧ st = []) := by
  obtain ⟨s, m, h, room, armed, dead⟩ := k
  obtain ⟨w1, w2, w3, w4, w5⟩ := hw
  simp only at w1 w2 w3 w4 w5
  refine fnok_of_W hmix tabOK Try.func75 rfl rfl (Nat.le_of_ble_eq_true rfl) ?_
  conv => whnf
  refine ⟨tabF75R1, by decide +kernel, ?_⟩
  conv => whnf
  refine ⟨by simp only [List.length_replicate, len8]; omega, ?_⟩
  conv => whnf
  refine ⟨by simp only [List.length_append, List.length_replicate, len8]; omega, ?_⟩
  conv => whnf
  have hl : (by8 m ++ by8 h).length = m.length + h.length := by rw [List.length_append, len8, len8]
  have hl2 : (m ++ h).length = m.length + h.length := List.length_append
  have e8 : ∀ j : Nat, by8 (s ++ (m ++ h).take j) = by8 s ++ (by8 m ++ by8 h).take j := fun j => by simp [by8]
  have fin : ∀ j : Nat, j ≤ m.length + h.length → (min (max n 0) ((m ++ h).length : Int)) = (j : Int) → crashRr ⟨s, m, h, room, armed, dead⟩ n = ⟨s ++ (m ++ h).take j, [], [], room, -1, false⟩ := by
    intro j _ e
    unfold crashRr
    simp only [e, Int.toNat_natCast]
  by_cases hn : n < 0
  · refine Branch.of (fun hh => ?_) (fun hh => ?_)
    rotate_left
    · exfalso; simp only [gt_iff_lt, ge_iff_le, decide_eq_true_eq, decide_eq_false_iff_not, beq_iff_eq, beq_eq_false_iff_ne, bne_iff_ne, bne_eq_false_iff_eq, ne_eq] at hh; first | done | omega | (simp at hh; done)
    try rw [hh]
    clear hh
    conv => whnf
    rw [fin 0 (by omega) (by omega)]
    refine ⟨tabF75R6, by decide +kernel, ?_⟩
    conv => whnf
    refine ⟨by simp only [List.length_replicate, len8]; omega, ?_⟩
    conv => whnf
    refine ⟨by omega, by omega, by omega, ?_⟩
    conv => whnf
    refine ⟨by simp only [List.length_append, List.length_replicate, List.length_take, List.length_drop, len8]; omega, ?_⟩
    conv => whnf
    refine ⟨false, [999], ?_⟩
    conv => whnf
    refine ⟨?_, rfl⟩
    rw [← by8_app]
    rfl
  · refine Branch.of (fun hh => ?_) (fun hh => ?_)
    · exfalso; simp only [gt_iff_lt, ge_iff_le, decide_eq_true_eq, decide_eq_false_iff_not, beq_iff_eq, beq_eq_false_iff_ne, bne_iff_ne, bne_eq_false_iff_eq, ne_eq] at hh; first | done | omega | (simp at hh; done)
    try rw [hh]
    clear hh
    conv => whnf
    by_cases hm : ((m.length + h.length : Nat) : Int) < n
    · rw [fin (m.length + h.length) (by omega) (by omega)]
      refine Branch.yes (decide_eq_true (by show n > (((List.replicate 0 (AV.sc (Value.int IntKind.u8 0)) ++ by8 m ++ by8 h).length : Nat) : Int); rw [show (List.replicate 0 (AV.sc (Value.int IntKind.u8 0)) ++ by8 m ++ by8 h).length = m.length + h.length from hl]; omega)) ?_
      conv => whnf
      rw [show (List.replicate 0 (AV.sc (Value.int IntKind.u8 0)) ++ by8 m ++ by8 h).length = m.length + h.length from hl]
      refine ⟨tabF75R6, by decide +kernel, ?_⟩
      conv => whnf
      refine ⟨by simp only [List.length_replicate, len8]; omega, ?_⟩
      conv => whnf
      refine ⟨by omega, by omega, by show m.length + h.length ≤ (List.replicate 0 (AV.sc (Value.int IntKind.u8 0)) ++ by8 m ++ by8 h).length; rw [show (List.replicate 0 (AV.sc (Value.int IntKind.u8 0)) ++ by8 m ++ by8 h).length = m.length + h.length from hl]; omega, ?_⟩
      conv => whnf
      refine ⟨by simp only [List.length_append, List.length_replicate, List.length_take, List.length_drop, len8]; omega, ?_⟩
      conv => whnf
      refine ⟨false, [999], ?_⟩
      conv => whnf
      refine ⟨?_, rfl⟩
      rw [e8]
      rfl
    · obtain ⟨j, rfl⟩ : ∃ j : Nat, n = (j : Int) := ⟨n.toNat, by omega⟩
      rw [fin j (by omega) (by omega)]
      refine Branch.no (decide_eq_false (by show ¬ (j : Int) > (((List.replicate 0 (AV.sc (Value.int IntKind.u8 0)) ++ by8 m ++ by8 h).length : Nat) : Int); rw [show (List.replicate 0 (AV.sc (Value.int IntKind.u8 0)) ++ by8 m ++ by8 h).length = m.length + h.length from hl]; omega)) ?_
      conv => whnf
      refine ⟨tabF75R6, by decide +kernel, ?_⟩
      conv => whnf
      refine ⟨by simp only [List.length_replicate, len8]; omega, ?_⟩
      conv => whnf
      refine ⟨by omega, by omega, by show j ≤ (List.replicate 0 (AV.sc (Value.int IntKind.u8 0)) ++ by8 m ++ by8 h).length; rw [show (List.replicate 0 (AV.sc (Value.int IntKind.u8 0)) ++ by8 m ++ by8 h).length = m.length + h.length from hl]; omega, ?_⟩
      conv => whnf
      refine ⟨by simp only [List.length_append, List.length_replicate, List.length_take, List.length_drop, len8]; omega, ?_⟩
      conv => whnf
      refine ⟨false, [999], ?_⟩
      conv => whnf
      refine ⟨?_, rfl⟩
      rw [e8]
      rfl
end Go.WL.T5
