/- The disk: bytes are appended, copied. No condition. -/
import Derived.Test.YtdlgmddegldcjaaPart09
set_option linter.unusedVariables false
set_option linter.unusedSimpArgs false
namespace Go.WL.T5
open Go.WL Go.Proofs
set_option maxRecDepth 20000
set_option maxHeartbeats 4000000
def WFk (k : Pk) : Prop := 0 ≤ k.room ∧ k.room ≤ 1048576 ∧ (k.b.length : Int) ≤ k.room ∧ 0 ≤ k.sf ∧ k.sf ≤ k.b.length ∧ -1 ≤ k.armed ∧ k.armed < 9223372036854775808
def appP (k : Pk) (x : List UInt8) : Pk × Int := if k.dead = true then (k, 6) else if k.room - k.b.length < x.length then (k, 4) else if x = [] then (k, 0) else if (stepP k).2 = true then ({(stepP k).1 with b := k.b ++ x}, 0) else ({(stepP k).1 with h := x}, 6)
theorem step_b (k : Pk) : (stepP k).1.b = k.b := by unfold stepP; split <;> (try split) <;> rfl
theorem c_new (n : Int) (h0 : 0 ≤ n) (h1 : n ≤ 1048576) : FnOK Try.prog D 17 [(AV.sc (.int .i64 (n)))] [] (fun r st => r = .tup [.pt 0 [], (AV.sc (.int .i64 (0)))] ∧ st = [(AV.st [.sl .lf [] .ex, .sc (.int .i64 ((⟨[], 0, n, -1, false, []⟩ : Pk)).sf), .sc (.int .i64 ((⟨[], 0, n, -1, false, []⟩ : Pk)).room), .sc (.bool true), .sc (.int .i64 ((⟨[], 0, n, -1, false, []⟩ : Pk)).armed), .sc (.bool ((⟨[], 0, n, -1, false, []⟩ : Pk)).dead), .sl .lf (by8 ((⟨[], 0, n, -1, false, []⟩ : Pk)).h) .ro])]) := by
  refine FnOK.postB (Q := fun r st => r = .tup [.pt 0 [], (AV.sc (.int .i64 (0)))] ∧ st = [.st [.sl .lf [] .ex, (AV.sc (.int .i64 (0))), (AV.sc (.int .i64 (n))), (AV.sc (.bool (true))), (AV.sc (.int .i64 ((-1)))), (AV.sc (.bool (false))), .sl .lf [] .ex]]) ?_ ?_
  · refine fnok_of_W hmix tabOK Try.func17 rfl rfl (Nat.le_of_ble_eq_true rfl) ?_
    conv => whnf
    refine Branch.of (fun hh => ?_) (fun hh => ?_)
    · exfalso; simp only [gt_iff_lt, ge_iff_le, decide_eq_true_eq, decide_eq_false_iff_not, beq_iff_eq, beq_eq_false_iff_ne, bne_iff_ne, bne_eq_false_iff_eq, ne_eq] at hh; first | done | omega | (simp at hh; done)
    try rw [hh]
    clear hh
    conv => whnf
    refine Branch.of (fun hh => ?_) (fun hh => ?_)
    · exfalso; simp only [gt_iff_lt, ge_iff_le, decide_eq_true_eq, decide_eq_false_iff_not, beq_iff_eq, beq_eq_false_iff_ne, bne_iff_ne, bne_eq_false_iff_eq, ne_eq] at hh; first | done | omega | (simp at hh; done)
    try rw [hh]
    clear hh
    conv => whnf
    refine ⟨false, [0], ?_⟩
    conv => whnf
    exact ⟨rfl, rfl⟩
  · rintro r st ⟨rfl, rfl⟩
    exact ⟨_, WkVs.cons (WkV.st (.cons (WkV.refl _) (.cons (WkV.refl _) (.cons (WkV.refl _) (.cons (WkV.refl _) (.cons (WkV.refl _) (.cons (WkV.refl _) (.cons WkV.ro .nil)))))))) .nil, rfl, rfl⟩
theorem c_new1 (n : Int) (h : n < 0 ∨ 1048576 < n) : FnOK Try.prog D 17 [(AV.sc (.int .i64 (n)))] [] (fun r st => r = .tup [.sc (.pointer none), (AV.sc (.int .i64 (1)))] ∧ st = []) := by
  refine fnok_of_W hmix tabOK Try.func17 rfl rfl (Nat.le_of_ble_eq_true rfl) ?_
  conv => whnf
  rcases h with h | h
  · refine Branch.of (fun hh => ?_) (fun hh => ?_)
    rotate_left
    · exfalso; simp only [gt_iff_lt, ge_iff_le, decide_eq_true_eq, decide_eq_false_iff_not, beq_iff_eq, beq_eq_false_iff_ne, bne_iff_ne, bne_eq_false_iff_eq, ne_eq] at hh; first | done | omega | (simp at hh; done)
    try rw [hh]
    clear hh
    conv => whnf
    refine ⟨false, [], ?_⟩
    conv => whnf
    exact ⟨rfl, rfl⟩
  · refine Branch.of (fun hh => ?_) (fun hh => ?_)
    · exfalso; simp only [gt_iff_lt, ge_iff_le, decide_eq_true_eq, decide_eq_false_iff_not, beq_iff_eq, beq_eq_false_iff_ne, bne_iff_ne, bne_eq_false_iff_eq, ne_eq] at hh; first | done | omega | (simp at hh; done)
    try rw [hh]
    clear hh
    conv => whnf
    refine Branch.of (fun hh => ?_) (fun hh => ?_)
    rotate_left
    · exfalso; simp only [gt_iff_lt, ge_iff_le, decide_eq_true_eq, decide_eq_false_iff_not, beq_iff_eq, beq_eq_false_iff_ne, bne_iff_ne, bne_eq_false_iff_eq, ne_eq] at hh; first | done | omega | (simp at hh; done)
    try rw [hh]
    clear hh
    conv => whnf
    refine ⟨false, [], ?_⟩
    conv => whnf
    exact ⟨rfl, rfl⟩
theorem c_cloneR (b : List UInt8) (hb : b.length < 4294967296) : FnOK Try.prog D 78 [(AV.sl .lf (by8 (b)) .ro)] [] (fun r st => r = (AV.sl .lf (by8 (b)) .ro) ∧ st = []) := by
  refine fnok_of_W hmix tabOK Try.func78 rfl rfl (Nat.le_of_ble_eq_true rfl) ?_
  conv => whnf
  intro nl hnl
  conv => whnf
  refine Branch.of (fun h => ?_) (fun h => ?_) <;> rw [h] <;> conv => whnf
  · have hb0 : b = [] := by
      by_cases c : by8 b = []
      · simpa [by8] using c
      · rw [hnl c] at h; exact absurd h (by simp)
    subst hb0
    refine ⟨false, [999], ?_⟩
    conv => whnf
    exact ⟨rfl, rfl⟩
  · refine ⟨by rw [len8]; simp; omega, ?_⟩
    conv => whnf
    refine ⟨false, [999], ?_⟩
    conv => whnf
    exact ⟨rfl, rfl⟩
theorem okl_in {b x : List UInt8} {cap c2 : Nat} {L : List AV} (h : OKL b cap c2 L) (hx : b.length + x.length ≤ cap) : OKL (b ++ x) cap c2 (L.take b.length ++ by8 x ++ L.drop (b.length + x.length)) := by
  obtain ⟨h1, h2, h3, h4⟩ := h
  refine ⟨by rw [List.length_append]; exact hx, h2, ?_, ?_⟩
  · simp only [List.length_append, List.length_take, List.length_drop, len8]
    omega
  · rw [h4, by8_app, List.take_left' (len8 _)]
theorem okl_new {b x : List UInt8} {cap c2 cp : Nat} {L : List AV} (h : OKL b cap c2 L) (hx : b.length + x.length ≤ cp) : OKL (b ++ x) cp cp ((L.drop 0).take b.length ++ by8 x ++ List.replicate (cp - (b.length + x.length)) (AV.sc (.int .u8 (0)))) := by
  obtain ⟨h1, h2, h3, h4⟩ := h
  rw [List.drop_zero, h4, by8_app]
  exact okl_app _ _ _ (by rw [List.length_append]; exact hx) (by rw [List.length_replicate, List.length_append])
theorem lenI_eq0 (x : List UInt8) (h : x ≠ []) : ¬ (x.length : Int) = 0 := fun e => h (List.eq_nil_of_length_eq_zero (by omega))
theorem c_append0 (k : Pk) (x : List UInt8) (hb0 : k.b = []) (hw : WFk k) (hx : x.length < 1000000000) : FnOK Try.prog D 25 [.pt 0 [], (AV.sl .lf (by8 (x)) .ro)] [(AV.st [.sl .lf [] .ex, .sc (.int .i64 (k).sf), .sc (.int .i64 (k).room), .sc (.bool true), .sc (.int .i64 (k).armed), .sc (.bool (k).dead), .sl .lf (by8 (k).h) .ro])] (fun r st => r = (AV.sc (.int .i64 ((appP k x).2))) ∧ P0 (appP k x).1 st) := by
  obtain ⟨b, sf, room, armed, dead, h⟩ := k
  obtain ⟨w1, w2, w3, w4, w5, w6, w7⟩ := hw
  simp only at w1 w2 w3 w4 w5 w6 w7 hb0
  subst hb0
  cases dead with
  | true =>
    refine fnok_of_Ws [41] hmix tabOK Try.func25 rfl rfl (Nat.le_of_ble_eq_true rfl) ?_
    conv => whnf
    refine (c_off0 ⟨_, sf, room, armed, true, h⟩).mono fun r st e => ?_
    obtain ⟨rfl, rfl⟩ := e
    conv => whnf
    refine ⟨false, [], ?_⟩
    conv => whnf
    exact ⟨rfl, .inl ⟨rfl, rfl⟩⟩
  | false =>
    have cs := c_step0 ⟨[], sf, room, armed, false, h⟩ w6 w7
    have hq := step_b ⟨[], sf, room, armed, false, h⟩
    rw [show appP ⟨[], sf, room, armed, false, h⟩ x = if room - (([] : List UInt8).length : Int) < x.length then (⟨[], sf, room, armed, false, h⟩, 4) else if x = [] then (⟨[], sf, room, armed, false, h⟩, 0) else if (stepP ⟨[], sf, room, armed, false, h⟩).2 = true then ({(stepP ⟨[], sf, room, armed, false, h⟩).1 with b := [] ++ x}, 0) else ({(stepP ⟨[], sf, room, armed, false, h⟩).1 with h := x}, 6) from rfl]
    generalize stepP ⟨[], sf, room, armed, false, h⟩ = q at cs hq ⊢
    obtain ⟨⟨qb, qs, qr, qa, qd, qh⟩, f⟩ := q
    simp only at hq
    have hq := hq.symm
    subst hq
    by_cases h4 : room - (([] : List UInt8).length : Int) < x.length
    · rw [if_pos h4]
      rw [show ((([] : List UInt8).length : Nat) : Int) = 0 from rfl] at h4
      refine fnok_of_Ws [41] hmix tabOK Try.func25 rfl rfl (Nat.le_of_ble_eq_true rfl) ?_
      conv => whnf
      refine (c_off0 ⟨_, sf, room, armed, false, h⟩).mono fun r st e => ?_
      obtain ⟨rfl, rfl⟩ := e
      conv => whnf
      refine ⟨tabF25R4, by decide +kernel, ?_⟩
      conv => whnf
      rw [len8]
      rw [decide_eq_true (p := _ > _) (by show (x.length : Int) > IntKind.i64.wrap (room - 0); rw [w64 (by omega) (by omega)]; omega)]
      conv => whnf
      refine ⟨false, [], ?_⟩
      conv => whnf
      exact ⟨rfl, .inl ⟨rfl, rfl⟩⟩
    · rw [if_neg h4]
      rw [show ((([] : List UInt8).length : Nat) : Int) = 0 from rfl] at h4
      by_cases h5 : x = []
      · rw [if_pos h5]
        subst h5
        refine fnok_of_Ws [41] hmix tabOK Try.func25 rfl rfl (Nat.le_of_ble_eq_true rfl) ?_
        conv => whnf
        refine (c_off0 ⟨_, sf, room, armed, false, h⟩).mono fun r st e => ?_
        obtain ⟨rfl, rfl⟩ := e
        conv => whnf
        refine ⟨tabF25R4, by decide +kernel, ?_⟩
        conv => whnf
        rw [decide_eq_false (p := _ > _) (by show ¬ (0 : Int) > IntKind.i64.wrap (room - 0); rw [w64 (by omega) (by omega)]; omega)]
        conv => whnf
        refine ⟨false, [], ?_⟩
        conv => whnf
        exact ⟨rfl, .inl ⟨rfl, rfl⟩⟩
      · rw [if_neg h5]
        have h5' := lenI_eq0 x h5
        cases f with
        | true =>
          rw [if_pos rfl]
          refine fnok_of_Ws [41] hmix tabOK Try.func25 rfl rfl (Nat.le_of_ble_eq_true rfl) ?_
          conv => whnf
          refine (c_off0 ⟨_, sf, room, armed, false, h⟩).mono fun r st e => ?_
          obtain ⟨rfl, rfl⟩ := e
          conv => whnf
          refine ⟨tabF25R4, by decide +kernel, ?_⟩
          conv => whnf
          rw [len8]
          rw [decide_eq_false (p := _ > _) (by show ¬ (x.length : Int) > IntKind.i64.wrap (room - 0); rw [w64 (by omega) (by omega)]; omega)]
          conv => whnf
          rw [len8]
          refine Branch.of (fun hh => ?_) (fun hh => ?_)
          · exfalso; simp only [gt_iff_lt, ge_iff_le, decide_eq_true_eq, decide_eq_false_iff_not, beq_iff_eq, beq_eq_false_iff_ne, bne_iff_ne, bne_eq_false_iff_eq, ne_eq] at hh; first | done | omega | (simp at hh; done)
          try rw [hh]
          clear hh
          conv => whnf
          refine (cs).mono fun r st e => ?_
          obtain ⟨rfl, rfl⟩ := e
          conv => whnf
          refine Branch.yes (by rw [len8]; simpa [Nat.blt_eq] using List.length_pos_iff.2 h5) ?_
          refine ⟨by rw [len8]; simp; omega, fun cp hc => ?_⟩
          rw [len8] at hc
          conv => whnf
          refine ⟨false, [1], ?_⟩
          conv => whnf
          have hc' : x.length ≤ cp := by simp at hc; omega
          refine ⟨rfl, .inr ⟨cp, cp, by8 x ++ List.replicate (cp - x.length) (AV.sc (.int .u8 (0))), okl_app x cp _ hc' (by rw [List.length_replicate]), ?_⟩⟩
          rw [show (([] : List AV).length + (by8 x).length) = x.length by rw [len8]; exact Nat.zero_add _]
          rfl
        | false =>
          rw [if_neg (fun e => Bool.noConfusion e)]
          refine fnok_of_Ws [41] hmix tabOK Try.func25 rfl rfl (Nat.le_of_ble_eq_true rfl) ?_
          conv => whnf
          refine (c_off0 ⟨_, sf, room, armed, false, h⟩).mono fun r st e => ?_
          obtain ⟨rfl, rfl⟩ := e
          conv => whnf
          refine ⟨tabF25R4, by decide +kernel, ?_⟩
          conv => whnf
          rw [len8]
          rw [decide_eq_false (p := _ > _) (by show ¬ (x.length : Int) > IntKind.i64.wrap (room - 0); rw [w64 (by omega) (by omega)]; omega)]
          conv => whnf
          rw [len8]
          refine Branch.of (fun hh => ?_) (fun hh => ?_)
          · exfalso; simp only [gt_iff_lt, ge_iff_le, decide_eq_true_eq, decide_eq_false_iff_not, beq_iff_eq, beq_eq_false_iff_ne, bne_iff_ne, bne_eq_false_iff_eq, ne_eq] at hh; first | done | omega | (simp at hh; done)
          try rw [hh]
          clear hh
          conv => whnf
          refine (cs).mono fun r st e => ?_
          obtain ⟨rfl, rfl⟩ := e
          conv => whnf
          refine (c_cloneR x (by omega)).mono fun r st e => ?_
          obtain ⟨rfl, rfl⟩ := e
          conv => whnf
          refine ⟨false, [], ?_⟩
          conv => whnf
          exact ⟨rfl, .inl ⟨rfl, rfl⟩⟩
theorem c_append1 (k : Pk) (x : List UInt8) (cap c2 : Nat) (L : List AV) (hL : OKL k.b cap c2 L) (hw : WFk k) (hx : x.length < 1000000000) : FnOK Try.prog D 25 [.pt 0 [], (AV.sl .lf (by8 (x)) .ro)] [(AV.st [.bs 1 [] .lf 0 (k).b.length cap, .sc (.int .i64 (k).sf), .sc (.int .i64 (k).room), .sc (.bool true), .sc (.int .i64 (k).armed), .sc (.bool (k).dead), .sl .lf (by8 (k).h) .ro]), .ar c2 .lf L] (fun r st => r = (AV.sc (.int .i64 ((appP k x).2))) ∧ P1 (appP k x).1 st) := by
  obtain ⟨b, sf, room, armed, dead, h⟩ := k
  obtain ⟨w1, w2, w3, w4, w5, w6, w7⟩ := hw
  simp only at w1 w2 w3 w4 w5 w6 w7 hL
  have hL0 := hL
  obtain ⟨l1, l2, l3, l4⟩ := hL
  cases dead with
  | true =>
    refine fnok_of_Ws [41] hmix tabOK Try.func25 rfl rfl (Nat.le_of_ble_eq_true rfl) ?_
    conv => whnf
    refine (c_off1 ⟨_, sf, room, armed, true, h⟩ cap c2 L).mono fun r st e => ?_
    obtain ⟨rfl, rfl⟩ := e
    conv => whnf
    refine ⟨false, [], ?_⟩
    conv => whnf
    exact ⟨rfl, .inl ⟨cap, c2, L, hL0, rfl⟩⟩
  | false =>
    have cs := c_step1 ⟨b, sf, room, armed, false, h⟩ cap c2 L w6 w7
    have hq := step_b ⟨b, sf, room, armed, false, h⟩
    rw [show appP ⟨b, sf, room, armed, false, h⟩ x = if room - ((b : List UInt8).length : Int) < x.length then (⟨b, sf, room, armed, false, h⟩, 4) else if x = [] then (⟨b, sf, room, armed, false, h⟩, 0) else if (stepP ⟨b, sf, room, armed, false, h⟩).2 = true then ({(stepP ⟨b, sf, room, armed, false, h⟩).1 with b := b ++ x}, 0) else ({(stepP ⟨b, sf, room, armed, false, h⟩).1 with h := x}, 6) from rfl]
    generalize stepP ⟨b, sf, room, armed, false, h⟩ = q at cs hq ⊢
    obtain ⟨⟨qb, qs, qr, qa, qd, qh⟩, f⟩ := q
    simp only at hq
    have hq := hq.symm
    subst hq
    by_cases h4 : room - ((b : List UInt8).length : Int) < x.length
    · rw [if_pos h4]
      have h4 := h4
      refine fnok_of_Ws [41] hmix tabOK Try.func25 rfl rfl (Nat.le_of_ble_eq_true rfl) ?_
      conv => whnf
      refine (c_off1 ⟨_, sf, room, armed, false, h⟩ cap c2 L).mono fun r st e => ?_
      obtain ⟨rfl, rfl⟩ := e
      conv => whnf
      refine ⟨tabF25R4, by decide +kernel, ?_⟩
      conv => whnf
      rw [len8]
      rw [decide_eq_true (p := _ > _) (by show (x.length : Int) > IntKind.i64.wrap (room - (b.length : Int)); rw [w64 (by omega) (by omega)]; omega)]
      conv => whnf
      refine ⟨false, [], ?_⟩
      conv => whnf
      exact ⟨rfl, .inl ⟨cap, c2, L, hL0, rfl⟩⟩
    · rw [if_neg h4]
      have h4 := h4
      by_cases h5 : x = []
      · rw [if_pos h5]
        subst h5
        refine fnok_of_Ws [41] hmix tabOK Try.func25 rfl rfl (Nat.le_of_ble_eq_true rfl) ?_
        conv => whnf
        refine (c_off1 ⟨_, sf, room, armed, false, h⟩ cap c2 L).mono fun r st e => ?_
        obtain ⟨rfl, rfl⟩ := e
        conv => whnf
        refine ⟨tabF25R4, by decide +kernel, ?_⟩
        conv => whnf
        rw [decide_eq_false (p := _ > _) (by show ¬ (0 : Int) > IntKind.i64.wrap (room - (b.length : Int)); rw [w64 (by omega) (by omega)]; omega)]
        conv => whnf
        refine ⟨false, [], ?_⟩
        conv => whnf
        exact ⟨rfl, .inl ⟨cap, c2, L, hL0, rfl⟩⟩
      · rw [if_neg h5]
        have h5' := lenI_eq0 x h5
        cases f with
        | true =>
          rw [if_pos rfl]
          refine fnok_of_Ws [41] hmix tabOK Try.func25 rfl rfl (Nat.le_of_ble_eq_true rfl) ?_
          conv => whnf
          refine (c_off1 ⟨_, sf, room, armed, false, h⟩ cap c2 L).mono fun r st e => ?_
          obtain ⟨rfl, rfl⟩ := e
          conv => whnf
          refine ⟨tabF25R4, by decide +kernel, ?_⟩
          conv => whnf
          rw [len8]
          rw [decide_eq_false (p := _ > _) (by show ¬ (x.length : Int) > IntKind.i64.wrap (room - (b.length : Int)); rw [w64 (by omega) (by omega)]; omega)]
          conv => whnf
          rw [len8]
          refine Branch.of (fun hh => ?_) (fun hh => ?_)
          · exfalso; simp only [gt_iff_lt, ge_iff_le, decide_eq_true_eq, decide_eq_false_iff_not, beq_iff_eq, beq_eq_false_iff_ne, bne_iff_ne, bne_eq_false_iff_eq, ne_eq] at hh; first | done | omega | (simp at hh; done)
          try rw [hh]
          clear hh
          conv => whnf
          refine (cs).mono fun r st e => ?_
          obtain ⟨rfl, rfl⟩ := e
          conv => whnf
          rw [len8]
          refine Branch.of (fun hh => ?_) (fun hh => ?_)
          · rw [Nat.ble_eq] at hh
            conv => whnf
            rw [len8, Nat.zero_add]
            refine ⟨false, [], ?_⟩
            conv => whnf
            refine ⟨rfl, .inl ⟨cap, c2, _, okl_in hL0 hh, ?_⟩⟩
            rw [List.length_append]
          · have hh := ble_no hh
            conv => whnf
            refine ⟨by show b.length + (by8 x).length < 4294967296; rw [len8]; omega, fun cp hc => ?_⟩
            have hc : b.length + x.length ≤ cp := by rw [len8] at hc; exact hc
            conv => whnf
            refine ⟨false, [2], ?_⟩
            conv => whnf
            refine ⟨rfl, .inr (.inl ⟨cp, cp, _, c2, L, okl_new hL0 hc, ?_⟩)⟩
            rw [len8, List.length_append]
        | false =>
          rw [if_neg (fun e => Bool.noConfusion e)]
          refine fnok_of_Ws [41] hmix tabOK Try.func25 rfl rfl (Nat.le_of_ble_eq_true rfl) ?_
          conv => whnf
          refine (c_off1 ⟨_, sf, room, armed, false, h⟩ cap c2 L).mono fun r st e => ?_
          obtain ⟨rfl, rfl⟩ := e
          conv => whnf
          refine ⟨tabF25R4, by decide +kernel, ?_⟩
          conv => whnf
          rw [len8]
          rw [decide_eq_false (p := _ > _) (by show ¬ (x.length : Int) > IntKind.i64.wrap (room - (b.length : Int)); rw [w64 (by omega) (by omega)]; omega)]
          conv => whnf
          rw [len8]
          refine Branch.of (fun hh => ?_) (fun hh => ?_)
          · exfalso; simp only [gt_iff_lt, ge_iff_le, decide_eq_true_eq, decide_eq_false_iff_not, beq_iff_eq, beq_eq_false_iff_ne, bne_iff_ne, bne_eq_false_iff_eq, ne_eq] at hh; first | done | omega | (simp at hh; done)
          try rw [hh]
          clear hh
          conv => whnf
          refine (cs).mono fun r st e => ?_
          obtain ⟨rfl, rfl⟩ := e
          conv => whnf
          refine (c_cloneR x (by omega)).mono fun r st e => ?_
          obtain ⟨rfl, rfl⟩ := e
          conv => whnf
          refine ⟨false, [], ?_⟩
          conv => whnf
          exact ⟨rfl, .inl ⟨cap, c2, L, hL0, rfl⟩⟩
theorem c_cloneE : FnOK Try.prog D 78 [(AV.sl .lf (by8 ([])) .ro)] [] (fun r st => r = .sl .lf [] .ex ∧ st = []) := by
  refine fnok_of_Ws [7] hmix tabOK Try.func78 rfl rfl (Nat.le_of_ble_eq_true rfl) ?_
  conv => whnf
  intro nl hnl
  conv => whnf
  refine Branch.of (fun h => ?_) (fun h => ?_) <;> rw [h] <;> conv => whnf
  · refine ⟨false, [], ?_⟩
    conv => whnf
    exact ⟨rfl, rfl⟩
  · refine ⟨false, [], ?_⟩
    conv => whnf
    exact ⟨rfl, rfl⟩
theorem okl_take {b : List UInt8} {cap c2 : Nat} {L : List AV} (h : OKL b cap c2 L) (n : Nat) : OKL (b.take n) cap c2 L := by
  obtain ⟨h1, h2, h3, h4⟩ := h
  refine ⟨by rw [List.length_take]; omega, h2, h3, ?_⟩
  rw [show by8 (b.take n) = (by8 b).take n by simp [by8], ← h4, List.take_take, List.length_take]
theorem c_all0 (k : Pk) (hb0 : k.b = []) (hw : WFk k) : FnOK Try.prog D 22 [.pt 0 []] [(AV.st [.sl .lf [] .ex, .sc (.int .i64 (k).sf), .sc (.int .i64 (k).room), .sc (.bool true), .sc (.int .i64 (k).armed), .sc (.bool (k).dead), .sl .lf (by8 (k).h) .ro])] (fun r st => r = .tup [(AV.sl .lf (by8 ((if k.dead = true then [] else k.b))) .ro), (AV.sc (.int .i64 ((if k.dead = true then 6 else 0))))] ∧ st = [(AV.st [.sl .lf [] .ex, .sc (.int .i64 (k).sf), .sc (.int .i64 (k).room), .sc (.bool true), .sc (.int .i64 (k).armed), .sc (.bool (k).dead), .sl .lf (by8 (k).h) .ro])]) := by
  obtain ⟨b, sf, room, armed, dead, h⟩ := k
  obtain ⟨w1, w2, w3, w4, w5, w6, w7⟩ := hw
  simp only at w1 w2 w3 w4 w5 w6 w7 hb0
  subst hb0
  cases dead with
  | true =>
    refine fnok_of_Ws [14] hmix tabOK Try.func22 rfl rfl (Nat.le_of_ble_eq_true rfl) ?_
    conv => whnf
    refine (c_off0 ⟨_, sf, room, armed, true, h⟩).mono fun r st e => ?_
    obtain ⟨rfl, rfl⟩ := e
    conv => whnf
    refine ⟨false, [999], ?_⟩
    conv => whnf
    exact ⟨rfl, rfl⟩
  | false =>
    refine fnok_of_Ws [14] hmix tabOK Try.func22 rfl rfl (Nat.le_of_ble_eq_true rfl) ?_
    conv => whnf
    refine (c_off0 ⟨_, sf, room, armed, false, h⟩).mono fun r st e => ?_
    obtain ⟨rfl, rfl⟩ := e
    conv => whnf
    refine ((c_cloneR [] (by decide)).weak (.cons (.sl (.inl rfl) (Weaks.refl _)) .nil)).mono fun r st e => ?_
    obtain ⟨rfl, rfl⟩ := e
    conv => whnf
    refine ⟨false, [999], ?_⟩
    conv => whnf
    exact ⟨rfl, rfl⟩
def cutP (k : Pk) (n : Int) : Pk × Int := if k.dead = true then (k, 6) else if n < 0 ∨ (k.b.length : Int) < n then (k, 1) else if (stepP k).2 = true then ({(stepP k).1 with b := k.b.take n.toNat, sf := n}, 0) else ((stepP k).1, 6)
theorem c_cut0 (k : Pk) (n : Int) (hb0 : k.b = []) (hw : WFk k) : FnOK Try.prog D 30 [.pt 0 [], (AV.sc (.int .i64 (n)))] [(AV.st [.sl .lf [] .ex, .sc (.int .i64 (k).sf), .sc (.int .i64 (k).room), .sc (.bool true), .sc (.int .i64 (k).armed), .sc (.bool (k).dead), .sl .lf (by8 (k).h) .ro])] (fun r st => r = (AV.sc (.int .i64 ((cutP k n).2))) ∧ P0 (cutP k n).1 st) := by
  obtain ⟨b, sf, room, armed, dead, h⟩ := k
  obtain ⟨w1, w2, w3, w4, w5, w6, w7⟩ := hw
  simp only at w1 w2 w3 w4 w5 w6 w7 hb0
  subst hb0
  cases dead with
  | true =>
    refine fnok_of_Ws [32] hmix tabOK Try.func30 rfl rfl (Nat.le_of_ble_eq_true rfl) ?_
    conv => whnf
    refine (c_off0 ⟨_, sf, room, armed, true, h⟩).mono fun r st e => ?_
    obtain ⟨rfl, rfl⟩ := e
    conv => whnf
    refine ⟨false, [], ?_⟩
    conv => whnf
    exact ⟨rfl, .inl ⟨rfl, rfl⟩⟩
  | false =>
    have cs := c_step0 ⟨[], sf, room, armed, false, h⟩ w6 w7
    have hq := step_b ⟨[], sf, room, armed, false, h⟩
    rw [show cutP ⟨[], sf, room, armed, false, h⟩ n = if n < 0 ∨ (([] : List UInt8).length : Int) < n then (⟨[], sf, room, armed, false, h⟩, 1) else if (stepP ⟨[], sf, room, armed, false, h⟩).2 = true then ({(stepP ⟨[], sf, room, armed, false, h⟩).1 with b := ([] : List UInt8).take n.toNat, sf := n}, 0) else ((stepP ⟨[], sf, room, armed, false, h⟩).1, 6) from rfl]
    generalize stepP ⟨[], sf, room, armed, false, h⟩ = q at cs hq ⊢
    obtain ⟨⟨qb, qs, qr, qa, qd, qh⟩, f⟩ := q
    simp only at hq
    have hq := hq.symm
    subst hq
    by_cases h4 : n < 0 ∨ (([] : List UInt8).length : Int) < n
    · rw [if_pos h4]
      rw [show ((([] : List UInt8).length : Nat) : Int) = 0 from rfl] at h4
      refine fnok_of_Ws [32] hmix tabOK Try.func30 rfl rfl (Nat.le_of_ble_eq_true rfl) ?_
      conv => whnf
      refine (c_off0 ⟨_, sf, room, armed, false, h⟩).mono fun r st e => ?_
      obtain ⟨rfl, rfl⟩ := e
      conv => whnf
      rcases h4 with h4 | h4
      · refine Branch.of (fun hh => ?_) (fun hh => ?_)
        rotate_left
        · exfalso; simp only [gt_iff_lt, ge_iff_le, decide_eq_true_eq, decide_eq_false_iff_not, beq_iff_eq, beq_eq_false_iff_ne, bne_iff_ne, bne_eq_false_iff_eq, ne_eq] at hh; first | done | omega | (simp at hh; done)
        try rw [hh]
        clear hh
        conv => whnf
        refine ⟨false, [], ?_⟩
        conv => whnf
        exact ⟨rfl, .inl ⟨rfl, rfl⟩⟩
      · refine Branch.of (fun hh => ?_) (fun hh => ?_)
        · exfalso; simp only [gt_iff_lt, ge_iff_le, decide_eq_true_eq, decide_eq_false_iff_not, beq_iff_eq, beq_eq_false_iff_ne, bne_iff_ne, bne_eq_false_iff_eq, ne_eq] at hh; first | done | omega | (simp at hh; done)
        try rw [hh]
        clear hh
        conv => whnf
        refine Branch.yes (decide_eq_true (by show n > 0; omega)) ?_
        conv => whnf
        refine ⟨false, [], ?_⟩
        conv => whnf
        exact ⟨rfl, .inl ⟨rfl, rfl⟩⟩
    · rw [if_neg h4]
      rw [show ((([] : List UInt8).length : Nat) : Int) = 0 from rfl] at h4
      cases f with
      | true =>
        rw [if_pos rfl]
        refine fnok_of_Ws [32] hmix tabOK Try.func30 rfl rfl (Nat.le_of_ble_eq_true rfl) ?_
        conv => whnf
        refine (c_off0 ⟨_, sf, room, armed, false, h⟩).mono fun r st e => ?_
        obtain ⟨rfl, rfl⟩ := e
        conv => whnf
        refine Branch.of (fun hh => ?_) (fun hh => ?_)
        · exfalso; simp only [gt_iff_lt, ge_iff_le, decide_eq_true_eq, decide_eq_false_iff_not, beq_iff_eq, beq_eq_false_iff_ne, bne_iff_ne, bne_eq_false_iff_eq, ne_eq] at hh; first | done | omega | (simp at hh; done)
        try rw [hh]
        clear hh
        conv => whnf
        refine Branch.no (decide_eq_false (by show ¬ n > 0; omega)) ?_
        conv => whnf
        refine (cs).mono fun r st e => ?_
        obtain ⟨rfl, rfl⟩ := e
        conv => whnf
        obtain rfl : n = 0 := by omega
        refine ⟨by omega, by omega, by simp, ?_⟩
        conv => whnf
        refine (c_cloneE.weak (.cons (.sl (.inl rfl) (Weaks.refl _)) .nil)).mono fun r st e => ?_
        obtain ⟨rfl, rfl⟩ := e
        conv => whnf
        refine ⟨false, [], ?_⟩
        conv => whnf
        exact ⟨rfl, .inl ⟨rfl, rfl⟩⟩
      | false =>
        rw [if_neg (fun e => Bool.noConfusion e)]
        refine fnok_of_Ws [32] hmix tabOK Try.func30 rfl rfl (Nat.le_of_ble_eq_true rfl) ?_
        conv => whnf
        refine (c_off0 ⟨_, sf, room, armed, false, h⟩).mono fun r st e => ?_
        obtain ⟨rfl, rfl⟩ := e
        conv => whnf
        refine Branch.of (fun hh => ?_) (fun hh => ?_)
        · exfalso; simp only [gt_iff_lt, ge_iff_le, decide_eq_true_eq, decide_eq_false_iff_not, beq_iff_eq, beq_eq_false_iff_ne, bne_iff_ne, bne_eq_false_iff_eq, ne_eq] at hh; first | done | omega | (simp at hh; done)
        try rw [hh]
        clear hh
        conv => whnf
        refine Branch.no (decide_eq_false (by show ¬ n > 0; omega)) ?_
        conv => whnf
        refine (cs).mono fun r st e => ?_
        obtain ⟨rfl, rfl⟩ := e
        conv => whnf
        refine ⟨false, [], ?_⟩
        conv => whnf
        exact ⟨rfl, .inl ⟨rfl, rfl⟩⟩
theorem c_all1 (k : Pk) (cap c2 : Nat) (L : List AV) (hL : OKL k.b cap c2 L) (hw : WFk k) : FnOK Try.prog D 22 [.pt 0 []] [(AV.st [.bs 1 [] .lf 0 (k).b.length cap, .sc (.int .i64 (k).sf), .sc (.int .i64 (k).room), .sc (.bool true), .sc (.int .i64 (k).armed), .sc (.bool (k).dead), .sl .lf (by8 (k).h) .ro]), .ar c2 .lf L] (fun r st => r = .tup [(AV.sl .lf (by8 ((if k.dead = true then [] else k.b))) .ro), (AV.sc (.int .i64 ((if k.dead = true then 6 else 0))))] ∧ st = [(AV.st [.bs 1 [] .lf 0 (k).b.length cap, .sc (.int .i64 (k).sf), .sc (.int .i64 (k).room), .sc (.bool true), .sc (.int .i64 (k).armed), .sc (.bool (k).dead), .sl .lf (by8 (k).h) .ro]), .ar c2 .lf L]) := by
  obtain ⟨b, sf, room, armed, dead, h⟩ := k
  obtain ⟨w1, w2, w3, w4, w5, w6, w7⟩ := hw
  simp only at w1 w2 w3 w4 w5 w6 w7 hL
  have hL0 := hL
  obtain ⟨l1, l2, l3, l4⟩ := hL
  cases dead with
  | true =>
    refine fnok_of_Ws [14] hmix tabOK Try.func22 rfl rfl (Nat.le_of_ble_eq_true rfl) ?_
    conv => whnf
    refine (c_off1 ⟨_, sf, room, armed, true, h⟩ cap c2 L).mono fun r st e => ?_
    obtain ⟨rfl, rfl⟩ := e
    conv => whnf
    refine ⟨false, [999], ?_⟩
    conv => whnf
    exact ⟨rfl, rfl⟩
  | false =>
    refine fnok_of_Ws [14] hmix tabOK Try.func22 rfl rfl (Nat.le_of_ble_eq_true rfl) ?_
    conv => whnf
    refine (c_off1 ⟨_, sf, room, armed, false, h⟩ cap c2 L).mono fun r st e => ?_
    obtain ⟨rfl, rfl⟩ := e
    conv => whnf
    refine (c_cloneL b cap c2 L hL0 (by omega)).mono fun r st e => ?_
    obtain ⟨rfl, rfl⟩ := e
    conv => whnf
    refine ⟨false, [999], ?_⟩
    conv => whnf
    exact ⟨rfl, rfl⟩
theorem c_cut1 (k : Pk) (n : Int) (cap c2 : Nat) (L : List AV) (hL : OKL k.b cap c2 L) (hw : WFk k) : FnOK Try.prog D 30 [.pt 0 [], (AV.sc (.int .i64 (n)))] [(AV.st [.bs 1 [] .lf 0 (k).b.length cap, .sc (.int .i64 (k).sf), .sc (.int .i64 (k).room), .sc (.bool true), .sc (.int .i64 (k).armed), .sc (.bool (k).dead), .sl .lf (by8 (k).h) .ro]), .ar c2 .lf L] (fun r st => r = (AV.sc (.int .i64 ((cutP k n).2))) ∧ P1 (cutP k n).1 st) := by
  obtain ⟨b, sf, room, armed, dead, h⟩ := k
  obtain ⟨w1, w2, w3, w4, w5, w6, w7⟩ := hw
  simp only at w1 w2 w3 w4 w5 w6 w7 hL
  have hL0 := hL
  obtain ⟨l1, l2, l3, l4⟩ := hL
  cases dead with
  | true =>
    refine fnok_of_Ws [32] hmix tabOK Try.func30 rfl rfl (Nat.le_of_ble_eq_true rfl) ?_
    conv => whnf
    refine (c_off1 ⟨_, sf, room, armed, true, h⟩ cap c2 L).mono fun r st e => ?_
    obtain ⟨rfl, rfl⟩ := e
    conv => whnf
    refine ⟨false, [], ?_⟩
    conv => whnf
    exact ⟨rfl, .inl ⟨cap, c2, L, hL0, rfl⟩⟩
  | false =>
    have cs := c_step1 ⟨b, sf, room, armed, false, h⟩ cap c2 L w6 w7
    have hq := step_b ⟨b, sf, room, armed, false, h⟩
    rw [show cutP ⟨b, sf, room, armed, false, h⟩ n = if n < 0 ∨ ((b : List UInt8).length : Int) < n then (⟨b, sf, room, armed, false, h⟩, 1) else if (stepP ⟨b, sf, room, armed, false, h⟩).2 = true then ({(stepP ⟨b, sf, room, armed, false, h⟩).1 with b := (b : List UInt8).take n.toNat, sf := n}, 0) else ((stepP ⟨b, sf, room, armed, false, h⟩).1, 6) from rfl]
    generalize stepP ⟨b, sf, room, armed, false, h⟩ = q at cs hq ⊢
    obtain ⟨⟨qb, qs, qr, qa, qd, qh⟩, f⟩ := q
    simp only at hq
    have hq := hq.symm
    subst hq
    by_cases h4 : n < 0 ∨ ((b : List UInt8).length : Int) < n
    · rw [if_pos h4]
      have h4 := h4
      refine fnok_of_Ws [32] hmix tabOK Try.func30 rfl rfl (Nat.le_of_ble_eq_true rfl) ?_
      conv => whnf
      refine (c_off1 ⟨_, sf, room, armed, false, h⟩ cap c2 L).mono fun r st e => ?_
      obtain ⟨rfl, rfl⟩ := e
      conv => whnf
      rcases h4 with h4 | h4
      · refine Branch.of (fun hh => ?_) (fun hh => ?_)
        rotate_left
        · exfalso; simp only [gt_iff_lt, ge_iff_le, decide_eq_true_eq, decide_eq_false_iff_not, beq_iff_eq, beq_eq_false_iff_ne, bne_iff_ne, bne_eq_false_iff_eq, ne_eq] at hh; first | done | omega | (simp at hh; done)
        try rw [hh]
        clear hh
        conv => whnf
        refine ⟨false, [], ?_⟩
        conv => whnf
        exact ⟨rfl, .inl ⟨cap, c2, L, hL0, rfl⟩⟩
      · refine Branch.of (fun hh => ?_) (fun hh => ?_)
        · exfalso; simp only [gt_iff_lt, ge_iff_le, decide_eq_true_eq, decide_eq_false_iff_not, beq_iff_eq, beq_eq_false_iff_ne, bne_iff_ne, bne_eq_false_iff_eq, ne_eq] at hh; first | done | omega | (simp at hh; done)
        try rw [hh]
        clear hh
        conv => whnf
        refine Branch.yes (decide_eq_true (by show n > (b.length : Int); omega)) ?_
        conv => whnf
        refine ⟨false, [], ?_⟩
        conv => whnf
        exact ⟨rfl, .inl ⟨cap, c2, L, hL0, rfl⟩⟩
    · rw [if_neg h4]
      have h4 := h4
      cases f with
      | true =>
        rw [if_pos rfl]
        refine fnok_of_Ws [32] hmix tabOK Try.func30 rfl rfl (Nat.le_of_ble_eq_true rfl) ?_
        conv => whnf
        refine (c_off1 ⟨_, sf, room, armed, false, h⟩ cap c2 L).mono fun r st e => ?_
        obtain ⟨rfl, rfl⟩ := e
        conv => whnf
        refine Branch.of (fun hh => ?_) (fun hh => ?_)
        · exfalso; simp only [gt_iff_lt, ge_iff_le, decide_eq_true_eq, decide_eq_false_iff_not, beq_iff_eq, beq_eq_false_iff_ne, bne_iff_ne, bne_eq_false_iff_eq, ne_eq] at hh; first | done | omega | (simp at hh; done)
        try rw [hh]
        clear hh
        conv => whnf
        refine Branch.no (decide_eq_false (by show ¬ n > (b.length : Int); omega)) ?_
        conv => whnf
        refine (cs).mono fun r st e => ?_
        obtain ⟨rfl, rfl⟩ := e
        conv => whnf
        obtain ⟨m, rfl⟩ : ∃ m : Nat, n = (m : Int) := ⟨n.toNat, by omega⟩
        have hm : m ≤ b.length := by omega
        refine ⟨by omega, by omega, by omega, ?_⟩
        conv => whnf
        have hlen : (b.take m).length = m := by rw [List.length_take]; omega
        by_cases h0 : m = 0
        · subst h0
          refine (c_cloneX0 cap c2 L).mono fun r st e => ?_
          obtain ⟨rfl, rfl⟩ := e
          conv => whnf
          refine ⟨false, [], ?_⟩
          conv => whnf
          exact ⟨rfl, .inr (.inr ⟨rfl, c2, L, rfl⟩)⟩
        · have hcx := c_cloneX (b.take m) cap c2 L (okl_take hL0 m) (by omega) (by intro e; rw [e] at hlen; simp at hlen; omega)
          rw [hlen] at hcx
          refine hcx.mono fun r st e => ?_
          obtain ⟨cp, Lp, hcp, rfl, rfl⟩ := e
          conv => whnf
          refine ⟨false, [2], ?_⟩
          conv => whnf
          refine ⟨rfl, .inr (.inl ⟨cp, cp, Lp, c2, L, hcp, ?_⟩)⟩
          rw [show (b.take (m : Int).toNat) = b.take m from rfl, hlen]
      | false =>
        rw [if_neg (fun e => Bool.noConfusion e)]
        refine fnok_of_Ws [32] hmix tabOK Try.func30 rfl rfl (Nat.le_of_ble_eq_true rfl) ?_
        conv => whnf
        refine (c_off1 ⟨_, sf, room, armed, false, h⟩ cap c2 L).mono fun r st e => ?_
        obtain ⟨rfl, rfl⟩ := e
        conv => whnf
        refine Branch.of (fun hh => ?_) (fun hh => ?_)
        · exfalso; simp only [gt_iff_lt, ge_iff_le, decide_eq_true_eq, decide_eq_false_iff_not, beq_iff_eq, beq_eq_false_iff_ne, bne_iff_ne, bne_eq_false_iff_eq, ne_eq] at hh; first | done | omega | (simp at hh; done)
        try rw [hh]
        clear hh
        conv => whnf
        refine Branch.no (decide_eq_false (by show ¬ n > (b.length : Int); omega)) ?_
        conv => whnf
        refine (cs).mono fun r st e => ?_
        obtain ⟨rfl, rfl⟩ := e
        conv => whnf
        refine ⟨false, [], ?_⟩
        conv => whnf
        exact ⟨rfl, .inl ⟨cap, c2, L, hL0, rfl⟩⟩
end Go.WL.T5
