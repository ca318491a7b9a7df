/- An act on a disk without bytes that stays so. No condition. -/
import Derived.Test.YtdlgmddegldcjaaPart19
set_option linter.unusedVariables false
set_option linter.unusedSimpArgs false
namespace Go.WL.T5
open Go.WL Go.Proofs
set_option maxRecDepth 20000
set_option maxHeartbeats 8000000
theorem c_append0dd (k : Pk) (x : List UInt8) (hd : k.dead = true) : FnOK Try.prog D 25 [.pt 0 [], (AV.sl .lf (by8 (x)) .ro)] [(AV.st [.sl .lf [] .ex, .sc (.int .i64 (k).sf), .sc (.int .i64 (k).room), .sc (.bool true), .sc (.int .i64 (k).armed), .sc (.bool (k).dead), .sl .lf (by8 (k).h) .ro])] (fun r st => r = (AV.sc (.int .i64 (6))) ∧ st = [(AV.st [.sl .lf [] .ex, .sc (.int .i64 (k).sf), .sc (.int .i64 (k).room), .sc (.bool true), .sc (.int .i64 (k).armed), .sc (.bool (k).dead), .sl .lf (by8 (k).h) .ro])]) := by
  obtain ⟨b, sf, room, armed, dead, h⟩ := k
  simp only at hd
  subst hd
  refine fnok_of_Ws [41] hmix tabOK Try.func25 rfl rfl (Nat.le_of_ble_eq_true rfl) ?_
  conv => whnf
  refine (c_off0 ⟨b, sf, room, armed, true, h⟩).mono fun r st e => ?_
  obtain ⟨rfl, rfl⟩ := e
  conv => whnf
  refine ⟨false, [], ?_⟩
  conv => whnf
  exact ⟨rfl, rfl⟩
theorem c_do0e_0 (p : Pk) (r : Rk) (B : List UInt8) (n : Int) (hd : p.dead = true) (hr : WFr r) (hB : B.length ≤ 200) : FnOK Try.prog D 19 [.pt 0 [], (AV.st [.sl .lf (by8 (r).s) .ro, .sl .lf (by8 (r).m) .ro, .sl .lf (by8 (r).h) .ro, .sc (.int .i64 (r).room), .sc (.int .i64 (r).armed), .sc (.bool (r).dead)]), .st [(AV.sc (.int .i64 (0))), (AV.sl .lf (by8 (B)) .ro), (AV.sc (.int .i64 (n)))]] [(AV.st [.sl .lf [] .ex, .sc (.int .i64 (p).sf), .sc (.int .i64 (p).room), .sc (.bool true), .sc (.int .i64 (p).armed), .sc (.bool (p).dead), .sl .lf (by8 (p).h) .ro])] (fun q st => q = .tup [(AV.st [.sl .lf (by8 ((appR r B).1).s) .ro, .sl .lf (by8 ((appR r B).1).m) .ro, .sl .lf (by8 ((appR r B).1).h) .ro, .sc (.int .i64 ((appR r B).1).room), .sc (.int .i64 ((appR r B).1).armed), .sc (.bool ((appR r B).1).dead)]), (AV.sc (.bool (((appP p B).2 == (appR r B).2))))] ∧ st = [(AV.st [.sl .lf [] .ex, .sc (.int .i64 (p).sf), .sc (.int .i64 (p).room), .sc (.bool true), .sc (.int .i64 (p).armed), .sc (.bool (p).dead), .sl .lf (by8 (p).h) .ro])]) := by
  have ca := c_append0dd p B hd
  have e : (appP p B).2 = 6 := by unfold appP; rw [if_pos hd]
  rw [e]
  have cr := c_rapp r B hr (by omega)
  generalize appR r B = ar at cr ⊢
  obtain ⟨r2, e2⟩ := ar
  refine fnok_of_Ws [5040607, 4004006] hmix tabOK Try.func19 rfl rfl (Nat.le_of_ble_eq_true rfl) ?_
  conv => whnf
  refine (cr).mono fun r st e => ?_
  obtain ⟨rfl, rfl⟩ := e
  conv => whnf
  refine ⟨by decide +kernel, ⟨tabA4, by decide +kernel, ?_⟩, ⟨tabB4, by decide +kernel, ?_⟩⟩
  all_goals (conv => whnf)
  all_goals (refine ⟨by simp only [List.length_replicate, len8]; omega, ?_⟩)
  all_goals (conv => whnf)
  all_goals refine ⟨_, ca, ⟨_, _, rfl, rfl⟩, ?_⟩
  all_goals (rintro q st ⟨rfl, rfl⟩)
  all_goals (conv => whnf)
  all_goals refine ⟨false, [], ?_⟩
  all_goals (conv => whnf)
  all_goals exact ⟨rfl, rfl⟩
theorem c_do0e_1 (p : Pk) (r : Rk) (B : List UInt8) (n : Int) (hb0 : p.b = []) (hp : WFk p) (hr : WFr r) : FnOK Try.prog D 19 [.pt 0 [], (AV.st [.sl .lf (by8 (r).s) .ro, .sl .lf (by8 (r).m) .ro, .sl .lf (by8 (r).h) .ro, .sc (.int .i64 (r).room), .sc (.int .i64 (r).armed), .sc (.bool (r).dead)]), .st [(AV.sc (.int .i64 (1))), (AV.sl .lf (by8 (B)) .ro), (AV.sc (.int .i64 (n)))]] [(AV.st [.sl .lf [] .ex, .sc (.int .i64 (p).sf), .sc (.int .i64 (p).room), .sc (.bool true), .sc (.int .i64 (p).armed), .sc (.bool (p).dead), .sl .lf (by8 (p).h) .ro])] (fun q st => q = .tup [(AV.st [.sl .lf (by8 ((syncR r).1).s) .ro, .sl .lf (by8 ((syncR r).1).m) .ro, .sl .lf (by8 ((syncR r).1).h) .ro, .sc (.int .i64 ((syncR r).1).room), .sc (.int .i64 ((syncR r).1).armed), .sc (.bool ((syncR r).1).dead)]), (AV.sc (.bool (((syncP p).2 == (syncR r).2))))] ∧ st = [(AV.st [.sl .lf [] .ex, .sc (.int .i64 ((syncP p).1).sf), .sc (.int .i64 ((syncP p).1).room), .sc (.bool true), .sc (.int .i64 ((syncP p).1).armed), .sc (.bool ((syncP p).1).dead), .sl .lf (by8 ((syncP p).1).h) .ro])]) := by
  have ca := c_sync0 p hp.2.2.2.2.2.1 hp.2.2.2.2.2.2 hb0
  generalize syncP p = ap at ca ⊢
  have cr := c_rsync r hr
  generalize syncR r = ar at cr ⊢
  obtain ⟨p2, e1⟩ := ap
  obtain ⟨r2, e2⟩ := ar
  refine fnok_of_W hmix tabOK Try.func19 rfl rfl (Nat.le_of_ble_eq_true rfl) ?_
  conv => whnf
  refine (cr).mono fun r st e => ?_
  obtain ⟨rfl, rfl⟩ := e
  conv => whnf
  refine ⟨tabF19R7, by decide +kernel, ?_⟩
  conv => whnf
  refine ⟨_, _, ca, ?_⟩
  conv => whnf
  refine ⟨false, [], ?_⟩
  conv => whnf
  exact ⟨rfl, rfl⟩
theorem c_do0e_3 (p : Pk) (r : Rk) (B : List UInt8) (n : Int) : FnOK Try.prog D 19 [.pt 0 [], (AV.st [.sl .lf (by8 (r).s) .ro, .sl .lf (by8 (r).m) .ro, .sl .lf (by8 (r).h) .ro, .sc (.int .i64 (r).room), .sc (.int .i64 (r).armed), .sc (.bool (r).dead)]), .st [(AV.sc (.int .i64 (3))), (AV.sl .lf (by8 (B)) .ro), (AV.sc (.int .i64 (n)))]] [(AV.st [.sl .lf [] .ex, .sc (.int .i64 (p).sf), .sc (.int .i64 (p).room), .sc (.bool true), .sc (.int .i64 (p).armed), .sc (.bool (p).dead), .sl .lf (by8 (p).h) .ro])] (fun q st => q = .tup [(AV.st [.sl .lf (by8 (({r with armed := if n < 0 then -1 else n} : Rk)).s) .ro, .sl .lf (by8 (({r with armed := if n < 0 then -1 else n} : Rk)).m) .ro, .sl .lf (by8 (({r with armed := if n < 0 then -1 else n} : Rk)).h) .ro, .sc (.int .i64 (({r with armed := if n < 0 then -1 else n} : Rk)).room), .sc (.int .i64 (({r with armed := if n < 0 then -1 else n} : Rk)).armed), .sc (.bool (({r with armed := if n < 0 then -1 else n} : Rk)).dead)]), (AV.sc (.bool (true)))] ∧ st = [(AV.st [.sl .lf [] .ex, .sc (.int .i64 ({p with armed := max n (-1)}).sf), .sc (.int .i64 ({p with armed := max n (-1)}).room), .sc (.bool true), .sc (.int .i64 ({p with armed := max n (-1)}).armed), .sc (.bool ({p with armed := max n (-1)}).dead), .sl .lf (by8 ({p with armed := max n (-1)}).h) .ro])]) := by
  have ca := c_arm0 p n
  by_cases hn : n < 0
  · rw [if_pos hn]
    refine fnok_of_W hmix tabOK Try.func19 rfl rfl (Nat.le_of_ble_eq_true rfl) ?_
    conv => whnf
    refine (ca).mono fun r st e => ?_
    obtain ⟨rfl, rfl⟩ := e
    conv => whnf
    refine Branch.of (fun hh => ?_) (fun hh => ?_)
    rotate_left
    · exfalso; simp only [gt_iff_lt, ge_iff_le, decide_eq_true_eq, decide_eq_false_iff_not, beq_iff_eq, beq_eq_false_iff_ne, bne_iff_ne, bne_eq_false_iff_eq, ne_eq] at hh; first | done | omega | (simp at hh; done)
    try rw [hh]
    clear hh
    conv => whnf
    refine ⟨false, [], ?_⟩
    conv => whnf
    exact ⟨rfl, rfl⟩
  · rw [if_neg hn]
    refine fnok_of_W hmix tabOK Try.func19 rfl rfl (Nat.le_of_ble_eq_true rfl) ?_
    conv => whnf
    refine (ca).mono fun r st e => ?_
    obtain ⟨rfl, rfl⟩ := e
    conv => whnf
    refine Branch.of (fun hh => ?_) (fun hh => ?_)
    · exfalso; simp only [gt_iff_lt, ge_iff_le, decide_eq_true_eq, decide_eq_false_iff_not, beq_iff_eq, beq_eq_false_iff_ne, bne_iff_ne, bne_eq_false_iff_eq, ne_eq] at hh; first | done | omega | (simp at hh; done)
    try rw [hh]
    clear hh
    conv => whnf
    refine ⟨false, [], ?_⟩
    conv => whnf
    exact ⟨rfl, rfl⟩
theorem c_do0e_5 (p : Pk) (r : Rk) (d : Int) (B : List UInt8) (n : Int) (h0 : d ≠ 0) (h1 : d ≠ 1) (h2 : d ≠ 2) (h3 : d ≠ 3) (h4 : d ≠ 4) : FnOK Try.prog D 19 [.pt 0 [], (AV.st [.sl .lf (by8 (r).s) .ro, .sl .lf (by8 (r).m) .ro, .sl .lf (by8 (r).h) .ro, .sc (.int .i64 (r).room), .sc (.int .i64 (r).armed), .sc (.bool (r).dead)]), .st [(AV.sc (.int .i64 (d))), (AV.sl .lf (by8 (B)) .ro), (AV.sc (.int .i64 (n)))]] [(AV.st [.sl .lf [] .ex, .sc (.int .i64 (p).sf), .sc (.int .i64 (p).room), .sc (.bool true), .sc (.int .i64 (p).armed), .sc (.bool (p).dead), .sl .lf (by8 (p).h) .ro])] (fun q st => q = .tup [(AV.st [.sl .lf (by8 (r).s) .ro, .sl .lf (by8 (r).m) .ro, .sl .lf (by8 (r).h) .ro, .sc (.int .i64 (r).room), .sc (.int .i64 (r).armed), .sc (.bool (r).dead)]), (AV.sc (.bool (true)))] ∧ st = [(AV.st [.sl .lf [] .ex, .sc (.int .i64 (p).sf), .sc (.int .i64 (p).room), .sc (.bool true), .sc (.int .i64 (p).armed), .sc (.bool (p).dead), .sl .lf (by8 (p).h) .ro])]) := by
  refine fnok_of_W hmix tabOK Try.func19 rfl rfl (Nat.le_of_ble_eq_true rfl) ?_
  conv => whnf
  refine Branch.of (fun hh => ?_) (fun hh => ?_)
  · exfalso; simp only [gt_iff_lt, ge_iff_le, decide_eq_true_eq, decide_eq_false_iff_not, beq_iff_eq, beq_eq_false_iff_ne, bne_iff_ne, bne_eq_false_iff_eq, ne_eq] at hh; first | done | omega | (simp at hh; done)
  try rw [hh]
  clear hh
  conv => whnf
  refine Branch.of (fun hh => ?_) (fun hh => ?_)
  · exfalso; simp only [gt_iff_lt, ge_iff_le, decide_eq_true_eq, decide_eq_false_iff_not, beq_iff_eq, beq_eq_false_iff_ne, bne_iff_ne, bne_eq_false_iff_eq, ne_eq] at hh; first | done | omega | (simp at hh; done)
  try rw [hh]
  clear hh
  conv => whnf
  refine Branch.of (fun hh => ?_) (fun hh => ?_)
  · exfalso; simp only [gt_iff_lt, ge_iff_le, decide_eq_true_eq, decide_eq_false_iff_not, beq_iff_eq, beq_eq_false_iff_ne, bne_iff_ne, bne_eq_false_iff_eq, ne_eq] at hh; first | done | omega | (simp at hh; done)
  try rw [hh]
  clear hh
  conv => whnf
  refine Branch.of (fun hh => ?_) (fun hh => ?_)
  · exfalso; simp only [gt_iff_lt, ge_iff_le, decide_eq_true_eq, decide_eq_false_iff_not, beq_iff_eq, beq_eq_false_iff_ne, bne_iff_ne, bne_eq_false_iff_eq, ne_eq] at hh; first | done | omega | (simp at hh; done)
  try rw [hh]
  clear hh
  conv => whnf
  refine Branch.of (fun hh => ?_) (fun hh => ?_)
  · exfalso; simp only [gt_iff_lt, ge_iff_le, decide_eq_true_eq, decide_eq_false_iff_not, beq_iff_eq, beq_eq_false_iff_ne, bne_iff_ne, bne_eq_false_iff_eq, ne_eq] at hh; first | done | omega | (simp at hh; done)
  try rw [hh]
  clear hh
  conv => whnf
  refine ⟨false, [], ?_⟩
  conv => whnf
  exact ⟨rfl, rfl⟩
theorem c_do0e_4 (room armed n : Int) (dead : Bool) (r : Rk) (B : List UInt8) (hr : WFr r) : FnOK Try.prog D 19 [.pt 0 [], (AV.st [.sl .lf (by8 (r).s) .ro, .sl .lf (by8 (r).m) .ro, .sl .lf (by8 (r).h) .ro, .sc (.int .i64 (r).room), .sc (.int .i64 (r).armed), .sc (.bool (r).dead)]), .st [(AV.sc (.int .i64 (4))), (AV.sl .lf (by8 (B)) .ro), (AV.sc (.int .i64 (n)))]] [(AV.st [.sl .lf [] .ex, .sc (.int .i64 ((⟨[], 0, room, armed, dead, []⟩ : Pk)).sf), .sc (.int .i64 ((⟨[], 0, room, armed, dead, []⟩ : Pk)).room), .sc (.bool true), .sc (.int .i64 ((⟨[], 0, room, armed, dead, []⟩ : Pk)).armed), .sc (.bool ((⟨[], 0, room, armed, dead, []⟩ : Pk)).dead), .sl .lf (by8 ((⟨[], 0, room, armed, dead, []⟩ : Pk)).h) .ro])] (fun q st => q = .tup [(AV.st [.sl .lf (by8 (crashRr r n).s) .ro, .sl .lf (by8 (crashRr r n).m) .ro, .sl .lf (by8 (crashRr r n).h) .ro, .sc (.int .i64 (crashRr r n).room), .sc (.int .i64 (crashRr r n).armed), .sc (.bool (crashRr r n).dead)]), (AV.sc (.bool (true)))] ∧ st = [(AV.st [.sl .lf [] .ex, .sc (.int .i64 ((⟨[], 0, room, -1, false, []⟩ : Pk)).sf), .sc (.int .i64 ((⟨[], 0, room, -1, false, []⟩ : Pk)).room), .sc (.bool true), .sc (.int .i64 ((⟨[], 0, room, -1, false, []⟩ : Pk)).armed), .sc (.bool ((⟨[], 0, room, -1, false, []⟩ : Pk)).dead), .sl .lf (by8 ((⟨[], 0, room, -1, false, []⟩ : Pk)).h) .ro])]) := by
  have ca : FnOK Try.prog D 28 [.pt 0 [], (AV.sc (.int .i64 (n)))] [(AV.st [.sl .lf [] .ex, .sc (.int .i64 ((⟨[], 0, room, armed, dead, []⟩ : Pk)).sf), .sc (.int .i64 ((⟨[], 0, room, armed, dead, []⟩ : Pk)).room), .sc (.bool true), .sc (.int .i64 ((⟨[], 0, room, armed, dead, []⟩ : Pk)).armed), .sc (.bool ((⟨[], 0, room, armed, dead, []⟩ : Pk)).dead), .sl .lf (by8 ((⟨[], 0, room, armed, dead, []⟩ : Pk)).h) .ro])] (fun r st => r = .tup [] ∧ st = [(AV.st [.sl .lf [] .ex, .sc (.int .i64 ((⟨[], 0, room, -1, false, []⟩ : Pk)).sf), .sc (.int .i64 ((⟨[], 0, room, -1, false, []⟩ : Pk)).room), .sc (.bool true), .sc (.int .i64 ((⟨[], 0, room, -1, false, []⟩ : Pk)).armed), .sc (.bool ((⟨[], 0, room, -1, false, []⟩ : Pk)).dead), .sl .lf (by8 ((⟨[], 0, room, -1, false, []⟩ : Pk)).h) .ro])]) := by
    refine ((c_crashR0 room armed n dead).weakB ?_).postB ?_
    · exact WkVs.cons (WkV.st (.cons WkV.ro (.cons (WkV.refl _) (.cons (WkV.refl _) (.cons (WkV.refl _) (.cons (WkV.refl _) (.cons (WkV.refl _) (.cons (WkV.refl _) .nil)))))))) .nil
    · rintro r st ⟨rfl, rfl⟩
      exact ⟨_, WkVs.cons (WkV.st (.cons (WkV.refl _) (.cons (WkV.refl _) (.cons (WkV.refl _) (.cons (WkV.refl _) (.cons (WkV.refl _) (.cons (WkV.refl _) (.cons WkV.ro .nil)))))))) .nil, rfl, rfl⟩
  have cr := c_rcrash r n hr
  generalize crashRr r n = r2 at cr ⊢
  refine fnok_of_W hmix tabOK Try.func19 rfl rfl (Nat.le_of_ble_eq_true rfl) ?_
  conv => whnf
  refine (ca).mono fun r st e => ?_
  obtain ⟨rfl, rfl⟩ := e
  conv => whnf
  refine (cr).mono fun r st e => ?_
  obtain ⟨rfl, rfl⟩ := e
  conv => whnf
  refine ⟨false, [], ?_⟩
  conv => whnf
  exact ⟨rfl, rfl⟩
theorem c_do0e (p : Pk) (r : Rk) (d : Int) (B : List UInt8) (n : Int) (hb0 : p.b = []) (hh0 : p.h = []) (hp : WFk p) (hr : WFr r) (hB : B.length ≤ 200) (h2 : d ≠ 2) (hd : d = 0 → p.dead = true) : FnOK Try.prog D 19 [.pt 0 [], (AV.st [.sl .lf (by8 (r).s) .ro, .sl .lf (by8 (r).m) .ro, .sl .lf (by8 (r).h) .ro, .sc (.int .i64 (r).room), .sc (.int .i64 (r).armed), .sc (.bool (r).dead)]), .st [(AV.sc (.int .i64 (d))), (AV.sl .lf (by8 (B)) .ro), (AV.sc (.int .i64 (n)))]] [(AV.st [.sl .lf [] .ex, .sc (.int .i64 (p).sf), .sc (.int .i64 (p).room), .sc (.bool true), .sc (.int .i64 (p).armed), .sc (.bool (p).dead), .sl .lf (by8 (p).h) .ro])] (fun q st => q = .tup [(AV.st [.sl .lf (by8 (doR r d B n).s) .ro, .sl .lf (by8 (doR r d B n).m) .ro, .sl .lf (by8 (doR r d B n).h) .ro, .sc (.int .i64 (doR r d B n).room), .sc (.int .i64 (doR r d B n).armed), .sc (.bool (doR r d B n).dead)]), (AV.sc (.bool (doOk p r d B n)))] ∧ st = [(AV.st [.sl .lf [] .ex, .sc (.int .i64 ((doP p d B n)).sf), .sc (.int .i64 ((doP p d B n)).room), .sc (.bool true), .sc (.int .i64 ((doP p d B n)).armed), .sc (.bool ((doP p d B n)).dead), .sl .lf (by8 ((doP p d B n)).h) .ro])]) := by
  by_cases h0 : d = 0
  · subst h0
    have e : doP p 0 B n = p := by show (appP p B).1 = p; unfold appP; rw [if_pos (hd rfl)]
    rw [e]
    exact c_do0e_0 p r B n (hd rfl) hr hB
  by_cases h1 : d = 1
  · subst h1
    exact c_do0e_1 p r B n hb0 hp hr
  by_cases h3 : d = 3
  · subst h3
    exact c_do0e_3 p r B n
  by_cases h4 : d = 4
  · subst h4
    obtain ⟨b, sf, room, armed, dead, h⟩ := p
    have w4 := hp.2.2.2.1
    have w5 := hp.2.2.2.2.1
    simp only at hb0 hh0 w4 w5
    subst hb0 hh0
    obtain rfl : sf = 0 := by
      simp at w5
      omega
    have e : doP ⟨[], 0, room, armed, dead, []⟩ 4 B n = ⟨[], 0, room, -1, false, []⟩ := by
      show crashP ⟨[], 0, room, armed, dead, []⟩ n = _
      have e : (0 : Int) + min (max n 0) (((([] : List UInt8) ++ []).length : Int) - 0) = 0 := by
        show (0 : Int) + min (max n 0) (((0 : Nat) : Int) - 0) = 0
        omega
      simp only [crashP]
      rw [e]
      rfl
    rw [e]
    exact c_do0e_4 room armed n dead r B hr
  rw [show doR r d B n = r by simp [doR, h0, h1, h2, h3, h4], show doOk p r d B n = true by simp [doOk, h0, h1, h2], show doP p d B n = p by simp [doP, h0, h1, h2, h3, h4]]
  exact c_do0e_5 p r d B n h0 h1 h2 h3 h4
end Go.WL.T5
