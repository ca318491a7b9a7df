/- An act on both disks. No condition. -/
import Derived.Test.YtdlgmddegldcjaaPart13
set_option linter.unusedVariables false
set_option linter.unusedSimpArgs false
namespace Go.WL.T5
open Go.WL Go.Proofs
set_option maxRecDepth 20000
set_option maxHeartbeats 8000000
def tabA4 : List (List Nat) := [[], [], [], [], [3], [2, 3, 4], [1, 4, 3, 2, 5], [5, 2, 3, 4, 1, 6], [6, 1, 4, 3, 2, 5, 7], [5, 2, 3, 4, 1, 6, 0], [7, 8, 0, 6, 1, 4, 3, 2, 5, 9]]
def tabB4 : List (List Nat) := [[], [], [], [], [3], [2, 3, 4], [], [1, 4, 3, 2, 5, 6], [5, 2, 3, 4, 1, 7, 6], [6, 5, 2, 3, 4, 1, 7, 0], [8, 0, 7, 1, 4, 3, 2, 5, 6, 9]]
def tabA7 : List (List Nat) := [[], [], [1], [1, 2], [2, 1, 3], [1, 2, 0], [3, 4, 0, 2, 1, 5]]
def tabB7 : List (List Nat) := [[], [], [], [1, 2], [1, 3, 2], [2, 1, 3, 0], [4, 0, 3, 1, 2, 5]]
def tabA10 : List (List Nat) := [[], [], [], [2], [1, 2, 3], [3, 2, 1, 4], [4, 1, 2, 3, 5], [3, 2, 1, 4, 0], [5, 6, 0, 4, 1, 2, 3, 7]]
def tabB10 : List (List Nat) := [[], [], [], [2], [], [1, 2, 3, 4], [3, 2, 1, 5, 4], [4, 3, 2, 1, 5, 0], [6, 0, 5, 1, 2, 3, 4, 7]]
theorem P0_ex (k : Pk) : ∃ st, P0 k st := by
  by_cases h : k.b = []
  · exact ⟨_, .inl ⟨h, rfl⟩⟩
  · exact ⟨_, .inr ⟨_, _, _, okl_app k.b k.b.length [] (Nat.le_refl _) (by simp), rfl⟩⟩
theorem P1_ex (k : Pk) : ∃ st, P1 k st := ⟨_, .inl ⟨_, _, _, okl_app k.b k.b.length [] (Nat.le_refl _) (by simp), rfl⟩⟩
theorem sync_b (k : Pk) : (syncP k).1.b = k.b := by
  unfold syncP
  split
  · rfl
  · split
    · exact step_b k
    · exact step_b k
def doP (p : Pk) (d : Int) (B : List UInt8) (n : Int) : Pk := if d = 0 then (appP p B).1 else if d = 1 then (syncP p).1 else if d = 2 then (cutP p n).1 else if d = 3 then {p with armed := max n (-1)} else if d = 4 then crashP p n else p
def doR (r : Rk) (d : Int) (B : List UInt8) (n : Int) : Rk := if d = 0 then (appR r B).1 else if d = 1 then (syncR r).1 else if d = 2 then (cutR r n).1 else if d = 3 then {r with armed := if n < 0 then -1 else n} else if d = 4 then crashRr r n else r
def doOk (p : Pk) (r : Rk) (d : Int) (B : List UInt8) (n : Int) : Bool := if d = 0 then (appP p B).2 == (appR r B).2 else if d = 1 then (syncP p).2 == (syncR r).2 else if d = 2 then (cutP p n).2 == (cutR r n).2 else true
theorem c_do0_0 (p : Pk) (r : Rk) (B : List UInt8) (n : Int) (hb0 : p.b = []) (hp : WFk p) (hr : WFr r) (hB : B.length ≤ 200) : FnOK Try.prog D 19 [.pt 0 [], (AV.st [.sl .lf (by8 (r).s) .ro, .sl .lf (by8 (r).m) .ro, .sl .lf (by8 (r).h) .ro, .sc (.int .i64 (r).room), .sc (.int .i64 (r).armed), .sc (.bool (r).dead)]), .st [(AV.sc (.int .i64 (0))), (AV.sl .lf (by8 (B)) .ro), (AV.sc (.int .i64 (n)))]] [(AV.st [.sl .lf [] .ex, .sc (.int .i64 (p).sf), .sc (.int .i64 (p).room), .sc (.bool true), .sc (.int .i64 (p).armed), .sc (.bool (p).dead), .sl .lf (by8 (p).h) .ro])] (fun q st => q = .tup [(AV.st [.sl .lf (by8 ((appR r B).1).s) .ro, .sl .lf (by8 ((appR r B).1).m) .ro, .sl .lf (by8 ((appR r B).1).h) .ro, .sc (.int .i64 ((appR r B).1).room), .sc (.int .i64 ((appR r B).1).armed), .sc (.bool ((appR r B).1).dead)]), (AV.sc (.bool (((appP p B).2 == (appR r B).2))))] ∧ P0 (appP p B).1 st) := by
  have ca := c_append0 p B hb0 hp (by omega)
  obtain ⟨st0, hst0⟩ := P0_ex (appP p B).1
  generalize appP p B = ap at ca hst0 ⊢
  have cr := c_rapp r B hr (by omega)
  generalize appR r B = ar at cr ⊢
  obtain ⟨p2, e1⟩ := ap
  obtain ⟨r2, e2⟩ := ar
  refine fnok_of_Ws [5040607, 4004006] hmix tabOK Try.func19 rfl rfl (Nat.le_of_ble_eq_true rfl) ?_
  conv => whnf
  refine (cr).mono fun r st e => ?_
  obtain ⟨rfl, rfl⟩ := e
  conv => whnf
  refine ⟨by decide +kernel, ⟨tabA4, by decide +kernel, ?_⟩, ⟨tabB4, by decide +kernel, ?_⟩⟩
  all_goals (conv => whnf)
  all_goals (refine ⟨by simp only [List.length_replicate, len8]; omega, ?_⟩)
  all_goals (conv => whnf)
  all_goals refine ⟨_, ca, ⟨_, st0, rfl, hst0⟩, ?_⟩
  all_goals (rintro q st ⟨rfl, h⟩)
  all_goals (rcases h with ⟨hb, rfl⟩ | ⟨cap', c2', L', hL', rfl⟩)
  all_goals (conv => whnf)
  all_goals first
    | (refine ⟨false, [], ?_⟩; (conv => whnf); exact ⟨rfl, .inl ⟨hb, rfl⟩⟩)
    | (refine ⟨false, [5], ?_⟩; (conv => whnf); exact ⟨rfl, .inr ⟨cap', c2', L', hL', rfl⟩⟩)
theorem c_do0_2 (p : Pk) (r : Rk) (B : List UInt8) (n : Int) (hb0 : p.b = []) (hp : WFk p) (hr : WFr r) : FnOK Try.prog D 19 [.pt 0 [], (AV.st [.sl .lf (by8 (r).s) .ro, .sl .lf (by8 (r).m) .ro, .sl .lf (by8 (r).h) .ro, .sc (.int .i64 (r).room), .sc (.int .i64 (r).armed), .sc (.bool (r).dead)]), .st [(AV.sc (.int .i64 (2))), (AV.sl .lf (by8 (B)) .ro), (AV.sc (.int .i64 (n)))]] [(AV.st [.sl .lf [] .ex, .sc (.int .i64 (p).sf), .sc (.int .i64 (p).room), .sc (.bool true), .sc (.int .i64 (p).armed), .sc (.bool (p).dead), .sl .lf (by8 (p).h) .ro])] (fun q st => q = .tup [(AV.st [.sl .lf (by8 ((cutR r n).1).s) .ro, .sl .lf (by8 ((cutR r n).1).m) .ro, .sl .lf (by8 ((cutR r n).1).h) .ro, .sc (.int .i64 ((cutR r n).1).room), .sc (.int .i64 ((cutR r n).1).armed), .sc (.bool ((cutR r n).1).dead)]), (AV.sc (.bool (((cutP p n).2 == (cutR r n).2))))] ∧ P0 (cutP p n).1 st) := by
  have ca := c_cut0 p n hb0 hp
  obtain ⟨st0, hst0⟩ := P0_ex (cutP p n).1
  generalize cutP p n = ap at ca hst0 ⊢
  have cr := c_rcut r n hr
  generalize cutR r n = ar at cr ⊢
  obtain ⟨p2, e1⟩ := ap
  obtain ⟨r2, e2⟩ := ar
  refine fnok_of_Ws [5100405, 4010004] hmix tabOK Try.func19 rfl rfl (Nat.le_of_ble_eq_true rfl) ?_
  conv => whnf
  refine (cr).mono fun r st e => ?_
  obtain ⟨rfl, rfl⟩ := e
  conv => whnf
  refine ⟨by decide +kernel, ⟨tabA10, by decide +kernel, ?_⟩, ⟨tabB10, by decide +kernel, ?_⟩⟩
  all_goals (conv => whnf)
  all_goals refine ⟨_, ca, ⟨_, st0, rfl, hst0⟩, ?_⟩
  all_goals (rintro q st ⟨rfl, h⟩)
  all_goals (rcases h with ⟨hb, rfl⟩ | ⟨cap', c2', L', hL', rfl⟩)
  all_goals (conv => whnf)
  all_goals first
    | (refine ⟨false, [], ?_⟩; (conv => whnf); exact ⟨rfl, .inl ⟨hb, rfl⟩⟩)
    | (refine ⟨false, [5], ?_⟩; (conv => whnf); exact ⟨rfl, .inr ⟨cap', c2', L', hL', rfl⟩⟩)
theorem c_do0_1 (p : Pk) (r : Rk) (B : List UInt8) (n : Int) (hb0 : p.b = []) (hp : WFk p) (hr : WFr r) : FnOK Try.prog D 19 [.pt 0 [], (AV.st [.sl .lf (by8 (r).s) .ro, .sl .lf (by8 (r).m) .ro, .sl .lf (by8 (r).h) .ro, .sc (.int .i64 (r).room), .sc (.int .i64 (r).armed), .sc (.bool (r).dead)]), .st [(AV.sc (.int .i64 (1))), (AV.sl .lf (by8 (B)) .ro), (AV.sc (.int .i64 (n)))]] [(AV.st [.sl .lf [] .ex, .sc (.int .i64 (p).sf), .sc (.int .i64 (p).room), .sc (.bool true), .sc (.int .i64 (p).armed), .sc (.bool (p).dead), .sl .lf (by8 (p).h) .ro])] (fun q st => q = .tup [(AV.st [.sl .lf (by8 ((syncR r).1).s) .ro, .sl .lf (by8 ((syncR r).1).m) .ro, .sl .lf (by8 ((syncR r).1).h) .ro, .sc (.int .i64 ((syncR r).1).room), .sc (.int .i64 ((syncR r).1).armed), .sc (.bool ((syncR r).1).dead)]), (AV.sc (.bool (((syncP p).2 == (syncR r).2))))] ∧ P0 (syncP p).1 st) := by
  have ca := c_sync0 p hp.2.2.2.2.2.1 hp.2.2.2.2.2.2 hb0
  have hb := sync_b p
  generalize syncP p = ap at ca hb ⊢
  have cr := c_rsync r hr
  generalize syncR r = ar at cr ⊢
  obtain ⟨p2, e1⟩ := ap
  obtain ⟨r2, e2⟩ := ar
  simp only at hb
  refine fnok_of_W hmix tabOK Try.func19 rfl rfl (Nat.le_of_ble_eq_true rfl) ?_
  conv => whnf
  refine (cr).mono fun r st e => ?_
  obtain ⟨rfl, rfl⟩ := e
  conv => whnf
  refine ⟨tabF19R7, by decide +kernel, ?_⟩
  conv => whnf
  refine ⟨_, _, ca, ?_⟩
  conv => whnf
  refine ⟨false, [], ?_⟩
  conv => whnf
  exact ⟨rfl, .inl ⟨hb.trans hb0, rfl⟩⟩
theorem c_do0_3 (p : Pk) (r : Rk) (B : List UInt8) (n : Int) (hb0 : p.b = []) : FnOK Try.prog D 19 [.pt 0 [], (AV.st [.sl .lf (by8 (r).s) .ro, .sl .lf (by8 (r).m) .ro, .sl .lf (by8 (r).h) .ro, .sc (.int .i64 (r).room), .sc (.int .i64 (r).armed), .sc (.bool (r).dead)]), .st [(AV.sc (.int .i64 (3))), (AV.sl .lf (by8 (B)) .ro), (AV.sc (.int .i64 (n)))]] [(AV.st [.sl .lf [] .ex, .sc (.int .i64 (p).sf), .sc (.int .i64 (p).room), .sc (.bool true), .sc (.int .i64 (p).armed), .sc (.bool (p).dead), .sl .lf (by8 (p).h) .ro])] (fun q st => q = .tup [(AV.st [.sl .lf (by8 (({r with armed := if n < 0 then -1 else n} : Rk)).s) .ro, .sl .lf (by8 (({r with armed := if n < 0 then -1 else n} : Rk)).m) .ro, .sl .lf (by8 (({r with armed := if n < 0 then -1 else n} : Rk)).h) .ro, .sc (.int .i64 (({r with armed := if n < 0 then -1 else n} : Rk)).room), .sc (.int .i64 (({r with armed := if n < 0 then -1 else n} : Rk)).armed), .sc (.bool (({r with armed := if n < 0 then -1 else n} : Rk)).dead)]), (AV.sc (.bool (true)))] ∧ P0 {p with armed := max n (-1)} st) := by
  have ca := c_arm0 p n
  by_cases hn : n < 0
  · rw [if_pos hn]
    refine fnok_of_W hmix tabOK Try.func19 rfl rfl (Nat.le_of_ble_eq_true rfl) ?_
    conv => whnf
    refine (ca).mono fun r st e => ?_
    obtain ⟨rfl, rfl⟩ := e
    conv => whnf
    refine Branch.of (fun hh => ?_) (fun hh => ?_)
    rotate_left
    · exfalso; simp only [gt_iff_lt, ge_iff_le, decide_eq_true_eq, decide_eq_false_iff_not, beq_iff_eq, beq_eq_false_iff_ne, bne_iff_ne, bne_eq_false_iff_eq, ne_eq] at hh; first | done | omega | (simp at hh; done)
    try rw [hh]
    clear hh
    conv => whnf
    refine ⟨false, [], ?_⟩
    conv => whnf
    exact ⟨rfl, .inl ⟨hb0, rfl⟩⟩
  · rw [if_neg hn]
    refine fnok_of_W hmix tabOK Try.func19 rfl rfl (Nat.le_of_ble_eq_true rfl) ?_
    conv => whnf
    refine (ca).mono fun r st e => ?_
    obtain ⟨rfl, rfl⟩ := e
    conv => whnf
    refine Branch.of (fun hh => ?_) (fun hh => ?_)
    · exfalso; simp only [gt_iff_lt, ge_iff_le, decide_eq_true_eq, decide_eq_false_iff_not, beq_iff_eq, beq_eq_false_iff_ne, bne_iff_ne, bne_eq_false_iff_eq, ne_eq] at hh; first | done | omega | (simp at hh; done)
    try rw [hh]
    clear hh
    conv => whnf
    refine ⟨false, [], ?_⟩
    conv => whnf
    exact ⟨rfl, .inl ⟨hb0, rfl⟩⟩
theorem c_do0_5 (p : Pk) (r : Rk) (d : Int) (B : List UInt8) (n : Int) (hb0 : p.b = []) (h0 : d ≠ 0) (h1 : d ≠ 1) (h2 : d ≠ 2) (h3 : d ≠ 3) (h4 : d ≠ 4) : FnOK Try.prog D 19 [.pt 0 [], (AV.st [.sl .lf (by8 (r).s) .ro, .sl .lf (by8 (r).m) .ro, .sl .lf (by8 (r).h) .ro, .sc (.int .i64 (r).room), .sc (.int .i64 (r).armed), .sc (.bool (r).dead)]), .st [(AV.sc (.int .i64 (d))), (AV.sl .lf (by8 (B)) .ro), (AV.sc (.int .i64 (n)))]] [(AV.st [.sl .lf [] .ex, .sc (.int .i64 (p).sf), .sc (.int .i64 (p).room), .sc (.bool true), .sc (.int .i64 (p).armed), .sc (.bool (p).dead), .sl .lf (by8 (p).h) .ro])] (fun q st => q = .tup [(AV.st [.sl .lf (by8 (r).s) .ro, .sl .lf (by8 (r).m) .ro, .sl .lf (by8 (r).h) .ro, .sc (.int .i64 (r).room), .sc (.int .i64 (r).armed), .sc (.bool (r).dead)]), (AV.sc (.bool (true)))] ∧ P0 p st) := by
  refine fnok_of_W hmix tabOK Try.func19 rfl rfl (Nat.le_of_ble_eq_true rfl) ?_
  conv => whnf
  refine Branch.of (fun hh => ?_) (fun hh => ?_)
  · exfalso; simp only [gt_iff_lt, ge_iff_le, decide_eq_true_eq, decide_eq_false_iff_not, beq_iff_eq, beq_eq_false_iff_ne, bne_iff_ne, bne_eq_false_iff_eq, ne_eq] at hh; first | done | omega | (simp at hh; done)
  try rw [hh]
  clear hh
  conv => whnf
  refine Branch.of (fun hh => ?_) (fun hh => ?_)
  · exfalso; simp only [gt_iff_lt, ge_iff_le, decide_eq_true_eq, decide_eq_false_iff_not, beq_iff_eq, beq_eq_false_iff_ne, bne_iff_ne, bne_eq_false_iff_eq, ne_eq] at hh; first | done | omega | (simp at hh; done)
  try rw [hh]
  clear hh
  conv => whnf
  refine Branch.of (fun hh => ?_) (fun hh => ?_)
  · exfalso; simp only [gt_iff_lt, ge_iff_le, decide_eq_true_eq, decide_eq_false_iff_not, beq_iff_eq, beq_eq_false_iff_ne, bne_iff_ne, bne_eq_false_iff_eq, ne_eq] at hh; first | done | omega | (simp at hh; done)
  try rw [hh]
  clear hh
  conv => whnf
  refine Branch.of (fun hh => ?_) (fun hh => ?_)
  · exfalso; simp only [gt_iff_lt, ge_iff_le, decide_eq_true_eq, decide_eq_false_iff_not, beq_iff_eq, beq_eq_false_iff_ne, bne_iff_ne, bne_eq_false_iff_eq, ne_eq] at hh; first | done | omega | (simp at hh; done)
  try rw [hh]
  clear hh
  conv => whnf
  refine Branch.of (fun hh => ?_) (fun hh => ?_)
  · exfalso; simp only [gt_iff_lt, ge_iff_le, decide_eq_true_eq, decide_eq_false_iff_not, beq_iff_eq, beq_eq_false_iff_ne, bne_iff_ne, bne_eq_false_iff_eq, ne_eq] at hh; first | done | omega | (simp at hh; done)
  try rw [hh]
  clear hh
  conv => whnf
  refine ⟨false, [], ?_⟩
  conv => whnf
  exact ⟨rfl, .inl ⟨hb0, rfl⟩⟩
theorem c_do0 (p : Pk) (r : Rk) (d : Int) (B : List UInt8) (n : Int) (hb0 : p.b = []) (hp : WFk p) (hr : WFr r) (hB : B.length ≤ 200) (h4 : d ≠ 4) : FnOK Try.prog D 19 [.pt 0 [], (AV.st [.sl .lf (by8 (r).s) .ro, .sl .lf (by8 (r).m) .ro, .sl .lf (by8 (r).h) .ro, .sc (.int .i64 (r).room), .sc (.int .i64 (r).armed), .sc (.bool (r).dead)]), .st [(AV.sc (.int .i64 (d))), (AV.sl .lf (by8 (B)) .ro), (AV.sc (.int .i64 (n)))]] [(AV.st [.sl .lf [] .ex, .sc (.int .i64 (p).sf), .sc (.int .i64 (p).room), .sc (.bool true), .sc (.int .i64 (p).armed), .sc (.bool (p).dead), .sl .lf (by8 (p).h) .ro])] (fun q st => q = .tup [(AV.st [.sl .lf (by8 (doR r d B n).s) .ro, .sl .lf (by8 (doR r d B n).m) .ro, .sl .lf (by8 (doR r d B n).h) .ro, .sc (.int .i64 (doR r d B n).room), .sc (.int .i64 (doR r d B n).armed), .sc (.bool (doR r d B n).dead)]), (AV.sc (.bool (doOk p r d B n)))] ∧ P0 (doP p d B n) st) := by
  by_cases h0 : d = 0
  · subst h0
    exact c_do0_0 p r B n hb0 hp hr hB
  by_cases h1 : d = 1
  · subst h1
    exact c_do0_1 p r B n hb0 hp hr
  by_cases h2 : d = 2
  · subst h2
    exact c_do0_2 p r B n hb0 hp hr
  by_cases h3 : d = 3
  · subst h3
    exact c_do0_3 p r B n hb0
  rw [show doR r d B n = r by simp [doR, h0, h1, h2, h3, h4], show doOk p r d B n = true by simp [doOk, h0, h1, h2], show doP p d B n = p by simp [doP, h0, h1, h2, h3, h4]]
  exact c_do0_5 p r d B n hb0 h0 h1 h2 h3 h4
theorem c_do1_0 (p : Pk) (r : Rk) (B : List UInt8) (n : Int) (cap c2 : Nat) (L : List AV) (hL : OKL p.b cap c2 L) (hp : WFk p) (hr : WFr r) (hB : B.length ≤ 200) : FnOK Try.prog D 19 [.pt 0 [], (AV.st [.sl .lf (by8 (r).s) .ro, .sl .lf (by8 (r).m) .ro, .sl .lf (by8 (r).h) .ro, .sc (.int .i64 (r).room), .sc (.int .i64 (r).armed), .sc (.bool (r).dead)]), .st [(AV.sc (.int .i64 (0))), (AV.sl .lf (by8 (B)) .ro), (AV.sc (.int .i64 (n)))]] [(AV.st [.bs 1 [] .lf 0 (p).b.length cap, .sc (.int .i64 (p).sf), .sc (.int .i64 (p).room), .sc (.bool true), .sc (.int .i64 (p).armed), .sc (.bool (p).dead), .sl .lf (by8 (p).h) .ro]), .ar c2 .lf L] (fun q st => q = .tup [(AV.st [.sl .lf (by8 ((appR r B).1).s) .ro, .sl .lf (by8 ((appR r B).1).m) .ro, .sl .lf (by8 ((appR r B).1).h) .ro, .sc (.int .i64 ((appR r B).1).room), .sc (.int .i64 ((appR r B).1).armed), .sc (.bool ((appR r B).1).dead)]), (AV.sc (.bool (((appP p B).2 == (appR r B).2))))] ∧ P1 (appP p B).1 st) := by
  have ca := c_append1 p B cap c2 L hL hp (by omega)
  obtain ⟨st0, hst0⟩ := P1_ex (appP p B).1
  generalize appP p B = ap at ca hst0 ⊢
  have cr := c_rapp r B hr (by omega)
  generalize appR r B = ar at cr ⊢
  obtain ⟨p2, e1⟩ := ap
  obtain ⟨r2, e2⟩ := ar
  refine fnok_of_Ws [5040607, 4004006] hmix tabOK Try.func19 rfl rfl (Nat.le_of_ble_eq_true rfl) ?_
  conv => whnf
  refine (cr).mono fun r st e => ?_
  obtain ⟨rfl, rfl⟩ := e
  conv => whnf
  refine ⟨by decide +kernel, ⟨tabA4, by decide +kernel, ?_⟩, ⟨tabB4, by decide +kernel, ?_⟩⟩
  all_goals (conv => whnf)
  all_goals (refine ⟨by simp only [List.length_replicate, len8]; omega, ?_⟩)
  all_goals (conv => whnf)
  all_goals refine ⟨_, ca, ⟨_, st0, rfl, hst0⟩, ?_⟩
  all_goals (rintro q st ⟨rfl, h⟩)
  all_goals (rcases h with ⟨cap', c2', L', hL', rfl⟩ | ⟨cap', c2', L', cj, Lj, hL', rfl⟩ | ⟨hb, cj, Lj, rfl⟩)
  all_goals (conv => whnf)
  all_goals first
    | (refine ⟨false, [], ?_⟩; (conv => whnf); exact ⟨rfl, .inl ⟨cap', c2', L', hL', rfl⟩⟩)
    | (refine ⟨false, [], ?_⟩; (conv => whnf); exact ⟨rfl, .inr (.inr ⟨hb, cj, Lj, rfl⟩)⟩)
    | (refine ⟨false, [6], ?_⟩; (conv => whnf); exact ⟨rfl, .inr (.inl ⟨cap', c2', L', cj, Lj, hL', rfl⟩)⟩)
theorem c_do1_2 (p : Pk) (r : Rk) (B : List UInt8) (n : Int) (cap c2 : Nat) (L : List AV) (hL : OKL p.b cap c2 L) (hp : WFk p) (hr : WFr r) : FnOK Try.prog D 19 [.pt 0 [], (AV.st [.sl .lf (by8 (r).s) .ro, .sl .lf (by8 (r).m) .ro, .sl .lf (by8 (r).h) .ro, .sc (.int .i64 (r).room), .sc (.int .i64 (r).armed), .sc (.bool (r).dead)]), .st [(AV.sc (.int .i64 (2))), (AV.sl .lf (by8 (B)) .ro), (AV.sc (.int .i64 (n)))]] [(AV.st [.bs 1 [] .lf 0 (p).b.length cap, .sc (.int .i64 (p).sf), .sc (.int .i64 (p).room), .sc (.bool true), .sc (.int .i64 (p).armed), .sc (.bool (p).dead), .sl .lf (by8 (p).h) .ro]), .ar c2 .lf L] (fun q st => q = .tup [(AV.st [.sl .lf (by8 ((cutR r n).1).s) .ro, .sl .lf (by8 ((cutR r n).1).m) .ro, .sl .lf (by8 ((cutR r n).1).h) .ro, .sc (.int .i64 ((cutR r n).1).room), .sc (.int .i64 ((cutR r n).1).armed), .sc (.bool ((cutR r n).1).dead)]), (AV.sc (.bool (((cutP p n).2 == (cutR r n).2))))] ∧ P1 (cutP p n).1 st) := by
  have ca := c_cut1 p n cap c2 L hL hp
  obtain ⟨st0, hst0⟩ := P1_ex (cutP p n).1
  generalize cutP p n = ap at ca hst0 ⊢
  have cr := c_rcut r n hr
  generalize cutR r n = ar at cr ⊢
  obtain ⟨p2, e1⟩ := ap
  obtain ⟨r2, e2⟩ := ar
  refine fnok_of_Ws [5100405, 4010004] hmix tabOK Try.func19 rfl rfl (Nat.le_of_ble_eq_true rfl) ?_
  conv => whnf
  refine (cr).mono fun r st e => ?_
  obtain ⟨rfl, rfl⟩ := e
  conv => whnf
  refine ⟨by decide +kernel, ⟨tabA10, by decide +kernel, ?_⟩, ⟨tabB10, by decide +kernel, ?_⟩⟩
  all_goals (conv => whnf)
  all_goals refine ⟨_, ca, ⟨_, st0, rfl, hst0⟩, ?_⟩
  all_goals (rintro q st ⟨rfl, h⟩)
  all_goals (rcases h with ⟨cap', c2', L', hL', rfl⟩ | ⟨cap', c2', L', cj, Lj, hL', rfl⟩ | ⟨hb, cj, Lj, rfl⟩)
  all_goals (conv => whnf)
  all_goals first
    | (refine ⟨false, [], ?_⟩; (conv => whnf); exact ⟨rfl, .inl ⟨cap', c2', L', hL', rfl⟩⟩)
    | (refine ⟨false, [], ?_⟩; (conv => whnf); exact ⟨rfl, .inr (.inr ⟨hb, cj, Lj, rfl⟩)⟩)
    | (refine ⟨false, [6], ?_⟩; (conv => whnf); exact ⟨rfl, .inr (.inl ⟨cap', c2', L', cj, Lj, hL', rfl⟩)⟩)
theorem c_do1_1 (p : Pk) (r : Rk) (B : List UInt8) (n : Int) (cap c2 : Nat) (L : List AV) (hL : OKL p.b cap c2 L) (hp : WFk p) (hr : WFr r) : FnOK Try.prog D 19 [.pt 0 [], (AV.st [.sl .lf (by8 (r).s) .ro, .sl .lf (by8 (r).m) .ro, .sl .lf (by8 (r).h) .ro, .sc (.int .i64 (r).room), .sc (.int .i64 (r).armed), .sc (.bool (r).dead)]), .st [(AV.sc (.int .i64 (1))), (AV.sl .lf (by8 (B)) .ro), (AV.sc (.int .i64 (n)))]] [(AV.st [.bs 1 [] .lf 0 (p).b.length cap, .sc (.int .i64 (p).sf), .sc (.int .i64 (p).room), .sc (.bool true), .sc (.int .i64 (p).armed), .sc (.bool (p).dead), .sl .lf (by8 (p).h) .ro]), .ar c2 .lf L] (fun q st => q = .tup [(AV.st [.sl .lf (by8 ((syncR r).1).s) .ro, .sl .lf (by8 ((syncR r).1).m) .ro, .sl .lf (by8 ((syncR r).1).h) .ro, .sc (.int .i64 ((syncR r).1).room), .sc (.int .i64 ((syncR r).1).armed), .sc (.bool ((syncR r).1).dead)]), (AV.sc (.bool (((syncP p).2 == (syncR r).2))))] ∧ P1 (syncP p).1 st) := by
  have ca := c_sync1 p cap c2 L hp.2.2.2.2.2.1 hp.2.2.2.2.2.2
  have hb := sync_b p
  generalize syncP p = ap at ca hb ⊢
  have cr := c_rsync r hr
  generalize syncR r = ar at cr ⊢
  obtain ⟨p2, e1⟩ := ap
  obtain ⟨r2, e2⟩ := ar
  simp only at hb
  refine fnok_of_W hmix tabOK Try.func19 rfl rfl (Nat.le_of_ble_eq_true rfl) ?_
  conv => whnf
  refine (cr).mono fun r st e => ?_
  obtain ⟨rfl, rfl⟩ := e
  conv => whnf
  refine ⟨tabF19R7, by decide +kernel, ?_⟩
  conv => whnf
  refine ⟨_, _, ca, ?_⟩
  conv => whnf
  refine ⟨false, [], ?_⟩
  conv => whnf
  exact ⟨rfl, .inl ⟨cap, c2, L, by show OKL p2.b cap c2 L; rw [hb]; exact hL, rfl⟩⟩
theorem c_do1_3 (p : Pk) (r : Rk) (B : List UInt8) (n : Int) (cap c2 : Nat) (L : List AV) (hL : OKL p.b cap c2 L) : FnOK Try.prog D 19 [.pt 0 [], (AV.st [.sl .lf (by8 (r).s) .ro, .sl .lf (by8 (r).m) .ro, .sl .lf (by8 (r).h) .ro, .sc (.int .i64 (r).room), .sc (.int .i64 (r).armed), .sc (.bool (r).dead)]), .st [(AV.sc (.int .i64 (3))), (AV.sl .lf (by8 (B)) .ro), (AV.sc (.int .i64 (n)))]] [(AV.st [.bs 1 [] .lf 0 (p).b.length cap, .sc (.int .i64 (p).sf), .sc (.int .i64 (p).room), .sc (.bool true), .sc (.int .i64 (p).armed), .sc (.bool (p).dead), .sl .lf (by8 (p).h) .ro]), .ar c2 .lf L] (fun q st => q = .tup [(AV.st [.sl .lf (by8 (({r with armed := if n < 0 then -1 else n} : Rk)).s) .ro, .sl .lf (by8 (({r with armed := if n < 0 then -1 else n} : Rk)).m) .ro, .sl .lf (by8 (({r with armed := if n < 0 then -1 else n} : Rk)).h) .ro, .sc (.int .i64 (({r with armed := if n < 0 then -1 else n} : Rk)).room), .sc (.int .i64 (({r with armed := if n < 0 then -1 else n} : Rk)).armed), .sc (.bool (({r with armed := if n < 0 then -1 else n} : Rk)).dead)]), (AV.sc (.bool (true)))] ∧ P1 {p with armed := max n (-1)} st) := by
  have ca := c_arm1 p cap c2 L n
  by_cases hn : n < 0
  · rw [if_pos hn]
    refine fnok_of_W hmix tabOK Try.func19 rfl rfl (Nat.le_of_ble_eq_true rfl) ?_
    conv => whnf
    refine (ca).mono fun r st e => ?_
    obtain ⟨rfl, rfl⟩ := e
    conv => whnf
    refine Branch.of (fun hh => ?_) (fun hh => ?_)
    rotate_left
    · exfalso; simp only [gt_iff_lt, ge_iff_le, decide_eq_true_eq, decide_eq_false_iff_not, beq_iff_eq, beq_eq_false_iff_ne, bne_iff_ne, bne_eq_false_iff_eq, ne_eq] at hh; first | done | omega | (simp at hh; done)
    try rw [hh]
    clear hh
    conv => whnf
    refine ⟨false, [], ?_⟩
    conv => whnf
    exact ⟨rfl, .inl ⟨cap, c2, L, hL, rfl⟩⟩
  · rw [if_neg hn]
    refine fnok_of_W hmix tabOK Try.func19 rfl rfl (Nat.le_of_ble_eq_true rfl) ?_
    conv => whnf
    refine (ca).mono fun r st e => ?_
    obtain ⟨rfl, rfl⟩ := e
    conv => whnf
    refine Branch.of (fun hh => ?_) (fun hh => ?_)
    · exfalso; simp only [gt_iff_lt, ge_iff_le, decide_eq_true_eq, decide_eq_false_iff_not, beq_iff_eq, beq_eq_false_iff_ne, bne_iff_ne, bne_eq_false_iff_eq, ne_eq] at hh; first | done | omega | (simp at hh; done)
    try rw [hh]
    clear hh
    conv => whnf
    refine ⟨false, [], ?_⟩
    conv => whnf
    exact ⟨rfl, .inl ⟨cap, c2, L, hL, rfl⟩⟩
theorem c_do1_5 (p : Pk) (r : Rk) (d : Int) (B : List UInt8) (n : Int) (cap c2 : Nat) (L : List AV) (hL : OKL p.b cap c2 L) (h0 : d ≠ 0) (h1 : d ≠ 1) (h2 : d ≠ 2) (h3 : d ≠ 3) (h4 : d ≠ 4) : FnOK Try.prog D 19 [.pt 0 [], (AV.st [.sl .lf (by8 (r).s) .ro, .sl .lf (by8 (r).m) .ro, .sl .lf (by8 (r).h) .ro, .sc (.int .i64 (r).room), .sc (.int .i64 (r).armed), .sc (.bool (r).dead)]), .st [(AV.sc (.int .i64 (d))), (AV.sl .lf (by8 (B)) .ro), (AV.sc (.int .i64 (n)))]] [(AV.st [.bs 1 [] .lf 0 (p).b.length cap, .sc (.int .i64 (p).sf), .sc (.int .i64 (p).room), .sc (.bool true), .sc (.int .i64 (p).armed), .sc (.bool (p).dead), .sl .lf (by8 (p).h) .ro]), .ar c2 .lf L] (fun q st => q = .tup [(AV.st [.sl .lf (by8 (r).s) .ro, .sl .lf (by8 (r).m) .ro, .sl .lf (by8 (r).h) .ro, .sc (.int .i64 (r).room), .sc (.int .i64 (r).armed), .sc (.bool (r).dead)]), (AV.sc (.bool (true)))] ∧ P1 p st) := by
  refine fnok_of_W hmix tabOK Try.func19 rfl rfl (Nat.le_of_ble_eq_true rfl) ?_
  conv => whnf
  refine Branch.of (fun hh => ?_) (fun hh => ?_)
  · exfalso; simp only [gt_iff_lt, ge_iff_le, decide_eq_true_eq, decide_eq_false_iff_not, beq_iff_eq, beq_eq_false_iff_ne, bne_iff_ne, bne_eq_false_iff_eq, ne_eq] at hh; first | done | omega | (simp at hh; done)
  try rw [hh]
  clear hh
  conv => whnf
  refine Branch.of (fun hh => ?_) (fun hh => ?_)
  · exfalso; simp only [gt_iff_lt, ge_iff_le, decide_eq_true_eq, decide_eq_false_iff_not, beq_iff_eq, beq_eq_false_iff_ne, bne_iff_ne, bne_eq_false_iff_eq, ne_eq] at hh; first | done | omega | (simp at hh; done)
  try rw [hh]
  clear hh
  conv => whnf
  refine Branch.of (fun hh => ?_) (fun hh => ?_)
  · exfalso; simp only [gt_iff_lt, ge_iff_le, decide_eq_true_eq, decide_eq_false_iff_not, beq_iff_eq, beq_eq_false_iff_ne, bne_iff_ne, bne_eq_false_iff_eq, ne_eq] at hh; first | done | omega | (simp at hh; done)
  try rw [hh]
  clear hh
  conv => whnf
  refine Branch.of (fun hh => ?_) (fun hh => ?_)
  · exfalso; simp only [gt_iff_lt, ge_iff_le, decide_eq_true_eq, decide_eq_false_iff_not, beq_iff_eq, beq_eq_false_iff_ne, bne_iff_ne, bne_eq_false_iff_eq, ne_eq] at hh; first | done | omega | (simp at hh; done)
  try rw [hh]
  clear hh
  conv => whnf
  refine Branch.of (fun hh => ?_) (fun hh => ?_)
  · exfalso; simp only [gt_iff_lt, ge_iff_le, decide_eq_true_eq, decide_eq_false_iff_not, beq_iff_eq, beq_eq_false_iff_ne, bne_iff_ne, bne_eq_false_iff_eq, ne_eq] at hh; first | done | omega | (simp at hh; done)
  try rw [hh]
  clear hh
  conv => whnf
  refine ⟨false, [], ?_⟩
  conv => whnf
  exact ⟨rfl, .inl ⟨cap, c2, L, hL, rfl⟩⟩
theorem c_do1 (p : Pk) (r : Rk) (d : Int) (B : List UInt8) (n : Int) (cap c2 : Nat) (L : List AV) (hL : OKL p.b cap c2 L) (hp : WFk p) (hr : WFr r) (hB : B.length ≤ 200) (h4 : d ≠ 4) : FnOK Try.prog D 19 [.pt 0 [], (AV.st [.sl .lf (by8 (r).s) .ro, .sl .lf (by8 (r).m) .ro, .sl .lf (by8 (r).h) .ro, .sc (.int .i64 (r).room), .sc (.int .i64 (r).armed), .sc (.bool (r).dead)]), .st [(AV.sc (.int .i64 (d))), (AV.sl .lf (by8 (B)) .ro), (AV.sc (.int .i64 (n)))]] [(AV.st [.bs 1 [] .lf 0 (p).b.length cap, .sc (.int .i64 (p).sf), .sc (.int .i64 (p).room), .sc (.bool true), .sc (.int .i64 (p).armed), .sc (.bool (p).dead), .sl .lf (by8 (p).h) .ro]), .ar c2 .lf L] (fun q st => q = .tup [(AV.st [.sl .lf (by8 (doR r d B n).s) .ro, .sl .lf (by8 (doR r d B n).m) .ro, .sl .lf (by8 (doR r d B n).h) .ro, .sc (.int .i64 (doR r d B n).room), .sc (.int .i64 (doR r d B n).armed), .sc (.bool (doR r d B n).dead)]), (AV.sc (.bool (doOk p r d B n)))] ∧ P1 (doP p d B n) st) := by
  by_cases h0 : d = 0
  · subst h0
    exact c_do1_0 p r B n cap c2 L hL hp hr hB
  by_cases h1 : d = 1
  · subst h1
    exact c_do1_1 p r B n cap c2 L hL hp hr
  by_cases h2 : d = 2
  · subst h2
    exact c_do1_2 p r B n cap c2 L hL hp hr
  by_cases h3 : d = 3
  · subst h3
    exact c_do1_3 p r B n cap c2 L hL
  rw [show doR r d B n = r by simp [doR, h0, h1, h2, h3, h4], show doOk p r d B n = true by simp [doOk, h0, h1, h2], show doP p d B n = p by simp [doP, h0, h1, h2, h3, h4]]
  exact c_do1_5 p r d B n cap c2 L hL h0 h1 h2 h3 h4
theorem c_doR (p : Pk) (r : Rk) (B : List UInt8) (n : Int) (hp : WFk p) (hh : ((p.b.length + p.h.length : Nat) : Int) ≤ 1048576) (hr : WFr r) : FnOK Try.prog D 19 [.pt 0 [], (AV.st [.sl .lf (by8 (r).s) .ro, .sl .lf (by8 (r).m) .ro, .sl .lf (by8 (r).h) .ro, .sc (.int .i64 (r).room), .sc (.int .i64 (r).armed), .sc (.bool (r).dead)]), .st [(AV.sc (.int .i64 (4))), (AV.sl .lf (by8 (B)) .ro), (AV.sc (.int .i64 (n)))]] [(AV.st [.sl .lf (by8 (p).b) .ro, .sc (.int .i64 (p).sf), .sc (.int .i64 (p).room), .sc (.bool true), .sc (.int .i64 (p).armed), .sc (.bool (p).dead), .sl .lf (by8 (p).h) .ro])] (fun q st => q = .tup [(AV.st [.sl .lf (by8 (crashRr r n).s) .ro, .sl .lf (by8 (crashRr r n).m) .ro, .sl .lf (by8 (crashRr r n).h) .ro, .sc (.int .i64 (crashRr r n).room), .sc (.int .i64 (crashRr r n).armed), .sc (.bool (crashRr r n).dead)]), (AV.sc (.bool (true)))] ∧ P0 (crashP p n) st) := by
  have ca := c_crashR p n hp hh
  have cr := c_rcrash r n hr
  generalize crashP p n = p2 at ca ⊢
  generalize crashRr r n = r2 at cr ⊢
  refine fnok_of_W hmix tabOK Try.func19 rfl rfl (Nat.le_of_ble_eq_true rfl) ?_
  conv => whnf
  refine ca.mono ?_
  rintro q st ⟨rfl, h⟩
  rcases h with ⟨hb, rfl⟩ | ⟨cap', c2', L', hL', rfl⟩
  all_goals (conv => whnf)
  · refine (cr).mono fun r st e => ?_
    obtain ⟨rfl, rfl⟩ := e
    conv => whnf
    refine ⟨false, [], ?_⟩
    conv => whnf
    exact ⟨rfl, .inl ⟨hb, rfl⟩⟩
  · refine (cr).mono fun r st e => ?_
    obtain ⟨rfl, rfl⟩ := e
    conv => whnf
    refine ⟨false, [4], ?_⟩
    conv => whnf
    exact ⟨rfl, .inr ⟨cap', c2', L', hL', rfl⟩⟩
end Go.WL.T5
