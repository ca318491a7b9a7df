/- What any acts tell, and leave. No condition. -/
import Derived.Test.YtdlgmddegldcjaaPart18
set_option linter.unusedVariables false
set_option linter.unusedSimpArgs false
namespace Go.WL.T5
open Go.WL Go.Proofs
set_option maxRecDepth 20000
set_option maxHeartbeats 8000000
def tabA12 : List (List Nat) := [[], [], [], [], [2, 3], [3, 2, 4], [0, 1, 4, 2, 3, 5], [5, 3, 2, 4, 1, 0, 6], [5, 3, 2, 4, 1, 0, 6], [6, 0, 1, 4, 2, 3, 5, 8], [6, 0, 1, 4, 2, 3, 5, 8], [8, 9, 6, 0, 1, 4, 2, 3, 5, 7], [10, 7, 5, 3, 2, 4, 1, 0, 6, 9, 8, 11]]
def tabB12 : List (List Nat) := [[], [], [], [], [2, 3], [3, 2, 4], [], [0, 1, 4, 2, 3, 5, 6], [6, 5, 3, 2, 4, 1, 0, 7], [7, 0, 1, 4, 2, 3, 5, 6, 8], [7, 0, 1, 4, 2, 3, 5, 6, 8], [8, 5, 3, 2, 4, 1, 0, 7, 9, 6], [10, 6, 9, 7, 0, 1, 4, 2, 3, 5, 8, 11]]
theorem light_of {l : List Ac} (h : lightB l = true) : l.length ≤ 60 ∧ ∀ a ∈ l, a.b.length ≤ 200 := by
  unfold lightB at h
  rw [Bool.and_eq_true] at h
  have h1 := of_decide_eq_true h.1
  refine ⟨h1, fun a ha => ?_⟩
  rw [List.take_of_length_le (by omega), List.all_eq_true] at h
  exact of_decide_eq_true (h.2 a ha)
theorem c_doR0 (p : Pk) (r : Rk) (B : List UInt8) (n : Int) (hb0 : p.b = []) (hp : WFk p) (hh : ((p.b.length + p.h.length : Nat) : Int) ≤ 1048576) (hr : WFr r) : FnOK Try.prog D 19 [.pt 0 [], (AV.st [.sl .lf (by8 (r).s) .ro, .sl .lf (by8 (r).m) .ro, .sl .lf (by8 (r).h) .ro, .sc (.int .i64 (r).room), .sc (.int .i64 (r).armed), .sc (.bool (r).dead)]), .st [(AV.sc (.int .i64 (4))), (AV.sl .lf (by8 (B)) .ro), (AV.sc (.int .i64 (n)))]] [(AV.st [.sl .lf [] .ex, .sc (.int .i64 (p).sf), .sc (.int .i64 (p).room), .sc (.bool true), .sc (.int .i64 (p).armed), .sc (.bool (p).dead), .sl .lf (by8 (p).h) .ro])] (fun q st => q = .tup [(AV.st [.sl .lf (by8 (crashRr r n).s) .ro, .sl .lf (by8 (crashRr r n).m) .ro, .sl .lf (by8 (crashRr r n).h) .ro, .sc (.int .i64 (crashRr r n).room), .sc (.int .i64 (crashRr r n).armed), .sc (.bool (crashRr r n).dead)]), (AV.sc (.bool (true)))] ∧ P0 (crashP p n) st) := by
  refine (c_doR p r B n hp hh hr).weakB ?_
  rw [hb0]
  exact WkVs.cons (WkV.st (.cons WkV.ro (.cons (WkV.refl _) (.cons (WkV.refl _) (.cons (WkV.refl _) (.cons (WkV.refl _) (.cons (WkV.refl _) (.cons (WkV.refl _) .nil)))))))) .nil
theorem toP_h {r : Rk} (h : WFq r) : (((toP r).b.length + (toP r).h.length : Nat) : Int) ≤ 1048576 := by
  obtain ⟨⟨w1, w2, w3, w4, w5⟩, _⟩ := h
  show ((((r.s ++ r.m).length) + r.h.length : Nat) : Int) ≤ 1048576
  rw [List.length_append]
  omega
def ActsI (l : List Ac) (τ : AS) : Prop := ∃ (i : Nat) (r : Rk), i ≤ l.length ∧ WFq r ∧ ((((toP r).b = [] ∧ τ = ⟨69, [(1, (AV.sl (.nd [.lf, .lf, .lf]) (acA (l)) .ro)), (5, .pt 0 []), (7, .pt 1 []), (8, (AV.sc (.int .i64 ((i : Int)))))], ⟨[((AV.st [.sl .lf [] .ex, .sc (.int .i64 ((toP r)).sf), .sc (.int .i64 ((toP r)).room), .sc (.bool true), .sc (.int .i64 ((toP r)).armed), .sc (.bool ((toP r)).dead), .sl .lf (by8 ((toP r)).h) .ro]), false), ((AV.st [.sl .lf (by8 (r).s) .ro, .sl .lf (by8 (r).m) .ro, .sl .lf (by8 (r).h) .ro, .sc (.int .i64 (r).room), .sc (.int .i64 (r).armed), .sc (.bool (r).dead)]), false)], [], 0⟩⟩)) ∨ ∃ cap c2 L, OKL (toP r).b cap c2 L ∧ τ = ⟨69, [(1, (AV.sl (.nd [.lf, .lf, .lf]) (acA (l)) .ro)), (5, .pt 0 []), (7, .pt 1 []), (8, (AV.sc (.int .i64 ((i : Int)))))], ⟨[((AV.st [.bs 2 [] .lf 0 ((toP r)).b.length cap, .sc (.int .i64 ((toP r)).sf), .sc (.int .i64 ((toP r)).room), .sc (.bool true), .sc (.int .i64 ((toP r)).armed), .sc (.bool ((toP r)).dead), .sl .lf (by8 ((toP r)).h) .ro]), false), ((AV.st [.sl .lf (by8 (r).s) .ro, .sl .lf (by8 (r).m) .ro, .sl .lf (by8 (r).h) .ro, .sc (.int .i64 (r).room), .sc (.int .i64 (r).armed), .sc (.bool (r).dead)]), false), (.ar c2 .lf L, false)], [], 0⟩⟩)
theorem c_do0x (p : Pk) (r : Rk) (d : Int) (B : List UInt8) (n : Int) (hb0 : p.b = []) (hp : WFk p) (hh : ((p.b.length + p.h.length : Nat) : Int) ≤ 1048576) (hr : WFr r) (hB : B.length ≤ 200) : FnOK Try.prog D 19 [.pt 0 [], (AV.st [.sl .lf (by8 (r).s) .ro, .sl .lf (by8 (r).m) .ro, .sl .lf (by8 (r).h) .ro, .sc (.int .i64 (r).room), .sc (.int .i64 (r).armed), .sc (.bool (r).dead)]), .st [(AV.sc (.int .i64 (d))), (AV.sl .lf (by8 (B)) .ro), (AV.sc (.int .i64 (n)))]] [(AV.st [.sl .lf [] .ex, .sc (.int .i64 (p).sf), .sc (.int .i64 (p).room), .sc (.bool true), .sc (.int .i64 (p).armed), .sc (.bool (p).dead), .sl .lf (by8 (p).h) .ro])] (fun q st => q = .tup [(AV.st [.sl .lf (by8 (doR r d B n).s) .ro, .sl .lf (by8 (doR r d B n).m) .ro, .sl .lf (by8 (doR r d B n).h) .ro, .sc (.int .i64 (doR r d B n).room), .sc (.int .i64 (doR r d B n).armed), .sc (.bool (doR r d B n).dead)]), (AV.sc (.bool (doOk p r d B n)))] ∧ P0 (doP p d B n) st) := by
  by_cases h4 : d = 4
  · subst h4
    exact c_doR0 p r B n hb0 hp hh hr
  · exact c_do0 p r d B n hb0 hp hr hB h4
theorem c_diskacts (room : Int) (l : List Ac) (hl : l.length ≤ 9223372036854775807) (hn : ∀ a ∈ l, a.n < 9223372036854775808) : FnOK Try.prog D 3 [(AV.sc (.int .i64 (room))), (AV.sl (.nd [.lf, .lf, .lf]) (acA (l)) .ro)] [] (fun r st => r = (AV.sc (.bool (true))) ∧ st = []) := by
  refine fnok_of_Ws [2120910, 2120809, 2120708, 5120607, 4012006, 7500012, 7000011, 8000000] hmix tabOK Try.func3 rfl rfl (Nat.le_of_ble_eq_true rfl) ?_
  conv => whnf
  refine (c_light18 l hl).mono fun r st e => ?_
  obtain ⟨rfl, rfl⟩ := e
  conv => whnf
  cases hL : lightB l with
  | false =>
    conv => whnf
    refine (c_awake18).mono fun r st e => ?_
    obtain ⟨rfl, rfl⟩ := e
    conv => whnf
    refine ⟨false, [], ?_⟩
    conv => whnf
    exact ⟨rfl, rfl⟩
  | true =>
  obtain ⟨hl60, hB⟩ := light_of hL
  conv => whnf
  by_cases hr : room < 0 ∨ 1048576 < room
  · refine (c_new1 room hr).mono fun r st e => ?_
    obtain ⟨rfl, rfl⟩ := e
    conv => whnf
    by_cases h0 : room < 0
    · refine Branch.of (fun hh => ?_) (fun hh => ?_)
      rotate_left
      · exfalso; simp only [gt_iff_lt, ge_iff_le, decide_eq_true_eq, decide_eq_false_iff_not, beq_iff_eq, beq_eq_false_iff_ne, bne_iff_ne, bne_eq_false_iff_eq, ne_eq] at hh; first | done | omega | (simp at hh; done)
      try rw [hh]
      clear hh
      conv => whnf
      refine (c_awake18).mono fun r st e => ?_
      obtain ⟨rfl, rfl⟩ := e
      conv => whnf
      refine ⟨false, [], ?_⟩
      conv => whnf
      exact ⟨rfl, rfl⟩
    · refine Branch.of (fun hh => ?_) (fun hh => ?_)
      · exfalso; simp only [gt_iff_lt, ge_iff_le, decide_eq_true_eq, decide_eq_false_iff_not, beq_iff_eq, beq_eq_false_iff_ne, bne_iff_ne, bne_eq_false_iff_eq, ne_eq] at hh; first | done | omega | (simp at hh; done)
      try rw [hh]
      clear hh
      conv => whnf
      refine Branch.of (fun hh => ?_) (fun hh => ?_)
      rotate_left
      · exfalso; simp only [gt_iff_lt, ge_iff_le, decide_eq_true_eq, decide_eq_false_iff_not, beq_iff_eq, beq_eq_false_iff_ne, bne_iff_ne, bne_eq_false_iff_eq, ne_eq] at hh; first | done | omega | (simp at hh; done)
      try rw [hh]
      clear hh
      conv => whnf
      refine (c_awake18).mono fun r st e => ?_
      obtain ⟨rfl, rfl⟩ := e
      conv => whnf
      refine ⟨false, [], ?_⟩
      conv => whnf
      exact ⟨rfl, rfl⟩
  refine (c_new room (by omega) (by omega)).mono fun r st e => ?_
  obtain ⟨rfl, rfl⟩ := e
  conv => whnf
  refine Branch.of (fun hh => ?_) (fun hh => ?_)
  · exfalso; simp only [gt_iff_lt, ge_iff_le, decide_eq_true_eq, decide_eq_false_iff_not, beq_iff_eq, beq_eq_false_iff_ne, bne_iff_ne, bne_eq_false_iff_eq, ne_eq] at hh; first | done | omega | (simp at hh; done)
  try rw [hh]
  clear hh
  conv => whnf
  refine Branch.of (fun hh => ?_) (fun hh => ?_)
  · exfalso; simp only [gt_iff_lt, ge_iff_le, decide_eq_true_eq, decide_eq_false_iff_not, beq_iff_eq, beq_eq_false_iff_ne, bne_iff_ne, bne_eq_false_iff_eq, ne_eq] at hh; first | done | omega | (simp at hh; done)
  try rw [hh]
  clear hh
  conv => whnf
  refine (c_rnew room).mono fun r st e => ?_
  obtain ⟨rfl, rfl⟩ := e
  conv => whnf
  refine ⟨false, [999999, 1, 5, 7, 8], ActsI l, fun τ => l.length - (slotI τ 8).toNat, ?_, ?_⟩
  · conv => whnf
    refine ⟨0, ?_⟩
    conv => whnf
    refine ⟨0, ⟨[], [], [], room, -1, false⟩, by omega, ⟨⟨by show 0 ≤ room; omega, by show room ≤ 1048576; omega, by show ((0 : Nat) : Int) ≤ room; omega, by show (-1 : Int) ≤ -1; omega, by show (-1 : Int) < _; omega⟩, fun _ => rfl⟩, .inl ⟨rfl, rfl⟩⟩
  rintro τ ⟨i, r, hi, hq, h⟩
  rcases h with ⟨hb, rfl⟩ | ⟨cap0, c20, L0, hL0, rfl⟩
  · apply enter3
    intro kk kK
    conv => whnf
    rw [ac_len]
    refine Branch.of (fun h1 => ?_) (fun h1 => ?_) <;> rw [h1] <;> conv => whnf
    rotate_left
    · refine kK _ _ ?_
      conv => whnf
      refine (c_awake18).mono fun r st e => ?_
      obtain ⟨rfl, rfl⟩ := e
      conv => whnf
      refine ⟨false, [], ?_⟩
      conv => whnf
      exact ⟨rfl, rfl⟩
    have h1 := of_decide_eq_true h1
    have ih : i < l.length := by omega
    have hBi := hB l[i] (List.getElem_mem ih)
    have hni := hn l[i] (List.getElem_mem ih)
    have hat := ac_at ih
    generalize l[i] = a at hBi hni hat
    have hqn := wfq_do (d := a.d) (B := a.b) hq hni
    obtain ⟨d, B, n⟩ := a
    simp only at hBi hni hat hqn
    have cd := c_do0x (toP r) r d B n hb (wfk_of hq) (toP_h hq) hq.1 hBi
    rw [do_to, ok_to] at cd
    generalize doR r d B n = r2 at cd hqn
    obtain ⟨st0, hst0⟩ := P0_ex (toP r2)
    refine ⟨[], ?_⟩
    conv => whnf
    refine ⟨by decide +kernel, by decide +kernel, ⟨tabA12, by decide +kernel, ?_⟩, ⟨tabB12, by decide +kernel, ?_⟩⟩
    all_goals (conv => whnf)
    all_goals (refine ⟨by omega, _, hat, ?_⟩; conv => whnf)
    all_goals refine ⟨_, cd, ⟨_, st0, rfl, hst0⟩, ?_⟩
    all_goals (rintro q st ⟨rfl, h⟩)
    all_goals (rcases h with ⟨hb2, rfl⟩ | ⟨cap, c2, L, hL, rfl⟩)
    all_goals (conv => whnf)
    · refine (c_like0 (toP r2) r2 hb2 (wfk_of hqn) hqn.1 rfl rfl rfl).mono ?_
      rintro q st ⟨rfl, rfl⟩
      conv => whnf
      refine ⟨[0, 1, 2], ?_⟩
      conv => whnf
      rw [w64 (x := (i : Int) + 1) (by omega) (by omega)]
      refine kK _ _ ?_
      conv => whnf
      refine ⟨0, ?_⟩
      conv => whnf
      refine ⟨⟨i + 1, r2, by omega, hqn, .inl ⟨hb2, rfl⟩⟩, ?_⟩
      show l.length - ((i : Int) + 1).toNat < l.length - (i : Int).toNat
      omega
    · refine (c_like1 (toP r2) r2 cap c2 L hL (wfk_of hqn) hqn.1 rfl rfl rfl).mono ?_
      rintro q st ⟨rfl, rfl⟩
      conv => whnf
      refine ⟨[0, 1, 2, 3], ?_⟩
      conv => whnf
      rw [w64 (x := (i : Int) + 1) (by omega) (by omega)]
      refine kK _ _ ?_
      conv => whnf
      refine ⟨1, ?_⟩
      conv => whnf
      refine ⟨⟨i + 1, r2, by omega, hqn, .inr ⟨cap, c2, L, hL, rfl⟩⟩, ?_⟩
      show l.length - ((i : Int) + 1).toNat < l.length - (i : Int).toNat
      omega
    · refine (c_like0 (toP r2) r2 hb2 (wfk_of hqn) hqn.1 rfl rfl rfl).mono ?_
      rintro q st ⟨rfl, rfl⟩
      conv => whnf
      refine ⟨[0, 1, 2], ?_⟩
      conv => whnf
      rw [w64 (x := (i : Int) + 1) (by omega) (by omega)]
      refine kK _ _ ?_
      conv => whnf
      refine ⟨0, ?_⟩
      conv => whnf
      refine ⟨⟨i + 1, r2, by omega, hqn, .inl ⟨hb2, rfl⟩⟩, ?_⟩
      show l.length - ((i : Int) + 1).toNat < l.length - (i : Int).toNat
      omega
    · refine (c_like1 (toP r2) r2 cap c2 L hL (wfk_of hqn) hqn.1 rfl rfl rfl).mono ?_
      rintro q st ⟨rfl, rfl⟩
      conv => whnf
      refine ⟨[0, 1, 3, 2], ?_⟩
      conv => whnf
      rw [w64 (x := (i : Int) + 1) (by omega) (by omega)]
      refine kK _ _ ?_
      conv => whnf
      refine ⟨1, ?_⟩
      conv => whnf
      refine ⟨⟨i + 1, r2, by omega, hqn, .inr ⟨cap, c2, L, hL, rfl⟩⟩, ?_⟩
      show l.length - ((i : Int) + 1).toNat < l.length - (i : Int).toNat
      omega
  · apply enter3
    intro kk kK
    conv => whnf
    rw [ac_len]
    refine Branch.of (fun h1 => ?_) (fun h1 => ?_) <;> rw [h1] <;> conv => whnf
    rotate_left
    · refine kK _ _ ?_
      conv => whnf
      refine (c_awake18).mono fun r st e => ?_
      obtain ⟨rfl, rfl⟩ := e
      conv => whnf
      refine ⟨false, [], ?_⟩
      conv => whnf
      exact ⟨rfl, rfl⟩
    have h1 := of_decide_eq_true h1
    have ih : i < l.length := by omega
    have hBi := hB l[i] (List.getElem_mem ih)
    have hni := hn l[i] (List.getElem_mem ih)
    have hat := ac_at ih
    generalize l[i] = a at hBi hni hat
    have hqn := wfq_do (d := a.d) (B := a.b) hq hni
    obtain ⟨d, B, n⟩ := a
    simp only at hBi hni hat hqn
    by_cases h4 : d = 4
    · subst h4
      have cd := c_doR (toP r) r B n (wfk_of hq) (toP_h hq) hq.1
      rw [crash_to] at cd
      rw [show doR r 4 B n = crashRr r n by simp [doR]] at hqn
      generalize crashRr r n = r2 at cd hqn
      obtain ⟨st0, hst0⟩ := P0_ex (toP r2)
      refine ⟨[(0, [0])], ?_⟩
      conv => whnf
      rw [List.drop_zero, hL0.2.2.2]
      refine ⟨by decide +kernel, by decide +kernel, ⟨tabA12, by decide +kernel, ?_⟩, ⟨tabB12, by decide +kernel, ?_⟩⟩
      all_goals (conv => whnf)
      all_goals (refine ⟨by omega, _, hat, ?_⟩; conv => whnf)
      all_goals refine ⟨_, cd, ⟨_, st0, rfl, hst0⟩, ?_⟩
      all_goals (rintro q st ⟨rfl, h⟩)
      all_goals (rcases h with ⟨hb2, rfl⟩ | ⟨cap, c2, L, hL, rfl⟩)
      all_goals (conv => whnf)
      · refine (c_like0 (toP r2) r2 hb2 (wfk_of hqn) hqn.1 rfl rfl rfl).mono ?_
        rintro q st ⟨rfl, rfl⟩
        conv => whnf
        refine ⟨[0, 1, 2, 3], ?_⟩
        conv => whnf
        rw [w64 (x := (i : Int) + 1) (by omega) (by omega)]
        refine kK _ _ ?_
        conv => whnf
        refine ⟨0, ?_⟩
        conv => whnf
        refine ⟨⟨i + 1, r2, by omega, hqn, .inl ⟨hb2, rfl⟩⟩, ?_⟩
        show l.length - ((i : Int) + 1).toNat < l.length - (i : Int).toNat
        omega
      · refine (c_like1 (toP r2) r2 cap c2 L hL (wfk_of hqn) hqn.1 rfl rfl rfl).mono ?_
        rintro q st ⟨rfl, rfl⟩
        conv => whnf
        refine ⟨[0, 1, 3, 2, 4], ?_⟩
        conv => whnf
        rw [w64 (x := (i : Int) + 1) (by omega) (by omega)]
        refine kK _ _ ?_
        conv => whnf
        refine ⟨1, ?_⟩
        conv => whnf
        refine ⟨⟨i + 1, r2, by omega, hqn, .inr ⟨cap, c2, L, hL, rfl⟩⟩, ?_⟩
        show l.length - ((i : Int) + 1).toNat < l.length - (i : Int).toNat
        omega
      · refine (c_like0 (toP r2) r2 hb2 (wfk_of hqn) hqn.1 rfl rfl rfl).mono ?_
        rintro q st ⟨rfl, rfl⟩
        conv => whnf
        refine ⟨[0, 1, 2, 3], ?_⟩
        conv => whnf
        rw [w64 (x := (i : Int) + 1) (by omega) (by omega)]
        refine kK _ _ ?_
        conv => whnf
        refine ⟨0, ?_⟩
        conv => whnf
        refine ⟨⟨i + 1, r2, by omega, hqn, .inl ⟨hb2, rfl⟩⟩, ?_⟩
        show l.length - ((i : Int) + 1).toNat < l.length - (i : Int).toNat
        omega
      · refine (c_like1 (toP r2) r2 cap c2 L hL (wfk_of hqn) hqn.1 rfl rfl rfl).mono ?_
        rintro q st ⟨rfl, rfl⟩
        conv => whnf
        refine ⟨[0, 1, 4, 2, 3], ?_⟩
        conv => whnf
        rw [w64 (x := (i : Int) + 1) (by omega) (by omega)]
        refine kK _ _ ?_
        conv => whnf
        refine ⟨1, ?_⟩
        conv => whnf
        refine ⟨⟨i + 1, r2, by omega, hqn, .inr ⟨cap, c2, L, hL, rfl⟩⟩, ?_⟩
        show l.length - ((i : Int) + 1).toNat < l.length - (i : Int).toNat
        omega
    · have cd := c_do1 (toP r) r d B n cap0 c20 L0 hL0 (wfk_of hq) hq.1 hBi h4
      rw [do_to, ok_to] at cd
      generalize doR r d B n = r2 at cd hqn
      obtain ⟨st0, hst0⟩ := P1_ex (toP r2)
      refine ⟨[], ?_⟩
      conv => whnf
      refine ⟨by decide +kernel, by decide +kernel, ⟨tabA12, by decide +kernel, ?_⟩, ⟨tabB12, by decide +kernel, ?_⟩⟩
      all_goals (conv => whnf)
      all_goals (refine ⟨by omega, _, hat, ?_⟩; conv => whnf)
      all_goals refine ⟨_, cd, ⟨_, st0, rfl, hst0⟩, ?_⟩
      all_goals (rintro q st ⟨rfl, h⟩)
      all_goals (rcases h with ⟨cap, c2, L, hL, rfl⟩ | ⟨cap, c2, L, cj, Lj, hL, rfl⟩ | ⟨hb2, cj, Lj, rfl⟩)
      all_goals (conv => whnf)
      · refine (c_like1 (toP r2) r2 cap c2 L hL (wfk_of hqn) hqn.1 rfl rfl rfl).mono ?_
        rintro q st ⟨rfl, rfl⟩
        conv => whnf
        refine ⟨[0, 1, 2, 3], ?_⟩
        conv => whnf
        rw [w64 (x := (i : Int) + 1) (by omega) (by omega)]
        refine kK _ _ ?_
        conv => whnf
        refine ⟨1, ?_⟩
        conv => whnf
        refine ⟨⟨i + 1, r2, by omega, hqn, .inr ⟨cap, c2, L, hL, rfl⟩⟩, ?_⟩
        show l.length - ((i : Int) + 1).toNat < l.length - (i : Int).toNat
        omega
      · refine (c_like1 (toP r2) r2 cap c2 L hL (wfk_of hqn) hqn.1 rfl rfl rfl).mono ?_
        rintro q st ⟨rfl, rfl⟩
        conv => whnf
        refine ⟨[0, 1, 3, 2, 4], ?_⟩
        conv => whnf
        rw [w64 (x := (i : Int) + 1) (by omega) (by omega)]
        refine kK _ _ ?_
        conv => whnf
        refine ⟨1, ?_⟩
        conv => whnf
        refine ⟨⟨i + 1, r2, by omega, hqn, .inr ⟨cap, c2, L, hL, rfl⟩⟩, ?_⟩
        show l.length - ((i : Int) + 1).toNat < l.length - (i : Int).toNat
        omega
      · refine (c_like0 (toP r2) r2 hb2 (wfk_of hqn) hqn.1 rfl rfl rfl).mono ?_
        rintro q st ⟨rfl, rfl⟩
        conv => whnf
        refine ⟨[0, 1, 2, 3], ?_⟩
        conv => whnf
        rw [w64 (x := (i : Int) + 1) (by omega) (by omega)]
        refine kK _ _ ?_
        conv => whnf
        refine ⟨0, ?_⟩
        conv => whnf
        refine ⟨⟨i + 1, r2, by omega, hqn, .inl ⟨hb2, rfl⟩⟩, ?_⟩
        show l.length - ((i : Int) + 1).toNat < l.length - (i : Int).toNat
        omega
      · refine (c_like1 (toP r2) r2 cap c2 L hL (wfk_of hqn) hqn.1 rfl rfl rfl).mono ?_
        rintro q st ⟨rfl, rfl⟩
        conv => whnf
        refine ⟨[0, 1, 2, 3], ?_⟩
        conv => whnf
        rw [w64 (x := (i : Int) + 1) (by omega) (by omega)]
        refine kK _ _ ?_
        conv => whnf
        refine ⟨1, ?_⟩
        conv => whnf
        refine ⟨⟨i + 1, r2, by omega, hqn, .inr ⟨cap, c2, L, hL, rfl⟩⟩, ?_⟩
        show l.length - ((i : Int) + 1).toNat < l.length - (i : Int).toNat
        omega
      · refine (c_like1 (toP r2) r2 cap c2 L hL (wfk_of hqn) hqn.1 rfl rfl rfl).mono ?_
        rintro q st ⟨rfl, rfl⟩
        conv => whnf
        refine ⟨[0, 1, 4, 2, 3], ?_⟩
        conv => whnf
        rw [w64 (x := (i : Int) + 1) (by omega) (by omega)]
        refine kK _ _ ?_
        conv => whnf
        refine ⟨1, ?_⟩
        conv => whnf
        refine ⟨⟨i + 1, r2, by omega, hqn, .inr ⟨cap, c2, L, hL, rfl⟩⟩, ?_⟩
        show l.length - ((i : Int) + 1).toNat < l.length - (i : Int).toNat
        omega
      · refine (c_like0 (toP r2) r2 hb2 (wfk_of hqn) hqn.1 rfl rfl rfl).mono ?_
        rintro q st ⟨rfl, rfl⟩
        conv => whnf
        refine ⟨[0, 1, 2, 3], ?_⟩
        conv => whnf
        rw [w64 (x := (i : Int) + 1) (by omega) (by omega)]
        refine kK _ _ ?_
        conv => whnf
        refine ⟨0, ?_⟩
        conv => whnf
        refine ⟨⟨i + 1, r2, by omega, hqn, .inl ⟨hb2, rfl⟩⟩, ?_⟩
        show l.length - ((i : Int) + 1).toNat < l.length - (i : Int).toNat
        omega
end Go.WL.T5
