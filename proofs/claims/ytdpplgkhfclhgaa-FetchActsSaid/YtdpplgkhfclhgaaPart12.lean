/- Blocks that are asked for: what any acts tell, the walk. No condition. -/
import Derived.Test.YtdpplgkhfclhgaaPart11
set_option linter.unusedVariables false
set_option linter.unusedSimpArgs false
namespace Go.WL.T8
open Go.WL Go.Proofs
set_option maxRecDepth 20000
set_option maxHeartbeats 8000000
def tab34 : List (List Nat) := [[], [], [], [], [2, 3], [3, 2, 4], [4, 2, 3, 5], [], [0, 1, 5, 3, 2, 4, 6], [6, 4, 2, 3, 5, 1, 0, 8, 7]]
def ft (me n : Int) (l : List Fc) (i : Nat) (W : List Rw) (bx : List (AV × Bool)) : AS := ⟨212, [(0, (AV.sc (.int .i64 (me)))), (1, (AV.sc (.int .i64 (n)))), (2, (AV.sl (.nd [.lf, .lf, .lf]) (faA (l)) .ro)), (7, .pt 0 []), (9, (AV.sl (.nd [.ar 32 .lf, .lf, .lf, .lf]) (rwA (W)) (.own 0))), (10, (AV.sc (.int .i64 ((i : Int)))))], ⟨bx, [0], 1⟩⟩
def HeadF (me n : Int) (l : List Fc) (i : Nat) (W : List Rw) (τ : AS) : Prop :=
  (W = [] ∧ τ = ft me n l i W [((.st [(AV.sc (.int .i64 (me))), (AV.sc (.int .i64 (n))), .sl (.nd [.ar 32 .lf, .lf, .lf]) [] .ex]), false)]) ∨ ∃ cap L, OKW (W.map (toF me n)) cap L ∧ τ = ft me n l i W [((.st [(AV.sc (.int .i64 (me))), (AV.sc (.int .i64 (n))), .bs 1 [] (.nd [.ar 32 .lf, .lf, .lf]) 0 (W.map (toF me n)).length cap]), false), (.ar cap (.nd [.ar 32 .lf, .lf, .lf]) L, false)]
theorem rw_erase (W : List Rw) (j : Nat) (z : AV) (hj : j < W.length) : List.replicate 0 z ++ List.take (((j : Nat) : Int).toNat - 0) (List.drop 0 (rwA W)) ++ List.take ((rwA W).length - (((j : Nat) : Int) + 1).toNat) (List.drop (((j : Nat) : Int) + 1).toNat (rwA W)) = rwA (W.eraseIdx j) := by
  rw [show (((j : Nat) : Int) + 1).toNat = j + 1 by omega, Int.toNat_natCast, Nat.sub_zero, List.drop_zero, List.replicate_zero, List.nil_append, List.take_of_length_le (l := List.drop (j + 1) (rwA W)) (by rw [List.length_drop]; exact Nat.le_refl _), List.eraseIdx_eq_take_drop_succ]
  unfold rwA
  rw [List.map_append, List.map_take, List.map_drop]
structure FF (me n : Int) (W : List Rw) (i : Nat) : Prop where
  len : W.length ≤ 32
  ok : ∀ w ∈ W, OKR me n i w
def ActI (me n : Int) (l : List Fc) (τ : AS) : Prop := ∃ (i : Nat) (W : List Rw), i ≤ l.length ∧ FF me n W i ∧ HeadF me n l i W τ
def ActJ (me n : Int) (l : List Fc) (i : Nat) (τ : AS) : Prop := ∃ (W : List Rw), FF me n W (i + 1) ∧ HeadF me n l i W τ
theorem okr_up {me n i : Int} {w : Rw} (h : OKR me n i w) : OKR me n (i + 1) w := ⟨h.1, h.2.1, h.2.2.1, h.2.2.2.1, h.2.2.2.2.1, h.2.2.2.2.2.1, by have := h.2.2.2.2.2.2; omega⟩
theorem FF.up {me n : Int} {W : List Rw} {i : Nat} (h : FF me n W i) : FF me n W (i + 1) := ⟨h.len, fun w hw => by have := okr_up (h.ok w hw); exact_mod_cast this⟩
theorem c_fetchacts (me n : Int) (l : List Fc) (hl9 : l.length ≤ 9223372036854775807) : FnOK Try.prog D 4 [(AV.sc (.int .i64 (me))), (AV.sc (.int .i64 (n))), (AV.sl (.nd [.lf, .lf, .lf]) (faA (l)) .ro)] [] (fun r st => r = (AV.sc (.bool (true))) ∧ st = []) := by
  refine fnok_of_Ws [7800041, 7800034, 1709009, 7900034, 8000000] hmix tabOK Try.func4 rfl rfl (Nat.le_of_ble_eq_true rfl) ?_
  conv => whnf
  rw [fa_len]
  by_cases hl : 100 < l.length
  · refine Branch.of (fun hh => ?_) (fun hh => ?_)
    rotate_left
    · exfalso; simp only [gt_iff_lt, ge_iff_le, decide_eq_true_eq, decide_eq_false_iff_not, beq_iff_eq, beq_eq_false_iff_ne, bne_iff_ne, bne_eq_false_iff_eq, ne_eq] at hh; first | done | omega | (simp at hh; done)
    try rw [hh]
    clear hh
    conv => whnf
    refine (c_awake33).mono fun r st e => ?_
    obtain ⟨rfl, rfl⟩ := e
    conv => whnf
    refine ⟨false, [], ?_⟩
    conv => whnf
    exact ⟨rfl, rfl⟩
  refine Branch.of (fun hh => ?_) (fun hh => ?_)
  · exfalso; simp only [gt_iff_lt, ge_iff_le, decide_eq_true_eq, decide_eq_false_iff_not, beq_iff_eq, beq_eq_false_iff_ne, bne_iff_ne, bne_eq_false_iff_eq, ne_eq] at hh; first | done | omega | (simp at hh; done)
  try rw [hh]
  clear hh
  conv => whnf
  by_cases hbad : quo n < 2 ∨ me < 1 ∨ n < me
  · refine (c_fnewX me n hbad).mono fun r st e => ?_
    obtain ⟨rfl, rfl⟩ := e
    conv => whnf
    refine (c_quorumR n).mono fun r st e => ?_
    obtain ⟨rfl, rfl⟩ := e
    conv => whnf
    by_cases a : quo n < 2
    · refine Branch.of (fun hh => ?_) (fun hh => ?_)
      rotate_left
      · exfalso; simp only [gt_iff_lt, ge_iff_le, decide_eq_true_eq, decide_eq_false_iff_not, beq_iff_eq, beq_eq_false_iff_ne, bne_iff_ne, bne_eq_false_iff_eq, ne_eq] at hh; first | done | omega | (simp at hh; done)
      try rw [hh]
      clear hh
      conv => whnf
      refine (c_awake33).mono fun r st e => ?_
      obtain ⟨rfl, rfl⟩ := e
      conv => whnf
      refine ⟨false, [], ?_⟩
      conv => whnf
      exact ⟨rfl, rfl⟩
    refine Branch.of (fun hh => ?_) (fun hh => ?_)
    · exfalso; simp only [gt_iff_lt, ge_iff_le, decide_eq_true_eq, decide_eq_false_iff_not, beq_iff_eq, beq_eq_false_iff_ne, bne_iff_ne, bne_eq_false_iff_eq, ne_eq] at hh; first | done | omega | (simp at hh; done)
    try rw [hh]
    clear hh
    conv => whnf
    by_cases b : me < 1
    · refine Branch.of (fun hh => ?_) (fun hh => ?_)
      rotate_left
      · exfalso; simp only [gt_iff_lt, ge_iff_le, decide_eq_true_eq, decide_eq_false_iff_not, beq_iff_eq, beq_eq_false_iff_ne, bne_iff_ne, bne_eq_false_iff_eq, ne_eq] at hh; first | done | omega | (simp at hh; done)
      try rw [hh]
      clear hh
      conv => whnf
      refine (c_awake33).mono fun r st e => ?_
      obtain ⟨rfl, rfl⟩ := e
      conv => whnf
      refine ⟨false, [], ?_⟩
      conv => whnf
      exact ⟨rfl, rfl⟩
    refine Branch.of (fun hh => ?_) (fun hh => ?_)
    · exfalso; simp only [gt_iff_lt, ge_iff_le, decide_eq_true_eq, decide_eq_false_iff_not, beq_iff_eq, beq_eq_false_iff_ne, bne_iff_ne, bne_eq_false_iff_eq, ne_eq] at hh; first | done | omega | (simp at hh; done)
    try rw [hh]
    clear hh
    conv => whnf
    refine Branch.of (fun hh => ?_) (fun hh => ?_)
    rotate_left
    · exfalso; simp only [gt_iff_lt, ge_iff_le, decide_eq_true_eq, decide_eq_false_iff_not, beq_iff_eq, beq_eq_false_iff_ne, bne_iff_ne, bne_eq_false_iff_eq, ne_eq] at hh; first | done | omega | (simp at hh; done)
    try rw [hh]
    clear hh
    conv => whnf
    refine (c_awake33).mono fun r st e => ?_
    obtain ⟨rfl, rfl⟩ := e
    conv => whnf
    refine ⟨false, [], ?_⟩
    conv => whnf
    exact ⟨rfl, rfl⟩
  have hq : 2 ≤ quo n := by omega
  have hme1 : 1 ≤ me := by omega
  have hme2 : me ≤ n := by omega
  have hR : ∀ o, 1 ≤ o → o ≤ n → o ≠ me → RingF me n o := fun o a b c => ring_f hq hme1 hme2 a b c
  have hn21 : 3 ≤ n ∧ n ≤ 21 := by
    obtain ⟨k, hk, rfl⟩ := quo_n hq
    have : ∀ k ∈ [3, 5, 7, 9, 11, 13, 15, 17, 19, 21], 3 ≤ k ∧ k ≤ 21 := by decide
    have := this k hk
    omega
  refine (c_fnew me n hq hme1 hme2).mono fun r st e => ?_
  obtain ⟨rfl, rfl⟩ := e
  conv => whnf
  refine (c_quorumR n).mono fun r st e => ?_
  obtain ⟨rfl, rfl⟩ := e
  conv => whnf
  refine Branch.of (fun hh => ?_) (fun hh => ?_)
  · exfalso; simp only [gt_iff_lt, ge_iff_le, decide_eq_true_eq, decide_eq_false_iff_not, beq_iff_eq, beq_eq_false_iff_ne, bne_iff_ne, bne_eq_false_iff_eq, ne_eq] at hh; first | done | omega | (simp at hh; done)
  try rw [hh]
  clear hh
  conv => whnf
  refine Branch.of (fun hh => ?_) (fun hh => ?_)
  · exfalso; simp only [gt_iff_lt, ge_iff_le, decide_eq_true_eq, decide_eq_false_iff_not, beq_iff_eq, beq_eq_false_iff_ne, bne_iff_ne, bne_eq_false_iff_eq, ne_eq] at hh; first | done | omega | (simp at hh; done)
  try rw [hh]
  clear hh
  conv => whnf
  refine Branch.of (fun hh => ?_) (fun hh => ?_)
  · exfalso; simp only [gt_iff_lt, ge_iff_le, decide_eq_true_eq, decide_eq_false_iff_not, beq_iff_eq, beq_eq_false_iff_ne, bne_iff_ne, bne_eq_false_iff_eq, ne_eq] at hh; first | done | omega | (simp at hh; done)
  try rw [hh]
  clear hh
  conv => whnf
  refine ⟨false, [999999, 0, 1, 2, 7, 9, 10], ActI me n l, fun τ => l.length - (slotI τ 10).toNat, ?_, ?_⟩
  · conv => whnf
    refine ⟨0, ?_⟩
    conv => whnf
    exact ⟨0, [], by omega, ⟨by simp, fun w hw => by simp at hw⟩, .inl ⟨rfl, rfl⟩⟩
  rintro τ ⟨i, W, hi, hF, hH⟩
  rcases hH with ⟨rfl, rfl⟩ | ⟨cap, L, hL, rfl⟩
  · apply enter3
    intro kk kK
    conv => whnf
    rw [fa_len]
    refine Branch.of (fun h1 => ?_) (fun h1 => ?_) <;> rw [h1] <;> conv => whnf
    rotate_left
    · refine kK _ _ ?_
      conv => whnf
      refine (c_awake33).mono fun r st e => ?_
      obtain ⟨rfl, rfl⟩ := e
      conv => whnf
      refine ⟨false, [], ?_⟩
      conv => whnf
      exact ⟨rfl, rfl⟩
    have h1 := of_decide_eq_true h1
    have ih : i < l.length := by omega
    have hat := fa_at ih
    generalize l[i] = a at hat
    refine ⟨by omega, _, hat, ?_⟩
    conv => whnf
    have cfd := c_rfind ([] : List Rw) (hh a.b) (by have := hF.len; omega)
    rw [fnd_to me n] at cfd
    refine (cfd).mono fun r st e => ?_
    obtain ⟨rfl, rfl⟩ := e
    conv => whnf
    refine ⟨[0, 1, 2, 7, 9, 10], ActJ me n l i, ?_, ?_⟩
    rotate_left
    · refine ⟨by omega, _, hat, ?_⟩
      conv => whnf
      by_cases d0 : a.d = 0
      · refine Branch.yes (decide_eq_true d0) ?_
        conv => whnf
        obtain ⟨E, hE⟩ : ∃ E, E = wanE me n (([] : List Rw).map (toF me n)) (hh a.b) a.of_ := ⟨_, rfl⟩
        obtain ⟨W2, hW2⟩ : ∃ W2 : List Rw, W2 = if E = 0 then ([] : List Rw) ++ [⟨hh a.b, a.of_, 0, 0⟩] else ([] : List Rw) := ⟨_, rfl⟩
        have hE0 := hE
        unfold wanE at hE
        rw [List.length_map] at hE
        refine ⟨[0, 1, 2, 7, 9, 10, 11, 13], fun τ => τ = ⟨212, [(0, (AV.sc (.int .i64 (me)))), (1, (AV.sc (.int .i64 (n)))), (2, (AV.sl (.nd [.lf, .lf, .lf]) (faA (l)) .ro)), (7, .pt 0 []), (9, (AV.sl (.nd [.ar 32 .lf, .lf, .lf, .lf]) (rwA (W2)) (.own 0))), (10, (AV.sc (.int .i64 ((i : Int))))), (11, .pt 1 []), (13, (AV.sc (.int .i64 (E))))], ⟨[((.st [(AV.sc (.int .i64 (me))), (AV.sc (.int .i64 (n))), .sl (.nd [.ar 32 .lf, .lf, .lf]) [] .ex]), false), (.ar 32 .lf (by8 (hh a.b)), false)], [0], 1⟩⟩, ?_, ?_⟩
        rotate_left
        · clear hE0
          refine ⟨by omega, _, hat, ?_⟩
          conv => whnf
          by_cases g1 : a.of_ < 1
          · rw [if_pos (.inl g1)] at hE
            subst hE
            rw [if_neg (by decide)] at hW2
            subst hW2
            rw [decide_eq_true g1]
            conv => whnf
            refine ⟨false, [0, 1], 2, ?_⟩
            conv => whnf
            exact rfl
          rw [decide_eq_false g1]
          conv => whnf
          refine ⟨by omega, _, hat, ?_⟩
          conv => whnf
          by_cases g2 : a.of_ > n
          · rw [if_pos (.inr (.inl g2))] at hE
            subst hE
            rw [if_neg (by decide)] at hW2
            subst hW2
            rw [decide_eq_true g2]
            conv => whnf
            refine ⟨false, [0, 1], 2, ?_⟩
            conv => whnf
            exact rfl
          rw [decide_eq_false g2]
          conv => whnf
          refine ⟨by omega, _, hat, ?_⟩
          conv => whnf
          by_cases g3 : a.of_ = me
          · rw [if_pos (.inr (.inr g3))] at hE
            subst hE
            rw [if_neg (by decide)] at hW2
            subst hW2
            rw [show (a.of_ == me) = true from decide_eq_true g3]
            conv => whnf
            refine ⟨false, [0, 1], 2, ?_⟩
            conv => whnf
            exact rfl
          rw [show (a.of_ == me) = false from decide_eq_false g3]
          conv => whnf
          rw [if_neg (show ¬ (a.of_ < 1 ∨ n < a.of_ ∨ a.of_ = me) by omega)] at hE
          rw [if_neg (show ¬ (0 : Int) ≤ fnd (([] : List Rw).map (toF me n)) (hh a.b) by show ¬ (0 : Int) ≤ -1; decide), if_neg (show ¬ ([] : List Rw).length = 32 by decide)] at hE
          subst hE
          rw [if_pos rfl] at hW2
          subst hW2
          refine ⟨tabF4R33, by decide +kernel, ?_⟩
          conv => whnf
          refine ⟨by omega, _, hat, ?_⟩
          conv => whnf
          refine ⟨by rw [rw_len]; simp only [List.length_cons, List.length_nil]; have := hF.len; omega, ?_⟩
          conv => whnf
          refine ⟨false, [0, 1], 2, ?_⟩
          conv => whnf
          rw [show rwA (([] : List Rw) ++ [⟨hh a.b, a.of_, 0, 0⟩]) = rwA ([] : List Rw) ++ [(AV.st [.ar 32 .lf (by8 ((⟨hh a.b, a.of_, 0, 0⟩ : Rw)).h), .sc (.int .i64 ((⟨hh a.b, a.of_, 0, 0⟩ : Rw)).of_), .sc (.int .i64 ((⟨hh a.b, a.of_, 0, 0⟩ : Rw)).left_), .sc (.int .i64 ((⟨hh a.b, a.of_, 0, 0⟩ : Rw)).asked)])] by unfold rwA; rw [List.map_append]; rfl]
          exact rfl
        rintro τ rfl
        have hWL : wanL me n (([] : List Rw).map (toF me n)) (hh a.b) a.of_ = W2.map (toF me n) ∧ FF me n W2 (i + 1) := by
          by_cases e0 : E = 0
          · subst e0
            rw [if_pos rfl] at hW2
            subst hW2
            obtain ⟨k1, k2, k3⟩ := wan_new (i := ((i + 1 : Nat) : Int)) hR (by omega) hE0.symm
            refine ⟨k1, ⟨by rw [List.length_append]; simp only [List.length_cons, List.length_nil]; have := hF.len; omega, fun w hw => ?_⟩⟩
            rcases List.mem_append.1 hw with hw | hw
            · exact hF.up.ok w hw
            · rw [List.mem_singleton.1 hw]
              exact k2
          · rw [if_neg e0] at hW2
            subst hW2
            exact ⟨wan_old (by rw [← hE0]; exact e0), hF.up⟩
        obtain ⟨hWL, hF2⟩ := hWL
        have cw := c_want0 me n (hh a.b) a.of_ (by omega) E hE0.symm _ hWL
        obtain ⟨st0, hst0⟩ := F0_ex me n (W2.map (toF me n))
        conv => whnf
        refine ⟨.swap 7 8, ?_⟩
        conv => whnf
        refine ⟨by decide +kernel, ?_⟩
        conv => whnf
        refine ⟨.x 8, ?_⟩
        conv => whnf
        refine ⟨tab34, by decide +kernel, ?_⟩
        conv => whnf
        refine ⟨by omega, _, hat, ?_⟩
        conv => whnf
        refine ⟨_, cw, ⟨_, st0, rfl, hst0⟩, ?_⟩
        rintro q st ⟨rfl, hP⟩
        rcases hP with ⟨h0, rfl⟩ | ⟨cap, L, hL, rfl⟩
        · conv => whnf
          refine Branch.no (by simp) ?_
          conv => whnf
          refine ⟨false, [0, 1], 1, ?_⟩
          conv => whnf
          exact ⟨W2, hF2, .inl ⟨List.map_eq_nil_iff.1 h0, rfl⟩⟩
        · conv => whnf
          refine Branch.no (by simp) ?_
          conv => whnf
          refine ⟨false, [0, 2, 1], 2, ?_⟩
          conv => whnf
          exact ⟨W2, hF2, .inr ⟨cap, L, hL, rfl⟩⟩
      refine Branch.no (decide_eq_false d0) ?_
      conv => whnf
      by_cases d1 : a.d = 1
      · refine Branch.yes (decide_eq_true d1) ?_
        conv => whnf
        refine (c_got0 me n (hh a.b)).mono fun r st e => ?_
        obtain ⟨rfl, rfl⟩ := e
        conv => whnf
        refine ⟨false, [0, 1], 1, ?_⟩
        conv => whnf
        exact ⟨[], hF.up, .inl ⟨rfl, rfl⟩⟩
      refine Branch.no (decide_eq_false d1) ?_
      conv => whnf
      refine (c_rtick me n ([] : List Rw) (by have := hF.len; omega) (by omega) (by omega) (fun w hw => by
        obtain ⟨k1, k2, k3, k4, k5, k6, k7⟩ := hF.ok w hw
        have := (hR w.of_ k1 k2 k3).len
        exact ⟨k1, by omega, k6, by omega, k4, by omega, by omega⟩)).mono ?_
      rintro q st ⟨rfl, rfl⟩
      have hF2 : FF me n (([] : List Rw).map rtick1) (i + 1) := by
        refine ⟨by rw [List.length_map]; exact hF.len, fun w hw => ?_⟩
        obtain ⟨v, hv, rfl⟩ := List.mem_map.1 hw
        have := (tick_to hR (hF.ok v hv)).2
        exact_mod_cast this
      have hM : ∀ x ∈ rtickM me n ([] : List Rw), x.f = me ∧ 1 ≤ x.t ∧ x.t ≤ n ∧ x.t ≠ me := by
        intro x hx
        unfold rtickM at hx
        obtain ⟨v, hv, rfl⟩ := List.mem_map.1 hx
        obtain ⟨k1, k2, k3, _⟩ := hF.ok v (List.mem_filter.1 hv).1
        exact ⟨rfl, (hR v.of_ k1 k2 k3).lo _⟩
      have hMl : (rtickM me n ([] : List Rw)).length ≤ 32 := by
        unfold rtickM
        rw [List.length_map]
        exact Nat.le_trans (List.length_filter_le ..) hF.len
      conv => whnf
      refine (c_tick0 me n).mono fun r st e => ?_
      obtain ⟨rfl, rfl⟩ := e
      conv => whnf
      rw [show rtickM me n ([] : List Rw) = [] from rfl] at hM hMl ⊢
      rw [show msA [] = msA ([] : List Ms) from rfl]
      obtain ⟨M, hMe⟩ : ∃ M : List Ms, M = [] := ⟨_, rfl⟩
      rw [← hMe] at hM hMl ⊢
      rw [ms_len]
      refine ⟨false, [0, 1, 2, 7, 9, 10, 15, 16, 17], fun τ => ∃ j : Nat, j ≤ M.length ∧ τ = ⟨212, [(0, (AV.sc (.int .i64 (me)))), (1, (AV.sc (.int .i64 (n)))), (2, (AV.sl (.nd [.lf, .lf, .lf]) (faA (l)) .ro)), (7, .pt 0 []), (9, (AV.sl (.nd [.ar 32 .lf, .lf, .lf, .lf]) (rwA (([] : List Rw).map rtick1)) (.own 0))), (10, (AV.sc (.int .i64 ((i : Int))))), (15, .sl (.nd [.lf, .lf, .lf, .nd [.lf, .lf, .lf, .lf, .ar 32 .lf, .lf, .ar 32 .lf, .ar 32 .lf], .nd [.nd [.lf, .lf, .lf, .lf, .ar 32 .lf, .lf, .ar 32 .lf, .ar 32 .lf], .lf], .nd [.lf, .lf, .lf, .ar 32 .lf, .lf, .ar 32 .lf], .nd [.ar 32 .lf, .lf, .lf, .lf, .lf], .ar 32 .lf, .nd [.lf, .lf, .lf, .lf, .lf, .lf, .lf]]) (msA M) (.own 1)), (16, .sl (.nd [.lf, .lf, .lf, .nd [.lf, .lf, .lf, .lf, .ar 32 .lf, .lf, .ar 32 .lf, .ar 32 .lf], .nd [.nd [.lf, .lf, .lf, .lf, .ar 32 .lf, .lf, .ar 32 .lf, .ar 32 .lf], .lf], .nd [.lf, .lf, .lf, .ar 32 .lf, .lf, .ar 32 .lf], .nd [.ar 32 .lf, .lf, .lf, .lf, .lf], .ar 32 .lf, .nd [.lf, .lf, .lf, .lf, .lf, .lf, .lf]]) (msA M) .ro), (17, (AV.sc (.int .i64 ((j : Int)))))], ⟨[((.st [(AV.sc (.int .i64 (me))), (AV.sc (.int .i64 (n))), .sl (.nd [.ar 32 .lf, .lf, .lf]) [] .ex]), false), (.ar 32 .lf (by8 (hh a.b)), false)], [0, 1], 2⟩⟩, fun τ => M.length - (slotI τ 17).toNat, ?_, ?_⟩
      · conv => whnf
        exact ⟨0, by omega, rfl⟩
      rintro τ ⟨j, hj, rfl⟩
      apply enter3
      intro k2 kK2
      conv => whnf
      rw [ms_len]
      refine Branch.of (fun h2 => ?_) (fun h2 => ?_) <;> rw [h2] <;> conv => whnf
      rotate_left
      · refine kK2 _ _ ?_
        conv => whnf
        refine ⟨false, [0, 1], 1, ?_⟩
        conv => whnf
        exact ⟨[], ⟨by simp, fun w hw => by simp at hw⟩, .inl ⟨rfl, rfl⟩⟩
      have h2 := of_decide_eq_true h2
      have jh : j < M.length := by omega
      have hx := hM M[j] (List.getElem_mem jh)
      have hxa := ms_at jh
      generalize M[j] = x at hx hxa
      obtain ⟨x1, x2, x3, x4⟩ := hx
      refine ⟨tabF4R23, by decide +kernel, ?_⟩
      conv => whnf
      refine ⟨by omega, _, hxa, ?_⟩
      conv => whnf
      refine ⟨by omega, _, hxa, ?_⟩
      conv => whnf
      refine ⟨_, _, c_msame x, ?_⟩
      conv => whnf
      refine ⟨by omega, _, hxa, ?_⟩
      conv => whnf
      refine ⟨_, _, c_mmay x (by omega) (by omega) (by omega) (by omega) (by omega), ?_⟩
      conv => whnf
      rw [w64 (x := (j : Int) + 1) (by omega) (by omega)]
      refine kK2 _ _ ?_
      conv => whnf
      refine ⟨⟨j + 1, by omega, rfl⟩, ?_⟩
      show M.length - ((j : Int) + 1).toNat < M.length - (j : Int).toNat
      omega
    rintro τ ⟨W, hF, ⟨rfl, rfl⟩ | ⟨cap, L, hL, rfl⟩⟩
    · conv => whnf
      refine (c_wants0 me n).mono fun r st e => ?_
      obtain ⟨rfl, rfl⟩ := e
      conv => whnf
      refine ⟨false, [0, 1, 2, 7, 9, 10, 18, 19], fun τ => τ = ⟨212, [(0, (AV.sc (.int .i64 (me)))), (1, (AV.sc (.int .i64 (n)))), (2, (AV.sl (.nd [.lf, .lf, .lf]) (faA (l)) .ro)), (7, .pt 0 []), (9, (AV.sl (.nd [.ar 32 .lf, .lf, .lf, .lf]) (rwA (([] : List Rw))) (.own 0))), (10, (AV.sc (.int .i64 ((i : Int))))), (18, .sl (.ar 32 .lf) [] .ro), (19, (AV.sc (.int .i64 (0))))], ⟨[((.st [(AV.sc (.int .i64 (me))), (AV.sc (.int .i64 (n))), .sl (.nd [.ar 32 .lf, .lf, .lf]) [] .ex]), false)], [0], 1⟩⟩, fun τ => 0, ?_, ?_⟩
      · conv => whnf
        try exact rfl
      rintro τ rfl
      apply enter3
      intro k2 kK2
      conv => whnf
      refine kK2 _ _ ?_
      conv => whnf
      rw [w64 (x := (i : Int) + 1) (by omega) (by omega)]
      refine kK _ _ ?_
      conv => whnf
      refine ⟨0, ?_⟩
      conv => whnf
      refine ⟨⟨i + 1, [], by omega, hF, .inl ⟨rfl, rfl⟩⟩, ?_⟩
      show l.length - ((i : Int) + 1).toNat < l.length - (i : Int).toNat
      omega
    · conv => whnf
      refine (c_wants1 me n (W.map (toF me n)) cap L hL (by rw [List.length_map]; exact hF.len)).mono fun r st e => ?_
      obtain ⟨rfl, rfl⟩ := e
      conv => whnf
      rw [show ((W.map (toF me n)).map fun w => (AV.ar 32 .lf (by8 (w.h)))).length = W.length by rw [List.length_map, List.length_map], rw_len, show ((W.length : Int) != (W.length : Int)) = false by simp]
      conv => whnf
      refine ⟨false, [0, 1, 2, 7, 9, 10, 18, 19], fun τ => ∃ j : Nat, j ≤ W.length ∧ τ = ⟨212, [(0, (AV.sc (.int .i64 (me)))), (1, (AV.sc (.int .i64 (n)))), (2, (AV.sl (.nd [.lf, .lf, .lf]) (faA (l)) .ro)), (7, .pt 0 []), (9, (AV.sl (.nd [.ar 32 .lf, .lf, .lf, .lf]) (rwA (W)) (.own 0))), (10, (AV.sc (.int .i64 ((i : Int))))), (18, .sl (.ar 32 .lf) ((W.map (toF me n)).map fun w => (AV.ar 32 .lf (by8 (w.h)))) .ro), (19, (AV.sc (.int .i64 ((j : Int)))))], ⟨[((.st [(AV.sc (.int .i64 (me))), (AV.sc (.int .i64 (n))), .bs 1 [] (.nd [.ar 32 .lf, .lf, .lf]) 0 (W.map (toF me n)).length cap]), false), (.ar cap (.nd [.ar 32 .lf, .lf, .lf]) L, false)], [0], 1⟩⟩, fun τ => W.length - (slotI τ 19).toNat, ?_, ?_⟩
      · conv => whnf
        exact ⟨0, by omega, rfl⟩
      rintro τ ⟨j, hj, rfl⟩
      apply enter3
      intro k2 kK2
      conv => whnf
      rw [rw_len]
      refine Branch.of (fun h2 => ?_) (fun h2 => ?_) <;> rw [h2] <;> conv => whnf
      rotate_left
      · refine kK2 _ _ ?_
        conv => whnf
        rw [w64 (x := (i : Int) + 1) (by omega) (by omega)]
        refine kK _ _ ?_
        conv => whnf
        refine ⟨1, ?_⟩
        conv => whnf
        refine ⟨⟨i + 1, W, by omega, hF, .inr ⟨cap, L, hL, rfl⟩⟩, ?_⟩
        show l.length - ((i : Int) + 1).toNat < l.length - (i : Int).toNat
        omega
      have h2 := of_decide_eq_true h2
      have jh : j < W.length := by omega
      refine ⟨tabF4R47, by decide +kernel, ?_⟩
      conv => whnf
      refine ⟨by omega, (AV.ar 32 .lf (by8 (W[j].h))), by rw [Int.toNat_natCast]; simp [jh, toF], ?_⟩
      conv => whnf
      refine ⟨by omega, _, rw_at jh, ?_⟩
      conv => whnf
      refine ⟨W[j].h, W[j].h, rfl, rfl, ?_⟩
      conv => whnf
      refine Branch.no (by simp) ?_
      conv => whnf
      rw [w64 (x := (j : Int) + 1) (by omega) (by have := hF.len; omega)]
      refine kK2 _ _ ?_
      conv => whnf
      refine ⟨⟨j + 1, by omega, rfl⟩, ?_⟩
      show W.length - ((j : Int) + 1).toNat < W.length - (j : Int).toNat
      omega
  · apply enter3
    intro kk kK
    conv => whnf
    rw [fa_len]
    refine Branch.of (fun h1 => ?_) (fun h1 => ?_) <;> rw [h1] <;> conv => whnf
    rotate_left
    · refine kK _ _ ?_
      conv => whnf
      refine (c_awake33).mono fun r st e => ?_
      obtain ⟨rfl, rfl⟩ := e
      conv => whnf
      refine ⟨false, [], ?_⟩
      conv => whnf
      exact ⟨rfl, rfl⟩
    have h1 := of_decide_eq_true h1
    have ih : i < l.length := by omega
    have hat := fa_at ih
    generalize l[i] = a at hat
    refine ⟨by omega, _, hat, ?_⟩
    conv => whnf
    have cfd := c_rfind W (hh a.b) (by have := hF.len; omega)
    rw [fnd_to me n] at cfd
    refine (cfd).mono fun r st e => ?_
    obtain ⟨rfl, rfl⟩ := e
    conv => whnf
    refine ⟨[0, 1, 2, 7, 9, 10], ActJ me n l i, ?_, ?_⟩
    rotate_left
    · refine ⟨by omega, _, hat, ?_⟩
      conv => whnf
      by_cases d0 : a.d = 0
      · refine Branch.yes (decide_eq_true d0) ?_
        conv => whnf
        obtain ⟨E, hE⟩ : ∃ E, E = wanE me n (W.map (toF me n)) (hh a.b) a.of_ := ⟨_, rfl⟩
        obtain ⟨W2, hW2⟩ : ∃ W2 : List Rw, W2 = if E = 0 then W ++ [⟨hh a.b, a.of_, 0, 0⟩] else W := ⟨_, rfl⟩
        have hE0 := hE
        unfold wanE at hE
        rw [List.length_map] at hE
        refine ⟨[0, 1, 2, 7, 9, 10, 11, 13], fun τ => τ = ⟨212, [(0, (AV.sc (.int .i64 (me)))), (1, (AV.sc (.int .i64 (n)))), (2, (AV.sl (.nd [.lf, .lf, .lf]) (faA (l)) .ro)), (7, .pt 0 []), (9, (AV.sl (.nd [.ar 32 .lf, .lf, .lf, .lf]) (rwA (W2)) (.own 0))), (10, (AV.sc (.int .i64 ((i : Int))))), (11, .pt 2 []), (13, (AV.sc (.int .i64 (E))))], ⟨[((.st [(AV.sc (.int .i64 (me))), (AV.sc (.int .i64 (n))), .bs 1 [] (.nd [.ar 32 .lf, .lf, .lf]) 0 (W.map (toF me n)).length cap]), false), (.ar cap (.nd [.ar 32 .lf, .lf, .lf]) L, false), (.ar 32 .lf (by8 (hh a.b)), false)], [0], 1⟩⟩, ?_, ?_⟩
        rotate_left
        · clear hE0
          refine ⟨by omega, _, hat, ?_⟩
          conv => whnf
          by_cases g1 : a.of_ < 1
          · rw [if_pos (.inl g1)] at hE
            subst hE
            rw [if_neg (by decide)] at hW2
            subst hW2
            rw [decide_eq_true g1]
            conv => whnf
            refine ⟨false, [0, 1, 2], 3, ?_⟩
            conv => whnf
            exact rfl
          rw [decide_eq_false g1]
          conv => whnf
          refine ⟨by omega, _, hat, ?_⟩
          conv => whnf
          by_cases g2 : a.of_ > n
          · rw [if_pos (.inr (.inl g2))] at hE
            subst hE
            rw [if_neg (by decide)] at hW2
            subst hW2
            rw [decide_eq_true g2]
            conv => whnf
            refine ⟨false, [0, 1, 2], 3, ?_⟩
            conv => whnf
            exact rfl
          rw [decide_eq_false g2]
          conv => whnf
          refine ⟨by omega, _, hat, ?_⟩
          conv => whnf
          by_cases g3 : a.of_ = me
          · rw [if_pos (.inr (.inr g3))] at hE
            subst hE
            rw [if_neg (by decide)] at hW2
            subst hW2
            rw [show (a.of_ == me) = true from decide_eq_true g3]
            conv => whnf
            refine ⟨false, [0, 1, 2], 3, ?_⟩
            conv => whnf
            exact rfl
          rw [show (a.of_ == me) = false from decide_eq_false g3]
          conv => whnf
          rw [if_neg (show ¬ (a.of_ < 1 ∨ n < a.of_ ∨ a.of_ = me) by omega)] at hE
          by_cases g4 : 0 ≤ fnd (W.map (toF me n)) (hh a.b)
          · rw [if_pos g4] at hE
            subst hE
            rw [if_neg (by decide)] at hW2
            subst hW2
            refine Branch.yes (decide_eq_true g4) ?_
            conv => whnf
            refine ⟨false, [0, 1, 2], 3, ?_⟩
            conv => whnf
            exact rfl
          rw [if_neg g4] at hE
          refine Branch.no (decide_eq_false g4) ?_
          conv => whnf
          rw [rw_len]
          by_cases g5 : W.length = 32
          · rw [if_pos g5] at hE
            subst hE
            rw [if_neg (by decide)] at hW2
            subst hW2
            refine Branch.yes (decide_eq_true (by omega)) ?_
            conv => whnf
            refine ⟨false, [0, 1, 2], 3, ?_⟩
            conv => whnf
            exact rfl
          rw [if_neg g5] at hE
          subst hE
          rw [if_pos rfl] at hW2
          subst hW2
          refine Branch.no (decide_eq_false (by have := hF.len; omega)) ?_
          conv => whnf
          refine ⟨tabF4R33, by decide +kernel, ?_⟩
          conv => whnf
          refine ⟨by omega, _, hat, ?_⟩
          conv => whnf
          refine ⟨by rw [rw_len]; simp only [List.length_cons, List.length_nil]; have := hF.len; omega, ?_⟩
          conv => whnf
          refine ⟨false, [0, 1, 2], 3, ?_⟩
          conv => whnf
          rw [show rwA (W ++ [⟨hh a.b, a.of_, 0, 0⟩]) = rwA W ++ [(AV.st [.ar 32 .lf (by8 ((⟨hh a.b, a.of_, 0, 0⟩ : Rw)).h), .sc (.int .i64 ((⟨hh a.b, a.of_, 0, 0⟩ : Rw)).of_), .sc (.int .i64 ((⟨hh a.b, a.of_, 0, 0⟩ : Rw)).left_), .sc (.int .i64 ((⟨hh a.b, a.of_, 0, 0⟩ : Rw)).asked)])] by unfold rwA; rw [List.map_append]; rfl]
          exact rfl
        rintro τ rfl
        have hWL : wanL me n (W.map (toF me n)) (hh a.b) a.of_ = W2.map (toF me n) ∧ FF me n W2 (i + 1) := by
          by_cases e0 : E = 0
          · subst e0
            rw [if_pos rfl] at hW2
            subst hW2
            obtain ⟨k1, k2, k3⟩ := wan_new (i := ((i + 1 : Nat) : Int)) hR (by omega) hE0.symm
            refine ⟨k1, ⟨by rw [List.length_append]; simp only [List.length_cons, List.length_nil]; have := hF.len; omega, fun w hw => ?_⟩⟩
            rcases List.mem_append.1 hw with hw | hw
            · exact hF.up.ok w hw
            · rw [List.mem_singleton.1 hw]
              exact k2
          · rw [if_neg e0] at hW2
            subst hW2
            exact ⟨wan_old (by rw [← hE0]; exact e0), hF.up⟩
        obtain ⟨hWL, hF2⟩ := hWL
        have cw := c_want1 me n (W.map (toF me n)) cap L (hh a.b) a.of_ hL (by rw [List.length_map]; exact hF.len) (by omega) E hE0.symm _ hWL
        obtain ⟨st0, hst0⟩ := F1_ex me n (W2.map (toF me n))
        conv => whnf
        refine ⟨.swap 7 8, ?_⟩
        conv => whnf
        refine ⟨by decide +kernel, ?_⟩
        conv => whnf
        refine ⟨.x 8, ?_⟩
        conv => whnf
        refine ⟨tab34, by decide +kernel, ?_⟩
        conv => whnf
        refine ⟨by omega, _, hat, ?_⟩
        conv => whnf
        refine ⟨_, cw, ⟨_, st0, rfl, hst0⟩, ?_⟩
        rintro q st ⟨rfl, hP⟩
        obtain ⟨cap2, L2, hL2, rfl | ⟨cj, Lj, rfl⟩⟩ := hP
        · conv => whnf
          refine Branch.no (by simp) ?_
          conv => whnf
          refine ⟨false, [0, 1, 2], 2, ?_⟩
          conv => whnf
          exact ⟨W2, hF2, .inr ⟨cap2, L2, hL2, rfl⟩⟩
        · conv => whnf
          refine Branch.no (by simp) ?_
          conv => whnf
          refine ⟨false, [0, 3, 1, 2], 2, ?_⟩
          conv => whnf
          exact ⟨W2, hF2, .inr ⟨cap2, L2, hL2, rfl⟩⟩
      refine Branch.no (decide_eq_false d0) ?_
      conv => whnf
      by_cases d1 : a.d = 1
      · refine Branch.yes (decide_eq_true d1) ?_
        conv => whnf
        have cg := c_got1 me n (W.map (toF me n)) cap L (hh a.b) hL (by rw [List.length_map]; exact hF.len)
        unfold gotL at cg
        rcases fnd_cases (W.map (toF me n)) (hh a.b) with ⟨e, _⟩ | ⟨j, hj, e, _⟩
        · rw [e, if_neg (by decide)] at cg
          rw [e]
          refine cg.mono ?_
          rintro q st ⟨rfl, L2, hL2, rfl⟩
          conv => whnf
          refine ⟨false, [0, 1, 2], 2, ?_⟩
          conv => whnf
          exact ⟨W, hF.up, .inr ⟨cap, L2, hL2, rfl⟩⟩
        rw [List.length_map] at hj
        rw [e, if_pos (by omega), Int.toNat_natCast, map_erase] at cg
        rw [e]
        refine cg.mono ?_
        rintro q st ⟨rfl, L2, hL2, rfl⟩
        conv => whnf
        refine ⟨tabF4R40, by decide +kernel, ?_⟩
        conv => whnf
        refine ⟨by omega, by omega, by rw [rw_len]; omega, ?_⟩
        conv => whnf
        refine ⟨by simp only [List.length_replicate, List.length_take, List.length_drop, rw_len]; have := hF.len; omega, ?_⟩
        conv => whnf
        rw [w64 (x := (j : Int) + 1) (by omega) (by have := hF.len; omega)]
        refine ⟨by omega, by rw [rw_len]; omega, by omega, ?_⟩
        conv => whnf
        refine ⟨by simp only [List.length_append, List.length_replicate, List.length_take, List.length_drop, rw_len]; have := hF.len; omega, ?_⟩
        conv => whnf
        rw [rw_erase W j _ hj]
        refine ⟨false, [0, 1, 2], 2, ?_⟩
        conv => whnf
        exact ⟨W.eraseIdx j, ⟨Nat.le_trans (List.length_eraseIdx_le ..) hF.len, fun w hw => hF.up.ok w (List.mem_of_mem_eraseIdx hw)⟩, .inr ⟨cap, L2, hL2, rfl⟩⟩
      refine Branch.no (decide_eq_false d1) ?_
      conv => whnf
      refine (c_rtick me n W (by have := hF.len; omega) (by omega) (by omega) (fun w hw => by
        obtain ⟨k1, k2, k3, k4, k5, k6, k7⟩ := hF.ok w hw
        have := (hR w.of_ k1 k2 k3).len
        exact ⟨k1, by omega, k6, by omega, k4, by omega, by omega⟩)).mono ?_
      rintro q st ⟨rfl, rfl⟩
      have hF2 : FF me n (W.map rtick1) (i + 1) := by
        refine ⟨by rw [List.length_map]; exact hF.len, fun w hw => ?_⟩
        obtain ⟨v, hv, rfl⟩ := List.mem_map.1 hw
        have := (tick_to hR (hF.ok v hv)).2
        exact_mod_cast this
      have hM : ∀ x ∈ rtickM me n W, x.f = me ∧ 1 ≤ x.t ∧ x.t ≤ n ∧ x.t ≠ me := by
        intro x hx
        unfold rtickM at hx
        obtain ⟨v, hv, rfl⟩ := List.mem_map.1 hx
        obtain ⟨k1, k2, k3, _⟩ := hF.ok v (List.mem_filter.1 hv).1
        exact ⟨rfl, (hR v.of_ k1 k2 k3).lo _⟩
      have hMl : (rtickM me n W).length ≤ 32 := by
        unfold rtickM
        rw [List.length_map]
        exact Nat.le_trans (List.length_filter_le ..) hF.len
      conv => whnf
      have ct := c_tickB me n (W.map (toF me n)) cap L hL (by rw [List.length_map]; exact hF.len) (by omega) (by omega) (fun w hw => by
        obtain ⟨v, hv, rfl⟩ := List.mem_map.1 hw
        obtain ⟨k1, k2, k3, k4, k5, k6, k7⟩ := hF.ok v hv
        have := (hR v.of_ k1 k2 k3).lo v.asked
        exact ⟨by show 0 ≤ whom me n v.of_ v.asked; omega, k4, by show v.left_ ≤ 1000; omega⟩)
      rw [tick_msg, tick_map hR hF.ok] at ct
      refine ct.mono ?_
      rintro q st ⟨rfl, L2, hL2, rfl⟩
      conv => whnf
      generalize rtickM me n W = M at hM hMl ⊢
      rw [ms_len]
      rw [show ((M.length : Int) != (M.length : Int)) = false by simp]
      conv => whnf
      refine ⟨false, [0, 1, 2, 7, 9, 10, 15, 16, 17], fun τ => ∃ j : Nat, j ≤ M.length ∧ τ = ⟨212, [(0, (AV.sc (.int .i64 (me)))), (1, (AV.sc (.int .i64 (n)))), (2, (AV.sl (.nd [.lf, .lf, .lf]) (faA (l)) .ro)), (7, .pt 0 []), (9, (AV.sl (.nd [.ar 32 .lf, .lf, .lf, .lf]) (rwA (W.map rtick1)) (.own 0))), (10, (AV.sc (.int .i64 ((i : Int))))), (15, .sl (.nd [.lf, .lf, .lf, .nd [.lf, .lf, .lf, .lf, .ar 32 .lf, .lf, .ar 32 .lf, .ar 32 .lf], .nd [.nd [.lf, .lf, .lf, .lf, .ar 32 .lf, .lf, .ar 32 .lf, .ar 32 .lf], .lf], .nd [.lf, .lf, .lf, .ar 32 .lf, .lf, .ar 32 .lf], .nd [.ar 32 .lf, .lf, .lf, .lf, .lf], .ar 32 .lf, .nd [.lf, .lf, .lf, .lf, .lf, .lf, .lf]]) (msA M) (.own 1)), (16, .sl (.nd [.lf, .lf, .lf, .nd [.lf, .lf, .lf, .lf, .ar 32 .lf, .lf, .ar 32 .lf, .ar 32 .lf], .nd [.nd [.lf, .lf, .lf, .lf, .ar 32 .lf, .lf, .ar 32 .lf, .ar 32 .lf], .lf], .nd [.lf, .lf, .lf, .ar 32 .lf, .lf, .ar 32 .lf], .nd [.ar 32 .lf, .lf, .lf, .lf, .lf], .ar 32 .lf, .nd [.lf, .lf, .lf, .lf, .lf, .lf, .lf]]) (msA M) .ro), (17, (AV.sc (.int .i64 ((j : Int)))))], ⟨[((.st [(AV.sc (.int .i64 (me))), (AV.sc (.int .i64 (n))), .bs 1 [] (.nd [.ar 32 .lf, .lf, .lf]) 0 (W.map (toF me n)).length cap]), false), (.ar cap (.nd [.ar 32 .lf, .lf, .lf]) L2, false), (.ar 32 .lf (by8 (hh a.b)), false)], [0, 1], 2⟩⟩, fun τ => M.length - (slotI τ 17).toNat, ?_, ?_⟩
      · conv => whnf
        exact ⟨0, by omega, rfl⟩
      rintro τ ⟨j, hj, rfl⟩
      apply enter3
      intro k2 kK2
      conv => whnf
      rw [ms_len]
      refine Branch.of (fun h2 => ?_) (fun h2 => ?_) <;> rw [h2] <;> conv => whnf
      rotate_left
      · refine kK2 _ _ ?_
        conv => whnf
        refine ⟨false, [0, 1, 2], 2, ?_⟩
        conv => whnf
        exact ⟨W.map rtick1, hF2, .inr ⟨cap, L2, hL2, by simp only [List.length_map]; rfl⟩⟩
      have h2 := of_decide_eq_true h2
      have jh : j < M.length := by omega
      have hx := hM M[j] (List.getElem_mem jh)
      have hxa := ms_at jh
      generalize M[j] = x at hx hxa
      obtain ⟨x1, x2, x3, x4⟩ := hx
      refine ⟨tabF4R23, by decide +kernel, ?_⟩
      conv => whnf
      refine ⟨by omega, _, hxa, ?_⟩
      conv => whnf
      refine ⟨by omega, _, hxa, ?_⟩
      conv => whnf
      refine ⟨_, _, c_msame x, ?_⟩
      conv => whnf
      refine ⟨by omega, _, hxa, ?_⟩
      conv => whnf
      refine ⟨_, _, c_mmay x (by omega) (by omega) (by omega) (by omega) (by omega), ?_⟩
      conv => whnf
      rw [w64 (x := (j : Int) + 1) (by omega) (by omega)]
      refine kK2 _ _ ?_
      conv => whnf
      refine ⟨⟨j + 1, by omega, rfl⟩, ?_⟩
      show M.length - ((j : Int) + 1).toNat < M.length - (j : Int).toNat
      omega
    rintro τ ⟨W, hF, ⟨rfl, rfl⟩ | ⟨cap, L, hL, rfl⟩⟩
    · conv => whnf
      refine (c_wants0 me n).mono fun r st e => ?_
      obtain ⟨rfl, rfl⟩ := e
      conv => whnf
      refine ⟨false, [0, 1, 2, 7, 9, 10, 18, 19], fun τ => τ = ⟨212, [(0, (AV.sc (.int .i64 (me)))), (1, (AV.sc (.int .i64 (n)))), (2, (AV.sl (.nd [.lf, .lf, .lf]) (faA (l)) .ro)), (7, .pt 0 []), (9, (AV.sl (.nd [.ar 32 .lf, .lf, .lf, .lf]) (rwA (([] : List Rw))) (.own 0))), (10, (AV.sc (.int .i64 ((i : Int))))), (18, .sl (.ar 32 .lf) [] .ro), (19, (AV.sc (.int .i64 (0))))], ⟨[((.st [(AV.sc (.int .i64 (me))), (AV.sc (.int .i64 (n))), .sl (.nd [.ar 32 .lf, .lf, .lf]) [] .ex]), false)], [0], 1⟩⟩, fun τ => 0, ?_, ?_⟩
      · conv => whnf
        try exact rfl
      rintro τ rfl
      apply enter3
      intro k2 kK2
      conv => whnf
      refine kK2 _ _ ?_
      conv => whnf
      rw [w64 (x := (i : Int) + 1) (by omega) (by omega)]
      refine kK _ _ ?_
      conv => whnf
      refine ⟨0, ?_⟩
      conv => whnf
      refine ⟨⟨i + 1, [], by omega, hF, .inl ⟨rfl, rfl⟩⟩, ?_⟩
      show l.length - ((i : Int) + 1).toNat < l.length - (i : Int).toNat
      omega
    · conv => whnf
      refine (c_wants1 me n (W.map (toF me n)) cap L hL (by rw [List.length_map]; exact hF.len)).mono fun r st e => ?_
      obtain ⟨rfl, rfl⟩ := e
      conv => whnf
      rw [show ((W.map (toF me n)).map fun w => (AV.ar 32 .lf (by8 (w.h)))).length = W.length by rw [List.length_map, List.length_map], rw_len, show ((W.length : Int) != (W.length : Int)) = false by simp]
      conv => whnf
      refine ⟨false, [0, 1, 2, 7, 9, 10, 18, 19], fun τ => ∃ j : Nat, j ≤ W.length ∧ τ = ⟨212, [(0, (AV.sc (.int .i64 (me)))), (1, (AV.sc (.int .i64 (n)))), (2, (AV.sl (.nd [.lf, .lf, .lf]) (faA (l)) .ro)), (7, .pt 0 []), (9, (AV.sl (.nd [.ar 32 .lf, .lf, .lf, .lf]) (rwA (W)) (.own 0))), (10, (AV.sc (.int .i64 ((i : Int))))), (18, .sl (.ar 32 .lf) ((W.map (toF me n)).map fun w => (AV.ar 32 .lf (by8 (w.h)))) .ro), (19, (AV.sc (.int .i64 ((j : Int)))))], ⟨[((.st [(AV.sc (.int .i64 (me))), (AV.sc (.int .i64 (n))), .bs 1 [] (.nd [.ar 32 .lf, .lf, .lf]) 0 (W.map (toF me n)).length cap]), false), (.ar cap (.nd [.ar 32 .lf, .lf, .lf]) L, false)], [0], 1⟩⟩, fun τ => W.length - (slotI τ 19).toNat, ?_, ?_⟩
      · conv => whnf
        exact ⟨0, by omega, rfl⟩
      rintro τ ⟨j, hj, rfl⟩
      apply enter3
      intro k2 kK2
      conv => whnf
      rw [rw_len]
      refine Branch.of (fun h2 => ?_) (fun h2 => ?_) <;> rw [h2] <;> conv => whnf
      rotate_left
      · refine kK2 _ _ ?_
        conv => whnf
        rw [w64 (x := (i : Int) + 1) (by omega) (by omega)]
        refine kK _ _ ?_
        conv => whnf
        refine ⟨1, ?_⟩
        conv => whnf
        refine ⟨⟨i + 1, W, by omega, hF, .inr ⟨cap, L, hL, rfl⟩⟩, ?_⟩
        show l.length - ((i : Int) + 1).toNat < l.length - (i : Int).toNat
        omega
      have h2 := of_decide_eq_true h2
      have jh : j < W.length := by omega
      refine ⟨tabF4R47, by decide +kernel, ?_⟩
      conv => whnf
      refine ⟨by omega, (AV.ar 32 .lf (by8 (W[j].h))), by rw [Int.toNat_natCast]; simp [jh, toF], ?_⟩
      conv => whnf
      refine ⟨by omega, _, rw_at jh, ?_⟩
      conv => whnf
      refine ⟨W[j].h, W[j].h, rfl, rfl, ?_⟩
      conv => whnf
      refine Branch.no (by simp) ?_
      conv => whnf
      rw [w64 (x := (j : Int) + 1) (by omega) (by have := hF.len; omega)]
      refine kK2 _ _ ?_
      conv => whnf
      refine ⟨⟨j + 1, by omega, rfl⟩, ?_⟩
      show W.length - ((j : Int) + 1).toNat < W.length - (j : Int).toNat
      omega
end Go.WL.T8
