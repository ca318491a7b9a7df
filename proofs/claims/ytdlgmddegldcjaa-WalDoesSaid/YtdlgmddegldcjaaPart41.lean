/- What any acts tell: the walk. No condition. -/
import Derived.Test.YtdlgmddegldcjaaPart36
import Derived.Test.YtdlgmddegldcjaaPart40
import Derived.Test.YtdlgmddegldcjaaPart15
set_option linter.unusedVariables false
set_option linter.unusedSimpArgs false
namespace Go.WL.T5
open Go.WL Go.Proofs
set_option maxRecDepth 20000
set_option maxHeartbeats 8000000
def kd (l : List Wc) (i : Nat) (W : AV) (bx : List (AV × Bool)) : AS := ⟨185, [(1, (AV.sl (.nd [.lf, .lf, .nd [.lf, .lf, .lf], .lf]) (wcA (l)) .ro)), (5, .pt 0 []), (7, W), (10, .pt 1 []), (13, (AV.sc (.int .i64 ((i : Int)))))], ⟨bx, [], 0⟩⟩
def XB (r : Rk) (m : Int) (br is : Bool) : AV × Bool := (.st [(AV.st [.sl .lf (by8 (r).s) .ro, .sl .lf (by8 (r).m) .ro, .sl .lf (by8 (r).h) .ro, .sc (.int .i64 (r).room), .sc (.int .i64 (r).armed), .sc (.bool (r).dead)]), (AV.sc (.int .i64 (m))), (AV.sc (.bool (br))), (AV.sc (.bool (is)))], false)
def HeadD (l : List Wc) (i : Nat) (r : Rk) (m : Int) (br is : Bool) (τ : AS) : Prop :=
  (is = false ∧ (toP r).b = [] ∧ ∃ w : Wc, τ = kd l i (.sc (.pointer none)) [((AV.st [.sl .lf [] .ex, .sc (.int .i64 ((toP r)).sf), .sc (.int .i64 ((toP r)).room), .sc (.bool true), .sc (.int .i64 ((toP r)).armed), .sc (.bool ((toP r)).dead), .sl .lf (by8 ((toP r)).h) .ro]), false), (.st [(AV.st [.sl .lf (by8 (r).s) .ro, .sl .lf (by8 (r).m) .ro, .sl .lf (by8 (r).h) .ro, .sc (.int .i64 (r).room), .sc (.int .i64 (r).armed), .sc (.bool (r).dead)]), (AV.sc (.int .i64 (m))), (AV.sc (.bool (br))), (AV.sc (.bool (false)))], false), ((AV.st [.sc (.int .i64 (w).d), .sl .lf ((w).l.map fun b => AV.sl .lf (by8 b) .ro) .ro, AV.st [.sc (.int .i64 (w).a.d), .sl .lf (by8 (w).a.b) .ro, .sc (.int .i64 (w).a.n)], .sc (.int .u8 ((w).y.toNat : Int))]), false)]) ∨
  (is = false ∧ ∃ cap c2 L, OKL (toP r).b cap c2 L ∧ τ = kd l i (.sc (.pointer none)) [((AV.st [.bs 2 [] .lf 0 ((toP r)).b.length cap, .sc (.int .i64 ((toP r)).sf), .sc (.int .i64 ((toP r)).room), .sc (.bool true), .sc (.int .i64 ((toP r)).armed), .sc (.bool ((toP r)).dead), .sl .lf (by8 ((toP r)).h) .ro]), false), (.st [(AV.st [.sl .lf (by8 (r).s) .ro, .sl .lf (by8 (r).m) .ro, .sl .lf (by8 (r).h) .ro, .sc (.int .i64 (r).room), .sc (.int .i64 (r).armed), .sc (.bool (r).dead)]), (AV.sc (.int .i64 (m))), (AV.sc (.bool (br))), (AV.sc (.bool (false)))], false), (.ar c2 .lf L, false)]) ∨
  (is = true ∧ (toP r).b = [] ∧ τ = kd l i (.pt 2 []) [((AV.st [.sl .lf [] .ex, .sc (.int .i64 ((toP r)).sf), .sc (.int .i64 ((toP r)).room), .sc (.bool true), .sc (.int .i64 ((toP r)).armed), .sc (.bool ((toP r)).dead), .sl .lf (by8 ((toP r)).h) .ro]), false), (.st [(AV.st [.sl .lf (by8 (r).s) .ro, .sl .lf (by8 (r).m) .ro, .sl .lf (by8 (r).h) .ro, .sc (.int .i64 (r).room), .sc (.int .i64 (r).armed), .sc (.bool (r).dead)]), (AV.sc (.int .i64 (m))), (AV.sc (.bool (br))), (AV.sc (.bool (true)))], false), (.st [.pt 0 [], (AV.sc (.int .i64 (m))), (AV.sc (.bool (br)))], false)]) ∨
  (is = true ∧ ∃ cap c2 L, OKL (toP r).b cap c2 L ∧ τ = kd l i (.pt 3 []) [((AV.st [.bs 2 [] .lf 0 ((toP r)).b.length cap, .sc (.int .i64 ((toP r)).sf), .sc (.int .i64 ((toP r)).room), .sc (.bool true), .sc (.int .i64 ((toP r)).armed), .sc (.bool ((toP r)).dead), .sl .lf (by8 ((toP r)).h) .ro]), false), (.st [(AV.st [.sl .lf (by8 (r).s) .ro, .sl .lf (by8 (r).m) .ro, .sl .lf (by8 (r).h) .ro, .sc (.int .i64 (r).room), .sc (.int .i64 (r).armed), .sc (.bool (r).dead)]), (AV.sc (.int .i64 (m))), (AV.sc (.bool (br))), (AV.sc (.bool (true)))], false), (.ar c2 .lf L, false), (.st [.pt 0 [], (AV.sc (.int .i64 (m))), (AV.sc (.bool (br)))], false)])
structure FD (r : Rk) (m : Int) (br is : Bool) (i : Nat) : Prop where
  wf : WFq r
  m0 : 0 ≤ m
  m1 : m ≤ 2000000 + 5 * i
  no : is = false → m = 0 ∧ br = false
def DoesI (l : List Wc) (τ : AS) : Prop := ∃ (i : Nat) (r : Rk) (m : Int) (br is : Bool), i ≤ l.length ∧ FD r m br is i ∧ HeadD l i r m br is τ
def DoesJ (l : List Wc) (i : Nat) (τ : AS) : Prop := ∃ (r : Rk) (m : Int) (br is : Bool), FD r m br is (i + 1) ∧ HeadD l i r m br is τ
theorem recs_cnt : ∀ (k : Nat) (B : List UInt8), (recs k B).1.length ≤ B.length
  | 0, B => Nat.zero_le _
  | k + 1, B => by
    unfold recs
    by_cases h : (nxt B).2.2 = 0
    · rw [if_pos h]
      obtain ⟨h1, h2, h3⟩ := nxt_fit B h
      have := recs_cnt k (B.drop (nxt B).2.1)
      rw [List.length_drop] at this
      show (recs k (B.drop (nxt B).2.1)).1.length + 1 ≤ _
      omega
    · rw [if_neg h]
      exact Nat.zero_le _
theorem openP_nil {k : Pk} (hb : k.b = []) : (openP k).1.b = [] := by
  unfold openP
  rw [hb, recsB_nil, if_neg (show ¬ (([], 0) : List (List UInt8) × Nat).2 < ([] : List UInt8).length by decide)]
  split
  · exact hb
  · rw [sync_b]; exact hb
theorem c_openD0 (k : Pk) (hb0 : k.b = []) (hw : WFk k) : FnOK Try.prog D 33 [.pt 0 []] [(AV.st [.sl .lf [] .ex, .sc (.int .i64 (k).sf), .sc (.int .i64 (k).room), .sc (.bool true), .sc (.int .i64 (k).armed), .sc (.bool (k).dead), .sl .lf (by8 (k).h) .ro])] (fun r st => (¬ (openP k).2 = 0 ∧ r = .tup [.sc (.pointer none), .sl .lf [] .ro, (AV.sc (.int .i64 ((openP k).2)))] ∧ st = [(AV.st [.sl .lf [] .ex, .sc (.int .i64 ((openP k).1).sf), .sc (.int .i64 ((openP k).1).room), .sc (.bool true), .sc (.int .i64 ((openP k).1).armed), .sc (.bool ((openP k).1).dead), .sl .lf (by8 ((openP k).1).h) .ro])]) ∨ ((openP k).2 = 0 ∧ r = .tup [.pt 1 [], .sl .lf ((recsB k.b).1.map fun b => (AV.sl .lf (by8 (b)) .ro)) (.own 0), (AV.sc (.int .i64 (0)))] ∧ st = [(AV.st [.sl .lf [] .ex, .sc (.int .i64 ((openP k).1).sf), .sc (.int .i64 ((openP k).1).room), .sc (.bool true), .sc (.int .i64 ((openP k).1).armed), .sc (.bool ((openP k).1).dead), .sl .lf (by8 ((openP k).1).h) .ro]), .st [.pt 0 [], (AV.sc (.int .i64 (((recsB k.b).1.length : Int)))), (AV.sc (.bool (false)))]])) := by
  have e : openP k = if k.dead = true then (k, 6) else syncP k := by
    unfold openP
    rw [hb0, recsB_nil, if_neg (show ¬ (([], 0) : List (List UInt8) × Nat).2 < ([] : List UInt8).length by decide)]
  refine (c_open0 k hb0 hw).mono ?_
  rw [e, hb0, recsB_nil]
  rintro r st (⟨h, rfl, rfl⟩ | ⟨h, h2, rfl, rfl⟩ | ⟨h, h2, rfl, rfl⟩)
  · rw [if_pos h]
    exact .inl ⟨(by decide : ¬ (6 : Int) = 0), rfl, rfl⟩
  · rw [if_neg (by rw [h]; simp)]
    exact .inl ⟨by rw [h2]; decide, by rw [h2], rfl⟩
  · rw [if_neg (by rw [h]; simp)]
    exact .inr ⟨h2, rfl, rfl⟩
theorem spoil_nil {k : Pk} (hb : k.b = []) (n : Int) (y : UInt8) : (spoilP k n y).1.b = [] := by
  unfold spoilP
  split
  · exact hb
  · split
    · exact hb
    · show k.b.set _ _ = []
      rw [hb]
      rfl
theorem recs_each : ∀ (k : Nat) (B : List UInt8), ∀ b ∈ (recs k B).1, b.length ≤ B.length
  | 0, B, b, hb => by simp [recs] at hb
  | k + 1, B, b, hb => by
    unfold recs at hb
    by_cases h : (nxt B).2.2 = 0
    · rw [if_pos h] at hb
      rcases List.mem_cons.1 hb with rfl | hb
      · exact nxt_len B
      · have := recs_each k _ b hb
        rw [List.length_drop] at this
        omega
    · rw [if_neg h] at hb
      simp at hb
theorem putR_m (r : Rk) (m : Int) (br is : Bool) (l : List (List UInt8)) (h0 : 0 ≤ m) : 0 ≤ (putR r m br is l).2.1 ∧ (putR r m br is l).2.1 ≤ m + l.length := by
  unfold putR
  split
  · exact ⟨h0, by show m ≤ _; omega⟩
  · split
    · exact ⟨h0, by show m ≤ _; omega⟩
    · split
      · exact ⟨h0, by show m ≤ _; omega⟩
      · show 0 ≤ (if (putDR r (recL l)).2 = 0 then m + l.length else m) ∧ (if (putDR r (recL l)).2 = 0 then m + l.length else m) ≤ m + l.length
        split
        · omega
        · omega
theorem c_waldoes (room : Int) (l : List Wc) (hl : l.length ≤ 9223372036854775807) (hn : ∀ w ∈ l, w.a.n < 9223372036854775808) : FnOK Try.prog D 8 [(AV.sc (.int .i64 (room))), (AV.sl (.nd [.lf, .lf, .nd [.lf, .lf, .lf], .lf]) (wcA (l)) .ro)] [] (fun r st => r = (AV.sc (.bool (true))) ∧ st = []) := by
  refine fnok_of_Ws [7800010, 7800033, 7500015, 8000000] hmix tabOK Try.func8 rfl rfl (Nat.le_of_ble_eq_true rfl) ?_
  conv => whnf
  refine (c_light19 l hl).mono fun r st e => ?_
  obtain ⟨rfl, rfl⟩ := e
  conv => whnf
  cases hL : lightW l with
  | false =>
    conv => whnf
    refine (c_awake19).mono fun r st e => ?_
    obtain ⟨rfl, rfl⟩ := e
    conv => whnf
    refine ⟨false, [], ?_⟩
    conv => whnf
    exact ⟨rfl, rfl⟩
  | true =>
  obtain ⟨hl30, hB⟩ := lightW_yes hL
  conv => whnf
  by_cases hr0 : room < 0
  · refine Branch.of (fun hh => ?_) (fun hh => ?_)
    rotate_left
    · exfalso; simp only [gt_iff_lt, ge_iff_le, decide_eq_true_eq, decide_eq_false_iff_not, beq_iff_eq, beq_eq_false_iff_ne, bne_iff_ne, bne_eq_false_iff_eq, ne_eq] at hh; first | done | omega | (simp at hh; done)
    try rw [hh]
    clear hh
    conv => whnf
    refine (c_awake19).mono fun r st e => ?_
    obtain ⟨rfl, rfl⟩ := e
    conv => whnf
    refine ⟨false, [], ?_⟩
    conv => whnf
    exact ⟨rfl, rfl⟩
  refine Branch.of (fun hh => ?_) (fun hh => ?_)
  · exfalso; simp only [gt_iff_lt, ge_iff_le, decide_eq_true_eq, decide_eq_false_iff_not, beq_iff_eq, beq_eq_false_iff_ne, bne_iff_ne, bne_eq_false_iff_eq, ne_eq] at hh; first | done | omega | (simp at hh; done)
  try rw [hh]
  clear hh
  conv => whnf
  by_cases hr1 : 1048576 < room
  · refine Branch.of (fun hh => ?_) (fun hh => ?_)
    rotate_left
    · exfalso; simp only [gt_iff_lt, ge_iff_le, decide_eq_true_eq, decide_eq_false_iff_not, beq_iff_eq, beq_eq_false_iff_ne, bne_iff_ne, bne_eq_false_iff_eq, ne_eq] at hh; first | done | omega | (simp at hh; done)
    try rw [hh]
    clear hh
    conv => whnf
    refine (c_awake19).mono fun r st e => ?_
    obtain ⟨rfl, rfl⟩ := e
    conv => whnf
    refine ⟨false, [], ?_⟩
    conv => whnf
    exact ⟨rfl, rfl⟩
  refine Branch.of (fun hh => ?_) (fun hh => ?_)
  · exfalso; simp only [gt_iff_lt, ge_iff_le, decide_eq_true_eq, decide_eq_false_iff_not, beq_iff_eq, beq_eq_false_iff_ne, bne_iff_ne, bne_eq_false_iff_eq, ne_eq] at hh; first | done | omega | (simp at hh; done)
  try rw [hh]
  clear hh
  conv => whnf
  refine (c_new room (by omega) (by omega)).mono fun r st e => ?_
  obtain ⟨rfl, rfl⟩ := e
  conv => whnf
  have hw0 : WFq ⟨[], [], [], room, -1, false⟩ := ⟨⟨by show 0 ≤ room; omega, by show room ≤ 1048576; omega, by show ((0 : Nat) : Int) ≤ room; omega, by show (-1 : Int) ≤ -1; omega, by show (-1 : Int) < _; omega⟩, fun _ => rfl⟩
  refine (c_open0 ⟨[], 0, room, -1, false, []⟩ rfl (wfk_of hw0)).mono ?_
  rw [show syncP ⟨[], 0, room, -1, false, []⟩ = ((⟨[], 0, room, -1, false, []⟩ : Pk), (0 : Int)) from rfl]
  rintro r st (⟨h, _⟩ | ⟨_, h, _⟩ | ⟨_, _, rfl, rfl⟩)
  · cases h
  · cases h
  conv => whnf
  refine (c_rnew room).mono fun r st e => ?_
  obtain ⟨rfl, rfl⟩ := e
  conv => whnf
  have co := c_ropen ⟨[], [], [], room, -1, false⟩ hw0.1
  have ho : openR ⟨[], [], [], room, -1, false⟩ = ((⟨[], [], [], room, -1, false⟩ : Rk), (0 : Int)) := by
    unfold openR
    rw [if_neg (by simp), show (⟨[], [], [], room, -1, false⟩ : Rk).s ++ (⟨[], [], [], room, -1, false⟩ : Rk).m = [] from rfl, recsB_nil, if_neg (show ¬ (([], 0) : List (List UInt8) × Nat).2 < ([] : List UInt8).length by decide)]
    rfl
  rw [ho, show (⟨[], [], [], room, -1, false⟩ : Rk).s ++ (⟨[], [], [], room, -1, false⟩ : Rk).m = [] from rfl, recsB_nil] at co
  refine co.mono ?_
  rintro q st ⟨rfl, rfl⟩
  rw [show (if ((⟨[], [], [], room, -1, false⟩ : Rk), (0 : Int)).2 = 0 then (([], 0) : List (List UInt8) × Nat).1 else []) = ([] : List (List UInt8)) from rfl, show (if ((⟨[], [], [], room, -1, false⟩ : Rk), (0 : Int)).2 = 0 then (((([], 0) : List (List UInt8) × Nat).1.length : Nat) : Int) else 0) = (0 : Int) from rfl]
  conv => whnf
  refine ⟨[1, 5, 7, 10], fun τ => τ = ⟨185, [(1, (AV.sl (.nd [.lf, .lf, .nd [.lf, .lf, .lf], .lf]) (wcA (l)) .ro)), (5, .pt 0 []), (7, .pt 2 []), (10, .pt 1 [])], ⟨[((AV.st [.sl .lf [] .ex, .sc (.int .i64 ((toP ⟨[], [], [], room, -1, false⟩)).sf), .sc (.int .i64 ((toP ⟨[], [], [], room, -1, false⟩)).room), .sc (.bool true), .sc (.int .i64 ((toP ⟨[], [], [], room, -1, false⟩)).armed), .sc (.bool ((toP ⟨[], [], [], room, -1, false⟩)).dead), .sl .lf (by8 ((toP ⟨[], [], [], room, -1, false⟩)).h) .ro]), false), (.st [(AV.st [.sl .lf (by8 ((⟨[], [], [], room, -1, false⟩ : Rk)).s) .ro, .sl .lf (by8 ((⟨[], [], [], room, -1, false⟩ : Rk)).m) .ro, .sl .lf (by8 ((⟨[], [], [], room, -1, false⟩ : Rk)).h) .ro, .sc (.int .i64 ((⟨[], [], [], room, -1, false⟩ : Rk)).room), .sc (.int .i64 ((⟨[], [], [], room, -1, false⟩ : Rk)).armed), .sc (.bool ((⟨[], [], [], room, -1, false⟩ : Rk)).dead)]), (AV.sc (.int .i64 (0))), (AV.sc (.bool (false))), (AV.sc (.bool (true)))], false), (.st [.pt 0 [], (AV.sc (.int .i64 (0))), (AV.sc (.bool (false)))], false)], [], 0⟩⟩, ?_, ?_⟩
  rotate_left
  · conv => whnf
    refine ⟨false, [0, 2, 1], 3, ?_⟩
    conv => whnf
    exact rfl
  rintro τ rfl
  conv => whnf
  refine ⟨false, [999999, 1, 5, 7, 10, 13], DoesI l, fun τ => l.length - (slotI τ 13).toNat, ?_, ?_⟩
  · conv => whnf
    refine ⟨0, ?_⟩
    conv => whnf
    exact ⟨0, ⟨[], [], [], room, -1, false⟩, 0, false, true, by omega, ⟨hw0, by omega, by omega, fun e => by cases e⟩, .inr (.inr (.inl ⟨rfl, rfl, rfl⟩))⟩
  rintro τ ⟨i, r, m, br, is, hi, hF, hH⟩
  have hwk := wfk_of hF.wf
  have hph := toP_h hF.wf
  rcases hH with ⟨rfl, hb, wp, rfl⟩ | ⟨rfl, cap, c2, L, hL, rfl⟩ | ⟨rfl, hb, rfl⟩ | ⟨rfl, cap, c2, L, hL, rfl⟩
  · obtain ⟨rfl, rfl⟩ := hF.no rfl
    apply enter3
    intro kk kK
    conv => whnf
    rw [wc_len]
    refine Branch.of (fun h1 => ?_) (fun h1 => ?_) <;> rw [h1] <;> conv => whnf
    rotate_left
    · refine kK _ _ ?_
      conv => whnf
      refine (c_awake19).mono fun r st e => ?_
      obtain ⟨rfl, rfl⟩ := e
      conv => whnf
      refine ⟨false, [], ?_⟩
      conv => whnf
      exact ⟨rfl, rfl⟩
    have h1 := of_decide_eq_true h1
    have ih : i < l.length := by omega
    have hBi := hB l[i] (List.getElem_mem ih)
    have hni := hn l[i] (List.getElem_mem ih)
    have hat := wc_at ih
    generalize l[i] = w at hBi hni hat
    refine ⟨by omega, _, hat, ?_⟩
    conv => whnf
    refine ⟨[1, 5, 7, 10, 13], DoesJ l i, ?_, ?_⟩
    rotate_left
    · by_cases d0 : w.d = 0
      · refine Branch.yes (decide_eq_true d0) ?_
        conv => whnf
        have cq := c_rput r 0 false false w.l hF.wf (by have := hBi.1; omega) (fun b hb => by have := hBi.2.2 b hb; omega) hF.m0 (by have := hF.m1; omega) _ rfl
        rw [show putR r 0 false false w.l = ((r, 0, false, 5) : Rk × Int × Bool × Int) from rfl] at cq
        refine (cq).mono fun r st e => ?_
        obtain ⟨rfl, rfl⟩ := e
        conv => whnf
        refine (c_putN _).mono fun r st e => ?_
        obtain ⟨rfl, rfl⟩ := e
        conv => whnf
        refine ⟨false, [0, 1, 3, 2, 4], 3, ?_⟩
        conv => whnf
        exact ⟨r, 0, false, false, ⟨hF.wf, by omega, by omega, fun _ => ⟨rfl, rfl⟩⟩, .inl ⟨rfl, hb, w, rfl⟩⟩
      refine Branch.no (decide_eq_false d0) ?_
      conv => whnf
      by_cases d1 : w.d = 1
      · refine Branch.yes (decide_eq_true d1) ?_
        conv => whnf
        have cq := c_ropen r hF.wf.1
        have cp := c_openD0 (toP r) hb hwk
        rw [open_to] at cp
        have hwq := open_wfq hF.wf
        have hBl : (r.s ++ r.m).length ≤ 1048576 := by
          obtain ⟨⟨w1, w2, w3, w4, w5⟩, _⟩ := hF.wf
          rw [List.length_append]
          omega
        have hcnt : (recsB (r.s ++ r.m)).1.length ≤ 1048576 := Nat.le_trans (recs_cnt _ _) hBl
        have heach : ∀ b ∈ (recsB (r.s ++ r.m)).1, b.length < 1000000000 := fun b hb => by have := recs_each _ _ b hb; omega
        have hnil := openP_nil hb
        rw [open_to] at hnil
        rw [show (toP r).b = r.s ++ r.m from rfl] at cp
        generalize (recsB (r.s ++ r.m)).1 = M at cq cp hcnt heach
        generalize openR r = q at cq cp hwq hnil
        obtain ⟨r2, e2⟩ := q
        simp only at cq cp hwq hnil
        by_cases he : e2 = 0
        rotate_left
        · rw [if_neg he, if_neg he, show (e2 == 0) = false from decide_eq_false he] at cq
          refine (cq).mono fun r st e => ?_
          obtain ⟨rfl, rfl⟩ := e
          conv => whnf
          refine cp.mono ?_
          rintro q st (⟨_, rfl, hP⟩ | ⟨h, _⟩)
          rotate_left
          · exact absurd h he
          have hF2 : FD r2 0 false false (i + 1) := ⟨hwq, by omega, by omega, fun _ => ⟨rfl, rfl⟩⟩
          subst hP
          conv => whnf
          rw [show (e2 != e2) = false by simp]
          conv => whnf
          refine (c_texts [] [] (by simp) (by simp) (fun b hb => by simp at hb)).mono fun r st e => ?_
          obtain ⟨rfl, rfl⟩ := e
          conv => whnf
          rw [show (e2 == 0) = false from decide_eq_false he]
          conv => whnf
          refine ⟨false, [0, 1, 3, 2, 4], 3, ?_⟩
          conv => whnf
          exact ⟨r2, 0, false, false, hF2, .inl ⟨rfl, hnil, w, rfl⟩⟩
        subst he
        rw [if_pos rfl, if_pos rfl] at cq
        refine (cq).mono fun r st e => ?_
        obtain ⟨rfl, rfl⟩ := e
        conv => whnf
        refine cp.mono ?_
        rintro q st (⟨h, _⟩ | ⟨_, rfl, rfl⟩)
        · exact absurd rfl h
        have hF2 : FD r2 (M.length : Int) false true (i + 1) := ⟨hwq, by omega, by omega, fun e => by cases e⟩
        conv => whnf
        refine (c_texts M M (by omega) (by omega) heach).mono fun r st e => ?_
        obtain ⟨rfl, rfl⟩ := e
        conv => whnf
        rw [beq_self_eq_true]
        conv => whnf
        refine ⟨false, [0, 1, 5, 2, 3, 4], 3, ?_⟩
        conv => whnf
        exact ⟨r2, (M.length : Int), false, true, hF2, .inr (.inr (.inl ⟨rfl, hnil, rfl⟩))⟩
      refine Branch.no (decide_eq_false d1) ?_
      conv => whnf
      by_cases d9 : w.d = 9
      · refine Branch.yes (decide_eq_true d9) ?_
        conv => whnf
        have cs := c_spoil0 (toP r) w.a.n w.y hb
        have hnil := spoil_nil hb w.a.n w.y
        rw [spoil_to] at hnil
        rw [spoil_to] at cs
        generalize (spoilP (toP r) w.a.n w.y).2 = e at cs
        have cr := c_rspoil r hF.wf.1 w.a.n hni w.y
        have hwq := spoil_wfq hF.wf w.a.n w.y
        generalize spoilR r w.a.n w.y = r2 at cs cr hwq hnil
        have hF2 : FD r2 0 false false (i + 1) := ⟨hwq, hF.m0, by have := hF.m1; omega, hF.no⟩
        refine cs.mono ?_
        rintro q st ⟨rfl, rfl⟩
        conv => whnf
        refine (cr).mono fun r st e => ?_
        obtain ⟨rfl, rfl⟩ := e
        conv => whnf
        refine ⟨false, [0, 1, 3, 2], 3, ?_⟩
        conv => whnf
        exact ⟨r2, 0, false, false, hF2, .inl ⟨rfl, hnil, w, rfl⟩⟩
      refine Branch.no (decide_eq_false d9) ?_
      conv => whnf
      have cd := c_do0x (toP r) r w.a.d w.a.b w.a.n hb hwk hph hF.wf.1 hBi.2.1
      rw [do_to, ok_to] at cd
      have hwq := wfq_do (d := w.a.d) (B := w.a.b) hF.wf hni
      generalize doR r w.a.d w.a.b w.a.n = r2 at cd hwq
      have hF2 : FD r2 0 false false (i + 1) := ⟨hwq, hF.m0, by have := hF.m1; omega, hF.no⟩
      refine ⟨[], ?_⟩
      conv => whnf
      refine cd.mono ?_
      rintro q st ⟨rfl, hP⟩
      rcases hP with ⟨hb2, rfl⟩ | ⟨cap, c2, L, hL, rfl⟩
      · conv => whnf
        refine ⟨false, [0, 1, 3, 2, 4], 3, ?_⟩
        conv => whnf
        exact ⟨r2, 0, false, false, hF2, .inl ⟨rfl, hb2, w, rfl⟩⟩
      · conv => whnf
        refine ⟨false, [0, 1, 4, 2, 3, 5], 3, ?_⟩
        conv => whnf
        exact ⟨r2, 0, false, false, hF2, .inr (.inl ⟨rfl, cap, c2, L, hL, rfl⟩)⟩
    rintro τ ⟨r, m, br, is, hF, hH⟩
    have hwk := wfk_of hF.wf
    rcases hH with ⟨rfl, hb, wp, rfl⟩ | ⟨rfl, cap, c2, L, hL, rfl⟩ | ⟨rfl, hb, rfl⟩ | ⟨rfl, cap, c2, L, hL, rfl⟩
    · obtain ⟨rfl, rfl⟩ := hF.no rfl
      conv => whnf
      refine ⟨tabF8R33, by decide +kernel, ?_⟩
      conv => whnf
      refine ⟨_, _, c_like0 (toP r) r hb hwk hF.wf.1 rfl rfl rfl, ?_⟩
      conv => whnf
      refine ⟨_, _, c_wmanyN, ?_⟩
      conv => whnf
      refine ⟨_, _, c_wbrokenN, ?_⟩
      conv => whnf
      rw [w64 (x := (i : Int) + 1) (by omega) (by omega)]
      refine kK _ _ ?_
      conv => whnf
      refine ⟨0, ?_⟩
      conv => whnf
      refine ⟨⟨i + 1, r, 0, false, false, by omega, hF, .inl ⟨rfl, hb, wp, rfl⟩⟩, ?_⟩
      show l.length - ((i : Int) + 1).toNat < l.length - (i : Int).toNat
      omega
    · obtain ⟨rfl, rfl⟩ := hF.no rfl
      conv => whnf
      refine ⟨tabF8R33, by decide +kernel, ?_⟩
      conv => whnf
      refine ⟨_, _, c_like1 (toP r) r cap c2 L hL hwk hF.wf.1 rfl rfl rfl, ?_⟩
      conv => whnf
      refine ⟨_, _, c_wmanyN, ?_⟩
      conv => whnf
      refine ⟨_, _, c_wbrokenN, ?_⟩
      conv => whnf
      rw [w64 (x := (i : Int) + 1) (by omega) (by omega)]
      refine kK _ _ ?_
      conv => whnf
      refine ⟨0, ?_⟩
      conv => whnf
      refine ⟨⟨i + 1, r, 0, false, false, by omega, hF, .inr (.inl ⟨rfl, cap, c2, L, hL, rfl⟩)⟩, ?_⟩
      show l.length - ((i : Int) + 1).toNat < l.length - (i : Int).toNat
      omega
    · conv => whnf
      refine ⟨tabF8R33, by decide +kernel, ?_⟩
      conv => whnf
      refine ⟨_, _, c_like0 (toP r) r hb hwk hF.wf.1 rfl rfl rfl, ?_⟩
      conv => whnf
      refine ⟨_, _, c_wmany0 (toP r) m br, ?_⟩
      conv => whnf
      rw [show (m != m) = false by simp]
      conv => whnf
      refine ⟨_, _, c_wbroken0 (toP r) m br, ?_⟩
      conv => whnf
      refine Branch.no (by simp) ?_
      conv => whnf
      rw [w64 (x := (i : Int) + 1) (by omega) (by omega)]
      refine kK _ _ ?_
      conv => whnf
      refine ⟨0, ?_⟩
      conv => whnf
      refine ⟨⟨i + 1, r, m, br, true, by omega, hF, .inr (.inr (.inl ⟨rfl, hb, rfl⟩))⟩, ?_⟩
      show l.length - ((i : Int) + 1).toNat < l.length - (i : Int).toNat
      omega
    · conv => whnf
      refine ⟨tabF8R33, by decide +kernel, ?_⟩
      conv => whnf
      refine ⟨_, _, c_like1 (toP r) r cap c2 L hL hwk hF.wf.1 rfl rfl rfl, ?_⟩
      conv => whnf
      refine ⟨_, _, c_wmany1 (toP r) m br cap c2 L, ?_⟩
      conv => whnf
      rw [show (m != m) = false by simp]
      conv => whnf
      refine ⟨_, _, c_wbroken1 (toP r) m br cap c2 L, ?_⟩
      conv => whnf
      refine Branch.no (by simp) ?_
      conv => whnf
      rw [w64 (x := (i : Int) + 1) (by omega) (by omega)]
      refine kK _ _ ?_
      conv => whnf
      refine ⟨1, ?_⟩
      conv => whnf
      refine ⟨⟨i + 1, r, m, br, true, by omega, hF, .inr (.inr (.inr ⟨rfl, cap, c2, L, hL, rfl⟩))⟩, ?_⟩
      show l.length - ((i : Int) + 1).toNat < l.length - (i : Int).toNat
      omega
  · obtain ⟨rfl, rfl⟩ := hF.no rfl
    apply enter3
    intro kk kK
    conv => whnf
    rw [wc_len]
    refine Branch.of (fun h1 => ?_) (fun h1 => ?_) <;> rw [h1] <;> conv => whnf
    rotate_left
    · refine kK _ _ ?_
      conv => whnf
      refine (c_awake19).mono fun r st e => ?_
      obtain ⟨rfl, rfl⟩ := e
      conv => whnf
      refine ⟨false, [], ?_⟩
      conv => whnf
      exact ⟨rfl, rfl⟩
    have h1 := of_decide_eq_true h1
    have ih : i < l.length := by omega
    have hBi := hB l[i] (List.getElem_mem ih)
    have hni := hn l[i] (List.getElem_mem ih)
    have hat := wc_at ih
    generalize l[i] = w at hBi hni hat
    refine ⟨by omega, _, hat, ?_⟩
    conv => whnf
    refine ⟨[1, 5, 7, 10, 13], DoesJ l i, ?_, ?_⟩
    rotate_left
    · by_cases d0 : w.d = 0
      · refine Branch.yes (decide_eq_true d0) ?_
        conv => whnf
        have cq := c_rput r 0 false false w.l hF.wf (by have := hBi.1; omega) (fun b hb => by have := hBi.2.2 b hb; omega) hF.m0 (by have := hF.m1; omega) _ rfl
        rw [show putR r 0 false false w.l = ((r, 0, false, 5) : Rk × Int × Bool × Int) from rfl] at cq
        refine (cq).mono fun r st e => ?_
        obtain ⟨rfl, rfl⟩ := e
        conv => whnf
        refine (c_putN _).mono fun r st e => ?_
        obtain ⟨rfl, rfl⟩ := e
        conv => whnf
        refine ⟨false, [0, 1, 2, 3, 4], 3, ?_⟩
        conv => whnf
        exact ⟨r, 0, false, false, ⟨hF.wf, by omega, by omega, fun _ => ⟨rfl, rfl⟩⟩, .inr (.inl ⟨rfl, cap, c2, L, hL, rfl⟩)⟩
      refine Branch.no (decide_eq_false d0) ?_
      conv => whnf
      by_cases d1 : w.d = 1
      · refine Branch.yes (decide_eq_true d1) ?_
        conv => whnf
        have cq := c_ropen r hF.wf.1
        have cp := c_open1 (toP r) cap c2 L hL hwk
        rw [open_to] at cp
        have hwq := open_wfq hF.wf
        have hBl : (r.s ++ r.m).length ≤ 1048576 := by
          obtain ⟨⟨w1, w2, w3, w4, w5⟩, _⟩ := hF.wf
          rw [List.length_append]
          omega
        have hcnt : (recsB (r.s ++ r.m)).1.length ≤ 1048576 := Nat.le_trans (recs_cnt _ _) hBl
        have heach : ∀ b ∈ (recsB (r.s ++ r.m)).1, b.length < 1000000000 := fun b hb => by have := recs_each _ _ b hb; omega
        rw [show (toP r).b = r.s ++ r.m from rfl] at cp
        generalize (recsB (r.s ++ r.m)).1 = M at cq cp hcnt heach
        generalize openR r = q at cq cp hwq
        obtain ⟨r2, e2⟩ := q
        simp only at cq cp hwq
        by_cases he : e2 = 0
        rotate_left
        · rw [if_neg he, if_neg he, show (e2 == 0) = false from decide_eq_false he] at cq
          refine (cq).mono fun r st e => ?_
          obtain ⟨rfl, rfl⟩ := e
          conv => whnf
          refine cp.mono ?_
          rintro q st (⟨_, rfl, hP⟩ | ⟨h, _⟩)
          rotate_left
          · exact absurd h he
          have hF2 : FD r2 0 false false (i + 1) := ⟨hwq, by omega, by omega, fun _ => ⟨rfl, rfl⟩⟩
          rcases hP with ⟨cap, c2, L, hL, rfl⟩ | ⟨cap, c2, L, cj, Lj, hL, rfl⟩ | ⟨hb2, cj, Lj, rfl⟩
          · conv => whnf
            rw [show (e2 != e2) = false by simp]
            conv => whnf
            refine (c_texts [] [] (by simp) (by simp) (fun b hb => by simp at hb)).mono fun r st e => ?_
            obtain ⟨rfl, rfl⟩ := e
            conv => whnf
            rw [show (e2 == 0) = false from decide_eq_false he]
            conv => whnf
            refine ⟨false, [0, 1, 2, 3, 4], 3, ?_⟩
            conv => whnf
            exact ⟨r2, 0, false, false, hF2, .inr (.inl ⟨rfl, cap, c2, L, hL, rfl⟩)⟩
          · conv => whnf
            rw [show (e2 != e2) = false by simp]
            conv => whnf
            refine (c_texts [] [] (by simp) (by simp) (fun b hb => by simp at hb)).mono fun r st e => ?_
            obtain ⟨rfl, rfl⟩ := e
            conv => whnf
            rw [show (e2 == 0) = false from decide_eq_false he]
            conv => whnf
            refine ⟨false, [0, 1, 5, 2, 3, 4], 3, ?_⟩
            conv => whnf
            exact ⟨r2, 0, false, false, hF2, .inr (.inl ⟨rfl, cap, c2, L, hL, rfl⟩)⟩
          · conv => whnf
            rw [show (e2 != e2) = false by simp]
            conv => whnf
            refine (c_texts [] [] (by simp) (by simp) (fun b hb => by simp at hb)).mono fun r st e => ?_
            obtain ⟨rfl, rfl⟩ := e
            conv => whnf
            rw [show (e2 == 0) = false from decide_eq_false he]
            conv => whnf
            refine ⟨false, [0, 1, 3, 2, 4], 3, ?_⟩
            conv => whnf
            exact ⟨r2, 0, false, false, hF2, .inl ⟨rfl, hb2, w, rfl⟩⟩
        subst he
        rw [if_pos rfl, if_pos rfl] at cq
        refine (cq).mono fun r st e => ?_
        obtain ⟨rfl, rfl⟩ := e
        conv => whnf
        refine cp.mono ?_
        rintro q st (⟨h, _⟩ | ⟨_, st', hP, rfl, rfl⟩)
        · exact absurd rfl h
        have hF2 : FD r2 (M.length : Int) false true (i + 1) := ⟨hwq, by omega, by omega, fun e => by cases e⟩
        rcases hP with ⟨cap, c2, L, hL, rfl⟩ | ⟨cap, c2, L, cj, Lj, hL, rfl⟩ | ⟨hb2, cj, Lj, rfl⟩
        · conv => whnf
          refine (c_texts M M (by omega) (by omega) heach).mono fun r st e => ?_
          obtain ⟨rfl, rfl⟩ := e
          conv => whnf
          rw [beq_self_eq_true]
          conv => whnf
          refine ⟨false, [0, 1, 2, 5, 3, 4], 4, ?_⟩
          conv => whnf
          exact ⟨r2, (M.length : Int), false, true, hF2, .inr (.inr (.inr ⟨rfl, cap, c2, L, hL, rfl⟩))⟩
        · conv => whnf
          refine (c_texts M M (by omega) (by omega) heach).mono fun r st e => ?_
          obtain ⟨rfl, rfl⟩ := e
          conv => whnf
          rw [beq_self_eq_true]
          conv => whnf
          refine ⟨false, [0, 1, 5, 6, 2, 3, 4], 4, ?_⟩
          conv => whnf
          exact ⟨r2, (M.length : Int), false, true, hF2, .inr (.inr (.inr ⟨rfl, cap, c2, L, hL, rfl⟩))⟩
        · conv => whnf
          refine (c_texts M M (by omega) (by omega) heach).mono fun r st e => ?_
          obtain ⟨rfl, rfl⟩ := e
          conv => whnf
          rw [beq_self_eq_true]
          conv => whnf
          refine ⟨false, [0, 1, 5, 2, 3, 4], 3, ?_⟩
          conv => whnf
          exact ⟨r2, (M.length : Int), false, true, hF2, .inr (.inr (.inl ⟨rfl, hb2, rfl⟩))⟩
      refine Branch.no (decide_eq_false d1) ?_
      conv => whnf
      by_cases d9 : w.d = 9
      · refine Branch.yes (decide_eq_true d9) ?_
        conv => whnf
        have cs := c_spoil1 (toP r) w.a.n w.y cap c2 L hL (by have := hwk.2.2.1; have := hwk.2.1; omega)
        rw [spoil_to] at cs
        generalize (spoilP (toP r) w.a.n w.y).2 = e at cs
        have cr := c_rspoil r hF.wf.1 w.a.n hni w.y
        have hwq := spoil_wfq hF.wf w.a.n w.y
        generalize spoilR r w.a.n w.y = r2 at cs cr hwq
        have hF2 : FD r2 0 false false (i + 1) := ⟨hwq, hF.m0, by have := hF.m1; omega, hF.no⟩
        refine cs.mono ?_
        rintro q st ⟨rfl, L', hL', rfl⟩
        conv => whnf
        refine (cr).mono fun r st e => ?_
        obtain ⟨rfl, rfl⟩ := e
        conv => whnf
        refine ⟨false, [0, 1, 2, 3], 3, ?_⟩
        conv => whnf
        exact ⟨r2, 0, false, false, hF2, .inr (.inl ⟨rfl, cap, c2, L', hL', rfl⟩)⟩
      refine Branch.no (decide_eq_false d9) ?_
      conv => whnf
      by_cases d4 : w.a.d = 4
      · have cd := c_doR (toP r) r w.a.b w.a.n hwk hph hF.wf.1
        rw [crash_to, ← d4] at cd
        have hwq := wfq_do (d := 4) (B := w.a.b) hF.wf hni
        rw [show doR r 4 w.a.b w.a.n = crashRr r w.a.n by simp [doR]] at hwq
        generalize crashRr r w.a.n = r2 at cd hwq
        have hF2 : FD r2 0 false false (i + 1) := ⟨hwq, hF.m0, by have := hF.m1; omega, hF.no⟩
        refine ⟨[(0, [0])], ?_⟩
        conv => whnf
        rw [List.drop_zero, hL.2.2.2]
        refine cd.mono ?_
        rintro q st ⟨rfl, hP⟩
        rcases hP with ⟨hb2, rfl⟩ | ⟨cap, c2, L, hL, rfl⟩
        · conv => whnf
          refine ⟨false, [0, 1, 3, 2, 4], 3, ?_⟩
          conv => whnf
          exact ⟨r2, 0, false, false, hF2, .inl ⟨rfl, hb2, w, rfl⟩⟩
        · conv => whnf
          refine ⟨false, [0, 1, 4, 2, 3, 5], 3, ?_⟩
          conv => whnf
          exact ⟨r2, 0, false, false, hF2, .inr (.inl ⟨rfl, cap, c2, L, hL, rfl⟩)⟩
      have cd := c_do1 (toP r) r w.a.d w.a.b w.a.n cap c2 L hL hwk hF.wf.1 hBi.2.1 d4
      rw [do_to, ok_to] at cd
      have hwq := wfq_do (d := w.a.d) (B := w.a.b) hF.wf hni
      generalize doR r w.a.d w.a.b w.a.n = r2 at cd hwq
      have hF2 : FD r2 0 false false (i + 1) := ⟨hwq, hF.m0, by have := hF.m1; omega, hF.no⟩
      refine ⟨[], ?_⟩
      conv => whnf
      refine cd.mono ?_
      rintro q st ⟨rfl, hP⟩
      rcases hP with ⟨cap, c2, L, hL, rfl⟩ | ⟨cap, c2, L, cj, Lj, hL, rfl⟩ | ⟨hb2, cj, Lj, rfl⟩
      · conv => whnf
        refine ⟨false, [0, 1, 2, 3, 4], 3, ?_⟩
        conv => whnf
        exact ⟨r2, 0, false, false, hF2, .inr (.inl ⟨rfl, cap, c2, L, hL, rfl⟩)⟩
      · conv => whnf
        refine ⟨false, [0, 1, 4, 2, 3, 5], 3, ?_⟩
        conv => whnf
        exact ⟨r2, 0, false, false, hF2, .inr (.inl ⟨rfl, cap, c2, L, hL, rfl⟩)⟩
      · conv => whnf
        refine ⟨false, [0, 1, 3, 2, 4], 3, ?_⟩
        conv => whnf
        exact ⟨r2, 0, false, false, hF2, .inl ⟨rfl, hb2, w, rfl⟩⟩
    rintro τ ⟨r, m, br, is, hF, hH⟩
    have hwk := wfk_of hF.wf
    rcases hH with ⟨rfl, hb, wp, rfl⟩ | ⟨rfl, cap, c2, L, hL, rfl⟩ | ⟨rfl, hb, rfl⟩ | ⟨rfl, cap, c2, L, hL, rfl⟩
    · obtain ⟨rfl, rfl⟩ := hF.no rfl
      conv => whnf
      refine ⟨tabF8R33, by decide +kernel, ?_⟩
      conv => whnf
      refine ⟨_, _, c_like0 (toP r) r hb hwk hF.wf.1 rfl rfl rfl, ?_⟩
      conv => whnf
      refine ⟨_, _, c_wmanyN, ?_⟩
      conv => whnf
      refine ⟨_, _, c_wbrokenN, ?_⟩
      conv => whnf
      rw [w64 (x := (i : Int) + 1) (by omega) (by omega)]
      refine kK _ _ ?_
      conv => whnf
      refine ⟨0, ?_⟩
      conv => whnf
      refine ⟨⟨i + 1, r, 0, false, false, by omega, hF, .inl ⟨rfl, hb, wp, rfl⟩⟩, ?_⟩
      show l.length - ((i : Int) + 1).toNat < l.length - (i : Int).toNat
      omega
    · obtain ⟨rfl, rfl⟩ := hF.no rfl
      conv => whnf
      refine ⟨tabF8R33, by decide +kernel, ?_⟩
      conv => whnf
      refine ⟨_, _, c_like1 (toP r) r cap c2 L hL hwk hF.wf.1 rfl rfl rfl, ?_⟩
      conv => whnf
      refine ⟨_, _, c_wmanyN, ?_⟩
      conv => whnf
      refine ⟨_, _, c_wbrokenN, ?_⟩
      conv => whnf
      rw [w64 (x := (i : Int) + 1) (by omega) (by omega)]
      refine kK _ _ ?_
      conv => whnf
      refine ⟨0, ?_⟩
      conv => whnf
      refine ⟨⟨i + 1, r, 0, false, false, by omega, hF, .inr (.inl ⟨rfl, cap, c2, L, hL, rfl⟩)⟩, ?_⟩
      show l.length - ((i : Int) + 1).toNat < l.length - (i : Int).toNat
      omega
    · conv => whnf
      refine ⟨tabF8R33, by decide +kernel, ?_⟩
      conv => whnf
      refine ⟨_, _, c_like0 (toP r) r hb hwk hF.wf.1 rfl rfl rfl, ?_⟩
      conv => whnf
      refine ⟨_, _, c_wmany0 (toP r) m br, ?_⟩
      conv => whnf
      rw [show (m != m) = false by simp]
      conv => whnf
      refine ⟨_, _, c_wbroken0 (toP r) m br, ?_⟩
      conv => whnf
      refine Branch.no (by simp) ?_
      conv => whnf
      rw [w64 (x := (i : Int) + 1) (by omega) (by omega)]
      refine kK _ _ ?_
      conv => whnf
      refine ⟨0, ?_⟩
      conv => whnf
      refine ⟨⟨i + 1, r, m, br, true, by omega, hF, .inr (.inr (.inl ⟨rfl, hb, rfl⟩))⟩, ?_⟩
      show l.length - ((i : Int) + 1).toNat < l.length - (i : Int).toNat
      omega
    · conv => whnf
      refine ⟨tabF8R33, by decide +kernel, ?_⟩
      conv => whnf
      refine ⟨_, _, c_like1 (toP r) r cap c2 L hL hwk hF.wf.1 rfl rfl rfl, ?_⟩
      conv => whnf
      refine ⟨_, _, c_wmany1 (toP r) m br cap c2 L, ?_⟩
      conv => whnf
      rw [show (m != m) = false by simp]
      conv => whnf
      refine ⟨_, _, c_wbroken1 (toP r) m br cap c2 L, ?_⟩
      conv => whnf
      refine Branch.no (by simp) ?_
      conv => whnf
      rw [w64 (x := (i : Int) + 1) (by omega) (by omega)]
      refine kK _ _ ?_
      conv => whnf
      refine ⟨1, ?_⟩
      conv => whnf
      refine ⟨⟨i + 1, r, m, br, true, by omega, hF, .inr (.inr (.inr ⟨rfl, cap, c2, L, hL, rfl⟩))⟩, ?_⟩
      show l.length - ((i : Int) + 1).toNat < l.length - (i : Int).toNat
      omega
  · apply enter3
    intro kk kK
    conv => whnf
    rw [wc_len]
    refine Branch.of (fun h1 => ?_) (fun h1 => ?_) <;> rw [h1] <;> conv => whnf
    rotate_left
    · refine kK _ _ ?_
      conv => whnf
      refine (c_awake19).mono fun r st e => ?_
      obtain ⟨rfl, rfl⟩ := e
      conv => whnf
      refine ⟨false, [], ?_⟩
      conv => whnf
      exact ⟨rfl, rfl⟩
    have h1 := of_decide_eq_true h1
    have ih : i < l.length := by omega
    have hBi := hB l[i] (List.getElem_mem ih)
    have hni := hn l[i] (List.getElem_mem ih)
    have hat := wc_at ih
    generalize l[i] = w at hBi hni hat
    refine ⟨by omega, _, hat, ?_⟩
    conv => whnf
    refine ⟨[1, 5, 7, 10, 13], DoesJ l i, ?_, ?_⟩
    rotate_left
    · by_cases d0 : w.d = 0
      · refine Branch.yes (decide_eq_true d0) ?_
        conv => whnf
        have cq := c_rput r m br true w.l hF.wf (by have := hBi.1; omega) (fun b hb => by have := hBi.2.2 b hb; omega) hF.m0 (by have := hF.m1; omega) _ rfl
        have cp := c_put0 (toP r) m br w.l hb hwk (by have := hBi.1; omega) (fun b hb => by have := hBi.2.2 b hb; omega) hF.m0 (by have := hF.m1; omega) _ rfl
        rw [put_to] at cp
        have hwq := putR_wfq hF.wf m br true w.l
        have hqm := putR_m r m br true w.l hF.m0
        generalize putR r m br true w.l = q at cq cp hwq hqm
        obtain ⟨r2, m2, br2, e2⟩ := q
        simp only at cq cp hwq hqm
        refine (cq).mono fun r st e => ?_
        obtain ⟨rfl, rfl⟩ := e
        conv => whnf
        refine cp.mono ?_
        rintro q st ⟨rfl, hP⟩
        have hF2 : FD r2 m2 br2 true (i + 1) := ⟨hwq, hqm.1, by have := hF.m1; have := hBi.1; omega, fun e => by cases e⟩
        rcases hP with ⟨hb2, rfl⟩ | ⟨cap, c2, L, hL, rfl⟩
        · conv => whnf
          refine Branch.no (by simp) ?_
          conv => whnf
          refine ⟨false, [0, 1, 2, 3, 4], 3, ?_⟩
          conv => whnf
          exact ⟨r2, m2, br2, true, hF2, .inr (.inr (.inl ⟨rfl, hb2, rfl⟩))⟩
        · conv => whnf
          refine Branch.no (by simp) ?_
          conv => whnf
          refine ⟨false, [0, 1, 5, 2, 3, 4], 4, ?_⟩
          conv => whnf
          exact ⟨r2, m2, br2, true, hF2, .inr (.inr (.inr ⟨rfl, cap, c2, L, hL, rfl⟩))⟩
      refine Branch.no (decide_eq_false d0) ?_
      conv => whnf
      by_cases d1 : w.d = 1
      · refine Branch.yes (decide_eq_true d1) ?_
        conv => whnf
        have cq := c_ropen r hF.wf.1
        have cp := c_openD0 (toP r) hb hwk
        rw [open_to] at cp
        have hwq := open_wfq hF.wf
        have hBl : (r.s ++ r.m).length ≤ 1048576 := by
          obtain ⟨⟨w1, w2, w3, w4, w5⟩, _⟩ := hF.wf
          rw [List.length_append]
          omega
        have hcnt : (recsB (r.s ++ r.m)).1.length ≤ 1048576 := Nat.le_trans (recs_cnt _ _) hBl
        have heach : ∀ b ∈ (recsB (r.s ++ r.m)).1, b.length < 1000000000 := fun b hb => by have := recs_each _ _ b hb; omega
        have hnil := openP_nil hb
        rw [open_to] at hnil
        rw [show (toP r).b = r.s ++ r.m from rfl] at cp
        generalize (recsB (r.s ++ r.m)).1 = M at cq cp hcnt heach
        generalize openR r = q at cq cp hwq hnil
        obtain ⟨r2, e2⟩ := q
        simp only at cq cp hwq hnil
        by_cases he : e2 = 0
        rotate_left
        · rw [if_neg he, if_neg he, show (e2 == 0) = false from decide_eq_false he] at cq
          refine (cq).mono fun r st e => ?_
          obtain ⟨rfl, rfl⟩ := e
          conv => whnf
          refine cp.mono ?_
          rintro q st (⟨_, rfl, hP⟩ | ⟨h, _⟩)
          rotate_left
          · exact absurd h he
          have hF2 : FD r2 0 false false (i + 1) := ⟨hwq, by omega, by omega, fun _ => ⟨rfl, rfl⟩⟩
          subst hP
          conv => whnf
          rw [show (e2 != e2) = false by simp]
          conv => whnf
          refine (c_texts [] [] (by simp) (by simp) (fun b hb => by simp at hb)).mono fun r st e => ?_
          obtain ⟨rfl, rfl⟩ := e
          conv => whnf
          rw [show (e2 == 0) = false from decide_eq_false he]
          conv => whnf
          refine ⟨false, [0, 1, 3, 2, 4], 3, ?_⟩
          conv => whnf
          exact ⟨r2, 0, false, false, hF2, .inl ⟨rfl, hnil, w, rfl⟩⟩
        subst he
        rw [if_pos rfl, if_pos rfl] at cq
        refine (cq).mono fun r st e => ?_
        obtain ⟨rfl, rfl⟩ := e
        conv => whnf
        refine cp.mono ?_
        rintro q st (⟨h, _⟩ | ⟨_, rfl, rfl⟩)
        · exact absurd rfl h
        have hF2 : FD r2 (M.length : Int) false true (i + 1) := ⟨hwq, by omega, by omega, fun e => by cases e⟩
        conv => whnf
        refine (c_texts M M (by omega) (by omega) heach).mono fun r st e => ?_
        obtain ⟨rfl, rfl⟩ := e
        conv => whnf
        rw [beq_self_eq_true]
        conv => whnf
        refine ⟨false, [0, 1, 5, 2, 3, 4], 3, ?_⟩
        conv => whnf
        exact ⟨r2, (M.length : Int), false, true, hF2, .inr (.inr (.inl ⟨rfl, hnil, rfl⟩))⟩
      refine Branch.no (decide_eq_false d1) ?_
      conv => whnf
      by_cases d9 : w.d = 9
      · refine Branch.yes (decide_eq_true d9) ?_
        conv => whnf
        have cs := c_spoil0 (toP r) w.a.n w.y hb
        have hnil := spoil_nil hb w.a.n w.y
        rw [spoil_to] at hnil
        rw [spoil_to] at cs
        generalize (spoilP (toP r) w.a.n w.y).2 = e at cs
        have cr := c_rspoil r hF.wf.1 w.a.n hni w.y
        have hwq := spoil_wfq hF.wf w.a.n w.y
        generalize spoilR r w.a.n w.y = r2 at cs cr hwq hnil
        have hF2 : FD r2 m br true (i + 1) := ⟨hwq, hF.m0, by have := hF.m1; omega, hF.no⟩
        refine cs.mono ?_
        rintro q st ⟨rfl, rfl⟩
        conv => whnf
        refine (cr).mono fun r st e => ?_
        obtain ⟨rfl, rfl⟩ := e
        conv => whnf
        refine ⟨false, [0, 1, 2, 3], 3, ?_⟩
        conv => whnf
        exact ⟨r2, m, br, true, hF2, .inr (.inr (.inl ⟨rfl, hnil, rfl⟩))⟩
      refine Branch.no (decide_eq_false d9) ?_
      conv => whnf
      have cd := c_do0x (toP r) r w.a.d w.a.b w.a.n hb hwk hph hF.wf.1 hBi.2.1
      rw [do_to, ok_to] at cd
      have hwq := wfq_do (d := w.a.d) (B := w.a.b) hF.wf hni
      generalize doR r w.a.d w.a.b w.a.n = r2 at cd hwq
      have hF2 : FD r2 m br true (i + 1) := ⟨hwq, hF.m0, by have := hF.m1; omega, hF.no⟩
      refine ⟨[], ?_⟩
      conv => whnf
      refine cd.mono ?_
      rintro q st ⟨rfl, hP⟩
      rcases hP with ⟨hb2, rfl⟩ | ⟨cap, c2, L, hL, rfl⟩
      · conv => whnf
        refine ⟨false, [0, 1, 2, 3, 4], 3, ?_⟩
        conv => whnf
        exact ⟨r2, m, br, true, hF2, .inr (.inr (.inl ⟨rfl, hb2, rfl⟩))⟩
      · conv => whnf
        refine ⟨false, [0, 1, 4, 2, 3, 5], 4, ?_⟩
        conv => whnf
        exact ⟨r2, m, br, true, hF2, .inr (.inr (.inr ⟨rfl, cap, c2, L, hL, rfl⟩))⟩
    rintro τ ⟨r, m, br, is, hF, hH⟩
    have hwk := wfk_of hF.wf
    rcases hH with ⟨rfl, hb, wp, rfl⟩ | ⟨rfl, cap, c2, L, hL, rfl⟩ | ⟨rfl, hb, rfl⟩ | ⟨rfl, cap, c2, L, hL, rfl⟩
    · obtain ⟨rfl, rfl⟩ := hF.no rfl
      conv => whnf
      refine ⟨tabF8R33, by decide +kernel, ?_⟩
      conv => whnf
      refine ⟨_, _, c_like0 (toP r) r hb hwk hF.wf.1 rfl rfl rfl, ?_⟩
      conv => whnf
      refine ⟨_, _, c_wmanyN, ?_⟩
      conv => whnf
      refine ⟨_, _, c_wbrokenN, ?_⟩
      conv => whnf
      rw [w64 (x := (i : Int) + 1) (by omega) (by omega)]
      refine kK _ _ ?_
      conv => whnf
      refine ⟨0, ?_⟩
      conv => whnf
      refine ⟨⟨i + 1, r, 0, false, false, by omega, hF, .inl ⟨rfl, hb, wp, rfl⟩⟩, ?_⟩
      show l.length - ((i : Int) + 1).toNat < l.length - (i : Int).toNat
      omega
    · obtain ⟨rfl, rfl⟩ := hF.no rfl
      conv => whnf
      refine ⟨tabF8R33, by decide +kernel, ?_⟩
      conv => whnf
      refine ⟨_, _, c_like1 (toP r) r cap c2 L hL hwk hF.wf.1 rfl rfl rfl, ?_⟩
      conv => whnf
      refine ⟨_, _, c_wmanyN, ?_⟩
      conv => whnf
      refine ⟨_, _, c_wbrokenN, ?_⟩
      conv => whnf
      rw [w64 (x := (i : Int) + 1) (by omega) (by omega)]
      refine kK _ _ ?_
      conv => whnf
      refine ⟨0, ?_⟩
      conv => whnf
      refine ⟨⟨i + 1, r, 0, false, false, by omega, hF, .inr (.inl ⟨rfl, cap, c2, L, hL, rfl⟩)⟩, ?_⟩
      show l.length - ((i : Int) + 1).toNat < l.length - (i : Int).toNat
      omega
    · conv => whnf
      refine ⟨tabF8R33, by decide +kernel, ?_⟩
      conv => whnf
      refine ⟨_, _, c_like0 (toP r) r hb hwk hF.wf.1 rfl rfl rfl, ?_⟩
      conv => whnf
      refine ⟨_, _, c_wmany0 (toP r) m br, ?_⟩
      conv => whnf
      rw [show (m != m) = false by simp]
      conv => whnf
      refine ⟨_, _, c_wbroken0 (toP r) m br, ?_⟩
      conv => whnf
      refine Branch.no (by simp) ?_
      conv => whnf
      rw [w64 (x := (i : Int) + 1) (by omega) (by omega)]
      refine kK _ _ ?_
      conv => whnf
      refine ⟨0, ?_⟩
      conv => whnf
      refine ⟨⟨i + 1, r, m, br, true, by omega, hF, .inr (.inr (.inl ⟨rfl, hb, rfl⟩))⟩, ?_⟩
      show l.length - ((i : Int) + 1).toNat < l.length - (i : Int).toNat
      omega
    · conv => whnf
      refine ⟨tabF8R33, by decide +kernel, ?_⟩
      conv => whnf
      refine ⟨_, _, c_like1 (toP r) r cap c2 L hL hwk hF.wf.1 rfl rfl rfl, ?_⟩
      conv => whnf
      refine ⟨_, _, c_wmany1 (toP r) m br cap c2 L, ?_⟩
      conv => whnf
      rw [show (m != m) = false by simp]
      conv => whnf
      refine ⟨_, _, c_wbroken1 (toP r) m br cap c2 L, ?_⟩
      conv => whnf
      refine Branch.no (by simp) ?_
      conv => whnf
      rw [w64 (x := (i : Int) + 1) (by omega) (by omega)]
      refine kK _ _ ?_
      conv => whnf
      refine ⟨1, ?_⟩
      conv => whnf
      refine ⟨⟨i + 1, r, m, br, true, by omega, hF, .inr (.inr (.inr ⟨rfl, cap, c2, L, hL, rfl⟩))⟩, ?_⟩
      show l.length - ((i : Int) + 1).toNat < l.length - (i : Int).toNat
      omega
  · apply enter3
    intro kk kK
    conv => whnf
    rw [wc_len]
    refine Branch.of (fun h1 => ?_) (fun h1 => ?_) <;> rw [h1] <;> conv => whnf
    rotate_left
    · refine kK _ _ ?_
      conv => whnf
      refine (c_awake19).mono fun r st e => ?_
      obtain ⟨rfl, rfl⟩ := e
      conv => whnf
      refine ⟨false, [], ?_⟩
      conv => whnf
      exact ⟨rfl, rfl⟩
    have h1 := of_decide_eq_true h1
    have ih : i < l.length := by omega
    have hBi := hB l[i] (List.getElem_mem ih)
    have hni := hn l[i] (List.getElem_mem ih)
    have hat := wc_at ih
    generalize l[i] = w at hBi hni hat
    refine ⟨by omega, _, hat, ?_⟩
    conv => whnf
    refine ⟨[1, 5, 7, 10, 13], DoesJ l i, ?_, ?_⟩
    rotate_left
    · by_cases d0 : w.d = 0
      · refine Branch.yes (decide_eq_true d0) ?_
        conv => whnf
        have cq := c_rput r m br true w.l hF.wf (by have := hBi.1; omega) (fun b hb => by have := hBi.2.2 b hb; omega) hF.m0 (by have := hF.m1; omega) _ rfl
        have cp := c_put1 (toP r) m br w.l cap c2 L hL hwk (by have := hBi.1; omega) (fun b hb => by have := hBi.2.2 b hb; omega) hF.m0 (by have := hF.m1; omega) _ rfl
        rw [put_to] at cp
        have hwq := putR_wfq hF.wf m br true w.l
        have hqm := putR_m r m br true w.l hF.m0
        generalize putR r m br true w.l = q at cq cp hwq hqm
        obtain ⟨r2, m2, br2, e2⟩ := q
        simp only at cq cp hwq hqm
        refine (cq).mono fun r st e => ?_
        obtain ⟨rfl, rfl⟩ := e
        conv => whnf
        refine cp.mono ?_
        rintro q st ⟨rfl, hP⟩
        have hF2 : FD r2 m2 br2 true (i + 1) := ⟨hwq, hqm.1, by have := hF.m1; have := hBi.1; omega, fun e => by cases e⟩
        rcases hP with ⟨cap, c2, L, hL, rfl⟩ | ⟨cap, c2, L, cj, Lj, hL, rfl⟩ | ⟨hb2, cj, Lj, rfl⟩
        · conv => whnf
          refine Branch.no (by simp) ?_
          conv => whnf
          refine ⟨false, [0, 1, 2, 3, 4, 5], 4, ?_⟩
          conv => whnf
          exact ⟨r2, m2, br2, true, hF2, .inr (.inr (.inr ⟨rfl, cap, c2, L, hL, rfl⟩))⟩
        · conv => whnf
          refine Branch.no (by simp) ?_
          conv => whnf
          refine ⟨false, [0, 1, 6, 3, 2, 4, 5], 4, ?_⟩
          conv => whnf
          exact ⟨r2, m2, br2, true, hF2, .inr (.inr (.inr ⟨rfl, cap, c2, L, hL, rfl⟩))⟩
        · conv => whnf
          refine Branch.no (by simp) ?_
          conv => whnf
          refine ⟨false, [0, 1, 3, 2, 4, 5], 3, ?_⟩
          conv => whnf
          exact ⟨r2, m2, br2, true, hF2, .inr (.inr (.inl ⟨rfl, hb2, rfl⟩))⟩
      refine Branch.no (decide_eq_false d0) ?_
      conv => whnf
      by_cases d1 : w.d = 1
      · refine Branch.yes (decide_eq_true d1) ?_
        conv => whnf
        have cq := c_ropen r hF.wf.1
        have cp := c_open1 (toP r) cap c2 L hL hwk
        rw [open_to] at cp
        have hwq := open_wfq hF.wf
        have hBl : (r.s ++ r.m).length ≤ 1048576 := by
          obtain ⟨⟨w1, w2, w3, w4, w5⟩, _⟩ := hF.wf
          rw [List.length_append]
          omega
        have hcnt : (recsB (r.s ++ r.m)).1.length ≤ 1048576 := Nat.le_trans (recs_cnt _ _) hBl
        have heach : ∀ b ∈ (recsB (r.s ++ r.m)).1, b.length < 1000000000 := fun b hb => by have := recs_each _ _ b hb; omega
        rw [show (toP r).b = r.s ++ r.m from rfl] at cp
        generalize (recsB (r.s ++ r.m)).1 = M at cq cp hcnt heach
        generalize openR r = q at cq cp hwq
        obtain ⟨r2, e2⟩ := q
        simp only at cq cp hwq
        by_cases he : e2 = 0
        rotate_left
        · rw [if_neg he, if_neg he, show (e2 == 0) = false from decide_eq_false he] at cq
          refine (cq).mono fun r st e => ?_
          obtain ⟨rfl, rfl⟩ := e
          conv => whnf
          refine cp.mono ?_
          rintro q st (⟨_, rfl, hP⟩ | ⟨h, _⟩)
          rotate_left
          · exact absurd h he
          have hF2 : FD r2 0 false false (i + 1) := ⟨hwq, by omega, by omega, fun _ => ⟨rfl, rfl⟩⟩
          rcases hP with ⟨cap, c2, L, hL, rfl⟩ | ⟨cap, c2, L, cj, Lj, hL, rfl⟩ | ⟨hb2, cj, Lj, rfl⟩
          · conv => whnf
            rw [show (e2 != e2) = false by simp]
            conv => whnf
            refine (c_texts [] [] (by simp) (by simp) (fun b hb => by simp at hb)).mono fun r st e => ?_
            obtain ⟨rfl, rfl⟩ := e
            conv => whnf
            rw [show (e2 == 0) = false from decide_eq_false he]
            conv => whnf
            refine ⟨false, [0, 1, 2, 3, 4, 5], 3, ?_⟩
            conv => whnf
            exact ⟨r2, 0, false, false, hF2, .inr (.inl ⟨rfl, cap, c2, L, hL, rfl⟩)⟩
          · conv => whnf
            rw [show (e2 != e2) = false by simp]
            conv => whnf
            refine (c_texts [] [] (by simp) (by simp) (fun b hb => by simp at hb)).mono fun r st e => ?_
            obtain ⟨rfl, rfl⟩ := e
            conv => whnf
            rw [show (e2 == 0) = false from decide_eq_false he]
            conv => whnf
            refine ⟨false, [0, 1, 6, 2, 3, 4, 5], 3, ?_⟩
            conv => whnf
            exact ⟨r2, 0, false, false, hF2, .inr (.inl ⟨rfl, cap, c2, L, hL, rfl⟩)⟩
          · conv => whnf
            rw [show (e2 != e2) = false by simp]
            conv => whnf
            refine (c_texts [] [] (by simp) (by simp) (fun b hb => by simp at hb)).mono fun r st e => ?_
            obtain ⟨rfl, rfl⟩ := e
            conv => whnf
            rw [show (e2 == 0) = false from decide_eq_false he]
            conv => whnf
            refine ⟨false, [0, 1, 4, 2, 3, 5], 3, ?_⟩
            conv => whnf
            exact ⟨r2, 0, false, false, hF2, .inl ⟨rfl, hb2, w, rfl⟩⟩
        subst he
        rw [if_pos rfl, if_pos rfl] at cq
        refine (cq).mono fun r st e => ?_
        obtain ⟨rfl, rfl⟩ := e
        conv => whnf
        refine cp.mono ?_
        rintro q st (⟨h, _⟩ | ⟨_, st', hP, rfl, rfl⟩)
        · exact absurd rfl h
        have hF2 : FD r2 (M.length : Int) false true (i + 1) := ⟨hwq, by omega, by omega, fun e => by cases e⟩
        rcases hP with ⟨cap, c2, L, hL, rfl⟩ | ⟨cap, c2, L, cj, Lj, hL, rfl⟩ | ⟨hb2, cj, Lj, rfl⟩
        · conv => whnf
          refine (c_texts M M (by omega) (by omega) heach).mono fun r st e => ?_
          obtain ⟨rfl, rfl⟩ := e
          conv => whnf
          rw [beq_self_eq_true]
          conv => whnf
          refine ⟨false, [0, 1, 2, 6, 3, 4, 5], 4, ?_⟩
          conv => whnf
          exact ⟨r2, (M.length : Int), false, true, hF2, .inr (.inr (.inr ⟨rfl, cap, c2, L, hL, rfl⟩))⟩
        · conv => whnf
          refine (c_texts M M (by omega) (by omega) heach).mono fun r st e => ?_
          obtain ⟨rfl, rfl⟩ := e
          conv => whnf
          rw [beq_self_eq_true]
          conv => whnf
          refine ⟨false, [0, 1, 6, 7, 2, 3, 4, 5], 4, ?_⟩
          conv => whnf
          exact ⟨r2, (M.length : Int), false, true, hF2, .inr (.inr (.inr ⟨rfl, cap, c2, L, hL, rfl⟩))⟩
        · conv => whnf
          refine (c_texts M M (by omega) (by omega) heach).mono fun r st e => ?_
          obtain ⟨rfl, rfl⟩ := e
          conv => whnf
          rw [beq_self_eq_true]
          conv => whnf
          refine ⟨false, [0, 1, 6, 2, 3, 4, 5], 3, ?_⟩
          conv => whnf
          exact ⟨r2, (M.length : Int), false, true, hF2, .inr (.inr (.inl ⟨rfl, hb2, rfl⟩))⟩
      refine Branch.no (decide_eq_false d1) ?_
      conv => whnf
      by_cases d9 : w.d = 9
      · refine Branch.yes (decide_eq_true d9) ?_
        conv => whnf
        have cs := c_spoil1 (toP r) w.a.n w.y cap c2 L hL (by have := hwk.2.2.1; have := hwk.2.1; omega)
        rw [spoil_to] at cs
        generalize (spoilP (toP r) w.a.n w.y).2 = e at cs
        have cr := c_rspoil r hF.wf.1 w.a.n hni w.y
        have hwq := spoil_wfq hF.wf w.a.n w.y
        generalize spoilR r w.a.n w.y = r2 at cs cr hwq
        have hF2 : FD r2 m br true (i + 1) := ⟨hwq, hF.m0, by have := hF.m1; omega, hF.no⟩
        refine cs.mono ?_
        rintro q st ⟨rfl, L', hL', rfl⟩
        conv => whnf
        refine (cr).mono fun r st e => ?_
        obtain ⟨rfl, rfl⟩ := e
        conv => whnf
        refine ⟨false, [0, 1, 2, 3, 4], 4, ?_⟩
        conv => whnf
        exact ⟨r2, m, br, true, hF2, .inr (.inr (.inr ⟨rfl, cap, c2, L', hL', rfl⟩))⟩
      refine Branch.no (decide_eq_false d9) ?_
      conv => whnf
      by_cases d4 : w.a.d = 4
      · have cd := c_doR (toP r) r w.a.b w.a.n hwk hph hF.wf.1
        rw [crash_to, ← d4] at cd
        have hwq := wfq_do (d := 4) (B := w.a.b) hF.wf hni
        rw [show doR r 4 w.a.b w.a.n = crashRr r w.a.n by simp [doR]] at hwq
        generalize crashRr r w.a.n = r2 at cd hwq
        have hF2 : FD r2 m br true (i + 1) := ⟨hwq, hF.m0, by have := hF.m1; omega, hF.no⟩
        refine ⟨[(0, [0])], ?_⟩
        conv => whnf
        rw [List.drop_zero, hL.2.2.2]
        refine cd.mono ?_
        rintro q st ⟨rfl, hP⟩
        rcases hP with ⟨hb2, rfl⟩ | ⟨cap, c2, L, hL, rfl⟩
        · conv => whnf
          refine ⟨false, [0, 1, 3, 2, 4, 5], 3, ?_⟩
          conv => whnf
          exact ⟨r2, m, br, true, hF2, .inr (.inr (.inl ⟨rfl, hb2, rfl⟩))⟩
        · conv => whnf
          refine ⟨false, [0, 1, 5, 3, 2, 4, 6], 4, ?_⟩
          conv => whnf
          exact ⟨r2, m, br, true, hF2, .inr (.inr (.inr ⟨rfl, cap, c2, L, hL, rfl⟩))⟩
      have cd := c_do1 (toP r) r w.a.d w.a.b w.a.n cap c2 L hL hwk hF.wf.1 hBi.2.1 d4
      rw [do_to, ok_to] at cd
      have hwq := wfq_do (d := w.a.d) (B := w.a.b) hF.wf hni
      generalize doR r w.a.d w.a.b w.a.n = r2 at cd hwq
      have hF2 : FD r2 m br true (i + 1) := ⟨hwq, hF.m0, by have := hF.m1; omega, hF.no⟩
      refine ⟨[], ?_⟩
      conv => whnf
      refine cd.mono ?_
      rintro q st ⟨rfl, hP⟩
      rcases hP with ⟨cap, c2, L, hL, rfl⟩ | ⟨cap, c2, L, cj, Lj, hL, rfl⟩ | ⟨hb2, cj, Lj, rfl⟩
      · conv => whnf
        refine ⟨false, [0, 1, 2, 3, 4, 5], 4, ?_⟩
        conv => whnf
        exact ⟨r2, m, br, true, hF2, .inr (.inr (.inr ⟨rfl, cap, c2, L, hL, rfl⟩))⟩
      · conv => whnf
        refine ⟨false, [0, 1, 5, 3, 2, 4, 6], 4, ?_⟩
        conv => whnf
        exact ⟨r2, m, br, true, hF2, .inr (.inr (.inr ⟨rfl, cap, c2, L, hL, rfl⟩))⟩
      · conv => whnf
        refine ⟨false, [0, 1, 3, 2, 4, 5], 3, ?_⟩
        conv => whnf
        exact ⟨r2, m, br, true, hF2, .inr (.inr (.inl ⟨rfl, hb2, rfl⟩))⟩
    rintro τ ⟨r, m, br, is, hF, hH⟩
    have hwk := wfk_of hF.wf
    rcases hH with ⟨rfl, hb, wp, rfl⟩ | ⟨rfl, cap, c2, L, hL, rfl⟩ | ⟨rfl, hb, rfl⟩ | ⟨rfl, cap, c2, L, hL, rfl⟩
    · obtain ⟨rfl, rfl⟩ := hF.no rfl
      conv => whnf
      refine ⟨tabF8R33, by decide +kernel, ?_⟩
      conv => whnf
      refine ⟨_, _, c_like0 (toP r) r hb hwk hF.wf.1 rfl rfl rfl, ?_⟩
      conv => whnf
      refine ⟨_, _, c_wmanyN, ?_⟩
      conv => whnf
      refine ⟨_, _, c_wbrokenN, ?_⟩
      conv => whnf
      rw [w64 (x := (i : Int) + 1) (by omega) (by omega)]
      refine kK _ _ ?_
      conv => whnf
      refine ⟨0, ?_⟩
      conv => whnf
      refine ⟨⟨i + 1, r, 0, false, false, by omega, hF, .inl ⟨rfl, hb, wp, rfl⟩⟩, ?_⟩
      show l.length - ((i : Int) + 1).toNat < l.length - (i : Int).toNat
      omega
    · obtain ⟨rfl, rfl⟩ := hF.no rfl
      conv => whnf
      refine ⟨tabF8R33, by decide +kernel, ?_⟩
      conv => whnf
      refine ⟨_, _, c_like1 (toP r) r cap c2 L hL hwk hF.wf.1 rfl rfl rfl, ?_⟩
      conv => whnf
      refine ⟨_, _, c_wmanyN, ?_⟩
      conv => whnf
      refine ⟨_, _, c_wbrokenN, ?_⟩
      conv => whnf
      rw [w64 (x := (i : Int) + 1) (by omega) (by omega)]
      refine kK _ _ ?_
      conv => whnf
      refine ⟨0, ?_⟩
      conv => whnf
      refine ⟨⟨i + 1, r, 0, false, false, by omega, hF, .inr (.inl ⟨rfl, cap, c2, L, hL, rfl⟩)⟩, ?_⟩
      show l.length - ((i : Int) + 1).toNat < l.length - (i : Int).toNat
      omega
    · conv => whnf
      refine ⟨tabF8R33, by decide +kernel, ?_⟩
      conv => whnf
      refine ⟨_, _, c_like0 (toP r) r hb hwk hF.wf.1 rfl rfl rfl, ?_⟩
      conv => whnf
      refine ⟨_, _, c_wmany0 (toP r) m br, ?_⟩
      conv => whnf
      rw [show (m != m) = false by simp]
      conv => whnf
      refine ⟨_, _, c_wbroken0 (toP r) m br, ?_⟩
      conv => whnf
      refine Branch.no (by simp) ?_
      conv => whnf
      rw [w64 (x := (i : Int) + 1) (by omega) (by omega)]
      refine kK _ _ ?_
      conv => whnf
      refine ⟨0, ?_⟩
      conv => whnf
      refine ⟨⟨i + 1, r, m, br, true, by omega, hF, .inr (.inr (.inl ⟨rfl, hb, rfl⟩))⟩, ?_⟩
      show l.length - ((i : Int) + 1).toNat < l.length - (i : Int).toNat
      omega
    · conv => whnf
      refine ⟨tabF8R33, by decide +kernel, ?_⟩
      conv => whnf
      refine ⟨_, _, c_like1 (toP r) r cap c2 L hL hwk hF.wf.1 rfl rfl rfl, ?_⟩
      conv => whnf
      refine ⟨_, _, c_wmany1 (toP r) m br cap c2 L, ?_⟩
      conv => whnf
      rw [show (m != m) = false by simp]
      conv => whnf
      refine ⟨_, _, c_wbroken1 (toP r) m br cap c2 L, ?_⟩
      conv => whnf
      refine Branch.no (by simp) ?_
      conv => whnf
      rw [w64 (x := (i : Int) + 1) (by omega) (by omega)]
      refine kK _ _ ?_
      conv => whnf
      refine ⟨1, ?_⟩
      conv => whnf
      refine ⟨⟨i + 1, r, m, br, true, by omega, hF, .inr (.inr (.inr ⟨rfl, cap, c2, L, hL, rfl⟩))⟩, ?_⟩
      show l.length - ((i : Int) + 1).toNat < l.length - (i : Int).toNat
      omega
end Go.WL.T5
