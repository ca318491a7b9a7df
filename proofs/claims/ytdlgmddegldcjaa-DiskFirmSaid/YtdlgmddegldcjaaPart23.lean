/- What is safe stays: the walk. No condition. -/
import Derived.Test.YtdlgmddegldcjaaPart20
import Derived.Test.YtdlgmddegldcjaaPart21
import Derived.Test.YtdlgmddegldcjaaPart22
set_option linter.unusedVariables false
set_option linter.unusedSimpArgs false
namespace Go.WL.T5
open Go.WL Go.Proofs
set_option maxRecDepth 20000
set_option maxHeartbeats 8000000
def r0 : Rk := ⟨[], [], [], 1048576, -1, false⟩
theorem wfr0 : WFr r0 := ⟨by decide, by decide, by decide, by decide, by decide⟩
def FirmI (l : List Ac) (τ : AS) : Prop := ∃ (i : Nat) (r : Rk), i ≤ l.length ∧ WFq r ∧ r.room = 1048576 ∧ (allR r).length ≤ 200 * i ∧
  (((toP r).b = [] ∧ allR r = [] ∧ τ = ⟨128, [(0, (AV.sl (.nd [.lf, .lf, .lf]) (acA (l)) .ro)), (3, .pt 0 []), (5, (AV.sl .lf (by8 (r.s)) .ro)), (6, .sl .lf [] .ex), (7, (AV.sc (.int .i64 ((i : Int)))))], ⟨[((AV.st [.sl .lf [] .ex, .sc (.int .i64 ((toP r)).sf), .sc (.int .i64 ((toP r)).room), .sc (.bool true), .sc (.int .i64 ((toP r)).armed), .sc (.bool ((toP r)).dead), .sl .lf (by8 ((toP r)).h) .ro]), false)], [], 0⟩⟩) ∨
   ((toP r).b = [] ∧ τ = ⟨128, [(0, (AV.sl (.nd [.lf, .lf, .lf]) (acA (l)) .ro)), (3, .pt 0 []), (5, (AV.sl .lf (by8 (r.s)) .ro)), (6, (AV.sl .lf (by8 ((allR r))) (.own 0))), (7, (AV.sc (.int .i64 ((i : Int)))))], ⟨[((AV.st [.sl .lf [] .ex, .sc (.int .i64 ((toP r)).sf), .sc (.int .i64 ((toP r)).room), .sc (.bool true), .sc (.int .i64 ((toP r)).armed), .sc (.bool ((toP r)).dead), .sl .lf (by8 ((toP r)).h) .ro]), false)], [0], 1⟩⟩) ∨
   (∃ cap c2 L, OKL (toP r).b cap c2 L ∧ τ = ⟨128, [(0, (AV.sl (.nd [.lf, .lf, .lf]) (acA (l)) .ro)), (3, .pt 0 []), (5, (AV.sl .lf (by8 (r.s)) .ro)), (6, (AV.sl .lf (by8 ((allR r))) (.own 0))), (7, (AV.sc (.int .i64 ((i : Int)))))], ⟨[((AV.st [.bs 1 [] .lf 0 ((toP r)).b.length cap, .sc (.int .i64 ((toP r)).sf), .sc (.int .i64 ((toP r)).room), .sc (.bool true), .sc (.int .i64 ((toP r)).armed), .sc (.bool ((toP r)).dead), .sl .lf (by8 ((toP r)).h) .ro]), false), (.ar c2 .lf L, false)], [0], 1⟩⟩))
theorem tk8 {b c : List UInt8} {j : Nat} (h : b.take j = c) : (by8 b).take j = by8 c := by
  rw [← h]
  simp [by8]
theorem pre_s {r r2 : Rk} (h : ∃ t, r2.s = r.s ++ t) : (r2.s ++ r2.m).take r.s.length = r.s ∧ r.s.length ≤ (r2.s ++ r2.m).length ∧ r.s.length ≤ r2.s.length := by
  obtain ⟨t, e⟩ := h
  rw [e]
  refine ⟨by rw [List.append_assoc, List.take_left], ?_, ?_⟩
  · simp only [List.length_append]; omega
  · simp only [List.length_append]; omega
theorem c_diskfirm (l : List Ac) (hl : l.length ≤ 9223372036854775807) (hn : ∀ a ∈ l, a.n < 9223372036854775808) : FnOK Try.prog D 4 [(AV.sl (.nd [.lf, .lf, .lf]) (acA (l)) .ro)] [] (fun r st => r = (AV.sc (.bool (true))) ∧ st = []) := by
  refine fnok_of_Ws [1008005, 4013006, 7500013, 7000010, 8000000] hmix tabOK Try.func4 rfl rfl (Nat.le_of_ble_eq_true rfl) ?_
  conv => whnf
  refine (c_light18 l hl).mono fun r st e => ?_
  obtain ⟨rfl, rfl⟩ := e
  conv => whnf
  cases hL : lightB l with
  | false =>
    conv => whnf
    refine (c_awake18).mono fun r st e => ?_
    obtain ⟨rfl, rfl⟩ := e
    conv => whnf
    refine ⟨false, [], ?_⟩
    conv => whnf
    exact ⟨rfl, rfl⟩
  | true =>
  obtain ⟨hl60, hB⟩ := light_of hL
  conv => whnf
  refine (c_new 1048576 (by decide) (by decide)).mono fun r st e => ?_
  obtain ⟨rfl, rfl⟩ := e
  conv => whnf
  refine ⟨false, [999999, 0, 3, 5, 6, 7], FirmI l, fun τ => l.length - (slotI τ 7).toNat, ?_, ?_⟩
  · conv => whnf
    refine ⟨0, ?_⟩
    conv => whnf
    refine ⟨0, r0, by omega, ⟨wfr0, fun _ => rfl⟩, rfl, by decide, .inl ⟨rfl, rfl, rfl⟩⟩
  rintro τ ⟨i, r, hi, hq, hroom, hlen, h⟩
  have hwk := wfk_of hq
  have hph := toP_h hq
  rcases h with ⟨hb, hA, rfl⟩ | ⟨hb, rfl⟩ | ⟨cap0, c20, L0, hL0, rfl⟩
  · have hh0 : (toP r).h = [] := (List.append_eq_nil_iff.1 hA).2
    apply enter3
    intro kk kK
    conv => whnf
    rw [ac_len]
    refine Branch.of (fun h1 => ?_) (fun h1 => ?_) <;> rw [h1] <;> conv => whnf
    rotate_left
    · refine kK _ _ ?_
      conv => whnf
      refine (c_awake18).mono fun r st e => ?_
      obtain ⟨rfl, rfl⟩ := e
      conv => whnf
      refine ⟨false, [], ?_⟩
      conv => whnf
      exact ⟨rfl, rfl⟩
    have h1 := of_decide_eq_true h1
    have ih : i < l.length := by omega
    have hBi := hB l[i] (List.getElem_mem ih)
    have hni := hn l[i] (List.getElem_mem ih)
    have hat := ac_at ih
    generalize l[i] = a at hBi hni hat
    have hqn := wfq_do (d := a.d) (B := a.b) hq hni
    obtain ⟨d, B, n⟩ := a
    simp only at hBi hni hat hqn
    refine ⟨by omega, _, hat, ?_⟩
    conv => whnf
    by_cases h2 : d = 2
    · subst h2
      conv => whnf
      refine ⟨[0], ?_⟩
      conv => whnf
      rw [w64 (x := (i : Int) + 1) (by omega) (by omega)]
      refine kK _ _ ?_
      conv => whnf
      refine ⟨0, ?_⟩
      conv => whnf
      refine ⟨⟨i + 1, r, by omega, hq, by omega, by omega, .inl ⟨hb, hA, rfl⟩⟩, ?_⟩
      show l.length - ((i : Int) + 1).toNat < l.length - (i : Int).toNat
      omega
    have hfs := firm_s (B := B) (n := n) hq h2
    have hfl := firm_len (d := d) (B := B) (n := n) hq h2 (by omega)
    have hfr := firm_room (r := r) (d := d) (B := B) (n := n)
    refine Branch.no (decide_eq_false h2) ?_
    conv => whnf
    refine (c_dead0 (toP r)).mono fun r st e => ?_
    obtain ⟨rfl, rfl⟩ := e
    conv => whnf
    by_cases h0 : d = 0
    · subst h0
      cases hdd : r.dead with
      | false =>
        have cd := c_do0x (toP r) r0 0 B n hb hwk hph wfr0 hBi
        rw [do_to] at cd
        have hall := firm_all (d := 0) (B := B) (n := n) hq (by decide) (by decide) (by omega)
        rw [if_pos ⟨rfl, hdd⟩] at hall
        generalize doR r 0 B n = r2 at cd hqn hfs hfl hfr hall
        generalize doR r0 0 B n = rx at cd
        generalize doOk (toP r) r0 0 B n = ox at cd
        obtain ⟨st0, hst0⟩ := P0_ex (toP r2)
        refine ⟨[], ?_⟩
        conv => whnf
        refine ⟨tabF4R13, by decide +kernel, ?_⟩
        conv => whnf
        refine ⟨_, _, c_rnew 1048576, ?_⟩
        conv => whnf
        refine ⟨by omega, _, hat, ?_⟩
        conv => whnf
        refine ⟨_, cd, ⟨_, st0, rfl, hst0⟩, ?_⟩
        rintro q st ⟨rfl, hP⟩
        rcases hP with ⟨hb2, rfl⟩ | ⟨cap, c2, L, hL, rfl⟩
        · conv => whnf
          refine ⟨by omega, _, hat, ?_⟩
          conv => whnf
          refine Branch.yes (show (!r.dead) = true by rw [hdd]; rfl) ?_
          conv => whnf
          refine ⟨by omega, _, hat, ?_⟩
          conv => whnf
          refine ⟨by simp only [List.length_nil, len8]; omega, ?_⟩
          conv => whnf
          rw [show ([] : List AV) ++ by8 B = by8 (allR r2) by rw [hall, hA]; rfl]
          cases hd2 : r2.dead with
          | true =>
            refine (c_allD0 (toP r2) hd2).mono fun r st e => ?_
            obtain ⟨rfl, rfl⟩ := e
            conv => whnf
            rw [← hfs.2 hd2]
            refine ⟨[0], ?_⟩
            conv => whnf
            rw [w64 (x := (i : Int) + 1) (by omega) (by omega)]
            refine kK _ _ ?_
            conv => whnf
            refine ⟨0, ?_⟩
            conv => whnf
            refine ⟨⟨i + 1, r2, by omega, hqn, by omega, by omega, .inr (.inl ⟨hb2, rfl⟩)⟩, ?_⟩
            show l.length - ((i : Int) + 1).toNat < l.length - (i : Int).toNat
            omega
          | false =>
            refine (c_allO0 (toP r2) hb2 (wfk_of hqn) hd2).mono fun r st e => ?_
            obtain ⟨rfl, rfl⟩ := e
            conv => whnf
            obtain ⟨k1, k2, k3⟩ := pre_s hfs.1
            have k1 : (toP r2).b.take r.s.length = r.s := k1
            have k2 : r.s.length ≤ (toP r2).b.length := k2
            have ks : (toP r2).b.take r2.s.length = r2.s := List.take_left
            have kl : r2.s.length ≤ (toP r2).b.length := by show r2.s.length ≤ (r2.s ++ r2.m).length; rw [List.length_append]; omega
            have lb : (by8 (toP r2).b).length = (toP r2).b.length := len8 _
            have ls : (by8 r.s).length = r.s.length := len8 _
            have hbz : (toP r2).b.length < 9223372036854775807 := by
              have := (wfk_of hqn).2.2.1
              have := (wfk_of hqn).2.1
              omega
            have hAt : (allR r2 : List UInt8).take (toP r2).b.length = (toP r2).b := by have := hqn.2 hd2; show (r2.s ++ r2.m ++ r2.h).take (r2.s ++ r2.m).length = _; rw [this, List.append_nil, List.take_length]; rfl
            have hAl : (toP r2).b.length ≤ (allR r2 : List UInt8).length := by show (r2.s ++ r2.m).length ≤ (r2.s ++ r2.m ++ r2.h).length; rw [List.length_append (bs := r2.h)]; omega
            have lA : (by8 (allR r2)).length = (allR r2 : List UInt8).length := len8 _
            generalize hbe : (toP r2).b = b2 at *
            rw [len8, len8, decide_eq_false (show ¬ (b2.length : Int) < (r.s.length : Int) by omega)]
            conv => whnf
            refine ⟨by omega, by omega, by omega, ?_⟩
            conv => whnf
            rw [show List.take ((((by8 r.s).length : Nat) : Int).toNat - 0) (List.drop 0 (by8 b2)) = by8 r.s by rw [Int.toNat_natCast, List.drop_zero, ls]; exact tk8 k1]
            refine (c_same r.s r.s (by omega) (m1 := .ro) (m2 := .ro) (.inr rfl) (.inr rfl)).mono fun r st e => ?_
            obtain ⟨rfl, rfl⟩ := e
            conv => whnf
            rw [beq_self_eq_true]
            conv => whnf
            rw [decide_eq_false (show ¬ (((by8 b2).length : Nat) : Int) > (((by8 (allR r2)).length : Nat) : Int) by rw [lb, lA]; omega)]
            conv => whnf
            refine ⟨by omega, by omega, by omega, ?_⟩
            conv => whnf
            rw [show List.take ((((by8 b2).length : Nat) : Int).toNat - 0) (List.drop 0 (by8 (allR r2))) = by8 b2 by rw [Int.toNat_natCast, List.drop_zero, lb]; exact tk8 hAt]
            refine (c_same b2 b2 hbz (m1 := .ro) (m2 := .ro) (.inr rfl) (.inr rfl)).mono fun r st e => ?_
            obtain ⟨rfl, rfl⟩ := e
            conv => whnf
            rw [beq_self_eq_true]
            conv => whnf
            subst hbe
            refine (c_safe0 (toP r2)).mono fun r st e => ?_
            obtain ⟨rfl, rfl⟩ := e
            conv => whnf
            rw [decide_eq_false (show ¬ ((toP r2).sf < (((by8 r.s).length : Nat) : Int)) by rw [ls]; show ¬ ((r2.s.length : Int) < (r.s.length : Int)); omega)]
            conv => whnf
            refine (c_safe0 (toP r2)).mono fun r st e => ?_
            obtain ⟨rfl, rfl⟩ := e
            conv => whnf
            rw [decide_eq_false (show ¬ ((toP r2).sf > (((by8 (toP r2).b).length : Nat) : Int)) by rw [lb]; show ¬ ((r2.s.length : Int) > ((toP r2).b.length : Int)); omega)]
            conv => whnf
            refine (c_safe0 (toP r2)).mono fun r st e => ?_
            obtain ⟨rfl, rfl⟩ := e
            conv => whnf
            refine ⟨by show (0 : Int) ≤ (r2.s.length : Int); omega, by omega, by show r2.s.length ≤ (by8 (toP r2).b).length; rw [lb]; exact kl, ?_⟩
            conv => whnf
            rw [show List.take ((toP r2).sf.toNat - 0) (List.drop 0 (by8 (toP r2).b)) = by8 r2.s by rw [List.drop_zero]; exact tk8 ks]
            refine ⟨by omega, _, hat, ?_⟩
            conv => whnf
            refine ⟨[0], ?_⟩
            conv => whnf
            rw [w64 (x := (i : Int) + 1) (by omega) (by omega)]
            refine kK _ _ ?_
            conv => whnf
            refine ⟨0, ?_⟩
            conv => whnf
            refine ⟨⟨i + 1, r2, by omega, hqn, by omega, by omega, .inr (.inl ⟨hb2, rfl⟩)⟩, ?_⟩
            show l.length - ((i : Int) + 1).toNat < l.length - (i : Int).toNat
            omega
        · conv => whnf
          refine ⟨by omega, _, hat, ?_⟩
          conv => whnf
          refine Branch.yes (show (!r.dead) = true by rw [hdd]; rfl) ?_
          conv => whnf
          refine ⟨by omega, _, hat, ?_⟩
          conv => whnf
          refine ⟨by simp only [List.length_nil, len8]; omega, ?_⟩
          conv => whnf
          rw [show ([] : List AV) ++ by8 B = by8 (allR r2) by rw [hall, hA]; rfl]
          cases hd2 : r2.dead with
          | true =>
            refine (c_allD1 (toP r2) cap c2 L hd2).mono fun r st e => ?_
            obtain ⟨rfl, rfl⟩ := e
            conv => whnf
            rw [← hfs.2 hd2]
            refine ⟨[0, 1], ?_⟩
            conv => whnf
            rw [w64 (x := (i : Int) + 1) (by omega) (by omega)]
            refine kK _ _ ?_
            conv => whnf
            refine ⟨1, ?_⟩
            conv => whnf
            refine ⟨⟨i + 1, r2, by omega, hqn, by omega, by omega, .inr (.inr ⟨cap, c2, L, hL, rfl⟩)⟩, ?_⟩
            show l.length - ((i : Int) + 1).toNat < l.length - (i : Int).toNat
            omega
          | false =>
            refine (c_allO1 (toP r2) cap c2 L hL (wfk_of hqn) hd2).mono fun r st e => ?_
            obtain ⟨rfl, rfl⟩ := e
            conv => whnf
            obtain ⟨k1, k2, k3⟩ := pre_s hfs.1
            have k1 : (toP r2).b.take r.s.length = r.s := k1
            have k2 : r.s.length ≤ (toP r2).b.length := k2
            have ks : (toP r2).b.take r2.s.length = r2.s := List.take_left
            have kl : r2.s.length ≤ (toP r2).b.length := by show r2.s.length ≤ (r2.s ++ r2.m).length; rw [List.length_append]; omega
            have lb : (by8 (toP r2).b).length = (toP r2).b.length := len8 _
            have ls : (by8 r.s).length = r.s.length := len8 _
            have hbz : (toP r2).b.length < 9223372036854775807 := by
              have := (wfk_of hqn).2.2.1
              have := (wfk_of hqn).2.1
              omega
            have hAt : (allR r2 : List UInt8).take (toP r2).b.length = (toP r2).b := by have := hqn.2 hd2; show (r2.s ++ r2.m ++ r2.h).take (r2.s ++ r2.m).length = _; rw [this, List.append_nil, List.take_length]; rfl
            have hAl : (toP r2).b.length ≤ (allR r2 : List UInt8).length := by show (r2.s ++ r2.m).length ≤ (r2.s ++ r2.m ++ r2.h).length; rw [List.length_append (bs := r2.h)]; omega
            have lA : (by8 (allR r2)).length = (allR r2 : List UInt8).length := len8 _
            generalize hbe : (toP r2).b = b2 at *
            rw [len8, len8, decide_eq_false (show ¬ (b2.length : Int) < (r.s.length : Int) by omega)]
            conv => whnf
            refine ⟨by omega, by omega, by omega, ?_⟩
            conv => whnf
            rw [show List.take ((((by8 r.s).length : Nat) : Int).toNat - 0) (List.drop 0 (by8 b2)) = by8 r.s by rw [Int.toNat_natCast, List.drop_zero, ls]; exact tk8 k1]
            refine (c_same r.s r.s (by omega) (m1 := .ro) (m2 := .ro) (.inr rfl) (.inr rfl)).mono fun r st e => ?_
            obtain ⟨rfl, rfl⟩ := e
            conv => whnf
            rw [beq_self_eq_true]
            conv => whnf
            rw [decide_eq_false (show ¬ (((by8 b2).length : Nat) : Int) > (((by8 (allR r2)).length : Nat) : Int) by rw [lb, lA]; omega)]
            conv => whnf
            refine ⟨by omega, by omega, by omega, ?_⟩
            conv => whnf
            rw [show List.take ((((by8 b2).length : Nat) : Int).toNat - 0) (List.drop 0 (by8 (allR r2))) = by8 b2 by rw [Int.toNat_natCast, List.drop_zero, lb]; exact tk8 hAt]
            refine (c_same b2 b2 hbz (m1 := .ro) (m2 := .ro) (.inr rfl) (.inr rfl)).mono fun r st e => ?_
            obtain ⟨rfl, rfl⟩ := e
            conv => whnf
            rw [beq_self_eq_true]
            conv => whnf
            subst hbe
            refine (c_safe1 (toP r2) cap c2 L).mono fun r st e => ?_
            obtain ⟨rfl, rfl⟩ := e
            conv => whnf
            rw [decide_eq_false (show ¬ ((toP r2).sf < (((by8 r.s).length : Nat) : Int)) by rw [ls]; show ¬ ((r2.s.length : Int) < (r.s.length : Int)); omega)]
            conv => whnf
            refine (c_safe1 (toP r2) cap c2 L).mono fun r st e => ?_
            obtain ⟨rfl, rfl⟩ := e
            conv => whnf
            rw [decide_eq_false (show ¬ ((toP r2).sf > (((by8 (toP r2).b).length : Nat) : Int)) by rw [lb]; show ¬ ((r2.s.length : Int) > ((toP r2).b.length : Int)); omega)]
            conv => whnf
            refine (c_safe1 (toP r2) cap c2 L).mono fun r st e => ?_
            obtain ⟨rfl, rfl⟩ := e
            conv => whnf
            refine ⟨by show (0 : Int) ≤ (r2.s.length : Int); omega, by omega, by show r2.s.length ≤ (by8 (toP r2).b).length; rw [lb]; exact kl, ?_⟩
            conv => whnf
            rw [show List.take ((toP r2).sf.toNat - 0) (List.drop 0 (by8 (toP r2).b)) = by8 r2.s by rw [List.drop_zero]; exact tk8 ks]
            refine ⟨by omega, _, hat, ?_⟩
            conv => whnf
            refine ⟨[0, 1], ?_⟩
            conv => whnf
            rw [w64 (x := (i : Int) + 1) (by omega) (by omega)]
            refine kK _ _ ?_
            conv => whnf
            refine ⟨1, ?_⟩
            conv => whnf
            refine ⟨⟨i + 1, r2, by omega, hqn, by omega, by omega, .inr (.inr ⟨cap, c2, L, hL, rfl⟩)⟩, ?_⟩
            show l.length - ((i : Int) + 1).toNat < l.length - (i : Int).toNat
            omega
      | true =>
        have cd := c_do0e (toP r) r0 0 B n hb hh0 hwk wfr0 hBi (by decide) (fun _ => hdd)
        rw [do_to] at cd
        have hall := firm_all (d := 0) (B := B) (n := n) hq (by decide) (by decide) (by omega)
        rw [if_neg (fun e => by rw [hdd] at e; cases e.2)] at hall
        generalize doR r 0 B n = r2 at cd hqn hfs hfl hfr hall
        generalize doR r0 0 B n = rx at cd
        generalize doOk (toP r) r0 0 B n = ox at cd
        have hA2 : allR r2 = [] := hall.trans hA
        have hb2 : (toP r2).b = [] := (List.append_eq_nil_iff.1 hA2).1
        refine ⟨[], ?_⟩
        conv => whnf
        refine ⟨tabF4R13, by decide +kernel, ?_⟩
        conv => whnf
        refine ⟨_, _, c_rnew 1048576, ?_⟩
        conv => whnf
        refine ⟨by omega, _, hat, ?_⟩
        conv => whnf
        refine ⟨_, cd, ⟨_, _, rfl, rfl⟩, ?_⟩
        rintro q st ⟨rfl, rfl⟩
        conv => whnf
        refine ⟨by omega, _, hat, ?_⟩
        conv => whnf
        refine Branch.no (show (!r.dead) = false by rw [hdd]; rfl) ?_
        conv => whnf
        cases hd2 : r2.dead with
        | true =>
          refine (c_allD0 (toP r2) hd2).mono fun r st e => ?_
          obtain ⟨rfl, rfl⟩ := e
          conv => whnf
          rw [← hfs.2 hd2]
          refine ⟨[0], ?_⟩
          conv => whnf
          rw [w64 (x := (i : Int) + 1) (by omega) (by omega)]
          refine kK _ _ ?_
          conv => whnf
          refine ⟨0, ?_⟩
          conv => whnf
          refine ⟨⟨i + 1, r2, by omega, hqn, by omega, by omega, .inl ⟨hb2, hA2, rfl⟩⟩, ?_⟩
          show l.length - ((i : Int) + 1).toNat < l.length - (i : Int).toNat
          omega
        | false =>
          refine (c_allO0 (toP r2) hb2 (wfk_of hqn) hd2).mono fun r st e => ?_
          obtain ⟨rfl, rfl⟩ := e
          conv => whnf
          obtain ⟨k1, k2, k3⟩ := pre_s hfs.1
          have k1 : (toP r2).b.take r.s.length = r.s := k1
          have k2 : r.s.length ≤ (toP r2).b.length := k2
          have ks : (toP r2).b.take r2.s.length = r2.s := List.take_left
          have kl : r2.s.length ≤ (toP r2).b.length := by show r2.s.length ≤ (r2.s ++ r2.m).length; rw [List.length_append]; omega
          have lb : (by8 (toP r2).b).length = (toP r2).b.length := len8 _
          have ls : (by8 r.s).length = r.s.length := len8 _
          have hbz : (toP r2).b.length < 9223372036854775807 := by
            have := (wfk_of hqn).2.2.1
            have := (wfk_of hqn).2.1
            omega
          have hAt : ([] : List UInt8).take (toP r2).b.length = (toP r2).b := by rw [hb2]; rfl
          have hAl : (toP r2).b.length ≤ ([] : List UInt8).length := by rw [hb2]; exact Nat.le_refl _
          have lA : (([] : List AV)).length = ([] : List UInt8).length := rfl
          generalize hbe : (toP r2).b = b2 at *
          rw [len8, len8, decide_eq_false (show ¬ (b2.length : Int) < (r.s.length : Int) by omega)]
          conv => whnf
          refine ⟨by omega, by omega, by omega, ?_⟩
          conv => whnf
          rw [show List.take ((((by8 r.s).length : Nat) : Int).toNat - 0) (List.drop 0 (by8 b2)) = by8 r.s by rw [Int.toNat_natCast, List.drop_zero, ls]; exact tk8 k1]
          refine (c_same r.s r.s (by omega) (m1 := .ro) (m2 := .ro) (.inr rfl) (.inr rfl)).mono fun r st e => ?_
          obtain ⟨rfl, rfl⟩ := e
          conv => whnf
          rw [beq_self_eq_true]
          conv => whnf
          rw [decide_eq_false (show ¬ (((by8 b2).length : Nat) : Int) > (((([] : List AV)).length : Nat) : Int) by rw [lb, lA]; omega)]
          conv => whnf
          refine ⟨by omega, by omega, by omega, ?_⟩
          conv => whnf
          refine (c_same b2 [] hbz (m1 := .ro) (m2 := .ex) (.inr rfl) (.inl rfl)).mono fun r st e => ?_
          obtain ⟨rfl, rfl⟩ := e
          conv => whnf
          rw [show (b2 == []) = true by rw [hb2]; rfl]
          conv => whnf
          subst hbe
          refine (c_safe0 (toP r2)).mono fun r st e => ?_
          obtain ⟨rfl, rfl⟩ := e
          conv => whnf
          rw [decide_eq_false (show ¬ ((toP r2).sf < (((by8 r.s).length : Nat) : Int)) by rw [ls]; show ¬ ((r2.s.length : Int) < (r.s.length : Int)); omega)]
          conv => whnf
          refine (c_safe0 (toP r2)).mono fun r st e => ?_
          obtain ⟨rfl, rfl⟩ := e
          conv => whnf
          rw [decide_eq_false (show ¬ ((toP r2).sf > (((by8 (toP r2).b).length : Nat) : Int)) by rw [lb]; show ¬ ((r2.s.length : Int) > ((toP r2).b.length : Int)); omega)]
          conv => whnf
          refine (c_safe0 (toP r2)).mono fun r st e => ?_
          obtain ⟨rfl, rfl⟩ := e
          conv => whnf
          refine ⟨by show (0 : Int) ≤ (r2.s.length : Int); omega, by omega, by show r2.s.length ≤ (by8 (toP r2).b).length; rw [lb]; exact kl, ?_⟩
          conv => whnf
          rw [show List.take ((toP r2).sf.toNat - 0) (List.drop 0 (by8 (toP r2).b)) = by8 r2.s by rw [List.drop_zero]; exact tk8 ks]
          refine ⟨by omega, _, hat, ?_⟩
          conv => whnf
          refine ⟨[0], ?_⟩
          conv => whnf
          rw [w64 (x := (i : Int) + 1) (by omega) (by omega)]
          refine kK _ _ ?_
          conv => whnf
          refine ⟨0, ?_⟩
          conv => whnf
          refine ⟨⟨i + 1, r2, by omega, hqn, by omega, by omega, .inl ⟨hb2, hA2, rfl⟩⟩, ?_⟩
          show l.length - ((i : Int) + 1).toNat < l.length - (i : Int).toNat
          omega
    by_cases h4 : d = 4
    · subst h4
      have cd := c_do0e (toP r) r0 4 B n hb hh0 hwk wfr0 hBi (by decide) (fun e => by cases e)
      rw [do_to, show doR r 4 B n = crashRr r n by simp [doR]] at cd
      rw [show doR r 4 B n = crashRr r n by simp [doR]] at hqn hfs hfl hfr
      have hd2 : (crashRr r n).dead = false := rfl
      have hcr : ∃ t, allR r = (crashRr r n).s ++ (crashRr r n).m ++ t := ⟨(r.m ++ r.h).drop (min (max n 0) ((r.m ++ r.h).length : Int)).toNat, by simp [allR, crashRr]⟩
      generalize crashRr r n = r2 at cd hqn hfs hfl hfr hcr hd2
      generalize doR r0 4 B n = rx at cd
      generalize doOk (toP r) r0 4 B n = ox at cd
      have hA2 : allR r2 = [] := by
        obtain ⟨t, ht⟩ := hcr
        rw [hA] at ht
        have := hqn.2 hd2
        unfold allR
        rw [this]
        have ht := congrArg List.length ht
        simp only [List.length_append, List.length_nil] at ht
        exact List.eq_nil_of_length_eq_zero (by simp only [List.length_append, List.length_nil]; omega)
      have hb2 : (toP r2).b = [] := (List.append_eq_nil_iff.1 hA2).1
      refine ⟨[], ?_⟩
      conv => whnf
      refine ⟨tabF4R13, by decide +kernel, ?_⟩
      conv => whnf
      refine ⟨_, _, c_rnew 1048576, ?_⟩
      conv => whnf
      refine ⟨by omega, _, hat, ?_⟩
      conv => whnf
      refine ⟨_, cd, ⟨_, _, rfl, rfl⟩, ?_⟩
      rintro q st ⟨rfl, rfl⟩
      conv => whnf
      refine ⟨by omega, _, hat, ?_⟩
      conv => whnf
      refine (c_allO0 (toP r2) hb2 (wfk_of hqn) hd2).mono fun r st e => ?_
      obtain ⟨rfl, rfl⟩ := e
      conv => whnf
      obtain ⟨k1, k2, k3⟩ := pre_s hfs.1
      have k1 : (toP r2).b.take r.s.length = r.s := k1
      have k2 : r.s.length ≤ (toP r2).b.length := k2
      have ks : (toP r2).b.take r2.s.length = r2.s := List.take_left
      have kl : r2.s.length ≤ (toP r2).b.length := by show r2.s.length ≤ (r2.s ++ r2.m).length; rw [List.length_append]; omega
      have lb : (by8 (toP r2).b).length = (toP r2).b.length := len8 _
      have ls : (by8 r.s).length = r.s.length := len8 _
      have hbz : (toP r2).b.length < 9223372036854775807 := by
        have := (wfk_of hqn).2.2.1
        have := (wfk_of hqn).2.1
        omega
      have hAt : ([] : List UInt8).take (toP r2).b.length = (toP r2).b := by rw [hb2]; rfl
      have hAl : (toP r2).b.length ≤ ([] : List UInt8).length := by rw [hb2]; exact Nat.le_refl _
      have lA : (([] : List AV)).length = ([] : List UInt8).length := rfl
      generalize hbe : (toP r2).b = b2 at *
      rw [len8, len8, decide_eq_false (show ¬ (b2.length : Int) < (r.s.length : Int) by omega)]
      conv => whnf
      refine ⟨by omega, by omega, by omega, ?_⟩
      conv => whnf
      rw [show List.take ((((by8 r.s).length : Nat) : Int).toNat - 0) (List.drop 0 (by8 b2)) = by8 r.s by rw [Int.toNat_natCast, List.drop_zero, ls]; exact tk8 k1]
      refine (c_same r.s r.s (by omega) (m1 := .ro) (m2 := .ro) (.inr rfl) (.inr rfl)).mono fun r st e => ?_
      obtain ⟨rfl, rfl⟩ := e
      conv => whnf
      rw [beq_self_eq_true]
      conv => whnf
      rw [decide_eq_false (show ¬ (((by8 b2).length : Nat) : Int) > (((([] : List AV)).length : Nat) : Int) by rw [lb, lA]; omega)]
      conv => whnf
      refine ⟨by omega, by omega, by omega, ?_⟩
      conv => whnf
      refine (c_same b2 [] hbz (m1 := .ro) (m2 := .ex) (.inr rfl) (.inl rfl)).mono fun r st e => ?_
      obtain ⟨rfl, rfl⟩ := e
      conv => whnf
      rw [show (b2 == []) = true by rw [hb2]; rfl]
      conv => whnf
      subst hbe
      refine (c_safe0 (toP r2)).mono fun r st e => ?_
      obtain ⟨rfl, rfl⟩ := e
      conv => whnf
      rw [decide_eq_false (show ¬ ((toP r2).sf < (((by8 r.s).length : Nat) : Int)) by rw [ls]; show ¬ ((r2.s.length : Int) < (r.s.length : Int)); omega)]
      conv => whnf
      refine (c_safe0 (toP r2)).mono fun r st e => ?_
      obtain ⟨rfl, rfl⟩ := e
      conv => whnf
      rw [decide_eq_false (show ¬ ((toP r2).sf > (((by8 (toP r2).b).length : Nat) : Int)) by rw [lb]; show ¬ ((r2.s.length : Int) > ((toP r2).b.length : Int)); omega)]
      conv => whnf
      refine (c_safe0 (toP r2)).mono fun r st e => ?_
      obtain ⟨rfl, rfl⟩ := e
      conv => whnf
      refine ⟨by show (0 : Int) ≤ (r2.s.length : Int); omega, by omega, by show r2.s.length ≤ (by8 (toP r2).b).length; rw [lb]; exact kl, ?_⟩
      conv => whnf
      rw [show List.take ((toP r2).sf.toNat - 0) (List.drop 0 (by8 (toP r2).b)) = by8 r2.s by rw [List.drop_zero]; exact tk8 ks]
      refine ⟨by omega, _, hat, ?_⟩
      conv => whnf
      have hAB : allR r2 = (toP r2).b := by have := hqn.2 hd2; unfold allR; rw [this, List.append_nil]; rfl
      rw [show by8 (toP r2).b = by8 (allR r2) from by rw [hAB]]
      refine ⟨[0], ?_⟩
      conv => whnf
      rw [w64 (x := (i : Int) + 1) (by omega) (by omega)]
      refine kK _ _ ?_
      conv => whnf
      refine ⟨0, ?_⟩
      conv => whnf
      refine ⟨⟨i + 1, r2, by omega, hqn, by omega, by omega, .inr (.inl ⟨hb2, rfl⟩)⟩, ?_⟩
      show l.length - ((i : Int) + 1).toNat < l.length - (i : Int).toNat
      omega
    have cd := c_do0e (toP r) r0 d B n hb hh0 hwk wfr0 hBi h2 (fun e => absurd e h0)
    rw [do_to] at cd
    have hall := firm_all (d := d) (B := B) (n := n) hq h2 h4 (by omega)
    rw [if_neg (fun e => h0 e.1)] at hall
    generalize doR r d B n = r2 at cd hqn hfs hfl hfr hall
    generalize doR r0 d B n = rx at cd
    generalize doOk (toP r) r0 d B n = ox at cd
    have hA2 : allR r2 = [] := hall.trans hA
    have hb2 : (toP r2).b = [] := (List.append_eq_nil_iff.1 hA2).1
    refine ⟨[], ?_⟩
    conv => whnf
    refine ⟨tabF4R13, by decide +kernel, ?_⟩
    conv => whnf
    refine ⟨_, _, c_rnew 1048576, ?_⟩
    conv => whnf
    refine ⟨by omega, _, hat, ?_⟩
    conv => whnf
    refine ⟨_, cd, ⟨_, _, rfl, rfl⟩, ?_⟩
    rintro q st ⟨rfl, rfl⟩
    conv => whnf
    refine ⟨by omega, _, hat, ?_⟩
    conv => whnf
    rw [show (d == 0) = false from decide_eq_false h0]
    conv => whnf
    cases hd2 : r2.dead with
    | true =>
      refine (c_allD0 (toP r2) hd2).mono fun r st e => ?_
      obtain ⟨rfl, rfl⟩ := e
      conv => whnf
      rw [← hfs.2 hd2]
      refine ⟨[0], ?_⟩
      conv => whnf
      rw [w64 (x := (i : Int) + 1) (by omega) (by omega)]
      refine kK _ _ ?_
      conv => whnf
      refine ⟨0, ?_⟩
      conv => whnf
      refine ⟨⟨i + 1, r2, by omega, hqn, by omega, by omega, .inl ⟨hb2, hA2, rfl⟩⟩, ?_⟩
      show l.length - ((i : Int) + 1).toNat < l.length - (i : Int).toNat
      omega
    | false =>
      refine (c_allO0 (toP r2) hb2 (wfk_of hqn) hd2).mono fun r st e => ?_
      obtain ⟨rfl, rfl⟩ := e
      conv => whnf
      obtain ⟨k1, k2, k3⟩ := pre_s hfs.1
      have k1 : (toP r2).b.take r.s.length = r.s := k1
      have k2 : r.s.length ≤ (toP r2).b.length := k2
      have ks : (toP r2).b.take r2.s.length = r2.s := List.take_left
      have kl : r2.s.length ≤ (toP r2).b.length := by show r2.s.length ≤ (r2.s ++ r2.m).length; rw [List.length_append]; omega
      have lb : (by8 (toP r2).b).length = (toP r2).b.length := len8 _
      have ls : (by8 r.s).length = r.s.length := len8 _
      have hbz : (toP r2).b.length < 9223372036854775807 := by
        have := (wfk_of hqn).2.2.1
        have := (wfk_of hqn).2.1
        omega
      have hAt : ([] : List UInt8).take (toP r2).b.length = (toP r2).b := by rw [hb2]; rfl
      have hAl : (toP r2).b.length ≤ ([] : List UInt8).length := by rw [hb2]; exact Nat.le_refl _
      have lA : (([] : List AV)).length = ([] : List UInt8).length := rfl
      generalize hbe : (toP r2).b = b2 at *
      rw [len8, len8, decide_eq_false (show ¬ (b2.length : Int) < (r.s.length : Int) by omega)]
      conv => whnf
      refine ⟨by omega, by omega, by omega, ?_⟩
      conv => whnf
      rw [show List.take ((((by8 r.s).length : Nat) : Int).toNat - 0) (List.drop 0 (by8 b2)) = by8 r.s by rw [Int.toNat_natCast, List.drop_zero, ls]; exact tk8 k1]
      refine (c_same r.s r.s (by omega) (m1 := .ro) (m2 := .ro) (.inr rfl) (.inr rfl)).mono fun r st e => ?_
      obtain ⟨rfl, rfl⟩ := e
      conv => whnf
      rw [beq_self_eq_true]
      conv => whnf
      rw [decide_eq_false (show ¬ (((by8 b2).length : Nat) : Int) > (((([] : List AV)).length : Nat) : Int) by rw [lb, lA]; omega)]
      conv => whnf
      refine ⟨by omega, by omega, by omega, ?_⟩
      conv => whnf
      refine (c_same b2 [] hbz (m1 := .ro) (m2 := .ex) (.inr rfl) (.inl rfl)).mono fun r st e => ?_
      obtain ⟨rfl, rfl⟩ := e
      conv => whnf
      rw [show (b2 == []) = true by rw [hb2]; rfl]
      conv => whnf
      subst hbe
      refine (c_safe0 (toP r2)).mono fun r st e => ?_
      obtain ⟨rfl, rfl⟩ := e
      conv => whnf
      rw [decide_eq_false (show ¬ ((toP r2).sf < (((by8 r.s).length : Nat) : Int)) by rw [ls]; show ¬ ((r2.s.length : Int) < (r.s.length : Int)); omega)]
      conv => whnf
      refine (c_safe0 (toP r2)).mono fun r st e => ?_
      obtain ⟨rfl, rfl⟩ := e
      conv => whnf
      rw [decide_eq_false (show ¬ ((toP r2).sf > (((by8 (toP r2).b).length : Nat) : Int)) by rw [lb]; show ¬ ((r2.s.length : Int) > ((toP r2).b.length : Int)); omega)]
      conv => whnf
      refine (c_safe0 (toP r2)).mono fun r st e => ?_
      obtain ⟨rfl, rfl⟩ := e
      conv => whnf
      refine ⟨by show (0 : Int) ≤ (r2.s.length : Int); omega, by omega, by show r2.s.length ≤ (by8 (toP r2).b).length; rw [lb]; exact kl, ?_⟩
      conv => whnf
      rw [show List.take ((toP r2).sf.toNat - 0) (List.drop 0 (by8 (toP r2).b)) = by8 r2.s by rw [List.drop_zero]; exact tk8 ks]
      refine ⟨by omega, _, hat, ?_⟩
      conv => whnf
      rw [show (d == 4) = false from decide_eq_false h4]
      conv => whnf
      refine ⟨[0], ?_⟩
      conv => whnf
      rw [w64 (x := (i : Int) + 1) (by omega) (by omega)]
      refine kK _ _ ?_
      conv => whnf
      refine ⟨0, ?_⟩
      conv => whnf
      refine ⟨⟨i + 1, r2, by omega, hqn, by omega, by omega, .inl ⟨hb2, hA2, rfl⟩⟩, ?_⟩
      show l.length - ((i : Int) + 1).toNat < l.length - (i : Int).toNat
      omega
  · apply enter3
    intro kk kK
    conv => whnf
    rw [ac_len]
    refine Branch.of (fun h1 => ?_) (fun h1 => ?_) <;> rw [h1] <;> conv => whnf
    rotate_left
    · refine kK _ _ ?_
      conv => whnf
      refine (c_awake18).mono fun r st e => ?_
      obtain ⟨rfl, rfl⟩ := e
      conv => whnf
      refine ⟨false, [], ?_⟩
      conv => whnf
      exact ⟨rfl, rfl⟩
    have h1 := of_decide_eq_true h1
    have ih : i < l.length := by omega
    have hBi := hB l[i] (List.getElem_mem ih)
    have hni := hn l[i] (List.getElem_mem ih)
    have hat := ac_at ih
    generalize l[i] = a at hBi hni hat
    have hqn := wfq_do (d := a.d) (B := a.b) hq hni
    obtain ⟨d, B, n⟩ := a
    simp only at hBi hni hat hqn
    refine ⟨by omega, _, hat, ?_⟩
    conv => whnf
    by_cases h2 : d = 2
    · subst h2
      conv => whnf
      refine ⟨[0], ?_⟩
      conv => whnf
      rw [w64 (x := (i : Int) + 1) (by omega) (by omega)]
      refine kK _ _ ?_
      conv => whnf
      refine ⟨0, ?_⟩
      conv => whnf
      refine ⟨⟨i + 1, r, by omega, hq, by omega, by omega, .inr (.inl ⟨hb, rfl⟩)⟩, ?_⟩
      show l.length - ((i : Int) + 1).toNat < l.length - (i : Int).toNat
      omega
    have hfs := firm_s (B := B) (n := n) hq h2
    have hfl := firm_len (d := d) (B := B) (n := n) hq h2 (by omega)
    have hfr := firm_room (r := r) (d := d) (B := B) (n := n)
    refine Branch.no (decide_eq_false h2) ?_
    conv => whnf
    refine (c_dead0 (toP r)).mono fun r st e => ?_
    obtain ⟨rfl, rfl⟩ := e
    conv => whnf
    by_cases h0 : d = 0
    · subst h0
      cases hdd : r.dead with
      | false =>
        have cd := c_do0x (toP r) r0 0 B n hb hwk hph wfr0 hBi
        rw [do_to] at cd
        have hall := firm_all (d := 0) (B := B) (n := n) hq (by decide) (by decide) (by omega)
        rw [if_pos ⟨rfl, hdd⟩] at hall
        generalize doR r 0 B n = r2 at cd hqn hfs hfl hfr hall
        generalize doR r0 0 B n = rx at cd
        generalize doOk (toP r) r0 0 B n = ox at cd
        obtain ⟨st0, hst0⟩ := P0_ex (toP r2)
        refine ⟨[], ?_⟩
        conv => whnf
        refine ⟨tabF4R13, by decide +kernel, ?_⟩
        conv => whnf
        refine ⟨_, _, c_rnew 1048576, ?_⟩
        conv => whnf
        refine ⟨by omega, _, hat, ?_⟩
        conv => whnf
        refine ⟨_, cd, ⟨_, st0, rfl, hst0⟩, ?_⟩
        rintro q st ⟨rfl, hP⟩
        rcases hP with ⟨hb2, rfl⟩ | ⟨cap, c2, L, hL, rfl⟩
        · conv => whnf
          refine ⟨by omega, _, hat, ?_⟩
          conv => whnf
          refine Branch.yes (show (!r.dead) = true by rw [hdd]; rfl) ?_
          conv => whnf
          refine ⟨by omega, _, hat, ?_⟩
          conv => whnf
          refine ⟨by simp only [List.length_nil, len8]; omega, ?_⟩
          conv => whnf
          rw [by8_app, ← hall]
          cases hd2 : r2.dead with
          | true =>
            refine (c_allD0 (toP r2) hd2).mono fun r st e => ?_
            obtain ⟨rfl, rfl⟩ := e
            conv => whnf
            rw [← hfs.2 hd2]
            refine ⟨[0], ?_⟩
            conv => whnf
            rw [w64 (x := (i : Int) + 1) (by omega) (by omega)]
            refine kK _ _ ?_
            conv => whnf
            refine ⟨0, ?_⟩
            conv => whnf
            refine ⟨⟨i + 1, r2, by omega, hqn, by omega, by omega, .inr (.inl ⟨hb2, rfl⟩)⟩, ?_⟩
            show l.length - ((i : Int) + 1).toNat < l.length - (i : Int).toNat
            omega
          | false =>
            refine (c_allO0 (toP r2) hb2 (wfk_of hqn) hd2).mono fun r st e => ?_
            obtain ⟨rfl, rfl⟩ := e
            conv => whnf
            obtain ⟨k1, k2, k3⟩ := pre_s hfs.1
            have k1 : (toP r2).b.take r.s.length = r.s := k1
            have k2 : r.s.length ≤ (toP r2).b.length := k2
            have ks : (toP r2).b.take r2.s.length = r2.s := List.take_left
            have kl : r2.s.length ≤ (toP r2).b.length := by show r2.s.length ≤ (r2.s ++ r2.m).length; rw [List.length_append]; omega
            have lb : (by8 (toP r2).b).length = (toP r2).b.length := len8 _
            have ls : (by8 r.s).length = r.s.length := len8 _
            have hbz : (toP r2).b.length < 9223372036854775807 := by
              have := (wfk_of hqn).2.2.1
              have := (wfk_of hqn).2.1
              omega
            have hAt : (allR r2 : List UInt8).take (toP r2).b.length = (toP r2).b := by have := hqn.2 hd2; show (r2.s ++ r2.m ++ r2.h).take (r2.s ++ r2.m).length = _; rw [this, List.append_nil, List.take_length]; rfl
            have hAl : (toP r2).b.length ≤ (allR r2 : List UInt8).length := by show (r2.s ++ r2.m).length ≤ (r2.s ++ r2.m ++ r2.h).length; rw [List.length_append (bs := r2.h)]; omega
            have lA : (by8 (allR r2)).length = (allR r2 : List UInt8).length := len8 _
            generalize hbe : (toP r2).b = b2 at *
            rw [len8, len8, decide_eq_false (show ¬ (b2.length : Int) < (r.s.length : Int) by omega)]
            conv => whnf
            refine ⟨by omega, by omega, by omega, ?_⟩
            conv => whnf
            rw [show List.take ((((by8 r.s).length : Nat) : Int).toNat - 0) (List.drop 0 (by8 b2)) = by8 r.s by rw [Int.toNat_natCast, List.drop_zero, ls]; exact tk8 k1]
            refine (c_same r.s r.s (by omega) (m1 := .ro) (m2 := .ro) (.inr rfl) (.inr rfl)).mono fun r st e => ?_
            obtain ⟨rfl, rfl⟩ := e
            conv => whnf
            rw [beq_self_eq_true]
            conv => whnf
            rw [decide_eq_false (show ¬ (((by8 b2).length : Nat) : Int) > (((by8 (allR r2)).length : Nat) : Int) by rw [lb, lA]; omega)]
            conv => whnf
            refine ⟨by omega, by omega, by omega, ?_⟩
            conv => whnf
            rw [show List.take ((((by8 b2).length : Nat) : Int).toNat - 0) (List.drop 0 (by8 (allR r2))) = by8 b2 by rw [Int.toNat_natCast, List.drop_zero, lb]; exact tk8 hAt]
            refine (c_same b2 b2 hbz (m1 := .ro) (m2 := .ro) (.inr rfl) (.inr rfl)).mono fun r st e => ?_
            obtain ⟨rfl, rfl⟩ := e
            conv => whnf
            rw [beq_self_eq_true]
            conv => whnf
            subst hbe
            refine (c_safe0 (toP r2)).mono fun r st e => ?_
            obtain ⟨rfl, rfl⟩ := e
            conv => whnf
            rw [decide_eq_false (show ¬ ((toP r2).sf < (((by8 r.s).length : Nat) : Int)) by rw [ls]; show ¬ ((r2.s.length : Int) < (r.s.length : Int)); omega)]
            conv => whnf
            refine (c_safe0 (toP r2)).mono fun r st e => ?_
            obtain ⟨rfl, rfl⟩ := e
            conv => whnf
            rw [decide_eq_false (show ¬ ((toP r2).sf > (((by8 (toP r2).b).length : Nat) : Int)) by rw [lb]; show ¬ ((r2.s.length : Int) > ((toP r2).b.length : Int)); omega)]
            conv => whnf
            refine (c_safe0 (toP r2)).mono fun r st e => ?_
            obtain ⟨rfl, rfl⟩ := e
            conv => whnf
            refine ⟨by show (0 : Int) ≤ (r2.s.length : Int); omega, by omega, by show r2.s.length ≤ (by8 (toP r2).b).length; rw [lb]; exact kl, ?_⟩
            conv => whnf
            rw [show List.take ((toP r2).sf.toNat - 0) (List.drop 0 (by8 (toP r2).b)) = by8 r2.s by rw [List.drop_zero]; exact tk8 ks]
            refine ⟨by omega, _, hat, ?_⟩
            conv => whnf
            refine ⟨[0], ?_⟩
            conv => whnf
            rw [w64 (x := (i : Int) + 1) (by omega) (by omega)]
            refine kK _ _ ?_
            conv => whnf
            refine ⟨0, ?_⟩
            conv => whnf
            refine ⟨⟨i + 1, r2, by omega, hqn, by omega, by omega, .inr (.inl ⟨hb2, rfl⟩)⟩, ?_⟩
            show l.length - ((i : Int) + 1).toNat < l.length - (i : Int).toNat
            omega
        · conv => whnf
          refine ⟨by omega, _, hat, ?_⟩
          conv => whnf
          refine Branch.yes (show (!r.dead) = true by rw [hdd]; rfl) ?_
          conv => whnf
          refine ⟨by omega, _, hat, ?_⟩
          conv => whnf
          refine ⟨by simp only [List.length_nil, len8]; omega, ?_⟩
          conv => whnf
          rw [by8_app, ← hall]
          cases hd2 : r2.dead with
          | true =>
            refine (c_allD1 (toP r2) cap c2 L hd2).mono fun r st e => ?_
            obtain ⟨rfl, rfl⟩ := e
            conv => whnf
            rw [← hfs.2 hd2]
            refine ⟨[0, 1], ?_⟩
            conv => whnf
            rw [w64 (x := (i : Int) + 1) (by omega) (by omega)]
            refine kK _ _ ?_
            conv => whnf
            refine ⟨1, ?_⟩
            conv => whnf
            refine ⟨⟨i + 1, r2, by omega, hqn, by omega, by omega, .inr (.inr ⟨cap, c2, L, hL, rfl⟩)⟩, ?_⟩
            show l.length - ((i : Int) + 1).toNat < l.length - (i : Int).toNat
            omega
          | false =>
            refine (c_allO1 (toP r2) cap c2 L hL (wfk_of hqn) hd2).mono fun r st e => ?_
            obtain ⟨rfl, rfl⟩ := e
            conv => whnf
            obtain ⟨k1, k2, k3⟩ := pre_s hfs.1
            have k1 : (toP r2).b.take r.s.length = r.s := k1
            have k2 : r.s.length ≤ (toP r2).b.length := k2
            have ks : (toP r2).b.take r2.s.length = r2.s := List.take_left
            have kl : r2.s.length ≤ (toP r2).b.length := by show r2.s.length ≤ (r2.s ++ r2.m).length; rw [List.length_append]; omega
            have lb : (by8 (toP r2).b).length = (toP r2).b.length := len8 _
            have ls : (by8 r.s).length = r.s.length := len8 _
            have hbz : (toP r2).b.length < 9223372036854775807 := by
              have := (wfk_of hqn).2.2.1
              have := (wfk_of hqn).2.1
              omega
            have hAt : (allR r2 : List UInt8).take (toP r2).b.length = (toP r2).b := by have := hqn.2 hd2; show (r2.s ++ r2.m ++ r2.h).take (r2.s ++ r2.m).length = _; rw [this, List.append_nil, List.take_length]; rfl
            have hAl : (toP r2).b.length ≤ (allR r2 : List UInt8).length := by show (r2.s ++ r2.m).length ≤ (r2.s ++ r2.m ++ r2.h).length; rw [List.length_append (bs := r2.h)]; omega
            have lA : (by8 (allR r2)).length = (allR r2 : List UInt8).length := len8 _
            generalize hbe : (toP r2).b = b2 at *
            rw [len8, len8, decide_eq_false (show ¬ (b2.length : Int) < (r.s.length : Int) by omega)]
            conv => whnf
            refine ⟨by omega, by omega, by omega, ?_⟩
            conv => whnf
            rw [show List.take ((((by8 r.s).length : Nat) : Int).toNat - 0) (List.drop 0 (by8 b2)) = by8 r.s by rw [Int.toNat_natCast, List.drop_zero, ls]; exact tk8 k1]
            refine (c_same r.s r.s (by omega) (m1 := .ro) (m2 := .ro) (.inr rfl) (.inr rfl)).mono fun r st e => ?_
            obtain ⟨rfl, rfl⟩ := e
            conv => whnf
            rw [beq_self_eq_true]
            conv => whnf
            rw [decide_eq_false (show ¬ (((by8 b2).length : Nat) : Int) > (((by8 (allR r2)).length : Nat) : Int) by rw [lb, lA]; omega)]
            conv => whnf
            refine ⟨by omega, by omega, by omega, ?_⟩
            conv => whnf
            rw [show List.take ((((by8 b2).length : Nat) : Int).toNat - 0) (List.drop 0 (by8 (allR r2))) = by8 b2 by rw [Int.toNat_natCast, List.drop_zero, lb]; exact tk8 hAt]
            refine (c_same b2 b2 hbz (m1 := .ro) (m2 := .ro) (.inr rfl) (.inr rfl)).mono fun r st e => ?_
            obtain ⟨rfl, rfl⟩ := e
            conv => whnf
            rw [beq_self_eq_true]
            conv => whnf
            subst hbe
            refine (c_safe1 (toP r2) cap c2 L).mono fun r st e => ?_
            obtain ⟨rfl, rfl⟩ := e
            conv => whnf
            rw [decide_eq_false (show ¬ ((toP r2).sf < (((by8 r.s).length : Nat) : Int)) by rw [ls]; show ¬ ((r2.s.length : Int) < (r.s.length : Int)); omega)]
            conv => whnf
            refine (c_safe1 (toP r2) cap c2 L).mono fun r st e => ?_
            obtain ⟨rfl, rfl⟩ := e
            conv => whnf
            rw [decide_eq_false (show ¬ ((toP r2).sf > (((by8 (toP r2).b).length : Nat) : Int)) by rw [lb]; show ¬ ((r2.s.length : Int) > ((toP r2).b.length : Int)); omega)]
            conv => whnf
            refine (c_safe1 (toP r2) cap c2 L).mono fun r st e => ?_
            obtain ⟨rfl, rfl⟩ := e
            conv => whnf
            refine ⟨by show (0 : Int) ≤ (r2.s.length : Int); omega, by omega, by show r2.s.length ≤ (by8 (toP r2).b).length; rw [lb]; exact kl, ?_⟩
            conv => whnf
            rw [show List.take ((toP r2).sf.toNat - 0) (List.drop 0 (by8 (toP r2).b)) = by8 r2.s by rw [List.drop_zero]; exact tk8 ks]
            refine ⟨by omega, _, hat, ?_⟩
            conv => whnf
            refine ⟨[0, 1], ?_⟩
            conv => whnf
            rw [w64 (x := (i : Int) + 1) (by omega) (by omega)]
            refine kK _ _ ?_
            conv => whnf
            refine ⟨1, ?_⟩
            conv => whnf
            refine ⟨⟨i + 1, r2, by omega, hqn, by omega, by omega, .inr (.inr ⟨cap, c2, L, hL, rfl⟩)⟩, ?_⟩
            show l.length - ((i : Int) + 1).toNat < l.length - (i : Int).toNat
            omega
      | true =>
        have cd := c_do0x (toP r) r0 0 B n hb hwk hph wfr0 hBi
        rw [do_to] at cd
        have hall := firm_all (d := 0) (B := B) (n := n) hq (by decide) (by decide) (by omega)
        rw [if_neg (fun e => by rw [hdd] at e; cases e.2)] at hall
        generalize doR r 0 B n = r2 at cd hqn hfs hfl hfr hall
        generalize doR r0 0 B n = rx at cd
        generalize doOk (toP r) r0 0 B n = ox at cd
        obtain ⟨st0, hst0⟩ := P0_ex (toP r2)
        refine ⟨[], ?_⟩
        conv => whnf
        refine ⟨tabF4R13, by decide +kernel, ?_⟩
        conv => whnf
        refine ⟨_, _, c_rnew 1048576, ?_⟩
        conv => whnf
        refine ⟨by omega, _, hat, ?_⟩
        conv => whnf
        refine ⟨_, cd, ⟨_, st0, rfl, hst0⟩, ?_⟩
        rintro q st ⟨rfl, hP⟩
        rcases hP with ⟨hb2, rfl⟩ | ⟨cap, c2, L, hL, rfl⟩
        · conv => whnf
          refine ⟨by omega, _, hat, ?_⟩
          conv => whnf
          refine Branch.no (show (!r.dead) = false by rw [hdd]; rfl) ?_
          conv => whnf
          rw [← hall]
          cases hd2 : r2.dead with
          | true =>
            refine (c_allD0 (toP r2) hd2).mono fun r st e => ?_
            obtain ⟨rfl, rfl⟩ := e
            conv => whnf
            rw [← hfs.2 hd2]
            refine ⟨[0], ?_⟩
            conv => whnf
            rw [w64 (x := (i : Int) + 1) (by omega) (by omega)]
            refine kK _ _ ?_
            conv => whnf
            refine ⟨0, ?_⟩
            conv => whnf
            refine ⟨⟨i + 1, r2, by omega, hqn, by omega, by omega, .inr (.inl ⟨hb2, rfl⟩)⟩, ?_⟩
            show l.length - ((i : Int) + 1).toNat < l.length - (i : Int).toNat
            omega
          | false =>
            refine (c_allO0 (toP r2) hb2 (wfk_of hqn) hd2).mono fun r st e => ?_
            obtain ⟨rfl, rfl⟩ := e
            conv => whnf
            obtain ⟨k1, k2, k3⟩ := pre_s hfs.1
            have k1 : (toP r2).b.take r.s.length = r.s := k1
            have k2 : r.s.length ≤ (toP r2).b.length := k2
            have ks : (toP r2).b.take r2.s.length = r2.s := List.take_left
            have kl : r2.s.length ≤ (toP r2).b.length := by show r2.s.length ≤ (r2.s ++ r2.m).length; rw [List.length_append]; omega
            have lb : (by8 (toP r2).b).length = (toP r2).b.length := len8 _
            have ls : (by8 r.s).length = r.s.length := len8 _
            have hbz : (toP r2).b.length < 9223372036854775807 := by
              have := (wfk_of hqn).2.2.1
              have := (wfk_of hqn).2.1
              omega
            have hAt : (allR r2 : List UInt8).take (toP r2).b.length = (toP r2).b := by have := hqn.2 hd2; show (r2.s ++ r2.m ++ r2.h).take (r2.s ++ r2.m).length = _; rw [this, List.append_nil, List.take_length]; rfl
            have hAl : (toP r2).b.length ≤ (allR r2 : List UInt8).length := by show (r2.s ++ r2.m).length ≤ (r2.s ++ r2.m ++ r2.h).length; rw [List.length_append (bs := r2.h)]; omega
            have lA : (by8 (allR r2)).length = (allR r2 : List UInt8).length := len8 _
            generalize hbe : (toP r2).b = b2 at *
            rw [len8, len8, decide_eq_false (show ¬ (b2.length : Int) < (r.s.length : Int) by omega)]
            conv => whnf
            refine ⟨by omega, by omega, by omega, ?_⟩
            conv => whnf
            rw [show List.take ((((by8 r.s).length : Nat) : Int).toNat - 0) (List.drop 0 (by8 b2)) = by8 r.s by rw [Int.toNat_natCast, List.drop_zero, ls]; exact tk8 k1]
            refine (c_same r.s r.s (by omega) (m1 := .ro) (m2 := .ro) (.inr rfl) (.inr rfl)).mono fun r st e => ?_
            obtain ⟨rfl, rfl⟩ := e
            conv => whnf
            rw [beq_self_eq_true]
            conv => whnf
            rw [decide_eq_false (show ¬ (((by8 b2).length : Nat) : Int) > (((by8 (allR r2)).length : Nat) : Int) by rw [lb, lA]; omega)]
            conv => whnf
            refine ⟨by omega, by omega, by omega, ?_⟩
            conv => whnf
            rw [show List.take ((((by8 b2).length : Nat) : Int).toNat - 0) (List.drop 0 (by8 (allR r2))) = by8 b2 by rw [Int.toNat_natCast, List.drop_zero, lb]; exact tk8 hAt]
            refine (c_same b2 b2 hbz (m1 := .ro) (m2 := .ro) (.inr rfl) (.inr rfl)).mono fun r st e => ?_
            obtain ⟨rfl, rfl⟩ := e
            conv => whnf
            rw [beq_self_eq_true]
            conv => whnf
            subst hbe
            refine (c_safe0 (toP r2)).mono fun r st e => ?_
            obtain ⟨rfl, rfl⟩ := e
            conv => whnf
            rw [decide_eq_false (show ¬ ((toP r2).sf < (((by8 r.s).length : Nat) : Int)) by rw [ls]; show ¬ ((r2.s.length : Int) < (r.s.length : Int)); omega)]
            conv => whnf
            refine (c_safe0 (toP r2)).mono fun r st e => ?_
            obtain ⟨rfl, rfl⟩ := e
            conv => whnf
            rw [decide_eq_false (show ¬ ((toP r2).sf > (((by8 (toP r2).b).length : Nat) : Int)) by rw [lb]; show ¬ ((r2.s.length : Int) > ((toP r2).b.length : Int)); omega)]
            conv => whnf
            refine (c_safe0 (toP r2)).mono fun r st e => ?_
            obtain ⟨rfl, rfl⟩ := e
            conv => whnf
            refine ⟨by show (0 : Int) ≤ (r2.s.length : Int); omega, by omega, by show r2.s.length ≤ (by8 (toP r2).b).length; rw [lb]; exact kl, ?_⟩
            conv => whnf
            rw [show List.take ((toP r2).sf.toNat - 0) (List.drop 0 (by8 (toP r2).b)) = by8 r2.s by rw [List.drop_zero]; exact tk8 ks]
            refine ⟨by omega, _, hat, ?_⟩
            conv => whnf
            refine ⟨[0], ?_⟩
            conv => whnf
            rw [w64 (x := (i : Int) + 1) (by omega) (by omega)]
            refine kK _ _ ?_
            conv => whnf
            refine ⟨0, ?_⟩
            conv => whnf
            refine ⟨⟨i + 1, r2, by omega, hqn, by omega, by omega, .inr (.inl ⟨hb2, rfl⟩)⟩, ?_⟩
            show l.length - ((i : Int) + 1).toNat < l.length - (i : Int).toNat
            omega
        · conv => whnf
          refine ⟨by omega, _, hat, ?_⟩
          conv => whnf
          refine Branch.no (show (!r.dead) = false by rw [hdd]; rfl) ?_
          conv => whnf
          rw [← hall]
          cases hd2 : r2.dead with
          | true =>
            refine (c_allD1 (toP r2) cap c2 L hd2).mono fun r st e => ?_
            obtain ⟨rfl, rfl⟩ := e
            conv => whnf
            rw [← hfs.2 hd2]
            refine ⟨[0, 1], ?_⟩
            conv => whnf
            rw [w64 (x := (i : Int) + 1) (by omega) (by omega)]
            refine kK _ _ ?_
            conv => whnf
            refine ⟨1, ?_⟩
            conv => whnf
            refine ⟨⟨i + 1, r2, by omega, hqn, by omega, by omega, .inr (.inr ⟨cap, c2, L, hL, rfl⟩)⟩, ?_⟩
            show l.length - ((i : Int) + 1).toNat < l.length - (i : Int).toNat
            omega
          | false =>
            refine (c_allO1 (toP r2) cap c2 L hL (wfk_of hqn) hd2).mono fun r st e => ?_
            obtain ⟨rfl, rfl⟩ := e
            conv => whnf
            obtain ⟨k1, k2, k3⟩ := pre_s hfs.1
            have k1 : (toP r2).b.take r.s.length = r.s := k1
            have k2 : r.s.length ≤ (toP r2).b.length := k2
            have ks : (toP r2).b.take r2.s.length = r2.s := List.take_left
            have kl : r2.s.length ≤ (toP r2).b.length := by show r2.s.length ≤ (r2.s ++ r2.m).length; rw [List.length_append]; omega
            have lb : (by8 (toP r2).b).length = (toP r2).b.length := len8 _
            have ls : (by8 r.s).length = r.s.length := len8 _
            have hbz : (toP r2).b.length < 9223372036854775807 := by
              have := (wfk_of hqn).2.2.1
              have := (wfk_of hqn).2.1
              omega
            have hAt : (allR r2 : List UInt8).take (toP r2).b.length = (toP r2).b := by have := hqn.2 hd2; show (r2.s ++ r2.m ++ r2.h).take (r2.s ++ r2.m).length = _; rw [this, List.append_nil, List.take_length]; rfl
            have hAl : (toP r2).b.length ≤ (allR r2 : List UInt8).length := by show (r2.s ++ r2.m).length ≤ (r2.s ++ r2.m ++ r2.h).length; rw [List.length_append (bs := r2.h)]; omega
            have lA : (by8 (allR r2)).length = (allR r2 : List UInt8).length := len8 _
            generalize hbe : (toP r2).b = b2 at *
            rw [len8, len8, decide_eq_false (show ¬ (b2.length : Int) < (r.s.length : Int) by omega)]
            conv => whnf
            refine ⟨by omega, by omega, by omega, ?_⟩
            conv => whnf
            rw [show List.take ((((by8 r.s).length : Nat) : Int).toNat - 0) (List.drop 0 (by8 b2)) = by8 r.s by rw [Int.toNat_natCast, List.drop_zero, ls]; exact tk8 k1]
            refine (c_same r.s r.s (by omega) (m1 := .ro) (m2 := .ro) (.inr rfl) (.inr rfl)).mono fun r st e => ?_
            obtain ⟨rfl, rfl⟩ := e
            conv => whnf
            rw [beq_self_eq_true]
            conv => whnf
            rw [decide_eq_false (show ¬ (((by8 b2).length : Nat) : Int) > (((by8 (allR r2)).length : Nat) : Int) by rw [lb, lA]; omega)]
            conv => whnf
            refine ⟨by omega, by omega, by omega, ?_⟩
            conv => whnf
            rw [show List.take ((((by8 b2).length : Nat) : Int).toNat - 0) (List.drop 0 (by8 (allR r2))) = by8 b2 by rw [Int.toNat_natCast, List.drop_zero, lb]; exact tk8 hAt]
            refine (c_same b2 b2 hbz (m1 := .ro) (m2 := .ro) (.inr rfl) (.inr rfl)).mono fun r st e => ?_
            obtain ⟨rfl, rfl⟩ := e
            conv => whnf
            rw [beq_self_eq_true]
            conv => whnf
            subst hbe
            refine (c_safe1 (toP r2) cap c2 L).mono fun r st e => ?_
            obtain ⟨rfl, rfl⟩ := e
            conv => whnf
            rw [decide_eq_false (show ¬ ((toP r2).sf < (((by8 r.s).length : Nat) : Int)) by rw [ls]; show ¬ ((r2.s.length : Int) < (r.s.length : Int)); omega)]
            conv => whnf
            refine (c_safe1 (toP r2) cap c2 L).mono fun r st e => ?_
            obtain ⟨rfl, rfl⟩ := e
            conv => whnf
            rw [decide_eq_false (show ¬ ((toP r2).sf > (((by8 (toP r2).b).length : Nat) : Int)) by rw [lb]; show ¬ ((r2.s.length : Int) > ((toP r2).b.length : Int)); omega)]
            conv => whnf
            refine (c_safe1 (toP r2) cap c2 L).mono fun r st e => ?_
            obtain ⟨rfl, rfl⟩ := e
            conv => whnf
            refine ⟨by show (0 : Int) ≤ (r2.s.length : Int); omega, by omega, by show r2.s.length ≤ (by8 (toP r2).b).length; rw [lb]; exact kl, ?_⟩
            conv => whnf
            rw [show List.take ((toP r2).sf.toNat - 0) (List.drop 0 (by8 (toP r2).b)) = by8 r2.s by rw [List.drop_zero]; exact tk8 ks]
            refine ⟨by omega, _, hat, ?_⟩
            conv => whnf
            refine ⟨[0, 1], ?_⟩
            conv => whnf
            rw [w64 (x := (i : Int) + 1) (by omega) (by omega)]
            refine kK _ _ ?_
            conv => whnf
            refine ⟨1, ?_⟩
            conv => whnf
            refine ⟨⟨i + 1, r2, by omega, hqn, by omega, by omega, .inr (.inr ⟨cap, c2, L, hL, rfl⟩)⟩, ?_⟩
            show l.length - ((i : Int) + 1).toNat < l.length - (i : Int).toNat
            omega
    by_cases h4 : d = 4
    · subst h4
      have cd := c_doR0 (toP r) r0 B n hb hwk hph wfr0
      rw [crash_to] at cd
      rw [show doR r 4 B n = crashRr r n by simp [doR]] at hqn hfs hfl hfr
      have hd2 : (crashRr r n).dead = false := rfl
      have hcr : ∃ t, allR r = (crashRr r n).s ++ (crashRr r n).m ++ t := ⟨(r.m ++ r.h).drop (min (max n 0) ((r.m ++ r.h).length : Int)).toNat, by simp [allR, crashRr]⟩
      generalize crashRr r n = r2 at cd hqn hfs hfl hfr hcr hd2
      generalize crashRr r0 n = rx at cd
      obtain ⟨st0, hst0⟩ := P0_ex (toP r2)
      refine ⟨[], ?_⟩
      conv => whnf
      refine ⟨tabF4R13, by decide +kernel, ?_⟩
      conv => whnf
      refine ⟨_, _, c_rnew 1048576, ?_⟩
      conv => whnf
      refine ⟨by omega, _, hat, ?_⟩
      conv => whnf
      refine ⟨_, cd, ⟨_, st0, rfl, hst0⟩, ?_⟩
      rintro q st ⟨rfl, hP⟩
      rcases hP with ⟨hb2, rfl⟩ | ⟨cap, c2, L, hL, rfl⟩
      · conv => whnf
        refine ⟨by omega, _, hat, ?_⟩
        conv => whnf
        refine (c_allO0 (toP r2) hb2 (wfk_of hqn) hd2).mono fun r st e => ?_
        obtain ⟨rfl, rfl⟩ := e
        conv => whnf
        obtain ⟨k1, k2, k3⟩ := pre_s hfs.1
        have k1 : (toP r2).b.take r.s.length = r.s := k1
        have k2 : r.s.length ≤ (toP r2).b.length := k2
        have ks : (toP r2).b.take r2.s.length = r2.s := List.take_left
        have kl : r2.s.length ≤ (toP r2).b.length := by show r2.s.length ≤ (r2.s ++ r2.m).length; rw [List.length_append]; omega
        have lb : (by8 (toP r2).b).length = (toP r2).b.length := len8 _
        have ls : (by8 r.s).length = r.s.length := len8 _
        have hbz : (toP r2).b.length < 9223372036854775807 := by
          have := (wfk_of hqn).2.2.1
          have := (wfk_of hqn).2.1
          omega
        have hAt : (allR r : List UInt8).take (toP r2).b.length = (toP r2).b := by obtain ⟨t, ht⟩ := hcr; rw [ht]; exact List.take_left
        have hAl : (toP r2).b.length ≤ (allR r : List UInt8).length := by obtain ⟨t, ht⟩ := hcr; rw [ht]; show (r2.s ++ r2.m).length ≤ (r2.s ++ r2.m ++ t).length; simp only [List.length_append]; omega
        have lA : (by8 (allR r)).length = (allR r : List UInt8).length := len8 _
        generalize hbe : (toP r2).b = b2 at *
        rw [len8, len8, decide_eq_false (show ¬ (b2.length : Int) < (r.s.length : Int) by omega)]
        conv => whnf
        refine ⟨by omega, by omega, by omega, ?_⟩
        conv => whnf
        rw [show List.take ((((by8 r.s).length : Nat) : Int).toNat - 0) (List.drop 0 (by8 b2)) = by8 r.s by rw [Int.toNat_natCast, List.drop_zero, ls]; exact tk8 k1]
        refine (c_same r.s r.s (by omega) (m1 := .ro) (m2 := .ro) (.inr rfl) (.inr rfl)).mono fun r st e => ?_
        obtain ⟨rfl, rfl⟩ := e
        conv => whnf
        rw [beq_self_eq_true]
        conv => whnf
        rw [decide_eq_false (show ¬ (((by8 b2).length : Nat) : Int) > (((by8 (allR r)).length : Nat) : Int) by rw [lb, lA]; omega)]
        conv => whnf
        refine ⟨by omega, by omega, by omega, ?_⟩
        conv => whnf
        rw [show List.take ((((by8 b2).length : Nat) : Int).toNat - 0) (List.drop 0 (by8 (allR r))) = by8 b2 by rw [Int.toNat_natCast, List.drop_zero, lb]; exact tk8 hAt]
        refine (c_same b2 b2 hbz (m1 := .ro) (m2 := .ro) (.inr rfl) (.inr rfl)).mono fun r st e => ?_
        obtain ⟨rfl, rfl⟩ := e
        conv => whnf
        rw [beq_self_eq_true]
        conv => whnf
        subst hbe
        refine (c_safe0 (toP r2)).mono fun r st e => ?_
        obtain ⟨rfl, rfl⟩ := e
        conv => whnf
        rw [decide_eq_false (show ¬ ((toP r2).sf < (((by8 r.s).length : Nat) : Int)) by rw [ls]; show ¬ ((r2.s.length : Int) < (r.s.length : Int)); omega)]
        conv => whnf
        refine (c_safe0 (toP r2)).mono fun r st e => ?_
        obtain ⟨rfl, rfl⟩ := e
        conv => whnf
        rw [decide_eq_false (show ¬ ((toP r2).sf > (((by8 (toP r2).b).length : Nat) : Int)) by rw [lb]; show ¬ ((r2.s.length : Int) > ((toP r2).b.length : Int)); omega)]
        conv => whnf
        refine (c_safe0 (toP r2)).mono fun r st e => ?_
        obtain ⟨rfl, rfl⟩ := e
        conv => whnf
        refine ⟨by show (0 : Int) ≤ (r2.s.length : Int); omega, by omega, by show r2.s.length ≤ (by8 (toP r2).b).length; rw [lb]; exact kl, ?_⟩
        conv => whnf
        rw [show List.take ((toP r2).sf.toNat - 0) (List.drop 0 (by8 (toP r2).b)) = by8 r2.s by rw [List.drop_zero]; exact tk8 ks]
        refine ⟨by omega, _, hat, ?_⟩
        conv => whnf
        have hAB : allR r2 = (toP r2).b := by have := hqn.2 hd2; unfold allR; rw [this, List.append_nil]; rfl
        rw [show by8 (toP r2).b = by8 (allR r2) from by rw [hAB]]
        refine ⟨[0], ?_⟩
        conv => whnf
        rw [w64 (x := (i : Int) + 1) (by omega) (by omega)]
        refine kK _ _ ?_
        conv => whnf
        refine ⟨0, ?_⟩
        conv => whnf
        refine ⟨⟨i + 1, r2, by omega, hqn, by omega, by omega, .inr (.inl ⟨hb2, rfl⟩)⟩, ?_⟩
        show l.length - ((i : Int) + 1).toNat < l.length - (i : Int).toNat
        omega
      · conv => whnf
        refine ⟨by omega, _, hat, ?_⟩
        conv => whnf
        refine (c_allO1 (toP r2) cap c2 L hL (wfk_of hqn) hd2).mono fun r st e => ?_
        obtain ⟨rfl, rfl⟩ := e
        conv => whnf
        obtain ⟨k1, k2, k3⟩ := pre_s hfs.1
        have k1 : (toP r2).b.take r.s.length = r.s := k1
        have k2 : r.s.length ≤ (toP r2).b.length := k2
        have ks : (toP r2).b.take r2.s.length = r2.s := List.take_left
        have kl : r2.s.length ≤ (toP r2).b.length := by show r2.s.length ≤ (r2.s ++ r2.m).length; rw [List.length_append]; omega
        have lb : (by8 (toP r2).b).length = (toP r2).b.length := len8 _
        have ls : (by8 r.s).length = r.s.length := len8 _
        have hbz : (toP r2).b.length < 9223372036854775807 := by
          have := (wfk_of hqn).2.2.1
          have := (wfk_of hqn).2.1
          omega
        have hAt : (allR r : List UInt8).take (toP r2).b.length = (toP r2).b := by obtain ⟨t, ht⟩ := hcr; rw [ht]; exact List.take_left
        have hAl : (toP r2).b.length ≤ (allR r : List UInt8).length := by obtain ⟨t, ht⟩ := hcr; rw [ht]; show (r2.s ++ r2.m).length ≤ (r2.s ++ r2.m ++ t).length; simp only [List.length_append]; omega
        have lA : (by8 (allR r)).length = (allR r : List UInt8).length := len8 _
        generalize hbe : (toP r2).b = b2 at *
        rw [len8, len8, decide_eq_false (show ¬ (b2.length : Int) < (r.s.length : Int) by omega)]
        conv => whnf
        refine ⟨by omega, by omega, by omega, ?_⟩
        conv => whnf
        rw [show List.take ((((by8 r.s).length : Nat) : Int).toNat - 0) (List.drop 0 (by8 b2)) = by8 r.s by rw [Int.toNat_natCast, List.drop_zero, ls]; exact tk8 k1]
        refine (c_same r.s r.s (by omega) (m1 := .ro) (m2 := .ro) (.inr rfl) (.inr rfl)).mono fun r st e => ?_
        obtain ⟨rfl, rfl⟩ := e
        conv => whnf
        rw [beq_self_eq_true]
        conv => whnf
        rw [decide_eq_false (show ¬ (((by8 b2).length : Nat) : Int) > (((by8 (allR r)).length : Nat) : Int) by rw [lb, lA]; omega)]
        conv => whnf
        refine ⟨by omega, by omega, by omega, ?_⟩
        conv => whnf
        rw [show List.take ((((by8 b2).length : Nat) : Int).toNat - 0) (List.drop 0 (by8 (allR r))) = by8 b2 by rw [Int.toNat_natCast, List.drop_zero, lb]; exact tk8 hAt]
        refine (c_same b2 b2 hbz (m1 := .ro) (m2 := .ro) (.inr rfl) (.inr rfl)).mono fun r st e => ?_
        obtain ⟨rfl, rfl⟩ := e
        conv => whnf
        rw [beq_self_eq_true]
        conv => whnf
        subst hbe
        refine (c_safe1 (toP r2) cap c2 L).mono fun r st e => ?_
        obtain ⟨rfl, rfl⟩ := e
        conv => whnf
        rw [decide_eq_false (show ¬ ((toP r2).sf < (((by8 r.s).length : Nat) : Int)) by rw [ls]; show ¬ ((r2.s.length : Int) < (r.s.length : Int)); omega)]
        conv => whnf
        refine (c_safe1 (toP r2) cap c2 L).mono fun r st e => ?_
        obtain ⟨rfl, rfl⟩ := e
        conv => whnf
        rw [decide_eq_false (show ¬ ((toP r2).sf > (((by8 (toP r2).b).length : Nat) : Int)) by rw [lb]; show ¬ ((r2.s.length : Int) > ((toP r2).b.length : Int)); omega)]
        conv => whnf
        refine (c_safe1 (toP r2) cap c2 L).mono fun r st e => ?_
        obtain ⟨rfl, rfl⟩ := e
        conv => whnf
        refine ⟨by show (0 : Int) ≤ (r2.s.length : Int); omega, by omega, by show r2.s.length ≤ (by8 (toP r2).b).length; rw [lb]; exact kl, ?_⟩
        conv => whnf
        rw [show List.take ((toP r2).sf.toNat - 0) (List.drop 0 (by8 (toP r2).b)) = by8 r2.s by rw [List.drop_zero]; exact tk8 ks]
        refine ⟨by omega, _, hat, ?_⟩
        conv => whnf
        have hAB : allR r2 = (toP r2).b := by have := hqn.2 hd2; unfold allR; rw [this, List.append_nil]; rfl
        rw [show by8 (toP r2).b = by8 (allR r2) from by rw [hAB]]
        refine ⟨[0, 1], ?_⟩
        conv => whnf
        rw [w64 (x := (i : Int) + 1) (by omega) (by omega)]
        refine kK _ _ ?_
        conv => whnf
        refine ⟨1, ?_⟩
        conv => whnf
        refine ⟨⟨i + 1, r2, by omega, hqn, by omega, by omega, .inr (.inr ⟨cap, c2, L, hL, rfl⟩)⟩, ?_⟩
        show l.length - ((i : Int) + 1).toNat < l.length - (i : Int).toNat
        omega
    have cd := c_do0x (toP r) r0 d B n hb hwk hph wfr0 hBi
    rw [do_to] at cd
    have hall := firm_all (d := d) (B := B) (n := n) hq h2 h4 (by omega)
    rw [if_neg (fun e => h0 e.1)] at hall
    generalize doR r d B n = r2 at cd hqn hfs hfl hfr hall
    generalize doR r0 d B n = rx at cd
    generalize doOk (toP r) r0 d B n = ox at cd
    obtain ⟨st0, hst0⟩ := P0_ex (toP r2)
    refine ⟨[], ?_⟩
    conv => whnf
    refine ⟨tabF4R13, by decide +kernel, ?_⟩
    conv => whnf
    refine ⟨_, _, c_rnew 1048576, ?_⟩
    conv => whnf
    refine ⟨by omega, _, hat, ?_⟩
    conv => whnf
    refine ⟨_, cd, ⟨_, st0, rfl, hst0⟩, ?_⟩
    rintro q st ⟨rfl, hP⟩
    rcases hP with ⟨hb2, rfl⟩ | ⟨cap, c2, L, hL, rfl⟩
    · conv => whnf
      refine ⟨by omega, _, hat, ?_⟩
      conv => whnf
      rw [show (d == 0) = false from decide_eq_false h0]
      conv => whnf
      rw [← hall]
      cases hd2 : r2.dead with
      | true =>
        refine (c_allD0 (toP r2) hd2).mono fun r st e => ?_
        obtain ⟨rfl, rfl⟩ := e
        conv => whnf
        rw [← hfs.2 hd2]
        refine ⟨[0], ?_⟩
        conv => whnf
        rw [w64 (x := (i : Int) + 1) (by omega) (by omega)]
        refine kK _ _ ?_
        conv => whnf
        refine ⟨0, ?_⟩
        conv => whnf
        refine ⟨⟨i + 1, r2, by omega, hqn, by omega, by omega, .inr (.inl ⟨hb2, rfl⟩)⟩, ?_⟩
        show l.length - ((i : Int) + 1).toNat < l.length - (i : Int).toNat
        omega
      | false =>
        refine (c_allO0 (toP r2) hb2 (wfk_of hqn) hd2).mono fun r st e => ?_
        obtain ⟨rfl, rfl⟩ := e
        conv => whnf
        obtain ⟨k1, k2, k3⟩ := pre_s hfs.1
        have k1 : (toP r2).b.take r.s.length = r.s := k1
        have k2 : r.s.length ≤ (toP r2).b.length := k2
        have ks : (toP r2).b.take r2.s.length = r2.s := List.take_left
        have kl : r2.s.length ≤ (toP r2).b.length := by show r2.s.length ≤ (r2.s ++ r2.m).length; rw [List.length_append]; omega
        have lb : (by8 (toP r2).b).length = (toP r2).b.length := len8 _
        have ls : (by8 r.s).length = r.s.length := len8 _
        have hbz : (toP r2).b.length < 9223372036854775807 := by
          have := (wfk_of hqn).2.2.1
          have := (wfk_of hqn).2.1
          omega
        have hAt : (allR r2 : List UInt8).take (toP r2).b.length = (toP r2).b := by have := hqn.2 hd2; show (r2.s ++ r2.m ++ r2.h).take (r2.s ++ r2.m).length = _; rw [this, List.append_nil, List.take_length]; rfl
        have hAl : (toP r2).b.length ≤ (allR r2 : List UInt8).length := by show (r2.s ++ r2.m).length ≤ (r2.s ++ r2.m ++ r2.h).length; rw [List.length_append (bs := r2.h)]; omega
        have lA : (by8 (allR r2)).length = (allR r2 : List UInt8).length := len8 _
        generalize hbe : (toP r2).b = b2 at *
        rw [len8, len8, decide_eq_false (show ¬ (b2.length : Int) < (r.s.length : Int) by omega)]
        conv => whnf
        refine ⟨by omega, by omega, by omega, ?_⟩
        conv => whnf
        rw [show List.take ((((by8 r.s).length : Nat) : Int).toNat - 0) (List.drop 0 (by8 b2)) = by8 r.s by rw [Int.toNat_natCast, List.drop_zero, ls]; exact tk8 k1]
        refine (c_same r.s r.s (by omega) (m1 := .ro) (m2 := .ro) (.inr rfl) (.inr rfl)).mono fun r st e => ?_
        obtain ⟨rfl, rfl⟩ := e
        conv => whnf
        rw [beq_self_eq_true]
        conv => whnf
        rw [decide_eq_false (show ¬ (((by8 b2).length : Nat) : Int) > (((by8 (allR r2)).length : Nat) : Int) by rw [lb, lA]; omega)]
        conv => whnf
        refine ⟨by omega, by omega, by omega, ?_⟩
        conv => whnf
        rw [show List.take ((((by8 b2).length : Nat) : Int).toNat - 0) (List.drop 0 (by8 (allR r2))) = by8 b2 by rw [Int.toNat_natCast, List.drop_zero, lb]; exact tk8 hAt]
        refine (c_same b2 b2 hbz (m1 := .ro) (m2 := .ro) (.inr rfl) (.inr rfl)).mono fun r st e => ?_
        obtain ⟨rfl, rfl⟩ := e
        conv => whnf
        rw [beq_self_eq_true]
        conv => whnf
        subst hbe
        refine (c_safe0 (toP r2)).mono fun r st e => ?_
        obtain ⟨rfl, rfl⟩ := e
        conv => whnf
        rw [decide_eq_false (show ¬ ((toP r2).sf < (((by8 r.s).length : Nat) : Int)) by rw [ls]; show ¬ ((r2.s.length : Int) < (r.s.length : Int)); omega)]
        conv => whnf
        refine (c_safe0 (toP r2)).mono fun r st e => ?_
        obtain ⟨rfl, rfl⟩ := e
        conv => whnf
        rw [decide_eq_false (show ¬ ((toP r2).sf > (((by8 (toP r2).b).length : Nat) : Int)) by rw [lb]; show ¬ ((r2.s.length : Int) > ((toP r2).b.length : Int)); omega)]
        conv => whnf
        refine (c_safe0 (toP r2)).mono fun r st e => ?_
        obtain ⟨rfl, rfl⟩ := e
        conv => whnf
        refine ⟨by show (0 : Int) ≤ (r2.s.length : Int); omega, by omega, by show r2.s.length ≤ (by8 (toP r2).b).length; rw [lb]; exact kl, ?_⟩
        conv => whnf
        rw [show List.take ((toP r2).sf.toNat - 0) (List.drop 0 (by8 (toP r2).b)) = by8 r2.s by rw [List.drop_zero]; exact tk8 ks]
        refine ⟨by omega, _, hat, ?_⟩
        conv => whnf
        rw [show (d == 4) = false from decide_eq_false h4]
        conv => whnf
        refine ⟨[0], ?_⟩
        conv => whnf
        rw [w64 (x := (i : Int) + 1) (by omega) (by omega)]
        refine kK _ _ ?_
        conv => whnf
        refine ⟨0, ?_⟩
        conv => whnf
        refine ⟨⟨i + 1, r2, by omega, hqn, by omega, by omega, .inr (.inl ⟨hb2, rfl⟩)⟩, ?_⟩
        show l.length - ((i : Int) + 1).toNat < l.length - (i : Int).toNat
        omega
    · conv => whnf
      refine ⟨by omega, _, hat, ?_⟩
      conv => whnf
      rw [show (d == 0) = false from decide_eq_false h0]
      conv => whnf
      rw [← hall]
      cases hd2 : r2.dead with
      | true =>
        refine (c_allD1 (toP r2) cap c2 L hd2).mono fun r st e => ?_
        obtain ⟨rfl, rfl⟩ := e
        conv => whnf
        rw [← hfs.2 hd2]
        refine ⟨[0, 1], ?_⟩
        conv => whnf
        rw [w64 (x := (i : Int) + 1) (by omega) (by omega)]
        refine kK _ _ ?_
        conv => whnf
        refine ⟨1, ?_⟩
        conv => whnf
        refine ⟨⟨i + 1, r2, by omega, hqn, by omega, by omega, .inr (.inr ⟨cap, c2, L, hL, rfl⟩)⟩, ?_⟩
        show l.length - ((i : Int) + 1).toNat < l.length - (i : Int).toNat
        omega
      | false =>
        refine (c_allO1 (toP r2) cap c2 L hL (wfk_of hqn) hd2).mono fun r st e => ?_
        obtain ⟨rfl, rfl⟩ := e
        conv => whnf
        obtain ⟨k1, k2, k3⟩ := pre_s hfs.1
        have k1 : (toP r2).b.take r.s.length = r.s := k1
        have k2 : r.s.length ≤ (toP r2).b.length := k2
        have ks : (toP r2).b.take r2.s.length = r2.s := List.take_left
        have kl : r2.s.length ≤ (toP r2).b.length := by show r2.s.length ≤ (r2.s ++ r2.m).length; rw [List.length_append]; omega
        have lb : (by8 (toP r2).b).length = (toP r2).b.length := len8 _
        have ls : (by8 r.s).length = r.s.length := len8 _
        have hbz : (toP r2).b.length < 9223372036854775807 := by
          have := (wfk_of hqn).2.2.1
          have := (wfk_of hqn).2.1
          omega
        have hAt : (allR r2 : List UInt8).take (toP r2).b.length = (toP r2).b := by have := hqn.2 hd2; show (r2.s ++ r2.m ++ r2.h).take (r2.s ++ r2.m).length = _; rw [this, List.append_nil, List.take_length]; rfl
        have hAl : (toP r2).b.length ≤ (allR r2 : List UInt8).length := by show (r2.s ++ r2.m).length ≤ (r2.s ++ r2.m ++ r2.h).length; rw [List.length_append (bs := r2.h)]; omega
        have lA : (by8 (allR r2)).length = (allR r2 : List UInt8).length := len8 _
        generalize hbe : (toP r2).b = b2 at *
        rw [len8, len8, decide_eq_false (show ¬ (b2.length : Int) < (r.s.length : Int) by omega)]
        conv => whnf
        refine ⟨by omega, by omega, by omega, ?_⟩
        conv => whnf
        rw [show List.take ((((by8 r.s).length : Nat) : Int).toNat - 0) (List.drop 0 (by8 b2)) = by8 r.s by rw [Int.toNat_natCast, List.drop_zero, ls]; exact tk8 k1]
        refine (c_same r.s r.s (by omega) (m1 := .ro) (m2 := .ro) (.inr rfl) (.inr rfl)).mono fun r st e => ?_
        obtain ⟨rfl, rfl⟩ := e
        conv => whnf
        rw [beq_self_eq_true]
        conv => whnf
        rw [decide_eq_false (show ¬ (((by8 b2).length : Nat) : Int) > (((by8 (allR r2)).length : Nat) : Int) by rw [lb, lA]; omega)]
        conv => whnf
        refine ⟨by omega, by omega, by omega, ?_⟩
        conv => whnf
        rw [show List.take ((((by8 b2).length : Nat) : Int).toNat - 0) (List.drop 0 (by8 (allR r2))) = by8 b2 by rw [Int.toNat_natCast, List.drop_zero, lb]; exact tk8 hAt]
        refine (c_same b2 b2 hbz (m1 := .ro) (m2 := .ro) (.inr rfl) (.inr rfl)).mono fun r st e => ?_
        obtain ⟨rfl, rfl⟩ := e
        conv => whnf
        rw [beq_self_eq_true]
        conv => whnf
        subst hbe
        refine (c_safe1 (toP r2) cap c2 L).mono fun r st e => ?_
        obtain ⟨rfl, rfl⟩ := e
        conv => whnf
        rw [decide_eq_false (show ¬ ((toP r2).sf < (((by8 r.s).length : Nat) : Int)) by rw [ls]; show ¬ ((r2.s.length : Int) < (r.s.length : Int)); omega)]
        conv => whnf
        refine (c_safe1 (toP r2) cap c2 L).mono fun r st e => ?_
        obtain ⟨rfl, rfl⟩ := e
        conv => whnf
        rw [decide_eq_false (show ¬ ((toP r2).sf > (((by8 (toP r2).b).length : Nat) : Int)) by rw [lb]; show ¬ ((r2.s.length : Int) > ((toP r2).b.length : Int)); omega)]
        conv => whnf
        refine (c_safe1 (toP r2) cap c2 L).mono fun r st e => ?_
        obtain ⟨rfl, rfl⟩ := e
        conv => whnf
        refine ⟨by show (0 : Int) ≤ (r2.s.length : Int); omega, by omega, by show r2.s.length ≤ (by8 (toP r2).b).length; rw [lb]; exact kl, ?_⟩
        conv => whnf
        rw [show List.take ((toP r2).sf.toNat - 0) (List.drop 0 (by8 (toP r2).b)) = by8 r2.s by rw [List.drop_zero]; exact tk8 ks]
        refine ⟨by omega, _, hat, ?_⟩
        conv => whnf
        rw [show (d == 4) = false from decide_eq_false h4]
        conv => whnf
        refine ⟨[0, 1], ?_⟩
        conv => whnf
        rw [w64 (x := (i : Int) + 1) (by omega) (by omega)]
        refine kK _ _ ?_
        conv => whnf
        refine ⟨1, ?_⟩
        conv => whnf
        refine ⟨⟨i + 1, r2, by omega, hqn, by omega, by omega, .inr (.inr ⟨cap, c2, L, hL, rfl⟩)⟩, ?_⟩
        show l.length - ((i : Int) + 1).toNat < l.length - (i : Int).toNat
        omega
  · apply enter3
    intro kk kK
    conv => whnf
    rw [ac_len]
    refine Branch.of (fun h1 => ?_) (fun h1 => ?_) <;> rw [h1] <;> conv => whnf
    rotate_left
    · refine kK _ _ ?_
      conv => whnf
      refine (c_awake18).mono fun r st e => ?_
      obtain ⟨rfl, rfl⟩ := e
      conv => whnf
      refine ⟨false, [], ?_⟩
      conv => whnf
      exact ⟨rfl, rfl⟩
    have h1 := of_decide_eq_true h1
    have ih : i < l.length := by omega
    have hBi := hB l[i] (List.getElem_mem ih)
    have hni := hn l[i] (List.getElem_mem ih)
    have hat := ac_at ih
    generalize l[i] = a at hBi hni hat
    have hqn := wfq_do (d := a.d) (B := a.b) hq hni
    obtain ⟨d, B, n⟩ := a
    simp only at hBi hni hat hqn
    refine ⟨by omega, _, hat, ?_⟩
    conv => whnf
    by_cases h2 : d = 2
    · subst h2
      conv => whnf
      refine ⟨[0, 1], ?_⟩
      conv => whnf
      rw [w64 (x := (i : Int) + 1) (by omega) (by omega)]
      refine kK _ _ ?_
      conv => whnf
      refine ⟨1, ?_⟩
      conv => whnf
      refine ⟨⟨i + 1, r, by omega, hq, by omega, by omega, .inr (.inr ⟨cap0, c20, L0, hL0, rfl⟩)⟩, ?_⟩
      show l.length - ((i : Int) + 1).toNat < l.length - (i : Int).toNat
      omega
    have hfs := firm_s (B := B) (n := n) hq h2
    have hfl := firm_len (d := d) (B := B) (n := n) hq h2 (by omega)
    have hfr := firm_room (r := r) (d := d) (B := B) (n := n)
    refine Branch.no (decide_eq_false h2) ?_
    conv => whnf
    refine (c_dead1 (toP r) cap0 c20 L0).mono fun r st e => ?_
    obtain ⟨rfl, rfl⟩ := e
    conv => whnf
    by_cases h0 : d = 0
    · subst h0
      cases hdd : r.dead with
      | false =>
        have cd := c_do1 (toP r) r0 0 B n cap0 c20 L0 hL0 hwk wfr0 hBi (by decide)
        rw [do_to] at cd
        have hall := firm_all (d := 0) (B := B) (n := n) hq (by decide) (by decide) (by omega)
        rw [if_pos ⟨rfl, hdd⟩] at hall
        generalize doR r 0 B n = r2 at cd hqn hfs hfl hfr hall
        generalize doR r0 0 B n = rx at cd
        generalize doOk (toP r) r0 0 B n = ox at cd
        obtain ⟨st0, hst0⟩ := P1_ex (toP r2)
        refine ⟨[], ?_⟩
        conv => whnf
        refine ⟨tabF4R13, by decide +kernel, ?_⟩
        conv => whnf
        refine ⟨_, _, c_rnew 1048576, ?_⟩
        conv => whnf
        refine ⟨by omega, _, hat, ?_⟩
        conv => whnf
        refine ⟨_, cd, ⟨_, st0, rfl, hst0⟩, ?_⟩
        rintro q st ⟨rfl, hP⟩
        rcases hP with ⟨cap, c2, L, hL, rfl⟩ | ⟨cap, c2, L, cj, Lj, hL, rfl⟩ | ⟨hb2, cj, Lj, rfl⟩
        · conv => whnf
          refine ⟨by omega, _, hat, ?_⟩
          conv => whnf
          refine Branch.yes (show (!r.dead) = true by rw [hdd]; rfl) ?_
          conv => whnf
          refine ⟨by omega, _, hat, ?_⟩
          conv => whnf
          refine ⟨by simp only [List.length_nil, len8]; omega, ?_⟩
          conv => whnf
          rw [by8_app, ← hall]
          cases hd2 : r2.dead with
          | true =>
            refine (c_allD1 (toP r2) cap c2 L hd2).mono fun r st e => ?_
            obtain ⟨rfl, rfl⟩ := e
            conv => whnf
            rw [← hfs.2 hd2]
            refine ⟨[0, 1], ?_⟩
            conv => whnf
            rw [w64 (x := (i : Int) + 1) (by omega) (by omega)]
            refine kK _ _ ?_
            conv => whnf
            refine ⟨1, ?_⟩
            conv => whnf
            refine ⟨⟨i + 1, r2, by omega, hqn, by omega, by omega, .inr (.inr ⟨cap, c2, L, hL, rfl⟩)⟩, ?_⟩
            show l.length - ((i : Int) + 1).toNat < l.length - (i : Int).toNat
            omega
          | false =>
            refine (c_allO1 (toP r2) cap c2 L hL (wfk_of hqn) hd2).mono fun r st e => ?_
            obtain ⟨rfl, rfl⟩ := e
            conv => whnf
            obtain ⟨k1, k2, k3⟩ := pre_s hfs.1
            have k1 : (toP r2).b.take r.s.length = r.s := k1
            have k2 : r.s.length ≤ (toP r2).b.length := k2
            have ks : (toP r2).b.take r2.s.length = r2.s := List.take_left
            have kl : r2.s.length ≤ (toP r2).b.length := by show r2.s.length ≤ (r2.s ++ r2.m).length; rw [List.length_append]; omega
            have lb : (by8 (toP r2).b).length = (toP r2).b.length := len8 _
            have ls : (by8 r.s).length = r.s.length := len8 _
            have hbz : (toP r2).b.length < 9223372036854775807 := by
              have := (wfk_of hqn).2.2.1
              have := (wfk_of hqn).2.1
              omega
            have hAt : (allR r2 : List UInt8).take (toP r2).b.length = (toP r2).b := by have := hqn.2 hd2; show (r2.s ++ r2.m ++ r2.h).take (r2.s ++ r2.m).length = _; rw [this, List.append_nil, List.take_length]; rfl
            have hAl : (toP r2).b.length ≤ (allR r2 : List UInt8).length := by show (r2.s ++ r2.m).length ≤ (r2.s ++ r2.m ++ r2.h).length; rw [List.length_append (bs := r2.h)]; omega
            have lA : (by8 (allR r2)).length = (allR r2 : List UInt8).length := len8 _
            generalize hbe : (toP r2).b = b2 at *
            rw [len8, len8, decide_eq_false (show ¬ (b2.length : Int) < (r.s.length : Int) by omega)]
            conv => whnf
            refine ⟨by omega, by omega, by omega, ?_⟩
            conv => whnf
            rw [show List.take ((((by8 r.s).length : Nat) : Int).toNat - 0) (List.drop 0 (by8 b2)) = by8 r.s by rw [Int.toNat_natCast, List.drop_zero, ls]; exact tk8 k1]
            refine (c_same r.s r.s (by omega) (m1 := .ro) (m2 := .ro) (.inr rfl) (.inr rfl)).mono fun r st e => ?_
            obtain ⟨rfl, rfl⟩ := e
            conv => whnf
            rw [beq_self_eq_true]
            conv => whnf
            rw [decide_eq_false (show ¬ (((by8 b2).length : Nat) : Int) > (((by8 (allR r2)).length : Nat) : Int) by rw [lb, lA]; omega)]
            conv => whnf
            refine ⟨by omega, by omega, by omega, ?_⟩
            conv => whnf
            rw [show List.take ((((by8 b2).length : Nat) : Int).toNat - 0) (List.drop 0 (by8 (allR r2))) = by8 b2 by rw [Int.toNat_natCast, List.drop_zero, lb]; exact tk8 hAt]
            refine (c_same b2 b2 hbz (m1 := .ro) (m2 := .ro) (.inr rfl) (.inr rfl)).mono fun r st e => ?_
            obtain ⟨rfl, rfl⟩ := e
            conv => whnf
            rw [beq_self_eq_true]
            conv => whnf
            subst hbe
            refine (c_safe1 (toP r2) cap c2 L).mono fun r st e => ?_
            obtain ⟨rfl, rfl⟩ := e
            conv => whnf
            rw [decide_eq_false (show ¬ ((toP r2).sf < (((by8 r.s).length : Nat) : Int)) by rw [ls]; show ¬ ((r2.s.length : Int) < (r.s.length : Int)); omega)]
            conv => whnf
            refine (c_safe1 (toP r2) cap c2 L).mono fun r st e => ?_
            obtain ⟨rfl, rfl⟩ := e
            conv => whnf
            rw [decide_eq_false (show ¬ ((toP r2).sf > (((by8 (toP r2).b).length : Nat) : Int)) by rw [lb]; show ¬ ((r2.s.length : Int) > ((toP r2).b.length : Int)); omega)]
            conv => whnf
            refine (c_safe1 (toP r2) cap c2 L).mono fun r st e => ?_
            obtain ⟨rfl, rfl⟩ := e
            conv => whnf
            refine ⟨by show (0 : Int) ≤ (r2.s.length : Int); omega, by omega, by show r2.s.length ≤ (by8 (toP r2).b).length; rw [lb]; exact kl, ?_⟩
            conv => whnf
            rw [show List.take ((toP r2).sf.toNat - 0) (List.drop 0 (by8 (toP r2).b)) = by8 r2.s by rw [List.drop_zero]; exact tk8 ks]
            refine ⟨by omega, _, hat, ?_⟩
            conv => whnf
            refine ⟨[0, 1], ?_⟩
            conv => whnf
            rw [w64 (x := (i : Int) + 1) (by omega) (by omega)]
            refine kK _ _ ?_
            conv => whnf
            refine ⟨1, ?_⟩
            conv => whnf
            refine ⟨⟨i + 1, r2, by omega, hqn, by omega, by omega, .inr (.inr ⟨cap, c2, L, hL, rfl⟩)⟩, ?_⟩
            show l.length - ((i : Int) + 1).toNat < l.length - (i : Int).toNat
            omega
        · conv => whnf
          refine ⟨by omega, _, hat, ?_⟩
          conv => whnf
          refine Branch.yes (show (!r.dead) = true by rw [hdd]; rfl) ?_
          conv => whnf
          refine ⟨by omega, _, hat, ?_⟩
          conv => whnf
          refine ⟨by simp only [List.length_nil, len8]; omega, ?_⟩
          conv => whnf
          rw [by8_app, ← hall]
          cases hd2 : r2.dead with
          | true =>
            refine (c_allD1 (toP r2) cap c2 L hd2).mono fun r st e => ?_
            obtain ⟨rfl, rfl⟩ := e
            conv => whnf
            rw [← hfs.2 hd2]
            refine ⟨[0, 2, 1], ?_⟩
            conv => whnf
            rw [w64 (x := (i : Int) + 1) (by omega) (by omega)]
            refine kK _ _ ?_
            conv => whnf
            refine ⟨1, ?_⟩
            conv => whnf
            refine ⟨⟨i + 1, r2, by omega, hqn, by omega, by omega, .inr (.inr ⟨cap, c2, L, hL, rfl⟩)⟩, ?_⟩
            show l.length - ((i : Int) + 1).toNat < l.length - (i : Int).toNat
            omega
          | false =>
            refine (c_allO1 (toP r2) cap c2 L hL (wfk_of hqn) hd2).mono fun r st e => ?_
            obtain ⟨rfl, rfl⟩ := e
            conv => whnf
            obtain ⟨k1, k2, k3⟩ := pre_s hfs.1
            have k1 : (toP r2).b.take r.s.length = r.s := k1
            have k2 : r.s.length ≤ (toP r2).b.length := k2
            have ks : (toP r2).b.take r2.s.length = r2.s := List.take_left
            have kl : r2.s.length ≤ (toP r2).b.length := by show r2.s.length ≤ (r2.s ++ r2.m).length; rw [List.length_append]; omega
            have lb : (by8 (toP r2).b).length = (toP r2).b.length := len8 _
            have ls : (by8 r.s).length = r.s.length := len8 _
            have hbz : (toP r2).b.length < 9223372036854775807 := by
              have := (wfk_of hqn).2.2.1
              have := (wfk_of hqn).2.1
              omega
            have hAt : (allR r2 : List UInt8).take (toP r2).b.length = (toP r2).b := by have := hqn.2 hd2; show (r2.s ++ r2.m ++ r2.h).take (r2.s ++ r2.m).length = _; rw [this, List.append_nil, List.take_length]; rfl
            have hAl : (toP r2).b.length ≤ (allR r2 : List UInt8).length := by show (r2.s ++ r2.m).length ≤ (r2.s ++ r2.m ++ r2.h).length; rw [List.length_append (bs := r2.h)]; omega
            have lA : (by8 (allR r2)).length = (allR r2 : List UInt8).length := len8 _
            generalize hbe : (toP r2).b = b2 at *
            rw [len8, len8, decide_eq_false (show ¬ (b2.length : Int) < (r.s.length : Int) by omega)]
            conv => whnf
            refine ⟨by omega, by omega, by omega, ?_⟩
            conv => whnf
            rw [show List.take ((((by8 r.s).length : Nat) : Int).toNat - 0) (List.drop 0 (by8 b2)) = by8 r.s by rw [Int.toNat_natCast, List.drop_zero, ls]; exact tk8 k1]
            refine (c_same r.s r.s (by omega) (m1 := .ro) (m2 := .ro) (.inr rfl) (.inr rfl)).mono fun r st e => ?_
            obtain ⟨rfl, rfl⟩ := e
            conv => whnf
            rw [beq_self_eq_true]
            conv => whnf
            rw [decide_eq_false (show ¬ (((by8 b2).length : Nat) : Int) > (((by8 (allR r2)).length : Nat) : Int) by rw [lb, lA]; omega)]
            conv => whnf
            refine ⟨by omega, by omega, by omega, ?_⟩
            conv => whnf
            rw [show List.take ((((by8 b2).length : Nat) : Int).toNat - 0) (List.drop 0 (by8 (allR r2))) = by8 b2 by rw [Int.toNat_natCast, List.drop_zero, lb]; exact tk8 hAt]
            refine (c_same b2 b2 hbz (m1 := .ro) (m2 := .ro) (.inr rfl) (.inr rfl)).mono fun r st e => ?_
            obtain ⟨rfl, rfl⟩ := e
            conv => whnf
            rw [beq_self_eq_true]
            conv => whnf
            subst hbe
            refine (c_safe1 (toP r2) cap c2 L).mono fun r st e => ?_
            obtain ⟨rfl, rfl⟩ := e
            conv => whnf
            rw [decide_eq_false (show ¬ ((toP r2).sf < (((by8 r.s).length : Nat) : Int)) by rw [ls]; show ¬ ((r2.s.length : Int) < (r.s.length : Int)); omega)]
            conv => whnf
            refine (c_safe1 (toP r2) cap c2 L).mono fun r st e => ?_
            obtain ⟨rfl, rfl⟩ := e
            conv => whnf
            rw [decide_eq_false (show ¬ ((toP r2).sf > (((by8 (toP r2).b).length : Nat) : Int)) by rw [lb]; show ¬ ((r2.s.length : Int) > ((toP r2).b.length : Int)); omega)]
            conv => whnf
            refine (c_safe1 (toP r2) cap c2 L).mono fun r st e => ?_
            obtain ⟨rfl, rfl⟩ := e
            conv => whnf
            refine ⟨by show (0 : Int) ≤ (r2.s.length : Int); omega, by omega, by show r2.s.length ≤ (by8 (toP r2).b).length; rw [lb]; exact kl, ?_⟩
            conv => whnf
            rw [show List.take ((toP r2).sf.toNat - 0) (List.drop 0 (by8 (toP r2).b)) = by8 r2.s by rw [List.drop_zero]; exact tk8 ks]
            refine ⟨by omega, _, hat, ?_⟩
            conv => whnf
            refine ⟨[0, 2, 1], ?_⟩
            conv => whnf
            rw [w64 (x := (i : Int) + 1) (by omega) (by omega)]
            refine kK _ _ ?_
            conv => whnf
            refine ⟨1, ?_⟩
            conv => whnf
            refine ⟨⟨i + 1, r2, by omega, hqn, by omega, by omega, .inr (.inr ⟨cap, c2, L, hL, rfl⟩)⟩, ?_⟩
            show l.length - ((i : Int) + 1).toNat < l.length - (i : Int).toNat
            omega
        · conv => whnf
          refine ⟨by omega, _, hat, ?_⟩
          conv => whnf
          refine Branch.yes (show (!r.dead) = true by rw [hdd]; rfl) ?_
          conv => whnf
          refine ⟨by omega, _, hat, ?_⟩
          conv => whnf
          refine ⟨by simp only [List.length_nil, len8]; omega, ?_⟩
          conv => whnf
          rw [by8_app, ← hall]
          cases hd2 : r2.dead with
          | true =>
            refine (c_allD0 (toP r2) hd2).mono fun r st e => ?_
            obtain ⟨rfl, rfl⟩ := e
            conv => whnf
            rw [← hfs.2 hd2]
            refine ⟨[0, 1], ?_⟩
            conv => whnf
            rw [w64 (x := (i : Int) + 1) (by omega) (by omega)]
            refine kK _ _ ?_
            conv => whnf
            refine ⟨0, ?_⟩
            conv => whnf
            refine ⟨⟨i + 1, r2, by omega, hqn, by omega, by omega, .inr (.inl ⟨hb2, rfl⟩)⟩, ?_⟩
            show l.length - ((i : Int) + 1).toNat < l.length - (i : Int).toNat
            omega
          | false =>
            refine (c_allO0 (toP r2) hb2 (wfk_of hqn) hd2).mono fun r st e => ?_
            obtain ⟨rfl, rfl⟩ := e
            conv => whnf
            obtain ⟨k1, k2, k3⟩ := pre_s hfs.1
            have k1 : (toP r2).b.take r.s.length = r.s := k1
            have k2 : r.s.length ≤ (toP r2).b.length := k2
            have ks : (toP r2).b.take r2.s.length = r2.s := List.take_left
            have kl : r2.s.length ≤ (toP r2).b.length := by show r2.s.length ≤ (r2.s ++ r2.m).length; rw [List.length_append]; omega
            have lb : (by8 (toP r2).b).length = (toP r2).b.length := len8 _
            have ls : (by8 r.s).length = r.s.length := len8 _
            have hbz : (toP r2).b.length < 9223372036854775807 := by
              have := (wfk_of hqn).2.2.1
              have := (wfk_of hqn).2.1
              omega
            have hAt : (allR r2 : List UInt8).take (toP r2).b.length = (toP r2).b := by have := hqn.2 hd2; show (r2.s ++ r2.m ++ r2.h).take (r2.s ++ r2.m).length = _; rw [this, List.append_nil, List.take_length]; rfl
            have hAl : (toP r2).b.length ≤ (allR r2 : List UInt8).length := by show (r2.s ++ r2.m).length ≤ (r2.s ++ r2.m ++ r2.h).length; rw [List.length_append (bs := r2.h)]; omega
            have lA : (by8 (allR r2)).length = (allR r2 : List UInt8).length := len8 _
            generalize hbe : (toP r2).b = b2 at *
            rw [len8, len8, decide_eq_false (show ¬ (b2.length : Int) < (r.s.length : Int) by omega)]
            conv => whnf
            refine ⟨by omega, by omega, by omega, ?_⟩
            conv => whnf
            rw [show List.take ((((by8 r.s).length : Nat) : Int).toNat - 0) (List.drop 0 (by8 b2)) = by8 r.s by rw [Int.toNat_natCast, List.drop_zero, ls]; exact tk8 k1]
            refine (c_same r.s r.s (by omega) (m1 := .ro) (m2 := .ro) (.inr rfl) (.inr rfl)).mono fun r st e => ?_
            obtain ⟨rfl, rfl⟩ := e
            conv => whnf
            rw [beq_self_eq_true]
            conv => whnf
            rw [decide_eq_false (show ¬ (((by8 b2).length : Nat) : Int) > (((by8 (allR r2)).length : Nat) : Int) by rw [lb, lA]; omega)]
            conv => whnf
            refine ⟨by omega, by omega, by omega, ?_⟩
            conv => whnf
            rw [show List.take ((((by8 b2).length : Nat) : Int).toNat - 0) (List.drop 0 (by8 (allR r2))) = by8 b2 by rw [Int.toNat_natCast, List.drop_zero, lb]; exact tk8 hAt]
            refine (c_same b2 b2 hbz (m1 := .ro) (m2 := .ro) (.inr rfl) (.inr rfl)).mono fun r st e => ?_
            obtain ⟨rfl, rfl⟩ := e
            conv => whnf
            rw [beq_self_eq_true]
            conv => whnf
            subst hbe
            refine (c_safe0 (toP r2)).mono fun r st e => ?_
            obtain ⟨rfl, rfl⟩ := e
            conv => whnf
            rw [decide_eq_false (show ¬ ((toP r2).sf < (((by8 r.s).length : Nat) : Int)) by rw [ls]; show ¬ ((r2.s.length : Int) < (r.s.length : Int)); omega)]
            conv => whnf
            refine (c_safe0 (toP r2)).mono fun r st e => ?_
            obtain ⟨rfl, rfl⟩ := e
            conv => whnf
            rw [decide_eq_false (show ¬ ((toP r2).sf > (((by8 (toP r2).b).length : Nat) : Int)) by rw [lb]; show ¬ ((r2.s.length : Int) > ((toP r2).b.length : Int)); omega)]
            conv => whnf
            refine (c_safe0 (toP r2)).mono fun r st e => ?_
            obtain ⟨rfl, rfl⟩ := e
            conv => whnf
            refine ⟨by show (0 : Int) ≤ (r2.s.length : Int); omega, by omega, by show r2.s.length ≤ (by8 (toP r2).b).length; rw [lb]; exact kl, ?_⟩
            conv => whnf
            rw [show List.take ((toP r2).sf.toNat - 0) (List.drop 0 (by8 (toP r2).b)) = by8 r2.s by rw [List.drop_zero]; exact tk8 ks]
            refine ⟨by omega, _, hat, ?_⟩
            conv => whnf
            refine ⟨[0, 1], ?_⟩
            conv => whnf
            rw [w64 (x := (i : Int) + 1) (by omega) (by omega)]
            refine kK _ _ ?_
            conv => whnf
            refine ⟨0, ?_⟩
            conv => whnf
            refine ⟨⟨i + 1, r2, by omega, hqn, by omega, by omega, .inr (.inl ⟨hb2, rfl⟩)⟩, ?_⟩
            show l.length - ((i : Int) + 1).toNat < l.length - (i : Int).toNat
            omega
      | true =>
        have cd := c_do1 (toP r) r0 0 B n cap0 c20 L0 hL0 hwk wfr0 hBi (by decide)
        rw [do_to] at cd
        have hall := firm_all (d := 0) (B := B) (n := n) hq (by decide) (by decide) (by omega)
        rw [if_neg (fun e => by rw [hdd] at e; cases e.2)] at hall
        generalize doR r 0 B n = r2 at cd hqn hfs hfl hfr hall
        generalize doR r0 0 B n = rx at cd
        generalize doOk (toP r) r0 0 B n = ox at cd
        obtain ⟨st0, hst0⟩ := P1_ex (toP r2)
        refine ⟨[], ?_⟩
        conv => whnf
        refine ⟨tabF4R13, by decide +kernel, ?_⟩
        conv => whnf
        refine ⟨_, _, c_rnew 1048576, ?_⟩
        conv => whnf
        refine ⟨by omega, _, hat, ?_⟩
        conv => whnf
        refine ⟨_, cd, ⟨_, st0, rfl, hst0⟩, ?_⟩
        rintro q st ⟨rfl, hP⟩
        rcases hP with ⟨cap, c2, L, hL, rfl⟩ | ⟨cap, c2, L, cj, Lj, hL, rfl⟩ | ⟨hb2, cj, Lj, rfl⟩
        · conv => whnf
          refine ⟨by omega, _, hat, ?_⟩
          conv => whnf
          refine Branch.no (show (!r.dead) = false by rw [hdd]; rfl) ?_
          conv => whnf
          rw [← hall]
          cases hd2 : r2.dead with
          | true =>
            refine (c_allD1 (toP r2) cap c2 L hd2).mono fun r st e => ?_
            obtain ⟨rfl, rfl⟩ := e
            conv => whnf
            rw [← hfs.2 hd2]
            refine ⟨[0, 1], ?_⟩
            conv => whnf
            rw [w64 (x := (i : Int) + 1) (by omega) (by omega)]
            refine kK _ _ ?_
            conv => whnf
            refine ⟨1, ?_⟩
            conv => whnf
            refine ⟨⟨i + 1, r2, by omega, hqn, by omega, by omega, .inr (.inr ⟨cap, c2, L, hL, rfl⟩)⟩, ?_⟩
            show l.length - ((i : Int) + 1).toNat < l.length - (i : Int).toNat
            omega
          | false =>
            refine (c_allO1 (toP r2) cap c2 L hL (wfk_of hqn) hd2).mono fun r st e => ?_
            obtain ⟨rfl, rfl⟩ := e
            conv => whnf
            obtain ⟨k1, k2, k3⟩ := pre_s hfs.1
            have k1 : (toP r2).b.take r.s.length = r.s := k1
            have k2 : r.s.length ≤ (toP r2).b.length := k2
            have ks : (toP r2).b.take r2.s.length = r2.s := List.take_left
            have kl : r2.s.length ≤ (toP r2).b.length := by show r2.s.length ≤ (r2.s ++ r2.m).length; rw [List.length_append]; omega
            have lb : (by8 (toP r2).b).length = (toP r2).b.length := len8 _
            have ls : (by8 r.s).length = r.s.length := len8 _
            have hbz : (toP r2).b.length < 9223372036854775807 := by
              have := (wfk_of hqn).2.2.1
              have := (wfk_of hqn).2.1
              omega
            have hAt : (allR r2 : List UInt8).take (toP r2).b.length = (toP r2).b := by have := hqn.2 hd2; show (r2.s ++ r2.m ++ r2.h).take (r2.s ++ r2.m).length = _; rw [this, List.append_nil, List.take_length]; rfl
            have hAl : (toP r2).b.length ≤ (allR r2 : List UInt8).length := by show (r2.s ++ r2.m).length ≤ (r2.s ++ r2.m ++ r2.h).length; rw [List.length_append (bs := r2.h)]; omega
            have lA : (by8 (allR r2)).length = (allR r2 : List UInt8).length := len8 _
            generalize hbe : (toP r2).b = b2 at *
            rw [len8, len8, decide_eq_false (show ¬ (b2.length : Int) < (r.s.length : Int) by omega)]
            conv => whnf
            refine ⟨by omega, by omega, by omega, ?_⟩
            conv => whnf
            rw [show List.take ((((by8 r.s).length : Nat) : Int).toNat - 0) (List.drop 0 (by8 b2)) = by8 r.s by rw [Int.toNat_natCast, List.drop_zero, ls]; exact tk8 k1]
            refine (c_same r.s r.s (by omega) (m1 := .ro) (m2 := .ro) (.inr rfl) (.inr rfl)).mono fun r st e => ?_
            obtain ⟨rfl, rfl⟩ := e
            conv => whnf
            rw [beq_self_eq_true]
            conv => whnf
            rw [decide_eq_false (show ¬ (((by8 b2).length : Nat) : Int) > (((by8 (allR r2)).length : Nat) : Int) by rw [lb, lA]; omega)]
            conv => whnf
            refine ⟨by omega, by omega, by omega, ?_⟩
            conv => whnf
            rw [show List.take ((((by8 b2).length : Nat) : Int).toNat - 0) (List.drop 0 (by8 (allR r2))) = by8 b2 by rw [Int.toNat_natCast, List.drop_zero, lb]; exact tk8 hAt]
            refine (c_same b2 b2 hbz (m1 := .ro) (m2 := .ro) (.inr rfl) (.inr rfl)).mono fun r st e => ?_
            obtain ⟨rfl, rfl⟩ := e
            conv => whnf
            rw [beq_self_eq_true]
            conv => whnf
            subst hbe
            refine (c_safe1 (toP r2) cap c2 L).mono fun r st e => ?_
            obtain ⟨rfl, rfl⟩ := e
            conv => whnf
            rw [decide_eq_false (show ¬ ((toP r2).sf < (((by8 r.s).length : Nat) : Int)) by rw [ls]; show ¬ ((r2.s.length : Int) < (r.s.length : Int)); omega)]
            conv => whnf
            refine (c_safe1 (toP r2) cap c2 L).mono fun r st e => ?_
            obtain ⟨rfl, rfl⟩ := e
            conv => whnf
            rw [decide_eq_false (show ¬ ((toP r2).sf > (((by8 (toP r2).b).length : Nat) : Int)) by rw [lb]; show ¬ ((r2.s.length : Int) > ((toP r2).b.length : Int)); omega)]
            conv => whnf
            refine (c_safe1 (toP r2) cap c2 L).mono fun r st e => ?_
            obtain ⟨rfl, rfl⟩ := e
            conv => whnf
            refine ⟨by show (0 : Int) ≤ (r2.s.length : Int); omega, by omega, by show r2.s.length ≤ (by8 (toP r2).b).length; rw [lb]; exact kl, ?_⟩
            conv => whnf
            rw [show List.take ((toP r2).sf.toNat - 0) (List.drop 0 (by8 (toP r2).b)) = by8 r2.s by rw [List.drop_zero]; exact tk8 ks]
            refine ⟨by omega, _, hat, ?_⟩
            conv => whnf
            refine ⟨[0, 1], ?_⟩
            conv => whnf
            rw [w64 (x := (i : Int) + 1) (by omega) (by omega)]
            refine kK _ _ ?_
            conv => whnf
            refine ⟨1, ?_⟩
            conv => whnf
            refine ⟨⟨i + 1, r2, by omega, hqn, by omega, by omega, .inr (.inr ⟨cap, c2, L, hL, rfl⟩)⟩, ?_⟩
            show l.length - ((i : Int) + 1).toNat < l.length - (i : Int).toNat
            omega
        · conv => whnf
          refine ⟨by omega, _, hat, ?_⟩
          conv => whnf
          refine Branch.no (show (!r.dead) = false by rw [hdd]; rfl) ?_
          conv => whnf
          rw [← hall]
          cases hd2 : r2.dead with
          | true =>
            refine (c_allD1 (toP r2) cap c2 L hd2).mono fun r st e => ?_
            obtain ⟨rfl, rfl⟩ := e
            conv => whnf
            rw [← hfs.2 hd2]
            refine ⟨[0, 2, 1], ?_⟩
            conv => whnf
            rw [w64 (x := (i : Int) + 1) (by omega) (by omega)]
            refine kK _ _ ?_
            conv => whnf
            refine ⟨1, ?_⟩
            conv => whnf
            refine ⟨⟨i + 1, r2, by omega, hqn, by omega, by omega, .inr (.inr ⟨cap, c2, L, hL, rfl⟩)⟩, ?_⟩
            show l.length - ((i : Int) + 1).toNat < l.length - (i : Int).toNat
            omega
          | false =>
            refine (c_allO1 (toP r2) cap c2 L hL (wfk_of hqn) hd2).mono fun r st e => ?_
            obtain ⟨rfl, rfl⟩ := e
            conv => whnf
            obtain ⟨k1, k2, k3⟩ := pre_s hfs.1
            have k1 : (toP r2).b.take r.s.length = r.s := k1
            have k2 : r.s.length ≤ (toP r2).b.length := k2
            have ks : (toP r2).b.take r2.s.length = r2.s := List.take_left
            have kl : r2.s.length ≤ (toP r2).b.length := by show r2.s.length ≤ (r2.s ++ r2.m).length; rw [List.length_append]; omega
            have lb : (by8 (toP r2).b).length = (toP r2).b.length := len8 _
            have ls : (by8 r.s).length = r.s.length := len8 _
            have hbz : (toP r2).b.length < 9223372036854775807 := by
              have := (wfk_of hqn).2.2.1
              have := (wfk_of hqn).2.1
              omega
            have hAt : (allR r2 : List UInt8).take (toP r2).b.length = (toP r2).b := by have := hqn.2 hd2; show (r2.s ++ r2.m ++ r2.h).take (r2.s ++ r2.m).length = _; rw [this, List.append_nil, List.take_length]; rfl
            have hAl : (toP r2).b.length ≤ (allR r2 : List UInt8).length := by show (r2.s ++ r2.m).length ≤ (r2.s ++ r2.m ++ r2.h).length; rw [List.length_append (bs := r2.h)]; omega
            have lA : (by8 (allR r2)).length = (allR r2 : List UInt8).length := len8 _
            generalize hbe : (toP r2).b = b2 at *
            rw [len8, len8, decide_eq_false (show ¬ (b2.length : Int) < (r.s.length : Int) by omega)]
            conv => whnf
            refine ⟨by omega, by omega, by omega, ?_⟩
            conv => whnf
            rw [show List.take ((((by8 r.s).length : Nat) : Int).toNat - 0) (List.drop 0 (by8 b2)) = by8 r.s by rw [Int.toNat_natCast, List.drop_zero, ls]; exact tk8 k1]
            refine (c_same r.s r.s (by omega) (m1 := .ro) (m2 := .ro) (.inr rfl) (.inr rfl)).mono fun r st e => ?_
            obtain ⟨rfl, rfl⟩ := e
            conv => whnf
            rw [beq_self_eq_true]
            conv => whnf
            rw [decide_eq_false (show ¬ (((by8 b2).length : Nat) : Int) > (((by8 (allR r2)).length : Nat) : Int) by rw [lb, lA]; omega)]
            conv => whnf
            refine ⟨by omega, by omega, by omega, ?_⟩
            conv => whnf
            rw [show List.take ((((by8 b2).length : Nat) : Int).toNat - 0) (List.drop 0 (by8 (allR r2))) = by8 b2 by rw [Int.toNat_natCast, List.drop_zero, lb]; exact tk8 hAt]
            refine (c_same b2 b2 hbz (m1 := .ro) (m2 := .ro) (.inr rfl) (.inr rfl)).mono fun r st e => ?_
            obtain ⟨rfl, rfl⟩ := e
            conv => whnf
            rw [beq_self_eq_true]
            conv => whnf
            subst hbe
            refine (c_safe1 (toP r2) cap c2 L).mono fun r st e => ?_
            obtain ⟨rfl, rfl⟩ := e
            conv => whnf
            rw [decide_eq_false (show ¬ ((toP r2).sf < (((by8 r.s).length : Nat) : Int)) by rw [ls]; show ¬ ((r2.s.length : Int) < (r.s.length : Int)); omega)]
            conv => whnf
            refine (c_safe1 (toP r2) cap c2 L).mono fun r st e => ?_
            obtain ⟨rfl, rfl⟩ := e
            conv => whnf
            rw [decide_eq_false (show ¬ ((toP r2).sf > (((by8 (toP r2).b).length : Nat) : Int)) by rw [lb]; show ¬ ((r2.s.length : Int) > ((toP r2).b.length : Int)); omega)]
            conv => whnf
            refine (c_safe1 (toP r2) cap c2 L).mono fun r st e => ?_
            obtain ⟨rfl, rfl⟩ := e
            conv => whnf
            refine ⟨by show (0 : Int) ≤ (r2.s.length : Int); omega, by omega, by show r2.s.length ≤ (by8 (toP r2).b).length; rw [lb]; exact kl, ?_⟩
            conv => whnf
            rw [show List.take ((toP r2).sf.toNat - 0) (List.drop 0 (by8 (toP r2).b)) = by8 r2.s by rw [List.drop_zero]; exact tk8 ks]
            refine ⟨by omega, _, hat, ?_⟩
            conv => whnf
            refine ⟨[0, 2, 1], ?_⟩
            conv => whnf
            rw [w64 (x := (i : Int) + 1) (by omega) (by omega)]
            refine kK _ _ ?_
            conv => whnf
            refine ⟨1, ?_⟩
            conv => whnf
            refine ⟨⟨i + 1, r2, by omega, hqn, by omega, by omega, .inr (.inr ⟨cap, c2, L, hL, rfl⟩)⟩, ?_⟩
            show l.length - ((i : Int) + 1).toNat < l.length - (i : Int).toNat
            omega
        · conv => whnf
          refine ⟨by omega, _, hat, ?_⟩
          conv => whnf
          refine Branch.no (show (!r.dead) = false by rw [hdd]; rfl) ?_
          conv => whnf
          rw [← hall]
          cases hd2 : r2.dead with
          | true =>
            refine (c_allD0 (toP r2) hd2).mono fun r st e => ?_
            obtain ⟨rfl, rfl⟩ := e
            conv => whnf
            rw [← hfs.2 hd2]
            refine ⟨[0, 1], ?_⟩
            conv => whnf
            rw [w64 (x := (i : Int) + 1) (by omega) (by omega)]
            refine kK _ _ ?_
            conv => whnf
            refine ⟨0, ?_⟩
            conv => whnf
            refine ⟨⟨i + 1, r2, by omega, hqn, by omega, by omega, .inr (.inl ⟨hb2, rfl⟩)⟩, ?_⟩
            show l.length - ((i : Int) + 1).toNat < l.length - (i : Int).toNat
            omega
          | false =>
            refine (c_allO0 (toP r2) hb2 (wfk_of hqn) hd2).mono fun r st e => ?_
            obtain ⟨rfl, rfl⟩ := e
            conv => whnf
            obtain ⟨k1, k2, k3⟩ := pre_s hfs.1
            have k1 : (toP r2).b.take r.s.length = r.s := k1
            have k2 : r.s.length ≤ (toP r2).b.length := k2
            have ks : (toP r2).b.take r2.s.length = r2.s := List.take_left
            have kl : r2.s.length ≤ (toP r2).b.length := by show r2.s.length ≤ (r2.s ++ r2.m).length; rw [List.length_append]; omega
            have lb : (by8 (toP r2).b).length = (toP r2).b.length := len8 _
            have ls : (by8 r.s).length = r.s.length := len8 _
            have hbz : (toP r2).b.length < 9223372036854775807 := by
              have := (wfk_of hqn).2.2.1
              have := (wfk_of hqn).2.1
              omega
            have hAt : (allR r2 : List UInt8).take (toP r2).b.length = (toP r2).b := by have := hqn.2 hd2; show (r2.s ++ r2.m ++ r2.h).take (r2.s ++ r2.m).length = _; rw [this, List.append_nil, List.take_length]; rfl
            have hAl : (toP r2).b.length ≤ (allR r2 : List UInt8).length := by show (r2.s ++ r2.m).length ≤ (r2.s ++ r2.m ++ r2.h).length; rw [List.length_append (bs := r2.h)]; omega
            have lA : (by8 (allR r2)).length = (allR r2 : List UInt8).length := len8 _
            generalize hbe : (toP r2).b = b2 at *
            rw [len8, len8, decide_eq_false (show ¬ (b2.length : Int) < (r.s.length : Int) by omega)]
            conv => whnf
            refine ⟨by omega, by omega, by omega, ?_⟩
            conv => whnf
            rw [show List.take ((((by8 r.s).length : Nat) : Int).toNat - 0) (List.drop 0 (by8 b2)) = by8 r.s by rw [Int.toNat_natCast, List.drop_zero, ls]; exact tk8 k1]
            refine (c_same r.s r.s (by omega) (m1 := .ro) (m2 := .ro) (.inr rfl) (.inr rfl)).mono fun r st e => ?_
            obtain ⟨rfl, rfl⟩ := e
            conv => whnf
            rw [beq_self_eq_true]
            conv => whnf
            rw [decide_eq_false (show ¬ (((by8 b2).length : Nat) : Int) > (((by8 (allR r2)).length : Nat) : Int) by rw [lb, lA]; omega)]
            conv => whnf
            refine ⟨by omega, by omega, by omega, ?_⟩
            conv => whnf
            rw [show List.take ((((by8 b2).length : Nat) : Int).toNat - 0) (List.drop 0 (by8 (allR r2))) = by8 b2 by rw [Int.toNat_natCast, List.drop_zero, lb]; exact tk8 hAt]
            refine (c_same b2 b2 hbz (m1 := .ro) (m2 := .ro) (.inr rfl) (.inr rfl)).mono fun r st e => ?_
            obtain ⟨rfl, rfl⟩ := e
            conv => whnf
            rw [beq_self_eq_true]
            conv => whnf
            subst hbe
            refine (c_safe0 (toP r2)).mono fun r st e => ?_
            obtain ⟨rfl, rfl⟩ := e
            conv => whnf
            rw [decide_eq_false (show ¬ ((toP r2).sf < (((by8 r.s).length : Nat) : Int)) by rw [ls]; show ¬ ((r2.s.length : Int) < (r.s.length : Int)); omega)]
            conv => whnf
            refine (c_safe0 (toP r2)).mono fun r st e => ?_
            obtain ⟨rfl, rfl⟩ := e
            conv => whnf
            rw [decide_eq_false (show ¬ ((toP r2).sf > (((by8 (toP r2).b).length : Nat) : Int)) by rw [lb]; show ¬ ((r2.s.length : Int) > ((toP r2).b.length : Int)); omega)]
            conv => whnf
            refine (c_safe0 (toP r2)).mono fun r st e => ?_
            obtain ⟨rfl, rfl⟩ := e
            conv => whnf
            refine ⟨by show (0 : Int) ≤ (r2.s.length : Int); omega, by omega, by show r2.s.length ≤ (by8 (toP r2).b).length; rw [lb]; exact kl, ?_⟩
            conv => whnf
            rw [show List.take ((toP r2).sf.toNat - 0) (List.drop 0 (by8 (toP r2).b)) = by8 r2.s by rw [List.drop_zero]; exact tk8 ks]
            refine ⟨by omega, _, hat, ?_⟩
            conv => whnf
            refine ⟨[0, 1], ?_⟩
            conv => whnf
            rw [w64 (x := (i : Int) + 1) (by omega) (by omega)]
            refine kK _ _ ?_
            conv => whnf
            refine ⟨0, ?_⟩
            conv => whnf
            refine ⟨⟨i + 1, r2, by omega, hqn, by omega, by omega, .inr (.inl ⟨hb2, rfl⟩)⟩, ?_⟩
            show l.length - ((i : Int) + 1).toNat < l.length - (i : Int).toNat
            omega
    by_cases h4 : d = 4
    · subst h4
      have cd := c_doR (toP r) r0 B n hwk hph wfr0
      rw [crash_to] at cd
      rw [show doR r 4 B n = crashRr r n by simp [doR]] at hqn hfs hfl hfr
      have hd2 : (crashRr r n).dead = false := rfl
      have hcr : ∃ t, allR r = (crashRr r n).s ++ (crashRr r n).m ++ t := ⟨(r.m ++ r.h).drop (min (max n 0) ((r.m ++ r.h).length : Int)).toNat, by simp [allR, crashRr]⟩
      generalize crashRr r n = r2 at cd hqn hfs hfl hfr hcr hd2
      generalize crashRr r0 n = rx at cd
      obtain ⟨st0, hst0⟩ := P0_ex (toP r2)
      refine ⟨[(0, [0])], ?_⟩
      conv => whnf
      rw [List.drop_zero, hL0.2.2.2]
      refine ⟨tabF4R13, by decide +kernel, ?_⟩
      conv => whnf
      refine ⟨_, _, c_rnew 1048576, ?_⟩
      conv => whnf
      refine ⟨by omega, _, hat, ?_⟩
      conv => whnf
      refine ⟨_, cd, ⟨_, st0, rfl, hst0⟩, ?_⟩
      rintro q st ⟨rfl, hP⟩
      rcases hP with ⟨hb2, rfl⟩ | ⟨cap, c2, L, hL, rfl⟩
      · conv => whnf
        refine ⟨by omega, _, hat, ?_⟩
        conv => whnf
        refine (c_allO0 (toP r2) hb2 (wfk_of hqn) hd2).mono fun r st e => ?_
        obtain ⟨rfl, rfl⟩ := e
        conv => whnf
        obtain ⟨k1, k2, k3⟩ := pre_s hfs.1
        have k1 : (toP r2).b.take r.s.length = r.s := k1
        have k2 : r.s.length ≤ (toP r2).b.length := k2
        have ks : (toP r2).b.take r2.s.length = r2.s := List.take_left
        have kl : r2.s.length ≤ (toP r2).b.length := by show r2.s.length ≤ (r2.s ++ r2.m).length; rw [List.length_append]; omega
        have lb : (by8 (toP r2).b).length = (toP r2).b.length := len8 _
        have ls : (by8 r.s).length = r.s.length := len8 _
        have hbz : (toP r2).b.length < 9223372036854775807 := by
          have := (wfk_of hqn).2.2.1
          have := (wfk_of hqn).2.1
          omega
        have hAt : (allR r : List UInt8).take (toP r2).b.length = (toP r2).b := by obtain ⟨t, ht⟩ := hcr; rw [ht]; exact List.take_left
        have hAl : (toP r2).b.length ≤ (allR r : List UInt8).length := by obtain ⟨t, ht⟩ := hcr; rw [ht]; show (r2.s ++ r2.m).length ≤ (r2.s ++ r2.m ++ t).length; simp only [List.length_append]; omega
        have lA : (by8 (allR r)).length = (allR r : List UInt8).length := len8 _
        generalize hbe : (toP r2).b = b2 at *
        rw [len8, len8, decide_eq_false (show ¬ (b2.length : Int) < (r.s.length : Int) by omega)]
        conv => whnf
        refine ⟨by omega, by omega, by omega, ?_⟩
        conv => whnf
        rw [show List.take ((((by8 r.s).length : Nat) : Int).toNat - 0) (List.drop 0 (by8 b2)) = by8 r.s by rw [Int.toNat_natCast, List.drop_zero, ls]; exact tk8 k1]
        refine (c_same r.s r.s (by omega) (m1 := .ro) (m2 := .ro) (.inr rfl) (.inr rfl)).mono fun r st e => ?_
        obtain ⟨rfl, rfl⟩ := e
        conv => whnf
        rw [beq_self_eq_true]
        conv => whnf
        rw [decide_eq_false (show ¬ (((by8 b2).length : Nat) : Int) > (((by8 (allR r)).length : Nat) : Int) by rw [lb, lA]; omega)]
        conv => whnf
        refine ⟨by omega, by omega, by omega, ?_⟩
        conv => whnf
        rw [show List.take ((((by8 b2).length : Nat) : Int).toNat - 0) (List.drop 0 (by8 (allR r))) = by8 b2 by rw [Int.toNat_natCast, List.drop_zero, lb]; exact tk8 hAt]
        refine (c_same b2 b2 hbz (m1 := .ro) (m2 := .ro) (.inr rfl) (.inr rfl)).mono fun r st e => ?_
        obtain ⟨rfl, rfl⟩ := e
        conv => whnf
        rw [beq_self_eq_true]
        conv => whnf
        subst hbe
        refine (c_safe0 (toP r2)).mono fun r st e => ?_
        obtain ⟨rfl, rfl⟩ := e
        conv => whnf
        rw [decide_eq_false (show ¬ ((toP r2).sf < (((by8 r.s).length : Nat) : Int)) by rw [ls]; show ¬ ((r2.s.length : Int) < (r.s.length : Int)); omega)]
        conv => whnf
        refine (c_safe0 (toP r2)).mono fun r st e => ?_
        obtain ⟨rfl, rfl⟩ := e
        conv => whnf
        rw [decide_eq_false (show ¬ ((toP r2).sf > (((by8 (toP r2).b).length : Nat) : Int)) by rw [lb]; show ¬ ((r2.s.length : Int) > ((toP r2).b.length : Int)); omega)]
        conv => whnf
        refine (c_safe0 (toP r2)).mono fun r st e => ?_
        obtain ⟨rfl, rfl⟩ := e
        conv => whnf
        refine ⟨by show (0 : Int) ≤ (r2.s.length : Int); omega, by omega, by show r2.s.length ≤ (by8 (toP r2).b).length; rw [lb]; exact kl, ?_⟩
        conv => whnf
        rw [show List.take ((toP r2).sf.toNat - 0) (List.drop 0 (by8 (toP r2).b)) = by8 r2.s by rw [List.drop_zero]; exact tk8 ks]
        refine ⟨by omega, _, hat, ?_⟩
        conv => whnf
        have hAB : allR r2 = (toP r2).b := by have := hqn.2 hd2; unfold allR; rw [this, List.append_nil]; rfl
        rw [show by8 (toP r2).b = by8 (allR r2) from by rw [hAB]]
        refine ⟨[0, 1], ?_⟩
        conv => whnf
        rw [w64 (x := (i : Int) + 1) (by omega) (by omega)]
        refine kK _ _ ?_
        conv => whnf
        refine ⟨0, ?_⟩
        conv => whnf
        refine ⟨⟨i + 1, r2, by omega, hqn, by omega, by omega, .inr (.inl ⟨hb2, rfl⟩)⟩, ?_⟩
        show l.length - ((i : Int) + 1).toNat < l.length - (i : Int).toNat
        omega
      · conv => whnf
        refine ⟨by omega, _, hat, ?_⟩
        conv => whnf
        refine (c_allO1 (toP r2) cap c2 L hL (wfk_of hqn) hd2).mono fun r st e => ?_
        obtain ⟨rfl, rfl⟩ := e
        conv => whnf
        obtain ⟨k1, k2, k3⟩ := pre_s hfs.1
        have k1 : (toP r2).b.take r.s.length = r.s := k1
        have k2 : r.s.length ≤ (toP r2).b.length := k2
        have ks : (toP r2).b.take r2.s.length = r2.s := List.take_left
        have kl : r2.s.length ≤ (toP r2).b.length := by show r2.s.length ≤ (r2.s ++ r2.m).length; rw [List.length_append]; omega
        have lb : (by8 (toP r2).b).length = (toP r2).b.length := len8 _
        have ls : (by8 r.s).length = r.s.length := len8 _
        have hbz : (toP r2).b.length < 9223372036854775807 := by
          have := (wfk_of hqn).2.2.1
          have := (wfk_of hqn).2.1
          omega
        have hAt : (allR r : List UInt8).take (toP r2).b.length = (toP r2).b := by obtain ⟨t, ht⟩ := hcr; rw [ht]; exact List.take_left
        have hAl : (toP r2).b.length ≤ (allR r : List UInt8).length := by obtain ⟨t, ht⟩ := hcr; rw [ht]; show (r2.s ++ r2.m).length ≤ (r2.s ++ r2.m ++ t).length; simp only [List.length_append]; omega
        have lA : (by8 (allR r)).length = (allR r : List UInt8).length := len8 _
        generalize hbe : (toP r2).b = b2 at *
        rw [len8, len8, decide_eq_false (show ¬ (b2.length : Int) < (r.s.length : Int) by omega)]
        conv => whnf
        refine ⟨by omega, by omega, by omega, ?_⟩
        conv => whnf
        rw [show List.take ((((by8 r.s).length : Nat) : Int).toNat - 0) (List.drop 0 (by8 b2)) = by8 r.s by rw [Int.toNat_natCast, List.drop_zero, ls]; exact tk8 k1]
        refine (c_same r.s r.s (by omega) (m1 := .ro) (m2 := .ro) (.inr rfl) (.inr rfl)).mono fun r st e => ?_
        obtain ⟨rfl, rfl⟩ := e
        conv => whnf
        rw [beq_self_eq_true]
        conv => whnf
        rw [decide_eq_false (show ¬ (((by8 b2).length : Nat) : Int) > (((by8 (allR r)).length : Nat) : Int) by rw [lb, lA]; omega)]
        conv => whnf
        refine ⟨by omega, by omega, by omega, ?_⟩
        conv => whnf
        rw [show List.take ((((by8 b2).length : Nat) : Int).toNat - 0) (List.drop 0 (by8 (allR r))) = by8 b2 by rw [Int.toNat_natCast, List.drop_zero, lb]; exact tk8 hAt]
        refine (c_same b2 b2 hbz (m1 := .ro) (m2 := .ro) (.inr rfl) (.inr rfl)).mono fun r st e => ?_
        obtain ⟨rfl, rfl⟩ := e
        conv => whnf
        rw [beq_self_eq_true]
        conv => whnf
        subst hbe
        refine (c_safe1 (toP r2) cap c2 L).mono fun r st e => ?_
        obtain ⟨rfl, rfl⟩ := e
        conv => whnf
        rw [decide_eq_false (show ¬ ((toP r2).sf < (((by8 r.s).length : Nat) : Int)) by rw [ls]; show ¬ ((r2.s.length : Int) < (r.s.length : Int)); omega)]
        conv => whnf
        refine (c_safe1 (toP r2) cap c2 L).mono fun r st e => ?_
        obtain ⟨rfl, rfl⟩ := e
        conv => whnf
        rw [decide_eq_false (show ¬ ((toP r2).sf > (((by8 (toP r2).b).length : Nat) : Int)) by rw [lb]; show ¬ ((r2.s.length : Int) > ((toP r2).b.length : Int)); omega)]
        conv => whnf
        refine (c_safe1 (toP r2) cap c2 L).mono fun r st e => ?_
        obtain ⟨rfl, rfl⟩ := e
        conv => whnf
        refine ⟨by show (0 : Int) ≤ (r2.s.length : Int); omega, by omega, by show r2.s.length ≤ (by8 (toP r2).b).length; rw [lb]; exact kl, ?_⟩
        conv => whnf
        rw [show List.take ((toP r2).sf.toNat - 0) (List.drop 0 (by8 (toP r2).b)) = by8 r2.s by rw [List.drop_zero]; exact tk8 ks]
        refine ⟨by omega, _, hat, ?_⟩
        conv => whnf
        have hAB : allR r2 = (toP r2).b := by have := hqn.2 hd2; unfold allR; rw [this, List.append_nil]; rfl
        rw [show by8 (toP r2).b = by8 (allR r2) from by rw [hAB]]
        refine ⟨[0, 2, 1], ?_⟩
        conv => whnf
        rw [w64 (x := (i : Int) + 1) (by omega) (by omega)]
        refine kK _ _ ?_
        conv => whnf
        refine ⟨1, ?_⟩
        conv => whnf
        refine ⟨⟨i + 1, r2, by omega, hqn, by omega, by omega, .inr (.inr ⟨cap, c2, L, hL, rfl⟩)⟩, ?_⟩
        show l.length - ((i : Int) + 1).toNat < l.length - (i : Int).toNat
        omega
    have cd := c_do1 (toP r) r0 d B n cap0 c20 L0 hL0 hwk wfr0 hBi h4
    rw [do_to] at cd
    have hall := firm_all (d := d) (B := B) (n := n) hq h2 h4 (by omega)
    rw [if_neg (fun e => h0 e.1)] at hall
    generalize doR r d B n = r2 at cd hqn hfs hfl hfr hall
    generalize doR r0 d B n = rx at cd
    generalize doOk (toP r) r0 d B n = ox at cd
    obtain ⟨st0, hst0⟩ := P1_ex (toP r2)
    refine ⟨[], ?_⟩
    conv => whnf
    refine ⟨tabF4R13, by decide +kernel, ?_⟩
    conv => whnf
    refine ⟨_, _, c_rnew 1048576, ?_⟩
    conv => whnf
    refine ⟨by omega, _, hat, ?_⟩
    conv => whnf
    refine ⟨_, cd, ⟨_, st0, rfl, hst0⟩, ?_⟩
    rintro q st ⟨rfl, hP⟩
    rcases hP with ⟨cap, c2, L, hL, rfl⟩ | ⟨cap, c2, L, cj, Lj, hL, rfl⟩ | ⟨hb2, cj, Lj, rfl⟩
    · conv => whnf
      refine ⟨by omega, _, hat, ?_⟩
      conv => whnf
      rw [show (d == 0) = false from decide_eq_false h0]
      conv => whnf
      rw [← hall]
      cases hd2 : r2.dead with
      | true =>
        refine (c_allD1 (toP r2) cap c2 L hd2).mono fun r st e => ?_
        obtain ⟨rfl, rfl⟩ := e
        conv => whnf
        rw [← hfs.2 hd2]
        refine ⟨[0, 1], ?_⟩
        conv => whnf
        rw [w64 (x := (i : Int) + 1) (by omega) (by omega)]
        refine kK _ _ ?_
        conv => whnf
        refine ⟨1, ?_⟩
        conv => whnf
        refine ⟨⟨i + 1, r2, by omega, hqn, by omega, by omega, .inr (.inr ⟨cap, c2, L, hL, rfl⟩)⟩, ?_⟩
        show l.length - ((i : Int) + 1).toNat < l.length - (i : Int).toNat
        omega
      | false =>
        refine (c_allO1 (toP r2) cap c2 L hL (wfk_of hqn) hd2).mono fun r st e => ?_
        obtain ⟨rfl, rfl⟩ := e
        conv => whnf
        obtain ⟨k1, k2, k3⟩ := pre_s hfs.1
        have k1 : (toP r2).b.take r.s.length = r.s := k1
        have k2 : r.s.length ≤ (toP r2).b.length := k2
        have ks : (toP r2).b.take r2.s.length = r2.s := List.take_left
        have kl : r2.s.length ≤ (toP r2).b.length := by show r2.s.length ≤ (r2.s ++ r2.m).length; rw [List.length_append]; omega
        have lb : (by8 (toP r2).b).length = (toP r2).b.length := len8 _
        have ls : (by8 r.s).length = r.s.length := len8 _
        have hbz : (toP r2).b.length < 9223372036854775807 := by
          have := (wfk_of hqn).2.2.1
          have := (wfk_of hqn).2.1
          omega
        have hAt : (allR r2 : List UInt8).take (toP r2).b.length = (toP r2).b := by have := hqn.2 hd2; show (r2.s ++ r2.m ++ r2.h).take (r2.s ++ r2.m).length = _; rw [this, List.append_nil, List.take_length]; rfl
        have hAl : (toP r2).b.length ≤ (allR r2 : List UInt8).length := by show (r2.s ++ r2.m).length ≤ (r2.s ++ r2.m ++ r2.h).length; rw [List.length_append (bs := r2.h)]; omega
        have lA : (by8 (allR r2)).length = (allR r2 : List UInt8).length := len8 _
        generalize hbe : (toP r2).b = b2 at *
        rw [len8, len8, decide_eq_false (show ¬ (b2.length : Int) < (r.s.length : Int) by omega)]
        conv => whnf
        refine ⟨by omega, by omega, by omega, ?_⟩
        conv => whnf
        rw [show List.take ((((by8 r.s).length : Nat) : Int).toNat - 0) (List.drop 0 (by8 b2)) = by8 r.s by rw [Int.toNat_natCast, List.drop_zero, ls]; exact tk8 k1]
        refine (c_same r.s r.s (by omega) (m1 := .ro) (m2 := .ro) (.inr rfl) (.inr rfl)).mono fun r st e => ?_
        obtain ⟨rfl, rfl⟩ := e
        conv => whnf
        rw [beq_self_eq_true]
        conv => whnf
        rw [decide_eq_false (show ¬ (((by8 b2).length : Nat) : Int) > (((by8 (allR r2)).length : Nat) : Int) by rw [lb, lA]; omega)]
        conv => whnf
        refine ⟨by omega, by omega, by omega, ?_⟩
        conv => whnf
        rw [show List.take ((((by8 b2).length : Nat) : Int).toNat - 0) (List.drop 0 (by8 (allR r2))) = by8 b2 by rw [Int.toNat_natCast, List.drop_zero, lb]; exact tk8 hAt]
        refine (c_same b2 b2 hbz (m1 := .ro) (m2 := .ro) (.inr rfl) (.inr rfl)).mono fun r st e => ?_
        obtain ⟨rfl, rfl⟩ := e
        conv => whnf
        rw [beq_self_eq_true]
        conv => whnf
        subst hbe
        refine (c_safe1 (toP r2) cap c2 L).mono fun r st e => ?_
        obtain ⟨rfl, rfl⟩ := e
        conv => whnf
        rw [decide_eq_false (show ¬ ((toP r2).sf < (((by8 r.s).length : Nat) : Int)) by rw [ls]; show ¬ ((r2.s.length : Int) < (r.s.length : Int)); omega)]
        conv => whnf
        refine (c_safe1 (toP r2) cap c2 L).mono fun r st e => ?_
        obtain ⟨rfl, rfl⟩ := e
        conv => whnf
        rw [decide_eq_false (show ¬ ((toP r2).sf > (((by8 (toP r2).b).length : Nat) : Int)) by rw [lb]; show ¬ ((r2.s.length : Int) > ((toP r2).b.length : Int)); omega)]
        conv => whnf
        refine (c_safe1 (toP r2) cap c2 L).mono fun r st e => ?_
        obtain ⟨rfl, rfl⟩ := e
        conv => whnf
        refine ⟨by show (0 : Int) ≤ (r2.s.length : Int); omega, by omega, by show r2.s.length ≤ (by8 (toP r2).b).length; rw [lb]; exact kl, ?_⟩
        conv => whnf
        rw [show List.take ((toP r2).sf.toNat - 0) (List.drop 0 (by8 (toP r2).b)) = by8 r2.s by rw [List.drop_zero]; exact tk8 ks]
        refine ⟨by omega, _, hat, ?_⟩
        conv => whnf
        rw [show (d == 4) = false from decide_eq_false h4]
        conv => whnf
        refine ⟨[0, 1], ?_⟩
        conv => whnf
        rw [w64 (x := (i : Int) + 1) (by omega) (by omega)]
        refine kK _ _ ?_
        conv => whnf
        refine ⟨1, ?_⟩
        conv => whnf
        refine ⟨⟨i + 1, r2, by omega, hqn, by omega, by omega, .inr (.inr ⟨cap, c2, L, hL, rfl⟩)⟩, ?_⟩
        show l.length - ((i : Int) + 1).toNat < l.length - (i : Int).toNat
        omega
    · conv => whnf
      refine ⟨by omega, _, hat, ?_⟩
      conv => whnf
      rw [show (d == 0) = false from decide_eq_false h0]
      conv => whnf
      rw [← hall]
      cases hd2 : r2.dead with
      | true =>
        refine (c_allD1 (toP r2) cap c2 L hd2).mono fun r st e => ?_
        obtain ⟨rfl, rfl⟩ := e
        conv => whnf
        rw [← hfs.2 hd2]
        refine ⟨[0, 2, 1], ?_⟩
        conv => whnf
        rw [w64 (x := (i : Int) + 1) (by omega) (by omega)]
        refine kK _ _ ?_
        conv => whnf
        refine ⟨1, ?_⟩
        conv => whnf
        refine ⟨⟨i + 1, r2, by omega, hqn, by omega, by omega, .inr (.inr ⟨cap, c2, L, hL, rfl⟩)⟩, ?_⟩
        show l.length - ((i : Int) + 1).toNat < l.length - (i : Int).toNat
        omega
      | false =>
        refine (c_allO1 (toP r2) cap c2 L hL (wfk_of hqn) hd2).mono fun r st e => ?_
        obtain ⟨rfl, rfl⟩ := e
        conv => whnf
        obtain ⟨k1, k2, k3⟩ := pre_s hfs.1
        have k1 : (toP r2).b.take r.s.length = r.s := k1
        have k2 : r.s.length ≤ (toP r2).b.length := k2
        have ks : (toP r2).b.take r2.s.length = r2.s := List.take_left
        have kl : r2.s.length ≤ (toP r2).b.length := by show r2.s.length ≤ (r2.s ++ r2.m).length; rw [List.length_append]; omega
        have lb : (by8 (toP r2).b).length = (toP r2).b.length := len8 _
        have ls : (by8 r.s).length = r.s.length := len8 _
        have hbz : (toP r2).b.length < 9223372036854775807 := by
          have := (wfk_of hqn).2.2.1
          have := (wfk_of hqn).2.1
          omega
        have hAt : (allR r2 : List UInt8).take (toP r2).b.length = (toP r2).b := by have := hqn.2 hd2; show (r2.s ++ r2.m ++ r2.h).take (r2.s ++ r2.m).length = _; rw [this, List.append_nil, List.take_length]; rfl
        have hAl : (toP r2).b.length ≤ (allR r2 : List UInt8).length := by show (r2.s ++ r2.m).length ≤ (r2.s ++ r2.m ++ r2.h).length; rw [List.length_append (bs := r2.h)]; omega
        have lA : (by8 (allR r2)).length = (allR r2 : List UInt8).length := len8 _
        generalize hbe : (toP r2).b = b2 at *
        rw [len8, len8, decide_eq_false (show ¬ (b2.length : Int) < (r.s.length : Int) by omega)]
        conv => whnf
        refine ⟨by omega, by omega, by omega, ?_⟩
        conv => whnf
        rw [show List.take ((((by8 r.s).length : Nat) : Int).toNat - 0) (List.drop 0 (by8 b2)) = by8 r.s by rw [Int.toNat_natCast, List.drop_zero, ls]; exact tk8 k1]
        refine (c_same r.s r.s (by omega) (m1 := .ro) (m2 := .ro) (.inr rfl) (.inr rfl)).mono fun r st e => ?_
        obtain ⟨rfl, rfl⟩ := e
        conv => whnf
        rw [beq_self_eq_true]
        conv => whnf
        rw [decide_eq_false (show ¬ (((by8 b2).length : Nat) : Int) > (((by8 (allR r2)).length : Nat) : Int) by rw [lb, lA]; omega)]
        conv => whnf
        refine ⟨by omega, by omega, by omega, ?_⟩
        conv => whnf
        rw [show List.take ((((by8 b2).length : Nat) : Int).toNat - 0) (List.drop 0 (by8 (allR r2))) = by8 b2 by rw [Int.toNat_natCast, List.drop_zero, lb]; exact tk8 hAt]
        refine (c_same b2 b2 hbz (m1 := .ro) (m2 := .ro) (.inr rfl) (.inr rfl)).mono fun r st e => ?_
        obtain ⟨rfl, rfl⟩ := e
        conv => whnf
        rw [beq_self_eq_true]
        conv => whnf
        subst hbe
        refine (c_safe1 (toP r2) cap c2 L).mono fun r st e => ?_
        obtain ⟨rfl, rfl⟩ := e
        conv => whnf
        rw [decide_eq_false (show ¬ ((toP r2).sf < (((by8 r.s).length : Nat) : Int)) by rw [ls]; show ¬ ((r2.s.length : Int) < (r.s.length : Int)); omega)]
        conv => whnf
        refine (c_safe1 (toP r2) cap c2 L).mono fun r st e => ?_
        obtain ⟨rfl, rfl⟩ := e
        conv => whnf
        rw [decide_eq_false (show ¬ ((toP r2).sf > (((by8 (toP r2).b).length : Nat) : Int)) by rw [lb]; show ¬ ((r2.s.length : Int) > ((toP r2).b.length : Int)); omega)]
        conv => whnf
        refine (c_safe1 (toP r2) cap c2 L).mono fun r st e => ?_
        obtain ⟨rfl, rfl⟩ := e
        conv => whnf
        refine ⟨by show (0 : Int) ≤ (r2.s.length : Int); omega, by omega, by show r2.s.length ≤ (by8 (toP r2).b).length; rw [lb]; exact kl, ?_⟩
        conv => whnf
        rw [show List.take ((toP r2).sf.toNat - 0) (List.drop 0 (by8 (toP r2).b)) = by8 r2.s by rw [List.drop_zero]; exact tk8 ks]
        refine ⟨by omega, _, hat, ?_⟩
        conv => whnf
        rw [show (d == 4) = false from decide_eq_false h4]
        conv => whnf
        refine ⟨[0, 2, 1], ?_⟩
        conv => whnf
        rw [w64 (x := (i : Int) + 1) (by omega) (by omega)]
        refine kK _ _ ?_
        conv => whnf
        refine ⟨1, ?_⟩
        conv => whnf
        refine ⟨⟨i + 1, r2, by omega, hqn, by omega, by omega, .inr (.inr ⟨cap, c2, L, hL, rfl⟩)⟩, ?_⟩
        show l.length - ((i : Int) + 1).toNat < l.length - (i : Int).toNat
        omega
    · conv => whnf
      refine ⟨by omega, _, hat, ?_⟩
      conv => whnf
      rw [show (d == 0) = false from decide_eq_false h0]
      conv => whnf
      rw [← hall]
      cases hd2 : r2.dead with
      | true =>
        refine (c_allD0 (toP r2) hd2).mono fun r st e => ?_
        obtain ⟨rfl, rfl⟩ := e
        conv => whnf
        rw [← hfs.2 hd2]
        refine ⟨[0, 1], ?_⟩
        conv => whnf
        rw [w64 (x := (i : Int) + 1) (by omega) (by omega)]
        refine kK _ _ ?_
        conv => whnf
        refine ⟨0, ?_⟩
        conv => whnf
        refine ⟨⟨i + 1, r2, by omega, hqn, by omega, by omega, .inr (.inl ⟨hb2, rfl⟩)⟩, ?_⟩
        show l.length - ((i : Int) + 1).toNat < l.length - (i : Int).toNat
        omega
      | false =>
        refine (c_allO0 (toP r2) hb2 (wfk_of hqn) hd2).mono fun r st e => ?_
        obtain ⟨rfl, rfl⟩ := e
        conv => whnf
        obtain ⟨k1, k2, k3⟩ := pre_s hfs.1
        have k1 : (toP r2).b.take r.s.length = r.s := k1
        have k2 : r.s.length ≤ (toP r2).b.length := k2
        have ks : (toP r2).b.take r2.s.length = r2.s := List.take_left
        have kl : r2.s.length ≤ (toP r2).b.length := by show r2.s.length ≤ (r2.s ++ r2.m).length; rw [List.length_append]; omega
        have lb : (by8 (toP r2).b).length = (toP r2).b.length := len8 _
        have ls : (by8 r.s).length = r.s.length := len8 _
        have hbz : (toP r2).b.length < 9223372036854775807 := by
          have := (wfk_of hqn).2.2.1
          have := (wfk_of hqn).2.1
          omega
        have hAt : (allR r2 : List UInt8).take (toP r2).b.length = (toP r2).b := by have := hqn.2 hd2; show (r2.s ++ r2.m ++ r2.h).take (r2.s ++ r2.m).length = _; rw [this, List.append_nil, List.take_length]; rfl
        have hAl : (toP r2).b.length ≤ (allR r2 : List UInt8).length := by show (r2.s ++ r2.m).length ≤ (r2.s ++ r2.m ++ r2.h).length; rw [List.length_append (bs := r2.h)]; omega
        have lA : (by8 (allR r2)).length = (allR r2 : List UInt8).length := len8 _
        generalize hbe : (toP r2).b = b2 at *
        rw [len8, len8, decide_eq_false (show ¬ (b2.length : Int) < (r.s.length : Int) by omega)]
        conv => whnf
        refine ⟨by omega, by omega, by omega, ?_⟩
        conv => whnf
        rw [show List.take ((((by8 r.s).length : Nat) : Int).toNat - 0) (List.drop 0 (by8 b2)) = by8 r.s by rw [Int.toNat_natCast, List.drop_zero, ls]; exact tk8 k1]
        refine (c_same r.s r.s (by omega) (m1 := .ro) (m2 := .ro) (.inr rfl) (.inr rfl)).mono fun r st e => ?_
        obtain ⟨rfl, rfl⟩ := e
        conv => whnf
        rw [beq_self_eq_true]
        conv => whnf
        rw [decide_eq_false (show ¬ (((by8 b2).length : Nat) : Int) > (((by8 (allR r2)).length : Nat) : Int) by rw [lb, lA]; omega)]
        conv => whnf
        refine ⟨by omega, by omega, by omega, ?_⟩
        conv => whnf
        rw [show List.take ((((by8 b2).length : Nat) : Int).toNat - 0) (List.drop 0 (by8 (allR r2))) = by8 b2 by rw [Int.toNat_natCast, List.drop_zero, lb]; exact tk8 hAt]
        refine (c_same b2 b2 hbz (m1 := .ro) (m2 := .ro) (.inr rfl) (.inr rfl)).mono fun r st e => ?_
        obtain ⟨rfl, rfl⟩ := e
        conv => whnf
        rw [beq_self_eq_true]
        conv => whnf
        subst hbe
        refine (c_safe0 (toP r2)).mono fun r st e => ?_
        obtain ⟨rfl, rfl⟩ := e
        conv => whnf
        rw [decide_eq_false (show ¬ ((toP r2).sf < (((by8 r.s).length : Nat) : Int)) by rw [ls]; show ¬ ((r2.s.length : Int) < (r.s.length : Int)); omega)]
        conv => whnf
        refine (c_safe0 (toP r2)).mono fun r st e => ?_
        obtain ⟨rfl, rfl⟩ := e
        conv => whnf
        rw [decide_eq_false (show ¬ ((toP r2).sf > (((by8 (toP r2).b).length : Nat) : Int)) by rw [lb]; show ¬ ((r2.s.length : Int) > ((toP r2).b.length : Int)); omega)]
        conv => whnf
        refine (c_safe0 (toP r2)).mono fun r st e => ?_
        obtain ⟨rfl, rfl⟩ := e
        conv => whnf
        refine ⟨by show (0 : Int) ≤ (r2.s.length : Int); omega, by omega, by show r2.s.length ≤ (by8 (toP r2).b).length; rw [lb]; exact kl, ?_⟩
        conv => whnf
        rw [show List.take ((toP r2).sf.toNat - 0) (List.drop 0 (by8 (toP r2).b)) = by8 r2.s by rw [List.drop_zero]; exact tk8 ks]
        refine ⟨by omega, _, hat, ?_⟩
        conv => whnf
        rw [show (d == 4) = false from decide_eq_false h4]
        conv => whnf
        refine ⟨[0, 1], ?_⟩
        conv => whnf
        rw [w64 (x := (i : Int) + 1) (by omega) (by omega)]
        refine kK _ _ ?_
        conv => whnf
        refine ⟨0, ?_⟩
        conv => whnf
        refine ⟨⟨i + 1, r2, by omega, hqn, by omega, by omega, .inr (.inl ⟨hb2, rfl⟩)⟩, ?_⟩
        show l.length - ((i : Int) + 1).toNat < l.length - (i : Int).toNat
        omega
end Go.WL.T5
