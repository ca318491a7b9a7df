/- What is kept behind crashes: the walk. No condition. -/
import Derived.Test.YtdlgmddegldcjaaPart36
import Derived.Test.YtdlgmddegldcjaaPart37
import Derived.Test.YtdlgmddegldcjaaPart11
set_option linter.unusedVariables false
set_option linter.unusedSimpArgs false
namespace Go.WL.T5
open Go.WL Go.Proofs
set_option maxRecDepth 20000
set_option maxHeartbeats 8000000
def kh (n : Nat) (bx : List (AV × Bool)) (tm : List (Nat × AV)) : AS := ⟨n, tm, ⟨bx, [0], 1⟩⟩
def HeadK (l : List Wc) (i : Nat) (k : Pk) (K : List (List UInt8)) (τ : AS) : Prop :=
  (k.b = [] ∧ τ = kh 146 [((AV.st [.sl .lf [] .ex, .sc (.int .i64 (k).sf), .sc (.int .i64 (k).room), .sc (.bool true), .sc (.int .i64 (k).armed), .sc (.bool (k).dead), .sl .lf (by8 (k).h) .ro]), false), (.st [.pt 0 [], (AV.sc (.int .i64 ((K.length : Int)))), (AV.sc (.bool (false)))], false)] [(0, (AV.sl (.nd [.lf, .lf, .nd [.lf, .lf, .lf], .lf]) (wcA (l)) .ro)), (3, .pt 0 []), (5, .pt 1 []), (8, .sl .lf (K.map fun b => (AV.sl .lf (by8 (b)) .ro)) (.own 0)), (9, (AV.sc (.int .i64 ((i : Int)))))]) ∨
  ∃ cap c2 L, OKL k.b cap c2 L ∧ τ = kh 146 [((AV.st [.bs 2 [] .lf 0 (k).b.length cap, .sc (.int .i64 (k).sf), .sc (.int .i64 (k).room), .sc (.bool true), .sc (.int .i64 (k).armed), .sc (.bool (k).dead), .sl .lf (by8 (k).h) .ro]), false), (.st [.pt 0 [], (AV.sc (.int .i64 ((K.length : Int)))), (AV.sc (.bool (false)))], false), (.ar c2 .lf L, false)] [(0, (AV.sl (.nd [.lf, .lf, .nd [.lf, .lf, .lf], .lf]) (wcA (l)) .ro)), (3, .pt 0 []), (5, .pt 1 []), (8, .sl .lf (K.map fun b => (AV.sl .lf (by8 (b)) .ro)) (.own 0)), (9, (AV.sc (.int .i64 ((i : Int)))))]
def KeepI (l : List Wc) (τ : AS) : Prop := ∃ (i : Nat) (k : Pk) (K : List (List UInt8)), i ≤ l.length ∧ FK k K ∧ K.length ≤ 5 * i ∧ HeadK l i k K τ
def KeepJ (l : List Wc) (i : Nat) (τ : AS) : Prop := ∃ (k : Pk) (K : List (List UInt8)), FK k K ∧ K.length ≤ 5 * (i + 1) ∧ HeadK l i k K τ
def MidK (l : List Wc) (w : Wc) (i : Nat) (τ : AS) : Prop := ∃ (k : Pk) (K T : List (List UInt8)) (m : Int) (br : Bool), GK k K T ∧ (k.dead = false → m = K.length ∧ br = false) ∧ K.length + T.length ≤ 5 * (i + 1) ∧ 
  ((k.b = [] ∧ τ = kh 146 [((AV.st [.sl .lf [] .ex, .sc (.int .i64 (k).sf), .sc (.int .i64 (k).room), .sc (.bool true), .sc (.int .i64 (k).armed), .sc (.bool (k).dead), .sl .lf (by8 (k).h) .ro]), false), (.st [.pt 0 [], (AV.sc (.int .i64 (m))), (AV.sc (.bool (br)))], false), ((AV.st [.sc (.int .i64 (w).d), .sl .lf ((w).l.map fun b => AV.sl .lf (by8 b) .ro) .ro, AV.st [.sc (.int .i64 (w).a.d), .sl .lf (by8 (w).a.b) .ro, .sc (.int .i64 (w).a.n)], .sc (.int .u8 ((w).y.toNat : Int))]), false)] [(0, (AV.sl (.nd [.lf, .lf, .nd [.lf, .lf, .lf], .lf]) (wcA (l)) .ro)), (3, .pt 0 []), (5, .pt 1 []), (8, .sl .lf (K.map fun b => (AV.sl .lf (by8 (b)) .ro)) (.own 0)), (9, (AV.sc (.int .i64 ((i : Int))))), (10, .pt 2 []), (11, (AV.sl .lf ((T).map fun b => AV.sl .lf (by8 b) .ro) .ro))]) ∨
  ∃ cap c2 L, OKL k.b cap c2 L ∧ τ = kh 146 [((AV.st [.bs 3 [] .lf 0 (k).b.length cap, .sc (.int .i64 (k).sf), .sc (.int .i64 (k).room), .sc (.bool true), .sc (.int .i64 (k).armed), .sc (.bool (k).dead), .sl .lf (by8 (k).h) .ro]), false), (.st [.pt 0 [], (AV.sc (.int .i64 (m))), (AV.sc (.bool (br)))], false), ((AV.st [.sc (.int .i64 (w).d), .sl .lf ((w).l.map fun b => AV.sl .lf (by8 b) .ro) .ro, AV.st [.sc (.int .i64 (w).a.d), .sl .lf (by8 (w).a.b) .ro, .sc (.int .i64 (w).a.n)], .sc (.int .u8 ((w).y.toNat : Int))]), false), (.ar c2 .lf L, false)] [(0, (AV.sl (.nd [.lf, .lf, .nd [.lf, .lf, .lf], .lf]) (wcA (l)) .ro)), (3, .pt 0 []), (5, .pt 1 []), (8, .sl .lf (K.map fun b => (AV.sl .lf (by8 (b)) .ro)) (.own 0)), (9, (AV.sc (.int .i64 ((i : Int))))), (10, .pt 2 []), (11, (AV.sl .lf ((T).map fun b => AV.sl .lf (by8 b) .ro) .ro))])
theorem c_crash0 (k : Pk) (n : Int) (hb0 : k.b = []) (hw : WFk k) (hh : ((k.b.length + k.h.length : Nat) : Int) ≤ 1048576) : FnOK Try.prog D 28 [.pt 0 [], (AV.sc (.int .i64 (n)))] [(AV.st [.sl .lf [] .ex, .sc (.int .i64 (k).sf), .sc (.int .i64 (k).room), .sc (.bool true), .sc (.int .i64 (k).armed), .sc (.bool (k).dead), .sl .lf (by8 (k).h) .ro])] (fun r st => r = .tup [] ∧ P0 (crashP k n) st) := by
  refine (c_crashR k n hw hh).weakB ?_
  rw [hb0]
  exact WkVs.cons (WkV.st (.cons WkV.ro (.cons (WkV.refl _) (.cons (WkV.refl _) (.cons (WkV.refl _) (.cons (WkV.refl _) (.cons (WkV.refl _) (.cons (WkV.refl _) .nil)))))))) .nil
theorem c_openE (k : Pk) {M : List (List UInt8)} (hb0 : k.b = []) (hw : WFk k) (hd : k.dead = false) (ha : k.armed = -1) (hM : (recsB k.b).1 = M) : FnOK Try.prog D 33 [.pt 0 []] [(AV.st [.sl .lf [] .ex, .sc (.int .i64 (k).sf), .sc (.int .i64 (k).room), .sc (.bool true), .sc (.int .i64 (k).armed), .sc (.bool (k).dead), .sl .lf (by8 (k).h) .ro])] (fun r st => r = .tup [.pt 1 [], .sl .lf (M.map fun b => (AV.sl .lf (by8 (b)) .ro)) (.own 0), (AV.sc (.int .i64 (0)))] ∧ st = [(AV.st [.sl .lf [] .ex, .sc (.int .i64 ((openP k).1).sf), .sc (.int .i64 ((openP k).1).room), .sc (.bool true), .sc (.int .i64 ((openP k).1).armed), .sc (.bool ((openP k).1).dead), .sl .lf (by8 ((openP k).1).h) .ro]), .st [.pt 0 [], (AV.sc (.int .i64 ((M.length : Int)))), (AV.sc (.bool (false)))]]) := by
  have e : openP k = syncP k := by
    unfold openP
    rw [if_neg (by rw [hd]; simp), hb0, recsB_nil, if_neg (by simp)]
  rw [hb0, recsB_nil] at hM
  subst hM
  refine (c_open0 k hb0 hw).mono ?_
  rw [e, sync_live hd ha]
  rintro r st (⟨h, _⟩ | ⟨_, h, _⟩ | ⟨_, _, rfl, rfl⟩)
  · rw [hd] at h
    cases h
  · cases h
  · exact ⟨rfl, rfl⟩
theorem c_walkeeps (l : List Wc) (hl : l.length ≤ 9223372036854775807) (hn : ∀ w ∈ l, w.a.n < 9223372036854775808) : FnOK Try.prog D 6 [(AV.sl (.nd [.lf, .lf, .nd [.lf, .lf, .lf], .lf]) (wcA (l)) .ro)] [] (fun r st => r = (AV.sc (.bool (true))) ∧ st = []) := by
  refine fnok_of_Ws [7800021, 7800012, 1710008, 1015011, 7500024, 8000000] hmix tabOK Try.func6 rfl rfl (Nat.le_of_ble_eq_true rfl) ?_
  conv => whnf
  refine (c_light19 l hl).mono fun r st e => ?_
  obtain ⟨rfl, rfl⟩ := e
  conv => whnf
  cases hL : lightW l with
  | false =>
    conv => whnf
    refine (c_awake19).mono fun r st e => ?_
    obtain ⟨rfl, rfl⟩ := e
    conv => whnf
    refine ⟨false, [], ?_⟩
    conv => whnf
    exact ⟨rfl, rfl⟩
  | true =>
  obtain ⟨hl30, hB⟩ := lightW_yes hL
  conv => whnf
  refine (c_new 1048576 (by decide) (by decide)).mono fun r st e => ?_
  obtain ⟨rfl, rfl⟩ := e
  conv => whnf
  refine (c_open0 ⟨[], 0, 1048576, -1, false, []⟩ rfl (by simp [WFk])).mono ?_
  rw [show syncP ⟨[], 0, 1048576, -1, false, []⟩ = ((⟨[], 0, 1048576, -1, false, []⟩ : Pk), (0 : Int)) from rfl]
  rintro r st (⟨h, _⟩ | ⟨_, h, _⟩ | ⟨_, _, rfl, rfl⟩)
  · cases h
  · cases h
  conv => whnf
  refine ⟨false, [999999, 0, 3, 5, 8, 9], KeepI l, fun τ => l.length - (slotI τ 9).toNat, ?_, ?_⟩
  · conv => whnf
    refine ⟨0, ?_⟩
    conv => whnf
    exact ⟨0, ⟨[], 0, 1048576, -1, false, []⟩, [], by omega, ⟨rfl, rfl, rfl, rfl, rfl, by decide, by decide, fun b hb => by simp at hb, by simp⟩, by simp, .inl ⟨rfl, rfl⟩⟩
  rintro τ ⟨i, k, K, hi, hF, hK, hH⟩
  rcases hH with ⟨hb, rfl⟩ | ⟨cap, c2, L, hL, rfl⟩
  · apply enter3
    intro kk kK
    conv => whnf
    rw [wc_len]
    refine Branch.of (fun h1 => ?_) (fun h1 => ?_) <;> rw [h1] <;> conv => whnf
    rotate_left
    · refine kK _ _ ?_
      conv => whnf
      refine (c_awake19).mono fun r st e => ?_
      obtain ⟨rfl, rfl⟩ := e
      conv => whnf
      refine ⟨false, [], ?_⟩
      conv => whnf
      exact ⟨rfl, rfl⟩
    have h1 := of_decide_eq_true h1
    have ih : i < l.length := by omega
    have hBi := hB l[i] (List.getElem_mem ih)
    have hni := hn l[i] (List.getElem_mem ih)
    have hat := wc_at ih
    generalize l[i] = w at hBi hni hat
    refine ⟨[0, 3, 5, 8, 9], KeepJ l i, ?_, ?_⟩
    · rintro τ ⟨k, K, hF, hK, ⟨hb, rfl⟩ | ⟨cap, c2, L, hL, rfl⟩⟩
      · conv => whnf
        rw [w64 (x := (i : Int) + 1) (by omega) (by omega)]
        refine kK _ _ ?_
        conv => whnf
        refine ⟨0, ?_⟩
        conv => whnf
        refine ⟨⟨i + 1, k, K, by omega, hF, hK, .inl ⟨hb, rfl⟩⟩, ?_⟩
        show l.length - ((i : Int) + 1).toNat < l.length - (i : Int).toNat
        omega
      · conv => whnf
        rw [w64 (x := (i : Int) + 1) (by omega) (by omega)]
        refine kK _ _ ?_
        conv => whnf
        refine ⟨1, ?_⟩
        conv => whnf
        refine ⟨⟨i + 1, k, K, by omega, hF, hK, .inr ⟨cap, c2, L, hL, rfl⟩⟩, ?_⟩
        show l.length - ((i : Int) + 1).toNat < l.length - (i : Int).toNat
        omega
    refine ⟨by omega, _, hat, ?_⟩
    conv => whnf
    refine ⟨[0, 3, 5, 8, 9, 10, 11], MidK l w i, ?_, ?_⟩
    rotate_left
    · by_cases h0 : w.d = 0
      rotate_left
      · refine Branch.no (decide_eq_false h0) ?_
        conv => whnf
        refine ⟨false, [0, 1, 2], 3, ?_⟩
        conv => whnf
        exact ⟨k, K, [], K.length, false, hF.gk, fun _ => ⟨rfl, rfl⟩, by rw [List.length_nil]; omega, .inl ⟨hb, rfl⟩⟩
      refine Branch.yes (decide_eq_true h0) ?_
      conv => whnf
      have cp := c_put0 k K.length false w.l hb hF.wf (by have := hBi.1; omega) (fun b hb => by have := hBi.2.2 b hb; omega) (by omega) (by have := hF.many; omega) _ rfl
      have hpf := put_facts hF hBi.2.2 hBi.1 (by have := hBi.1; omega)
      generalize putP k K.length false w.l = q at cp hpf
      obtain ⟨k2, m2, br2, e2⟩ := q
      simp only at cp hpf
      refine cp.mono ?_
      rintro r st ⟨rfl, hP⟩
      rcases hpf with ⟨hF2, he⟩ | ⟨hG2, hd2, he⟩ | ⟨e, e0, e6, he⟩
      · simp only [Prod.mk.injEq] at he
        obtain ⟨rfl, rfl, rfl⟩ := he
        rcases hP with ⟨hb2, rfl⟩ | ⟨cap2, c3, L2, hL2, rfl⟩
        · conv => whnf
          refine ⟨by rw [List.length_map, List.length_map]; have := hF.many; have := hBi.1; omega, ?_⟩
          conv => whnf
          rw [← List.map_append]
          refine ⟨false, [0, 1, 2], 3, ?_⟩
          conv => whnf
          exact ⟨k2, K ++ w.l, [], ((K ++ w.l).length : Int), false, hF2.gk, fun _ => ⟨rfl, rfl⟩, by rw [List.length_nil, List.length_append]; have := hBi.1; omega, .inl ⟨hb2, rfl⟩⟩
        · conv => whnf
          refine ⟨by rw [List.length_map, List.length_map]; have := hF.many; have := hBi.1; omega, ?_⟩
          conv => whnf
          rw [← List.map_append]
          refine ⟨false, [0, 1, 2, 3], 4, ?_⟩
          conv => whnf
          exact ⟨k2, K ++ w.l, [], ((K ++ w.l).length : Int), false, hF2.gk, fun _ => ⟨rfl, rfl⟩, by rw [List.length_nil, List.length_append]; have := hBi.1; omega, .inr ⟨cap2, c3, L2, hL2, rfl⟩⟩
      · simp only [Prod.mk.injEq] at he
        obtain ⟨rfl, rfl, rfl⟩ := he
        rcases hP with ⟨hb2, rfl⟩ | ⟨cap2, c3, L2, hL2, rfl⟩
        · conv => whnf
          refine ⟨false, [0, 1, 2], 3, ?_⟩
          conv => whnf
          exact ⟨k2, K, w.l, (K.length : Int), true, hG2, fun e => Bool.noConfusion (hd2.symm.trans e), by have := hBi.1; omega, .inl ⟨hb2, rfl⟩⟩
        · conv => whnf
          refine ⟨false, [0, 1, 2, 3], 4, ?_⟩
          conv => whnf
          exact ⟨k2, K, w.l, (K.length : Int), true, hG2, fun e => Bool.noConfusion (hd2.symm.trans e), by have := hBi.1; omega, .inr ⟨cap2, c3, L2, hL2, rfl⟩⟩
      · simp only [Prod.mk.injEq] at he
        obtain ⟨rfl, rfl, rfl, rfl⟩ := he
        rcases hP with ⟨hb2, rfl⟩ | ⟨cap2, c3, L2, hL2, rfl⟩
        · conv => whnf
          refine Branch.no (beq_eq_false_iff_ne.2 e0) ?_
          conv => whnf
          refine Branch.no (beq_eq_false_iff_ne.2 e6) ?_
          conv => whnf
          refine ⟨false, [0, 1, 2], 3, ?_⟩
          conv => whnf
          exact ⟨_, K, [], (K.length : Int), false, hF.gk, fun _ => ⟨rfl, rfl⟩, by rw [List.length_nil]; omega, .inl ⟨hb2, rfl⟩⟩
        · conv => whnf
          refine Branch.no (beq_eq_false_iff_ne.2 e0) ?_
          conv => whnf
          refine Branch.no (beq_eq_false_iff_ne.2 e6) ?_
          conv => whnf
          refine ⟨false, [0, 1, 2, 3], 4, ?_⟩
          conv => whnf
          exact ⟨_, K, [], (K.length : Int), false, hF.gk, fun _ => ⟨rfl, rfl⟩, by rw [List.length_nil]; omega, .inr ⟨cap2, c3, L2, hL2, rfl⟩⟩
    rintro τ ⟨k, K, T, m, br, hG, hlive, hKT, hH⟩
    rcases hH with ⟨hb, rfl⟩ | ⟨cap, c2, L, hL, rfl⟩
    · conv => whnf
      rcases Bool.eq_false_or_eq_true k.dead with hdd | hdd
      rotate_left
      · obtain ⟨hF, rfl⟩ := hG.fk hdd
        obtain ⟨rfl, rfl⟩ := hlive hdd
        by_cases h3 : w.a.d = 3
        · rw [show (w.a.d == 3) = true from decide_eq_true h3]
          conv => whnf
          refine (c_dead0 k).mono fun r st e => ?_
          obtain ⟨rfl, rfl⟩ := e
          conv => whnf
          refine Branch.yes (by rw [hdd]; rfl) ?_
          conv => whnf
          refine (c_arm0 k w.a.n).mono fun r st e => ?_
          obtain ⟨rfl, rfl⟩ := e
          conv => whnf
          refine (c_dead0 {k with armed := max w.a.n (-1)}).mono fun r st e => ?_
          obtain ⟨rfl, rfl⟩ := e
          conv => whnf
          refine Branch.yes (show (!k.dead) = true by rw [hdd]; rfl) ?_
          conv => whnf
          refine ⟨false, [0, 1, 2], 2, ?_⟩
          conv => whnf
          exact ⟨{k with armed := max w.a.n (-1)}, K, hF.arm w.a.n hni, by rw [List.length_nil] at hKT; omega, .inl ⟨hb, rfl⟩⟩
        · rw [show (w.a.d == 3) = false from decide_eq_false h3]
          conv => whnf
          refine (c_dead0 k).mono fun r st e => ?_
          obtain ⟨rfl, rfl⟩ := e
          conv => whnf
          refine Branch.yes (by rw [hdd]; rfl) ?_
          conv => whnf
          refine ⟨false, [0, 1, 2], 2, ?_⟩
          conv => whnf
          exact ⟨k, K, hF, by rw [List.length_nil] at hKT; omega, .inl ⟨hb, rfl⟩⟩
      have hcf := crash_facts hG w.a.n
      have cc := c_crash0 k w.a.n hb hG.wf.1 hG.wf.2
      generalize crashP k w.a.n = k1 at hcf cc
      obtain ⟨j, t, hj, hb1, ht, hs1, hd1, ha1, hh1, hr1, hlen1⟩ := hcf
      have hw1 : WFk k1 := ⟨by rw [hr1]; decide, by rw [hr1]; decide, by rw [hr1]; exact hlen1, by rw [hs1]; omega, by rw [hs1]; omega, by rw [ha1]; decide, by rw [ha1]; decide⟩
      have hgM : Good (K ++ T.take j) := hG.good.app (hG.goodT.take j)
      have lK := hG.many
      have lT := hG.manyT
      have hlM : (K ++ T.take j).length = K.length + j := by rw [List.length_append, List.length_take]; omega
      obtain ⟨o1, o2, hF2⟩ := open_facts hb1 ht hs1 hd1 ha1 hh1 hr1 hgM (by omega)
      have hbE : k1.b = [] → (openP k1).1.b = [] := fun e => by rw [hF2.b, ← o2, e, recsB_nil]; rfl
      by_cases h3 : w.a.d = 3
      · rw [show (w.a.d == 3) = true from decide_eq_true h3]
        conv => whnf
        refine (c_dead0 k).mono fun r st e => ?_
        obtain ⟨rfl, rfl⟩ := e
        conv => whnf
        refine Branch.no (by rw [hdd]; rfl) ?_
        conv => whnf
        refine (c_dead0 k).mono fun r st e => ?_
        obtain ⟨rfl, rfl⟩ := e
        conv => whnf
        refine Branch.no (by rw [hdd]; rfl) ?_
        conv => whnf
        refine ⟨[], ?_⟩
        conv => whnf
        refine cc.mono ?_
        rintro r st ⟨rfl, ⟨hbn, rfl⟩ | ⟨cap3, c3, L3, hL3, rfl⟩⟩
        · conv => whnf
          refine (c_openE k1 hbn hw1 hd1 ha1 o2).mono ?_
          rintro r st ⟨rfl, rfl⟩
          generalize (openP k1).1 = k2 at hF2 hbE
          have hb2 := hbE hbn
          conv => whnf
          refine Branch.of (fun hh => ?_) (fun hh => ?_)
          · exfalso; simp only [gt_iff_lt, ge_iff_le, decide_eq_true_eq, decide_eq_false_iff_not, beq_iff_eq, beq_eq_false_iff_ne, bne_iff_ne, bne_eq_false_iff_eq, ne_eq, List.length_map] at hh; first | done | omega | (simp at hh; done)
          try rw [hh]
          clear hh
          conv => whnf
          rw [List.length_map, List.length_map, List.length_map, w64 (x := (K.length : Int) + (T.length : Int)) (by omega) (by omega)]
          refine Branch.of (fun hh => ?_) (fun hh => ?_)
          · exfalso; simp only [gt_iff_lt, ge_iff_le, decide_eq_true_eq, decide_eq_false_iff_not, beq_iff_eq, beq_eq_false_iff_ne, bne_iff_ne, bne_eq_false_iff_eq, ne_eq] at hh; first | done | omega | (simp at hh; done)
          try rw [hh]
          clear hh
          conv => whnf
          refine (c_wmany0 k2 _ false).mono fun r st e => ?_
          obtain ⟨rfl, rfl⟩ := e
          conv => whnf
          refine Branch.no (by rw [List.length_map]; simp) ?_
          conv => whnf
          refine ⟨tabF6R28, by decide +kernel, ?_⟩
          conv => whnf
          refine ⟨by simp only [List.length_replicate, List.length_map]; omega, ?_⟩
          conv => whnf
          rw [List.length_map, List.length_map, w64 (x := ((K ++ T.take j).length : Int) - (K.length : Int)) (by omega) (by omega), show ((K ++ T.take j).length : Int) - (K.length : Int) = (j : Int) by omega]
          refine ⟨by omega, by omega, by rw [List.length_map]; omega, ?_⟩
          conv => whnf
          refine ⟨by simp only [List.length_append, List.length_replicate, List.length_map, List.length_take, List.length_drop]; omega, ?_⟩
          conv => whnf
          rw [show List.replicate 0 (AV.sl Shape.lf [] Mark.ex) ++ (K.map fun b => (AV.sl .lf (by8 (b)) .ro)) ++ List.take ((j : Int).toNat - 0) (List.drop 0 (T.map fun b => (AV.sl .lf (by8 (b)) .ro))) = (K ++ T.take j).map fun b => (AV.sl .lf (by8 (b)) .ro) by simp]
          refine ⟨_, _, c_texts (K ++ T.take j) (K ++ T.take j) (by omega) (by omega) (fun b hb => by have := hgM b hb; omega), ?_⟩
          conv => whnf
          rw [beq_self_eq_true]
          conv => whnf
          refine ⟨false, [0, 3, 1, 2], 2, ?_⟩
          conv => whnf
          exact ⟨k2, K ++ T.take j, hF2, by omega, .inl ⟨hb2, rfl⟩⟩
        · conv => whnf
          refine (c_open1 k1 cap3 c3 L3 hL3 hw1).mono ?_
          rw [o2]
          rintro r st (⟨h, _⟩ | ⟨_, st', hP1, rfl, rfl⟩)
          · exact absurd o1 h
          generalize (openP k1).1 = k2 at hF2 hP1
          rcases hP1 with ⟨cap4, c4, L4, hL4, rfl⟩ | ⟨cap4, c4, L4, cj, Lj, hL4, rfl⟩ | ⟨hb4, cj, Lj, rfl⟩
          · conv => whnf
            refine Branch.of (fun hh => ?_) (fun hh => ?_)
            · exfalso; simp only [gt_iff_lt, ge_iff_le, decide_eq_true_eq, decide_eq_false_iff_not, beq_iff_eq, beq_eq_false_iff_ne, bne_iff_ne, bne_eq_false_iff_eq, ne_eq, List.length_map] at hh; first | done | omega | (simp at hh; done)
            try rw [hh]
            clear hh
            conv => whnf
            rw [List.length_map, List.length_map, List.length_map, w64 (x := (K.length : Int) + (T.length : Int)) (by omega) (by omega)]
            refine Branch.of (fun hh => ?_) (fun hh => ?_)
            · exfalso; simp only [gt_iff_lt, ge_iff_le, decide_eq_true_eq, decide_eq_false_iff_not, beq_iff_eq, beq_eq_false_iff_ne, bne_iff_ne, bne_eq_false_iff_eq, ne_eq] at hh; first | done | omega | (simp at hh; done)
            try rw [hh]
            clear hh
            conv => whnf
            refine (c_wmany1 k2 _ false cap4 c4 L4).mono fun r st e => ?_
            obtain ⟨rfl, rfl⟩ := e
            conv => whnf
            refine Branch.no (by rw [List.length_map]; simp) ?_
            conv => whnf
            refine ⟨tabF6R28, by decide +kernel, ?_⟩
            conv => whnf
            refine ⟨by simp only [List.length_replicate, List.length_map]; omega, ?_⟩
            conv => whnf
            rw [List.length_map, List.length_map, w64 (x := ((K ++ T.take j).length : Int) - (K.length : Int)) (by omega) (by omega), show ((K ++ T.take j).length : Int) - (K.length : Int) = (j : Int) by omega]
            refine ⟨by omega, by omega, by rw [List.length_map]; omega, ?_⟩
            conv => whnf
            refine ⟨by simp only [List.length_append, List.length_replicate, List.length_map, List.length_take, List.length_drop]; omega, ?_⟩
            conv => whnf
            rw [show List.replicate 0 (AV.sl Shape.lf [] Mark.ex) ++ (K.map fun b => (AV.sl .lf (by8 (b)) .ro)) ++ List.take ((j : Int).toNat - 0) (List.drop 0 (T.map fun b => (AV.sl .lf (by8 (b)) .ro))) = (K ++ T.take j).map fun b => (AV.sl .lf (by8 (b)) .ro) by simp]
            refine ⟨_, _, c_texts (K ++ T.take j) (K ++ T.take j) (by omega) (by omega) (fun b hb => by have := hgM b hb; omega), ?_⟩
            conv => whnf
            rw [beq_self_eq_true]
            conv => whnf
            refine ⟨false, [0, 4, 3, 1, 2], 3, ?_⟩
            conv => whnf
            exact ⟨k2, K ++ T.take j, hF2, by omega, .inr ⟨cap4, c4, L4, hL4, rfl⟩⟩
          · conv => whnf
            refine Branch.of (fun hh => ?_) (fun hh => ?_)
            · exfalso; simp only [gt_iff_lt, ge_iff_le, decide_eq_true_eq, decide_eq_false_iff_not, beq_iff_eq, beq_eq_false_iff_ne, bne_iff_ne, bne_eq_false_iff_eq, ne_eq, List.length_map] at hh; first | done | omega | (simp at hh; done)
            try rw [hh]
            clear hh
            conv => whnf
            rw [List.length_map, List.length_map, List.length_map, w64 (x := (K.length : Int) + (T.length : Int)) (by omega) (by omega)]
            refine Branch.of (fun hh => ?_) (fun hh => ?_)
            · exfalso; simp only [gt_iff_lt, ge_iff_le, decide_eq_true_eq, decide_eq_false_iff_not, beq_iff_eq, beq_eq_false_iff_ne, bne_iff_ne, bne_eq_false_iff_eq, ne_eq] at hh; first | done | omega | (simp at hh; done)
            try rw [hh]
            clear hh
            conv => whnf
            refine (c_wmany1 k2 _ false cap4 c4 L4).mono fun r st e => ?_
            obtain ⟨rfl, rfl⟩ := e
            conv => whnf
            refine Branch.no (by rw [List.length_map]; simp) ?_
            conv => whnf
            refine ⟨tabF6R28, by decide +kernel, ?_⟩
            conv => whnf
            refine ⟨by simp only [List.length_replicate, List.length_map]; omega, ?_⟩
            conv => whnf
            rw [List.length_map, List.length_map, w64 (x := ((K ++ T.take j).length : Int) - (K.length : Int)) (by omega) (by omega), show ((K ++ T.take j).length : Int) - (K.length : Int) = (j : Int) by omega]
            refine ⟨by omega, by omega, by rw [List.length_map]; omega, ?_⟩
            conv => whnf
            refine ⟨by simp only [List.length_append, List.length_replicate, List.length_map, List.length_take, List.length_drop]; omega, ?_⟩
            conv => whnf
            rw [show List.replicate 0 (AV.sl Shape.lf [] Mark.ex) ++ (K.map fun b => (AV.sl .lf (by8 (b)) .ro)) ++ List.take ((j : Int).toNat - 0) (List.drop 0 (T.map fun b => (AV.sl .lf (by8 (b)) .ro))) = (K ++ T.take j).map fun b => (AV.sl .lf (by8 (b)) .ro) by simp]
            refine ⟨_, _, c_texts (K ++ T.take j) (K ++ T.take j) (by omega) (by omega) (fun b hb => by have := hgM b hb; omega), ?_⟩
            conv => whnf
            rw [beq_self_eq_true]
            conv => whnf
            refine ⟨false, [0, 5, 4, 1, 2, 3], 3, ?_⟩
            conv => whnf
            exact ⟨k2, K ++ T.take j, hF2, by omega, .inr ⟨cap4, c4, L4, hL4, rfl⟩⟩
          · conv => whnf
            refine Branch.of (fun hh => ?_) (fun hh => ?_)
            · exfalso; simp only [gt_iff_lt, ge_iff_le, decide_eq_true_eq, decide_eq_false_iff_not, beq_iff_eq, beq_eq_false_iff_ne, bne_iff_ne, bne_eq_false_iff_eq, ne_eq, List.length_map] at hh; first | done | omega | (simp at hh; done)
            try rw [hh]
            clear hh
            conv => whnf
            rw [List.length_map, List.length_map, List.length_map, w64 (x := (K.length : Int) + (T.length : Int)) (by omega) (by omega)]
            refine Branch.of (fun hh => ?_) (fun hh => ?_)
            · exfalso; simp only [gt_iff_lt, ge_iff_le, decide_eq_true_eq, decide_eq_false_iff_not, beq_iff_eq, beq_eq_false_iff_ne, bne_iff_ne, bne_eq_false_iff_eq, ne_eq] at hh; first | done | omega | (simp at hh; done)
            try rw [hh]
            clear hh
            conv => whnf
            refine (c_wmany0 k2 _ false).mono fun r st e => ?_
            obtain ⟨rfl, rfl⟩ := e
            conv => whnf
            refine Branch.no (by rw [List.length_map]; simp) ?_
            conv => whnf
            refine ⟨tabF6R28, by decide +kernel, ?_⟩
            conv => whnf
            refine ⟨by simp only [List.length_replicate, List.length_map]; omega, ?_⟩
            conv => whnf
            rw [List.length_map, List.length_map, w64 (x := ((K ++ T.take j).length : Int) - (K.length : Int)) (by omega) (by omega), show ((K ++ T.take j).length : Int) - (K.length : Int) = (j : Int) by omega]
            refine ⟨by omega, by omega, by rw [List.length_map]; omega, ?_⟩
            conv => whnf
            refine ⟨by simp only [List.length_append, List.length_replicate, List.length_map, List.length_take, List.length_drop]; omega, ?_⟩
            conv => whnf
            rw [show List.replicate 0 (AV.sl Shape.lf [] Mark.ex) ++ (K.map fun b => (AV.sl .lf (by8 (b)) .ro)) ++ List.take ((j : Int).toNat - 0) (List.drop 0 (T.map fun b => (AV.sl .lf (by8 (b)) .ro))) = (K ++ T.take j).map fun b => (AV.sl .lf (by8 (b)) .ro) by simp]
            refine ⟨_, _, c_texts (K ++ T.take j) (K ++ T.take j) (by omega) (by omega) (fun b hb => by have := hgM b hb; omega), ?_⟩
            conv => whnf
            rw [beq_self_eq_true]
            conv => whnf
            refine ⟨false, [0, 4, 1, 2, 3], 2, ?_⟩
            conv => whnf
            exact ⟨k2, K ++ T.take j, hF2, by omega, .inl ⟨hb4, rfl⟩⟩
      · rw [show (w.a.d == 3) = false from decide_eq_false h3]
        conv => whnf
        refine (c_dead0 k).mono fun r st e => ?_
        obtain ⟨rfl, rfl⟩ := e
        conv => whnf
        refine Branch.no (by rw [hdd]; rfl) ?_
        conv => whnf
        refine ⟨[], ?_⟩
        conv => whnf
        refine cc.mono ?_
        rintro r st ⟨rfl, ⟨hbn, rfl⟩ | ⟨cap3, c3, L3, hL3, rfl⟩⟩
        · conv => whnf
          refine (c_openE k1 hbn hw1 hd1 ha1 o2).mono ?_
          rintro r st ⟨rfl, rfl⟩
          generalize (openP k1).1 = k2 at hF2 hbE
          have hb2 := hbE hbn
          conv => whnf
          refine Branch.of (fun hh => ?_) (fun hh => ?_)
          · exfalso; simp only [gt_iff_lt, ge_iff_le, decide_eq_true_eq, decide_eq_false_iff_not, beq_iff_eq, beq_eq_false_iff_ne, bne_iff_ne, bne_eq_false_iff_eq, ne_eq, List.length_map] at hh; first | done | omega | (simp at hh; done)
          try rw [hh]
          clear hh
          conv => whnf
          rw [List.length_map, List.length_map, List.length_map, w64 (x := (K.length : Int) + (T.length : Int)) (by omega) (by omega)]
          refine Branch.of (fun hh => ?_) (fun hh => ?_)
          · exfalso; simp only [gt_iff_lt, ge_iff_le, decide_eq_true_eq, decide_eq_false_iff_not, beq_iff_eq, beq_eq_false_iff_ne, bne_iff_ne, bne_eq_false_iff_eq, ne_eq] at hh; first | done | omega | (simp at hh; done)
          try rw [hh]
          clear hh
          conv => whnf
          refine (c_wmany0 k2 _ false).mono fun r st e => ?_
          obtain ⟨rfl, rfl⟩ := e
          conv => whnf
          refine Branch.no (by rw [List.length_map]; simp) ?_
          conv => whnf
          refine ⟨tabF6R28, by decide +kernel, ?_⟩
          conv => whnf
          refine ⟨by simp only [List.length_replicate, List.length_map]; omega, ?_⟩
          conv => whnf
          rw [List.length_map, List.length_map, w64 (x := ((K ++ T.take j).length : Int) - (K.length : Int)) (by omega) (by omega), show ((K ++ T.take j).length : Int) - (K.length : Int) = (j : Int) by omega]
          refine ⟨by omega, by omega, by rw [List.length_map]; omega, ?_⟩
          conv => whnf
          refine ⟨by simp only [List.length_append, List.length_replicate, List.length_map, List.length_take, List.length_drop]; omega, ?_⟩
          conv => whnf
          rw [show List.replicate 0 (AV.sl Shape.lf [] Mark.ex) ++ (K.map fun b => (AV.sl .lf (by8 (b)) .ro)) ++ List.take ((j : Int).toNat - 0) (List.drop 0 (T.map fun b => (AV.sl .lf (by8 (b)) .ro))) = (K ++ T.take j).map fun b => (AV.sl .lf (by8 (b)) .ro) by simp]
          refine ⟨_, _, c_texts (K ++ T.take j) (K ++ T.take j) (by omega) (by omega) (fun b hb => by have := hgM b hb; omega), ?_⟩
          conv => whnf
          rw [beq_self_eq_true]
          conv => whnf
          refine ⟨false, [0, 3, 1, 2], 2, ?_⟩
          conv => whnf
          exact ⟨k2, K ++ T.take j, hF2, by omega, .inl ⟨hb2, rfl⟩⟩
        · conv => whnf
          refine (c_open1 k1 cap3 c3 L3 hL3 hw1).mono ?_
          rw [o2]
          rintro r st (⟨h, _⟩ | ⟨_, st', hP1, rfl, rfl⟩)
          · exact absurd o1 h
          generalize (openP k1).1 = k2 at hF2 hP1
          rcases hP1 with ⟨cap4, c4, L4, hL4, rfl⟩ | ⟨cap4, c4, L4, cj, Lj, hL4, rfl⟩ | ⟨hb4, cj, Lj, rfl⟩
          · conv => whnf
            refine Branch.of (fun hh => ?_) (fun hh => ?_)
            · exfalso; simp only [gt_iff_lt, ge_iff_le, decide_eq_true_eq, decide_eq_false_iff_not, beq_iff_eq, beq_eq_false_iff_ne, bne_iff_ne, bne_eq_false_iff_eq, ne_eq, List.length_map] at hh; first | done | omega | (simp at hh; done)
            try rw [hh]
            clear hh
            conv => whnf
            rw [List.length_map, List.length_map, List.length_map, w64 (x := (K.length : Int) + (T.length : Int)) (by omega) (by omega)]
            refine Branch.of (fun hh => ?_) (fun hh => ?_)
            · exfalso; simp only [gt_iff_lt, ge_iff_le, decide_eq_true_eq, decide_eq_false_iff_not, beq_iff_eq, beq_eq_false_iff_ne, bne_iff_ne, bne_eq_false_iff_eq, ne_eq] at hh; first | done | omega | (simp at hh; done)
            try rw [hh]
            clear hh
            conv => whnf
            refine (c_wmany1 k2 _ false cap4 c4 L4).mono fun r st e => ?_
            obtain ⟨rfl, rfl⟩ := e
            conv => whnf
            refine Branch.no (by rw [List.length_map]; simp) ?_
            conv => whnf
            refine ⟨tabF6R28, by decide +kernel, ?_⟩
            conv => whnf
            refine ⟨by simp only [List.length_replicate, List.length_map]; omega, ?_⟩
            conv => whnf
            rw [List.length_map, List.length_map, w64 (x := ((K ++ T.take j).length : Int) - (K.length : Int)) (by omega) (by omega), show ((K ++ T.take j).length : Int) - (K.length : Int) = (j : Int) by omega]
            refine ⟨by omega, by omega, by rw [List.length_map]; omega, ?_⟩
            conv => whnf
            refine ⟨by simp only [List.length_append, List.length_replicate, List.length_map, List.length_take, List.length_drop]; omega, ?_⟩
            conv => whnf
            rw [show List.replicate 0 (AV.sl Shape.lf [] Mark.ex) ++ (K.map fun b => (AV.sl .lf (by8 (b)) .ro)) ++ List.take ((j : Int).toNat - 0) (List.drop 0 (T.map fun b => (AV.sl .lf (by8 (b)) .ro))) = (K ++ T.take j).map fun b => (AV.sl .lf (by8 (b)) .ro) by simp]
            refine ⟨_, _, c_texts (K ++ T.take j) (K ++ T.take j) (by omega) (by omega) (fun b hb => by have := hgM b hb; omega), ?_⟩
            conv => whnf
            rw [beq_self_eq_true]
            conv => whnf
            refine ⟨false, [0, 4, 3, 1, 2], 3, ?_⟩
            conv => whnf
            exact ⟨k2, K ++ T.take j, hF2, by omega, .inr ⟨cap4, c4, L4, hL4, rfl⟩⟩
          · conv => whnf
            refine Branch.of (fun hh => ?_) (fun hh => ?_)
            · exfalso; simp only [gt_iff_lt, ge_iff_le, decide_eq_true_eq, decide_eq_false_iff_not, beq_iff_eq, beq_eq_false_iff_ne, bne_iff_ne, bne_eq_false_iff_eq, ne_eq, List.length_map] at hh; first | done | omega | (simp at hh; done)
            try rw [hh]
            clear hh
            conv => whnf
            rw [List.length_map, List.length_map, List.length_map, w64 (x := (K.length : Int) + (T.length : Int)) (by omega) (by omega)]
            refine Branch.of (fun hh => ?_) (fun hh => ?_)
            · exfalso; simp only [gt_iff_lt, ge_iff_le, decide_eq_true_eq, decide_eq_false_iff_not, beq_iff_eq, beq_eq_false_iff_ne, bne_iff_ne, bne_eq_false_iff_eq, ne_eq] at hh; first | done | omega | (simp at hh; done)
            try rw [hh]
            clear hh
            conv => whnf
            refine (c_wmany1 k2 _ false cap4 c4 L4).mono fun r st e => ?_
            obtain ⟨rfl, rfl⟩ := e
            conv => whnf
            refine Branch.no (by rw [List.length_map]; simp) ?_
            conv => whnf
            refine ⟨tabF6R28, by decide +kernel, ?_⟩
            conv => whnf
            refine ⟨by simp only [List.length_replicate, List.length_map]; omega, ?_⟩
            conv => whnf
            rw [List.length_map, List.length_map, w64 (x := ((K ++ T.take j).length : Int) - (K.length : Int)) (by omega) (by omega), show ((K ++ T.take j).length : Int) - (K.length : Int) = (j : Int) by omega]
            refine ⟨by omega, by omega, by rw [List.length_map]; omega, ?_⟩
            conv => whnf
            refine ⟨by simp only [List.length_append, List.length_replicate, List.length_map, List.length_take, List.length_drop]; omega, ?_⟩
            conv => whnf
            rw [show List.replicate 0 (AV.sl Shape.lf [] Mark.ex) ++ (K.map fun b => (AV.sl .lf (by8 (b)) .ro)) ++ List.take ((j : Int).toNat - 0) (List.drop 0 (T.map fun b => (AV.sl .lf (by8 (b)) .ro))) = (K ++ T.take j).map fun b => (AV.sl .lf (by8 (b)) .ro) by simp]
            refine ⟨_, _, c_texts (K ++ T.take j) (K ++ T.take j) (by omega) (by omega) (fun b hb => by have := hgM b hb; omega), ?_⟩
            conv => whnf
            rw [beq_self_eq_true]
            conv => whnf
            refine ⟨false, [0, 5, 4, 1, 2, 3], 3, ?_⟩
            conv => whnf
            exact ⟨k2, K ++ T.take j, hF2, by omega, .inr ⟨cap4, c4, L4, hL4, rfl⟩⟩
          · conv => whnf
            refine Branch.of (fun hh => ?_) (fun hh => ?_)
            · exfalso; simp only [gt_iff_lt, ge_iff_le, decide_eq_true_eq, decide_eq_false_iff_not, beq_iff_eq, beq_eq_false_iff_ne, bne_iff_ne, bne_eq_false_iff_eq, ne_eq, List.length_map] at hh; first | done | omega | (simp at hh; done)
            try rw [hh]
            clear hh
            conv => whnf
            rw [List.length_map, List.length_map, List.length_map, w64 (x := (K.length : Int) + (T.length : Int)) (by omega) (by omega)]
            refine Branch.of (fun hh => ?_) (fun hh => ?_)
            · exfalso; simp only [gt_iff_lt, ge_iff_le, decide_eq_true_eq, decide_eq_false_iff_not, beq_iff_eq, beq_eq_false_iff_ne, bne_iff_ne, bne_eq_false_iff_eq, ne_eq] at hh; first | done | omega | (simp at hh; done)
            try rw [hh]
            clear hh
            conv => whnf
            refine (c_wmany0 k2 _ false).mono fun r st e => ?_
            obtain ⟨rfl, rfl⟩ := e
            conv => whnf
            refine Branch.no (by rw [List.length_map]; simp) ?_
            conv => whnf
            refine ⟨tabF6R28, by decide +kernel, ?_⟩
            conv => whnf
            refine ⟨by simp only [List.length_replicate, List.length_map]; omega, ?_⟩
            conv => whnf
            rw [List.length_map, List.length_map, w64 (x := ((K ++ T.take j).length : Int) - (K.length : Int)) (by omega) (by omega), show ((K ++ T.take j).length : Int) - (K.length : Int) = (j : Int) by omega]
            refine ⟨by omega, by omega, by rw [List.length_map]; omega, ?_⟩
            conv => whnf
            refine ⟨by simp only [List.length_append, List.length_replicate, List.length_map, List.length_take, List.length_drop]; omega, ?_⟩
            conv => whnf
            rw [show List.replicate 0 (AV.sl Shape.lf [] Mark.ex) ++ (K.map fun b => (AV.sl .lf (by8 (b)) .ro)) ++ List.take ((j : Int).toNat - 0) (List.drop 0 (T.map fun b => (AV.sl .lf (by8 (b)) .ro))) = (K ++ T.take j).map fun b => (AV.sl .lf (by8 (b)) .ro) by simp]
            refine ⟨_, _, c_texts (K ++ T.take j) (K ++ T.take j) (by omega) (by omega) (fun b hb => by have := hgM b hb; omega), ?_⟩
            conv => whnf
            rw [beq_self_eq_true]
            conv => whnf
            refine ⟨false, [0, 4, 1, 2, 3], 2, ?_⟩
            conv => whnf
            exact ⟨k2, K ++ T.take j, hF2, by omega, .inl ⟨hb4, rfl⟩⟩
    · conv => whnf
      rcases Bool.eq_false_or_eq_true k.dead with hdd | hdd
      rotate_left
      · obtain ⟨hF, rfl⟩ := hG.fk hdd
        obtain ⟨rfl, rfl⟩ := hlive hdd
        by_cases h3 : w.a.d = 3
        · rw [show (w.a.d == 3) = true from decide_eq_true h3]
          conv => whnf
          refine (c_dead1 k cap c2 L).mono fun r st e => ?_
          obtain ⟨rfl, rfl⟩ := e
          conv => whnf
          refine Branch.yes (by rw [hdd]; rfl) ?_
          conv => whnf
          refine (c_arm1 k cap c2 L w.a.n).mono fun r st e => ?_
          obtain ⟨rfl, rfl⟩ := e
          conv => whnf
          refine (c_dead1 {k with armed := max w.a.n (-1)} cap c2 L).mono fun r st e => ?_
          obtain ⟨rfl, rfl⟩ := e
          conv => whnf
          refine Branch.yes (show (!k.dead) = true by rw [hdd]; rfl) ?_
          conv => whnf
          refine ⟨false, [0, 1, 3, 2], 3, ?_⟩
          conv => whnf
          exact ⟨{k with armed := max w.a.n (-1)}, K, hF.arm w.a.n hni, by rw [List.length_nil] at hKT; omega, .inr ⟨cap, c2, L, hL, rfl⟩⟩
        · rw [show (w.a.d == 3) = false from decide_eq_false h3]
          conv => whnf
          refine (c_dead1 k cap c2 L).mono fun r st e => ?_
          obtain ⟨rfl, rfl⟩ := e
          conv => whnf
          refine Branch.yes (by rw [hdd]; rfl) ?_
          conv => whnf
          refine ⟨false, [0, 1, 3, 2], 3, ?_⟩
          conv => whnf
          exact ⟨k, K, hF, by rw [List.length_nil] at hKT; omega, .inr ⟨cap, c2, L, hL, rfl⟩⟩
      have hcf := crash_facts hG w.a.n
      have cc := c_crashR k w.a.n hG.wf.1 hG.wf.2
      generalize crashP k w.a.n = k1 at hcf cc
      obtain ⟨j, t, hj, hb1, ht, hs1, hd1, ha1, hh1, hr1, hlen1⟩ := hcf
      have hw1 : WFk k1 := ⟨by rw [hr1]; decide, by rw [hr1]; decide, by rw [hr1]; exact hlen1, by rw [hs1]; omega, by rw [hs1]; omega, by rw [ha1]; decide, by rw [ha1]; decide⟩
      have hgM : Good (K ++ T.take j) := hG.good.app (hG.goodT.take j)
      have lK := hG.many
      have lT := hG.manyT
      have hlM : (K ++ T.take j).length = K.length + j := by rw [List.length_append, List.length_take]; omega
      obtain ⟨o1, o2, hF2⟩ := open_facts hb1 ht hs1 hd1 ha1 hh1 hr1 hgM (by omega)
      have hbE : k1.b = [] → (openP k1).1.b = [] := fun e => by rw [hF2.b, ← o2, e, recsB_nil]; rfl
      by_cases h3 : w.a.d = 3
      · rw [show (w.a.d == 3) = true from decide_eq_true h3]
        conv => whnf
        refine (c_dead1 k cap c2 L).mono fun r st e => ?_
        obtain ⟨rfl, rfl⟩ := e
        conv => whnf
        refine Branch.no (by rw [hdd]; rfl) ?_
        conv => whnf
        refine (c_dead1 k cap c2 L).mono fun r st e => ?_
        obtain ⟨rfl, rfl⟩ := e
        conv => whnf
        refine Branch.no (by rw [hdd]; rfl) ?_
        conv => whnf
        refine ⟨[(0, [0])], ?_⟩
        conv => whnf
        rw [List.drop_zero, hL.2.2.2]
        refine cc.mono ?_
        rintro r st ⟨rfl, ⟨hbn, rfl⟩ | ⟨cap3, c3, L3, hL3, rfl⟩⟩
        · conv => whnf
          refine (c_openE k1 hbn hw1 hd1 ha1 o2).mono ?_
          rintro r st ⟨rfl, rfl⟩
          generalize (openP k1).1 = k2 at hF2 hbE
          have hb2 := hbE hbn
          conv => whnf
          refine Branch.of (fun hh => ?_) (fun hh => ?_)
          · exfalso; simp only [gt_iff_lt, ge_iff_le, decide_eq_true_eq, decide_eq_false_iff_not, beq_iff_eq, beq_eq_false_iff_ne, bne_iff_ne, bne_eq_false_iff_eq, ne_eq, List.length_map] at hh; first | done | omega | (simp at hh; done)
          try rw [hh]
          clear hh
          conv => whnf
          rw [List.length_map, List.length_map, List.length_map, w64 (x := (K.length : Int) + (T.length : Int)) (by omega) (by omega)]
          refine Branch.of (fun hh => ?_) (fun hh => ?_)
          · exfalso; simp only [gt_iff_lt, ge_iff_le, decide_eq_true_eq, decide_eq_false_iff_not, beq_iff_eq, beq_eq_false_iff_ne, bne_iff_ne, bne_eq_false_iff_eq, ne_eq] at hh; first | done | omega | (simp at hh; done)
          try rw [hh]
          clear hh
          conv => whnf
          refine (c_wmany0 k2 _ false).mono fun r st e => ?_
          obtain ⟨rfl, rfl⟩ := e
          conv => whnf
          refine Branch.no (by rw [List.length_map]; simp) ?_
          conv => whnf
          refine ⟨tabF6R28, by decide +kernel, ?_⟩
          conv => whnf
          refine ⟨by simp only [List.length_replicate, List.length_map]; omega, ?_⟩
          conv => whnf
          rw [List.length_map, List.length_map, w64 (x := ((K ++ T.take j).length : Int) - (K.length : Int)) (by omega) (by omega), show ((K ++ T.take j).length : Int) - (K.length : Int) = (j : Int) by omega]
          refine ⟨by omega, by omega, by rw [List.length_map]; omega, ?_⟩
          conv => whnf
          refine ⟨by simp only [List.length_append, List.length_replicate, List.length_map, List.length_take, List.length_drop]; omega, ?_⟩
          conv => whnf
          rw [show List.replicate 0 (AV.sl Shape.lf [] Mark.ex) ++ (K.map fun b => (AV.sl .lf (by8 (b)) .ro)) ++ List.take ((j : Int).toNat - 0) (List.drop 0 (T.map fun b => (AV.sl .lf (by8 (b)) .ro))) = (K ++ T.take j).map fun b => (AV.sl .lf (by8 (b)) .ro) by simp]
          refine ⟨_, _, c_texts (K ++ T.take j) (K ++ T.take j) (by omega) (by omega) (fun b hb => by have := hgM b hb; omega), ?_⟩
          conv => whnf
          rw [beq_self_eq_true]
          conv => whnf
          refine ⟨false, [0, 4, 1, 2, 3], 2, ?_⟩
          conv => whnf
          exact ⟨k2, K ++ T.take j, hF2, by omega, .inl ⟨hb2, rfl⟩⟩
        · conv => whnf
          refine (c_open1 k1 cap3 c3 L3 hL3 hw1).mono ?_
          rw [o2]
          rintro r st (⟨h, _⟩ | ⟨_, st', hP1, rfl, rfl⟩)
          · exact absurd o1 h
          generalize (openP k1).1 = k2 at hF2 hP1
          rcases hP1 with ⟨cap4, c4, L4, hL4, rfl⟩ | ⟨cap4, c4, L4, cj, Lj, hL4, rfl⟩ | ⟨hb4, cj, Lj, rfl⟩
          · conv => whnf
            refine Branch.of (fun hh => ?_) (fun hh => ?_)
            · exfalso; simp only [gt_iff_lt, ge_iff_le, decide_eq_true_eq, decide_eq_false_iff_not, beq_iff_eq, beq_eq_false_iff_ne, bne_iff_ne, bne_eq_false_iff_eq, ne_eq, List.length_map] at hh; first | done | omega | (simp at hh; done)
            try rw [hh]
            clear hh
            conv => whnf
            rw [List.length_map, List.length_map, List.length_map, w64 (x := (K.length : Int) + (T.length : Int)) (by omega) (by omega)]
            refine Branch.of (fun hh => ?_) (fun hh => ?_)
            · exfalso; simp only [gt_iff_lt, ge_iff_le, decide_eq_true_eq, decide_eq_false_iff_not, beq_iff_eq, beq_eq_false_iff_ne, bne_iff_ne, bne_eq_false_iff_eq, ne_eq] at hh; first | done | omega | (simp at hh; done)
            try rw [hh]
            clear hh
            conv => whnf
            refine (c_wmany1 k2 _ false cap4 c4 L4).mono fun r st e => ?_
            obtain ⟨rfl, rfl⟩ := e
            conv => whnf
            refine Branch.no (by rw [List.length_map]; simp) ?_
            conv => whnf
            refine ⟨tabF6R28, by decide +kernel, ?_⟩
            conv => whnf
            refine ⟨by simp only [List.length_replicate, List.length_map]; omega, ?_⟩
            conv => whnf
            rw [List.length_map, List.length_map, w64 (x := ((K ++ T.take j).length : Int) - (K.length : Int)) (by omega) (by omega), show ((K ++ T.take j).length : Int) - (K.length : Int) = (j : Int) by omega]
            refine ⟨by omega, by omega, by rw [List.length_map]; omega, ?_⟩
            conv => whnf
            refine ⟨by simp only [List.length_append, List.length_replicate, List.length_map, List.length_take, List.length_drop]; omega, ?_⟩
            conv => whnf
            rw [show List.replicate 0 (AV.sl Shape.lf [] Mark.ex) ++ (K.map fun b => (AV.sl .lf (by8 (b)) .ro)) ++ List.take ((j : Int).toNat - 0) (List.drop 0 (T.map fun b => (AV.sl .lf (by8 (b)) .ro))) = (K ++ T.take j).map fun b => (AV.sl .lf (by8 (b)) .ro) by simp]
            refine ⟨_, _, c_texts (K ++ T.take j) (K ++ T.take j) (by omega) (by omega) (fun b hb => by have := hgM b hb; omega), ?_⟩
            conv => whnf
            rw [beq_self_eq_true]
            conv => whnf
            refine ⟨false, [0, 5, 4, 1, 2, 3], 3, ?_⟩
            conv => whnf
            exact ⟨k2, K ++ T.take j, hF2, by omega, .inr ⟨cap4, c4, L4, hL4, rfl⟩⟩
          · conv => whnf
            refine Branch.of (fun hh => ?_) (fun hh => ?_)
            · exfalso; simp only [gt_iff_lt, ge_iff_le, decide_eq_true_eq, decide_eq_false_iff_not, beq_iff_eq, beq_eq_false_iff_ne, bne_iff_ne, bne_eq_false_iff_eq, ne_eq, List.length_map] at hh; first | done | omega | (simp at hh; done)
            try rw [hh]
            clear hh
            conv => whnf
            rw [List.length_map, List.length_map, List.length_map, w64 (x := (K.length : Int) + (T.length : Int)) (by omega) (by omega)]
            refine Branch.of (fun hh => ?_) (fun hh => ?_)
            · exfalso; simp only [gt_iff_lt, ge_iff_le, decide_eq_true_eq, decide_eq_false_iff_not, beq_iff_eq, beq_eq_false_iff_ne, bne_iff_ne, bne_eq_false_iff_eq, ne_eq] at hh; first | done | omega | (simp at hh; done)
            try rw [hh]
            clear hh
            conv => whnf
            refine (c_wmany1 k2 _ false cap4 c4 L4).mono fun r st e => ?_
            obtain ⟨rfl, rfl⟩ := e
            conv => whnf
            refine Branch.no (by rw [List.length_map]; simp) ?_
            conv => whnf
            refine ⟨tabF6R28, by decide +kernel, ?_⟩
            conv => whnf
            refine ⟨by simp only [List.length_replicate, List.length_map]; omega, ?_⟩
            conv => whnf
            rw [List.length_map, List.length_map, w64 (x := ((K ++ T.take j).length : Int) - (K.length : Int)) (by omega) (by omega), show ((K ++ T.take j).length : Int) - (K.length : Int) = (j : Int) by omega]
            refine ⟨by omega, by omega, by rw [List.length_map]; omega, ?_⟩
            conv => whnf
            refine ⟨by simp only [List.length_append, List.length_replicate, List.length_map, List.length_take, List.length_drop]; omega, ?_⟩
            conv => whnf
            rw [show List.replicate 0 (AV.sl Shape.lf [] Mark.ex) ++ (K.map fun b => (AV.sl .lf (by8 (b)) .ro)) ++ List.take ((j : Int).toNat - 0) (List.drop 0 (T.map fun b => (AV.sl .lf (by8 (b)) .ro))) = (K ++ T.take j).map fun b => (AV.sl .lf (by8 (b)) .ro) by simp]
            refine ⟨_, _, c_texts (K ++ T.take j) (K ++ T.take j) (by omega) (by omega) (fun b hb => by have := hgM b hb; omega), ?_⟩
            conv => whnf
            rw [beq_self_eq_true]
            conv => whnf
            refine ⟨false, [0, 6, 5, 1, 2, 3, 4], 3, ?_⟩
            conv => whnf
            exact ⟨k2, K ++ T.take j, hF2, by omega, .inr ⟨cap4, c4, L4, hL4, rfl⟩⟩
          · conv => whnf
            refine Branch.of (fun hh => ?_) (fun hh => ?_)
            · exfalso; simp only [gt_iff_lt, ge_iff_le, decide_eq_true_eq, decide_eq_false_iff_not, beq_iff_eq, beq_eq_false_iff_ne, bne_iff_ne, bne_eq_false_iff_eq, ne_eq, List.length_map] at hh; first | done | omega | (simp at hh; done)
            try rw [hh]
            clear hh
            conv => whnf
            rw [List.length_map, List.length_map, List.length_map, w64 (x := (K.length : Int) + (T.length : Int)) (by omega) (by omega)]
            refine Branch.of (fun hh => ?_) (fun hh => ?_)
            · exfalso; simp only [gt_iff_lt, ge_iff_le, decide_eq_true_eq, decide_eq_false_iff_not, beq_iff_eq, beq_eq_false_iff_ne, bne_iff_ne, bne_eq_false_iff_eq, ne_eq] at hh; first | done | omega | (simp at hh; done)
            try rw [hh]
            clear hh
            conv => whnf
            refine (c_wmany0 k2 _ false).mono fun r st e => ?_
            obtain ⟨rfl, rfl⟩ := e
            conv => whnf
            refine Branch.no (by rw [List.length_map]; simp) ?_
            conv => whnf
            refine ⟨tabF6R28, by decide +kernel, ?_⟩
            conv => whnf
            refine ⟨by simp only [List.length_replicate, List.length_map]; omega, ?_⟩
            conv => whnf
            rw [List.length_map, List.length_map, w64 (x := ((K ++ T.take j).length : Int) - (K.length : Int)) (by omega) (by omega), show ((K ++ T.take j).length : Int) - (K.length : Int) = (j : Int) by omega]
            refine ⟨by omega, by omega, by rw [List.length_map]; omega, ?_⟩
            conv => whnf
            refine ⟨by simp only [List.length_append, List.length_replicate, List.length_map, List.length_take, List.length_drop]; omega, ?_⟩
            conv => whnf
            rw [show List.replicate 0 (AV.sl Shape.lf [] Mark.ex) ++ (K.map fun b => (AV.sl .lf (by8 (b)) .ro)) ++ List.take ((j : Int).toNat - 0) (List.drop 0 (T.map fun b => (AV.sl .lf (by8 (b)) .ro))) = (K ++ T.take j).map fun b => (AV.sl .lf (by8 (b)) .ro) by simp]
            refine ⟨_, _, c_texts (K ++ T.take j) (K ++ T.take j) (by omega) (by omega) (fun b hb => by have := hgM b hb; omega), ?_⟩
            conv => whnf
            rw [beq_self_eq_true]
            conv => whnf
            refine ⟨false, [0, 5, 1, 2, 3, 4], 2, ?_⟩
            conv => whnf
            exact ⟨k2, K ++ T.take j, hF2, by omega, .inl ⟨hb4, rfl⟩⟩
      · rw [show (w.a.d == 3) = false from decide_eq_false h3]
        conv => whnf
        refine (c_dead1 k cap c2 L).mono fun r st e => ?_
        obtain ⟨rfl, rfl⟩ := e
        conv => whnf
        refine Branch.no (by rw [hdd]; rfl) ?_
        conv => whnf
        refine ⟨[(0, [0])], ?_⟩
        conv => whnf
        rw [List.drop_zero, hL.2.2.2]
        refine cc.mono ?_
        rintro r st ⟨rfl, ⟨hbn, rfl⟩ | ⟨cap3, c3, L3, hL3, rfl⟩⟩
        · conv => whnf
          refine (c_openE k1 hbn hw1 hd1 ha1 o2).mono ?_
          rintro r st ⟨rfl, rfl⟩
          generalize (openP k1).1 = k2 at hF2 hbE
          have hb2 := hbE hbn
          conv => whnf
          refine Branch.of (fun hh => ?_) (fun hh => ?_)
          · exfalso; simp only [gt_iff_lt, ge_iff_le, decide_eq_true_eq, decide_eq_false_iff_not, beq_iff_eq, beq_eq_false_iff_ne, bne_iff_ne, bne_eq_false_iff_eq, ne_eq, List.length_map] at hh; first | done | omega | (simp at hh; done)
          try rw [hh]
          clear hh
          conv => whnf
          rw [List.length_map, List.length_map, List.length_map, w64 (x := (K.length : Int) + (T.length : Int)) (by omega) (by omega)]
          refine Branch.of (fun hh => ?_) (fun hh => ?_)
          · exfalso; simp only [gt_iff_lt, ge_iff_le, decide_eq_true_eq, decide_eq_false_iff_not, beq_iff_eq, beq_eq_false_iff_ne, bne_iff_ne, bne_eq_false_iff_eq, ne_eq] at hh; first | done | omega | (simp at hh; done)
          try rw [hh]
          clear hh
          conv => whnf
          refine (c_wmany0 k2 _ false).mono fun r st e => ?_
          obtain ⟨rfl, rfl⟩ := e
          conv => whnf
          refine Branch.no (by rw [List.length_map]; simp) ?_
          conv => whnf
          refine ⟨tabF6R28, by decide +kernel, ?_⟩
          conv => whnf
          refine ⟨by simp only [List.length_replicate, List.length_map]; omega, ?_⟩
          conv => whnf
          rw [List.length_map, List.length_map, w64 (x := ((K ++ T.take j).length : Int) - (K.length : Int)) (by omega) (by omega), show ((K ++ T.take j).length : Int) - (K.length : Int) = (j : Int) by omega]
          refine ⟨by omega, by omega, by rw [List.length_map]; omega, ?_⟩
          conv => whnf
          refine ⟨by simp only [List.length_append, List.length_replicate, List.length_map, List.length_take, List.length_drop]; omega, ?_⟩
          conv => whnf
          rw [show List.replicate 0 (AV.sl Shape.lf [] Mark.ex) ++ (K.map fun b => (AV.sl .lf (by8 (b)) .ro)) ++ List.take ((j : Int).toNat - 0) (List.drop 0 (T.map fun b => (AV.sl .lf (by8 (b)) .ro))) = (K ++ T.take j).map fun b => (AV.sl .lf (by8 (b)) .ro) by simp]
          refine ⟨_, _, c_texts (K ++ T.take j) (K ++ T.take j) (by omega) (by omega) (fun b hb => by have := hgM b hb; omega), ?_⟩
          conv => whnf
          rw [beq_self_eq_true]
          conv => whnf
          refine ⟨false, [0, 4, 1, 2, 3], 2, ?_⟩
          conv => whnf
          exact ⟨k2, K ++ T.take j, hF2, by omega, .inl ⟨hb2, rfl⟩⟩
        · conv => whnf
          refine (c_open1 k1 cap3 c3 L3 hL3 hw1).mono ?_
          rw [o2]
          rintro r st (⟨h, _⟩ | ⟨_, st', hP1, rfl, rfl⟩)
          · exact absurd o1 h
          generalize (openP k1).1 = k2 at hF2 hP1
          rcases hP1 with ⟨cap4, c4, L4, hL4, rfl⟩ | ⟨cap4, c4, L4, cj, Lj, hL4, rfl⟩ | ⟨hb4, cj, Lj, rfl⟩
          · conv => whnf
            refine Branch.of (fun hh => ?_) (fun hh => ?_)
            · exfalso; simp only [gt_iff_lt, ge_iff_le, decide_eq_true_eq, decide_eq_false_iff_not, beq_iff_eq, beq_eq_false_iff_ne, bne_iff_ne, bne_eq_false_iff_eq, ne_eq, List.length_map] at hh; first | done | omega | (simp at hh; done)
            try rw [hh]
            clear hh
            conv => whnf
            rw [List.length_map, List.length_map, List.length_map, w64 (x := (K.length : Int) + (T.length : Int)) (by omega) (by omega)]
            refine Branch.of (fun hh => ?_) (fun hh => ?_)
            · exfalso; simp only [gt_iff_lt, ge_iff_le, decide_eq_true_eq, decide_eq_false_iff_not, beq_iff_eq, beq_eq_false_iff_ne, bne_iff_ne, bne_eq_false_iff_eq, ne_eq] at hh; first | done | omega | (simp at hh; done)
            try rw [hh]
            clear hh
            conv => whnf
            refine (c_wmany1 k2 _ false cap4 c4 L4).mono fun r st e => ?_
            obtain ⟨rfl, rfl⟩ := e
            conv => whnf
            refine Branch.no (by rw [List.length_map]; simp) ?_
            conv => whnf
            refine ⟨tabF6R28, by decide +kernel, ?_⟩
            conv => whnf
            refine ⟨by simp only [List.length_replicate, List.length_map]; omega, ?_⟩
            conv => whnf
            rw [List.length_map, List.length_map, w64 (x := ((K ++ T.take j).length : Int) - (K.length : Int)) (by omega) (by omega), show ((K ++ T.take j).length : Int) - (K.length : Int) = (j : Int) by omega]
            refine ⟨by omega, by omega, by rw [List.length_map]; omega, ?_⟩
            conv => whnf
            refine ⟨by simp only [List.length_append, List.length_replicate, List.length_map, List.length_take, List.length_drop]; omega, ?_⟩
            conv => whnf
            rw [show List.replicate 0 (AV.sl Shape.lf [] Mark.ex) ++ (K.map fun b => (AV.sl .lf (by8 (b)) .ro)) ++ List.take ((j : Int).toNat - 0) (List.drop 0 (T.map fun b => (AV.sl .lf (by8 (b)) .ro))) = (K ++ T.take j).map fun b => (AV.sl .lf (by8 (b)) .ro) by simp]
            refine ⟨_, _, c_texts (K ++ T.take j) (K ++ T.take j) (by omega) (by omega) (fun b hb => by have := hgM b hb; omega), ?_⟩
            conv => whnf
            rw [beq_self_eq_true]
            conv => whnf
            refine ⟨false, [0, 5, 4, 1, 2, 3], 3, ?_⟩
            conv => whnf
            exact ⟨k2, K ++ T.take j, hF2, by omega, .inr ⟨cap4, c4, L4, hL4, rfl⟩⟩
          · conv => whnf
            refine Branch.of (fun hh => ?_) (fun hh => ?_)
            · exfalso; simp only [gt_iff_lt, ge_iff_le, decide_eq_true_eq, decide_eq_false_iff_not, beq_iff_eq, beq_eq_false_iff_ne, bne_iff_ne, bne_eq_false_iff_eq, ne_eq, List.length_map] at hh; first | done | omega | (simp at hh; done)
            try rw [hh]
            clear hh
            conv => whnf
            rw [List.length_map, List.length_map, List.length_map, w64 (x := (K.length : Int) + (T.length : Int)) (by omega) (by omega)]
            refine Branch.of (fun hh => ?_) (fun hh => ?_)
            · exfalso; simp only [gt_iff_lt, ge_iff_le, decide_eq_true_eq, decide_eq_false_iff_not, beq_iff_eq, beq_eq_false_iff_ne, bne_iff_ne, bne_eq_false_iff_eq, ne_eq] at hh; first | done | omega | (simp at hh; done)
            try rw [hh]
            clear hh
            conv => whnf
            refine (c_wmany1 k2 _ false cap4 c4 L4).mono fun r st e => ?_
            obtain ⟨rfl, rfl⟩ := e
            conv => whnf
            refine Branch.no (by rw [List.length_map]; simp) ?_
            conv => whnf
            refine ⟨tabF6R28, by decide +kernel, ?_⟩
            conv => whnf
            refine ⟨by simp only [List.length_replicate, List.length_map]; omega, ?_⟩
            conv => whnf
            rw [List.length_map, List.length_map, w64 (x := ((K ++ T.take j).length : Int) - (K.length : Int)) (by omega) (by omega), show ((K ++ T.take j).length : Int) - (K.length : Int) = (j : Int) by omega]
            refine ⟨by omega, by omega, by rw [List.length_map]; omega, ?_⟩
            conv => whnf
            refine ⟨by simp only [List.length_append, List.length_replicate, List.length_map, List.length_take, List.length_drop]; omega, ?_⟩
            conv => whnf
            rw [show List.replicate 0 (AV.sl Shape.lf [] Mark.ex) ++ (K.map fun b => (AV.sl .lf (by8 (b)) .ro)) ++ List.take ((j : Int).toNat - 0) (List.drop 0 (T.map fun b => (AV.sl .lf (by8 (b)) .ro))) = (K ++ T.take j).map fun b => (AV.sl .lf (by8 (b)) .ro) by simp]
            refine ⟨_, _, c_texts (K ++ T.take j) (K ++ T.take j) (by omega) (by omega) (fun b hb => by have := hgM b hb; omega), ?_⟩
            conv => whnf
            rw [beq_self_eq_true]
            conv => whnf
            refine ⟨false, [0, 6, 5, 1, 2, 3, 4], 3, ?_⟩
            conv => whnf
            exact ⟨k2, K ++ T.take j, hF2, by omega, .inr ⟨cap4, c4, L4, hL4, rfl⟩⟩
          · conv => whnf
            refine Branch.of (fun hh => ?_) (fun hh => ?_)
            · exfalso; simp only [gt_iff_lt, ge_iff_le, decide_eq_true_eq, decide_eq_false_iff_not, beq_iff_eq, beq_eq_false_iff_ne, bne_iff_ne, bne_eq_false_iff_eq, ne_eq, List.length_map] at hh; first | done | omega | (simp at hh; done)
            try rw [hh]
            clear hh
            conv => whnf
            rw [List.length_map, List.length_map, List.length_map, w64 (x := (K.length : Int) + (T.length : Int)) (by omega) (by omega)]
            refine Branch.of (fun hh => ?_) (fun hh => ?_)
            · exfalso; simp only [gt_iff_lt, ge_iff_le, decide_eq_true_eq, decide_eq_false_iff_not, beq_iff_eq, beq_eq_false_iff_ne, bne_iff_ne, bne_eq_false_iff_eq, ne_eq] at hh; first | done | omega | (simp at hh; done)
            try rw [hh]
            clear hh
            conv => whnf
            refine (c_wmany0 k2 _ false).mono fun r st e => ?_
            obtain ⟨rfl, rfl⟩ := e
            conv => whnf
            refine Branch.no (by rw [List.length_map]; simp) ?_
            conv => whnf
            refine ⟨tabF6R28, by decide +kernel, ?_⟩
            conv => whnf
            refine ⟨by simp only [List.length_replicate, List.length_map]; omega, ?_⟩
            conv => whnf
            rw [List.length_map, List.length_map, w64 (x := ((K ++ T.take j).length : Int) - (K.length : Int)) (by omega) (by omega), show ((K ++ T.take j).length : Int) - (K.length : Int) = (j : Int) by omega]
            refine ⟨by omega, by omega, by rw [List.length_map]; omega, ?_⟩
            conv => whnf
            refine ⟨by simp only [List.length_append, List.length_replicate, List.length_map, List.length_take, List.length_drop]; omega, ?_⟩
            conv => whnf
            rw [show List.replicate 0 (AV.sl Shape.lf [] Mark.ex) ++ (K.map fun b => (AV.sl .lf (by8 (b)) .ro)) ++ List.take ((j : Int).toNat - 0) (List.drop 0 (T.map fun b => (AV.sl .lf (by8 (b)) .ro))) = (K ++ T.take j).map fun b => (AV.sl .lf (by8 (b)) .ro) by simp]
            refine ⟨_, _, c_texts (K ++ T.take j) (K ++ T.take j) (by omega) (by omega) (fun b hb => by have := hgM b hb; omega), ?_⟩
            conv => whnf
            rw [beq_self_eq_true]
            conv => whnf
            refine ⟨false, [0, 5, 1, 2, 3, 4], 2, ?_⟩
            conv => whnf
            exact ⟨k2, K ++ T.take j, hF2, by omega, .inl ⟨hb4, rfl⟩⟩
  · apply enter3
    intro kk kK
    conv => whnf
    rw [wc_len]
    refine Branch.of (fun h1 => ?_) (fun h1 => ?_) <;> rw [h1] <;> conv => whnf
    rotate_left
    · refine kK _ _ ?_
      conv => whnf
      refine (c_awake19).mono fun r st e => ?_
      obtain ⟨rfl, rfl⟩ := e
      conv => whnf
      refine ⟨false, [], ?_⟩
      conv => whnf
      exact ⟨rfl, rfl⟩
    have h1 := of_decide_eq_true h1
    have ih : i < l.length := by omega
    have hBi := hB l[i] (List.getElem_mem ih)
    have hni := hn l[i] (List.getElem_mem ih)
    have hat := wc_at ih
    generalize l[i] = w at hBi hni hat
    refine ⟨[0, 3, 5, 8, 9], KeepJ l i, ?_, ?_⟩
    · rintro τ ⟨k, K, hF, hK, ⟨hb, rfl⟩ | ⟨cap, c2, L, hL, rfl⟩⟩
      · conv => whnf
        rw [w64 (x := (i : Int) + 1) (by omega) (by omega)]
        refine kK _ _ ?_
        conv => whnf
        refine ⟨0, ?_⟩
        conv => whnf
        refine ⟨⟨i + 1, k, K, by omega, hF, hK, .inl ⟨hb, rfl⟩⟩, ?_⟩
        show l.length - ((i : Int) + 1).toNat < l.length - (i : Int).toNat
        omega
      · conv => whnf
        rw [w64 (x := (i : Int) + 1) (by omega) (by omega)]
        refine kK _ _ ?_
        conv => whnf
        refine ⟨1, ?_⟩
        conv => whnf
        refine ⟨⟨i + 1, k, K, by omega, hF, hK, .inr ⟨cap, c2, L, hL, rfl⟩⟩, ?_⟩
        show l.length - ((i : Int) + 1).toNat < l.length - (i : Int).toNat
        omega
    refine ⟨by omega, _, hat, ?_⟩
    conv => whnf
    refine ⟨[0, 3, 5, 8, 9, 10, 11], MidK l w i, ?_, ?_⟩
    rotate_left
    · by_cases h0 : w.d = 0
      rotate_left
      · refine Branch.no (decide_eq_false h0) ?_
        conv => whnf
        refine ⟨false, [0, 1, 3, 2], 4, ?_⟩
        conv => whnf
        exact ⟨k, K, [], K.length, false, hF.gk, fun _ => ⟨rfl, rfl⟩, by rw [List.length_nil]; omega, .inr ⟨cap, c2, L, hL, rfl⟩⟩
      refine Branch.yes (decide_eq_true h0) ?_
      conv => whnf
      have cp := c_put1 k K.length false w.l cap c2 L hL hF.wf (by have := hBi.1; omega) (fun b hb => by have := hBi.2.2 b hb; omega) (by omega) (by have := hF.many; omega) _ rfl
      have hpf := put_facts hF hBi.2.2 hBi.1 (by have := hBi.1; omega)
      generalize putP k K.length false w.l = q at cp hpf
      obtain ⟨k2, m2, br2, e2⟩ := q
      simp only at cp hpf
      refine cp.mono ?_
      rintro r st ⟨rfl, hP⟩
      rcases hpf with ⟨hF2, he⟩ | ⟨hG2, hd2, he⟩ | ⟨e, e0, e6, he⟩
      · simp only [Prod.mk.injEq] at he
        obtain ⟨rfl, rfl, rfl⟩ := he
        rcases hP with ⟨cap2, c3, L2, hL2, rfl⟩ | ⟨cap2, c3, L2, cj, Lj, hL2, rfl⟩ | ⟨hb2, cj, Lj, rfl⟩
        · conv => whnf
          refine ⟨by rw [List.length_map, List.length_map]; have := hF.many; have := hBi.1; omega, ?_⟩
          conv => whnf
          rw [← List.map_append]
          refine ⟨false, [0, 1, 3, 2], 4, ?_⟩
          conv => whnf
          exact ⟨k2, K ++ w.l, [], ((K ++ w.l).length : Int), false, hF2.gk, fun _ => ⟨rfl, rfl⟩, by rw [List.length_nil, List.length_append]; have := hBi.1; omega, .inr ⟨cap2, c3, L2, hL2, rfl⟩⟩
        · conv => whnf
          refine ⟨by rw [List.length_map, List.length_map]; have := hF.many; have := hBi.1; omega, ?_⟩
          conv => whnf
          rw [← List.map_append]
          refine ⟨false, [0, 1, 3, 4, 2], 4, ?_⟩
          conv => whnf
          exact ⟨k2, K ++ w.l, [], ((K ++ w.l).length : Int), false, hF2.gk, fun _ => ⟨rfl, rfl⟩, by rw [List.length_nil, List.length_append]; have := hBi.1; omega, .inr ⟨cap2, c3, L2, hL2, rfl⟩⟩
        · conv => whnf
          refine ⟨by rw [List.length_map, List.length_map]; have := hF.many; have := hBi.1; omega, ?_⟩
          conv => whnf
          rw [← List.map_append]
          refine ⟨false, [0, 1, 3, 2], 3, ?_⟩
          conv => whnf
          exact ⟨k2, K ++ w.l, [], ((K ++ w.l).length : Int), false, hF2.gk, fun _ => ⟨rfl, rfl⟩, by rw [List.length_nil, List.length_append]; have := hBi.1; omega, .inl ⟨hb2, rfl⟩⟩
      · simp only [Prod.mk.injEq] at he
        obtain ⟨rfl, rfl, rfl⟩ := he
        rcases hP with ⟨cap2, c3, L2, hL2, rfl⟩ | ⟨cap2, c3, L2, cj, Lj, hL2, rfl⟩ | ⟨hb2, cj, Lj, rfl⟩
        · conv => whnf
          refine ⟨false, [0, 1, 3, 2], 4, ?_⟩
          conv => whnf
          exact ⟨k2, K, w.l, (K.length : Int), true, hG2, fun e => Bool.noConfusion (hd2.symm.trans e), by have := hBi.1; omega, .inr ⟨cap2, c3, L2, hL2, rfl⟩⟩
        · conv => whnf
          refine ⟨false, [0, 1, 3, 4, 2], 4, ?_⟩
          conv => whnf
          exact ⟨k2, K, w.l, (K.length : Int), true, hG2, fun e => Bool.noConfusion (hd2.symm.trans e), by have := hBi.1; omega, .inr ⟨cap2, c3, L2, hL2, rfl⟩⟩
        · conv => whnf
          refine ⟨false, [0, 1, 3, 2], 3, ?_⟩
          conv => whnf
          exact ⟨k2, K, w.l, (K.length : Int), true, hG2, fun e => Bool.noConfusion (hd2.symm.trans e), by have := hBi.1; omega, .inl ⟨hb2, rfl⟩⟩
      · simp only [Prod.mk.injEq] at he
        obtain ⟨rfl, rfl, rfl, rfl⟩ := he
        rcases hP with ⟨cap2, c3, L2, hL2, rfl⟩ | ⟨cap2, c3, L2, cj, Lj, hL2, rfl⟩ | ⟨hb2, cj, Lj, rfl⟩
        · conv => whnf
          refine Branch.no (beq_eq_false_iff_ne.2 e0) ?_
          conv => whnf
          refine Branch.no (beq_eq_false_iff_ne.2 e6) ?_
          conv => whnf
          refine ⟨false, [0, 1, 3, 2], 4, ?_⟩
          conv => whnf
          exact ⟨_, K, [], (K.length : Int), false, hF.gk, fun _ => ⟨rfl, rfl⟩, by rw [List.length_nil]; omega, .inr ⟨cap2, c3, L2, hL2, rfl⟩⟩
        · conv => whnf
          refine Branch.no (beq_eq_false_iff_ne.2 e0) ?_
          conv => whnf
          refine Branch.no (beq_eq_false_iff_ne.2 e6) ?_
          conv => whnf
          refine ⟨false, [0, 1, 3, 4, 2], 4, ?_⟩
          conv => whnf
          exact ⟨_, K, [], (K.length : Int), false, hF.gk, fun _ => ⟨rfl, rfl⟩, by rw [List.length_nil]; omega, .inr ⟨cap2, c3, L2, hL2, rfl⟩⟩
        · conv => whnf
          refine Branch.no (beq_eq_false_iff_ne.2 e0) ?_
          conv => whnf
          refine Branch.no (beq_eq_false_iff_ne.2 e6) ?_
          conv => whnf
          refine ⟨false, [0, 1, 3, 2], 3, ?_⟩
          conv => whnf
          exact ⟨_, K, [], (K.length : Int), false, hF.gk, fun _ => ⟨rfl, rfl⟩, by rw [List.length_nil]; omega, .inl ⟨hb2, rfl⟩⟩
    rintro τ ⟨k, K, T, m, br, hG, hlive, hKT, hH⟩
    rcases hH with ⟨hb, rfl⟩ | ⟨cap, c2, L, hL, rfl⟩
    · conv => whnf
      rcases Bool.eq_false_or_eq_true k.dead with hdd | hdd
      rotate_left
      · obtain ⟨hF, rfl⟩ := hG.fk hdd
        obtain ⟨rfl, rfl⟩ := hlive hdd
        by_cases h3 : w.a.d = 3
        · rw [show (w.a.d == 3) = true from decide_eq_true h3]
          conv => whnf
          refine (c_dead0 k).mono fun r st e => ?_
          obtain ⟨rfl, rfl⟩ := e
          conv => whnf
          refine Branch.yes (by rw [hdd]; rfl) ?_
          conv => whnf
          refine (c_arm0 k w.a.n).mono fun r st e => ?_
          obtain ⟨rfl, rfl⟩ := e
          conv => whnf
          refine (c_dead0 {k with armed := max w.a.n (-1)}).mono fun r st e => ?_
          obtain ⟨rfl, rfl⟩ := e
          conv => whnf
          refine Branch.yes (show (!k.dead) = true by rw [hdd]; rfl) ?_
          conv => whnf
          refine ⟨false, [0, 1, 2], 2, ?_⟩
          conv => whnf
          exact ⟨{k with armed := max w.a.n (-1)}, K, hF.arm w.a.n hni, by rw [List.length_nil] at hKT; omega, .inl ⟨hb, rfl⟩⟩
        · rw [show (w.a.d == 3) = false from decide_eq_false h3]
          conv => whnf
          refine (c_dead0 k).mono fun r st e => ?_
          obtain ⟨rfl, rfl⟩ := e
          conv => whnf
          refine Branch.yes (by rw [hdd]; rfl) ?_
          conv => whnf
          refine ⟨false, [0, 1, 2], 2, ?_⟩
          conv => whnf
          exact ⟨k, K, hF, by rw [List.length_nil] at hKT; omega, .inl ⟨hb, rfl⟩⟩
      have hcf := crash_facts hG w.a.n
      have cc := c_crash0 k w.a.n hb hG.wf.1 hG.wf.2
      generalize crashP k w.a.n = k1 at hcf cc
      obtain ⟨j, t, hj, hb1, ht, hs1, hd1, ha1, hh1, hr1, hlen1⟩ := hcf
      have hw1 : WFk k1 := ⟨by rw [hr1]; decide, by rw [hr1]; decide, by rw [hr1]; exact hlen1, by rw [hs1]; omega, by rw [hs1]; omega, by rw [ha1]; decide, by rw [ha1]; decide⟩
      have hgM : Good (K ++ T.take j) := hG.good.app (hG.goodT.take j)
      have lK := hG.many
      have lT := hG.manyT
      have hlM : (K ++ T.take j).length = K.length + j := by rw [List.length_append, List.length_take]; omega
      obtain ⟨o1, o2, hF2⟩ := open_facts hb1 ht hs1 hd1 ha1 hh1 hr1 hgM (by omega)
      have hbE : k1.b = [] → (openP k1).1.b = [] := fun e => by rw [hF2.b, ← o2, e, recsB_nil]; rfl
      by_cases h3 : w.a.d = 3
      · rw [show (w.a.d == 3) = true from decide_eq_true h3]
        conv => whnf
        refine (c_dead0 k).mono fun r st e => ?_
        obtain ⟨rfl, rfl⟩ := e
        conv => whnf
        refine Branch.no (by rw [hdd]; rfl) ?_
        conv => whnf
        refine (c_dead0 k).mono fun r st e => ?_
        obtain ⟨rfl, rfl⟩ := e
        conv => whnf
        refine Branch.no (by rw [hdd]; rfl) ?_
        conv => whnf
        refine ⟨[], ?_⟩
        conv => whnf
        refine cc.mono ?_
        rintro r st ⟨rfl, ⟨hbn, rfl⟩ | ⟨cap3, c3, L3, hL3, rfl⟩⟩
        · conv => whnf
          refine (c_openE k1 hbn hw1 hd1 ha1 o2).mono ?_
          rintro r st ⟨rfl, rfl⟩
          generalize (openP k1).1 = k2 at hF2 hbE
          have hb2 := hbE hbn
          conv => whnf
          refine Branch.of (fun hh => ?_) (fun hh => ?_)
          · exfalso; simp only [gt_iff_lt, ge_iff_le, decide_eq_true_eq, decide_eq_false_iff_not, beq_iff_eq, beq_eq_false_iff_ne, bne_iff_ne, bne_eq_false_iff_eq, ne_eq, List.length_map] at hh; first | done | omega | (simp at hh; done)
          try rw [hh]
          clear hh
          conv => whnf
          rw [List.length_map, List.length_map, List.length_map, w64 (x := (K.length : Int) + (T.length : Int)) (by omega) (by omega)]
          refine Branch.of (fun hh => ?_) (fun hh => ?_)
          · exfalso; simp only [gt_iff_lt, ge_iff_le, decide_eq_true_eq, decide_eq_false_iff_not, beq_iff_eq, beq_eq_false_iff_ne, bne_iff_ne, bne_eq_false_iff_eq, ne_eq] at hh; first | done | omega | (simp at hh; done)
          try rw [hh]
          clear hh
          conv => whnf
          refine (c_wmany0 k2 _ false).mono fun r st e => ?_
          obtain ⟨rfl, rfl⟩ := e
          conv => whnf
          refine Branch.no (by rw [List.length_map]; simp) ?_
          conv => whnf
          refine ⟨tabF6R28, by decide +kernel, ?_⟩
          conv => whnf
          refine ⟨by simp only [List.length_replicate, List.length_map]; omega, ?_⟩
          conv => whnf
          rw [List.length_map, List.length_map, w64 (x := ((K ++ T.take j).length : Int) - (K.length : Int)) (by omega) (by omega), show ((K ++ T.take j).length : Int) - (K.length : Int) = (j : Int) by omega]
          refine ⟨by omega, by omega, by rw [List.length_map]; omega, ?_⟩
          conv => whnf
          refine ⟨by simp only [List.length_append, List.length_replicate, List.length_map, List.length_take, List.length_drop]; omega, ?_⟩
          conv => whnf
          rw [show List.replicate 0 (AV.sl Shape.lf [] Mark.ex) ++ (K.map fun b => (AV.sl .lf (by8 (b)) .ro)) ++ List.take ((j : Int).toNat - 0) (List.drop 0 (T.map fun b => (AV.sl .lf (by8 (b)) .ro))) = (K ++ T.take j).map fun b => (AV.sl .lf (by8 (b)) .ro) by simp]
          refine ⟨_, _, c_texts (K ++ T.take j) (K ++ T.take j) (by omega) (by omega) (fun b hb => by have := hgM b hb; omega), ?_⟩
          conv => whnf
          rw [beq_self_eq_true]
          conv => whnf
          refine ⟨false, [0, 3, 1, 2], 2, ?_⟩
          conv => whnf
          exact ⟨k2, K ++ T.take j, hF2, by omega, .inl ⟨hb2, rfl⟩⟩
        · conv => whnf
          refine (c_open1 k1 cap3 c3 L3 hL3 hw1).mono ?_
          rw [o2]
          rintro r st (⟨h, _⟩ | ⟨_, st', hP1, rfl, rfl⟩)
          · exact absurd o1 h
          generalize (openP k1).1 = k2 at hF2 hP1
          rcases hP1 with ⟨cap4, c4, L4, hL4, rfl⟩ | ⟨cap4, c4, L4, cj, Lj, hL4, rfl⟩ | ⟨hb4, cj, Lj, rfl⟩
          · conv => whnf
            refine Branch.of (fun hh => ?_) (fun hh => ?_)
            · exfalso; simp only [gt_iff_lt, ge_iff_le, decide_eq_true_eq, decide_eq_false_iff_not, beq_iff_eq, beq_eq_false_iff_ne, bne_iff_ne, bne_eq_false_iff_eq, ne_eq, List.length_map] at hh; first | done | omega | (simp at hh; done)
            try rw [hh]
            clear hh
            conv => whnf
            rw [List.length_map, List.length_map, List.length_map, w64 (x := (K.length : Int) + (T.length : Int)) (by omega) (by omega)]
            refine Branch.of (fun hh => ?_) (fun hh => ?_)
            · exfalso; simp only [gt_iff_lt, ge_iff_le, decide_eq_true_eq, decide_eq_false_iff_not, beq_iff_eq, beq_eq_false_iff_ne, bne_iff_ne, bne_eq_false_iff_eq, ne_eq] at hh; first | done | omega | (simp at hh; done)
            try rw [hh]
            clear hh
            conv => whnf
            refine (c_wmany1 k2 _ false cap4 c4 L4).mono fun r st e => ?_
            obtain ⟨rfl, rfl⟩ := e
            conv => whnf
            refine Branch.no (by rw [List.length_map]; simp) ?_
            conv => whnf
            refine ⟨tabF6R28, by decide +kernel, ?_⟩
            conv => whnf
            refine ⟨by simp only [List.length_replicate, List.length_map]; omega, ?_⟩
            conv => whnf
            rw [List.length_map, List.length_map, w64 (x := ((K ++ T.take j).length : Int) - (K.length : Int)) (by omega) (by omega), show ((K ++ T.take j).length : Int) - (K.length : Int) = (j : Int) by omega]
            refine ⟨by omega, by omega, by rw [List.length_map]; omega, ?_⟩
            conv => whnf
            refine ⟨by simp only [List.length_append, List.length_replicate, List.length_map, List.length_take, List.length_drop]; omega, ?_⟩
            conv => whnf
            rw [show List.replicate 0 (AV.sl Shape.lf [] Mark.ex) ++ (K.map fun b => (AV.sl .lf (by8 (b)) .ro)) ++ List.take ((j : Int).toNat - 0) (List.drop 0 (T.map fun b => (AV.sl .lf (by8 (b)) .ro))) = (K ++ T.take j).map fun b => (AV.sl .lf (by8 (b)) .ro) by simp]
            refine ⟨_, _, c_texts (K ++ T.take j) (K ++ T.take j) (by omega) (by omega) (fun b hb => by have := hgM b hb; omega), ?_⟩
            conv => whnf
            rw [beq_self_eq_true]
            conv => whnf
            refine ⟨false, [0, 4, 3, 1, 2], 3, ?_⟩
            conv => whnf
            exact ⟨k2, K ++ T.take j, hF2, by omega, .inr ⟨cap4, c4, L4, hL4, rfl⟩⟩
          · conv => whnf
            refine Branch.of (fun hh => ?_) (fun hh => ?_)
            · exfalso; simp only [gt_iff_lt, ge_iff_le, decide_eq_true_eq, decide_eq_false_iff_not, beq_iff_eq, beq_eq_false_iff_ne, bne_iff_ne, bne_eq_false_iff_eq, ne_eq, List.length_map] at hh; first | done | omega | (simp at hh; done)
            try rw [hh]
            clear hh
            conv => whnf
            rw [List.length_map, List.length_map, List.length_map, w64 (x := (K.length : Int) + (T.length : Int)) (by omega) (by omega)]
            refine Branch.of (fun hh => ?_) (fun hh => ?_)
            · exfalso; simp only [gt_iff_lt, ge_iff_le, decide_eq_true_eq, decide_eq_false_iff_not, beq_iff_eq, beq_eq_false_iff_ne, bne_iff_ne, bne_eq_false_iff_eq, ne_eq] at hh; first | done | omega | (simp at hh; done)
            try rw [hh]
            clear hh
            conv => whnf
            refine (c_wmany1 k2 _ false cap4 c4 L4).mono fun r st e => ?_
            obtain ⟨rfl, rfl⟩ := e
            conv => whnf
            refine Branch.no (by rw [List.length_map]; simp) ?_
            conv => whnf
            refine ⟨tabF6R28, by decide +kernel, ?_⟩
            conv => whnf
            refine ⟨by simp only [List.length_replicate, List.length_map]; omega, ?_⟩
            conv => whnf
            rw [List.length_map, List.length_map, w64 (x := ((K ++ T.take j).length : Int) - (K.length : Int)) (by omega) (by omega), show ((K ++ T.take j).length : Int) - (K.length : Int) = (j : Int) by omega]
            refine ⟨by omega, by omega, by rw [List.length_map]; omega, ?_⟩
            conv => whnf
            refine ⟨by simp only [List.length_append, List.length_replicate, List.length_map, List.length_take, List.length_drop]; omega, ?_⟩
            conv => whnf
            rw [show List.replicate 0 (AV.sl Shape.lf [] Mark.ex) ++ (K.map fun b => (AV.sl .lf (by8 (b)) .ro)) ++ List.take ((j : Int).toNat - 0) (List.drop 0 (T.map fun b => (AV.sl .lf (by8 (b)) .ro))) = (K ++ T.take j).map fun b => (AV.sl .lf (by8 (b)) .ro) by simp]
            refine ⟨_, _, c_texts (K ++ T.take j) (K ++ T.take j) (by omega) (by omega) (fun b hb => by have := hgM b hb; omega), ?_⟩
            conv => whnf
            rw [beq_self_eq_true]
            conv => whnf
            refine ⟨false, [0, 5, 4, 1, 2, 3], 3, ?_⟩
            conv => whnf
            exact ⟨k2, K ++ T.take j, hF2, by omega, .inr ⟨cap4, c4, L4, hL4, rfl⟩⟩
          · conv => whnf
            refine Branch.of (fun hh => ?_) (fun hh => ?_)
            · exfalso; simp only [gt_iff_lt, ge_iff_le, decide_eq_true_eq, decide_eq_false_iff_not, beq_iff_eq, beq_eq_false_iff_ne, bne_iff_ne, bne_eq_false_iff_eq, ne_eq, List.length_map] at hh; first | done | omega | (simp at hh; done)
            try rw [hh]
            clear hh
            conv => whnf
            rw [List.length_map, List.length_map, List.length_map, w64 (x := (K.length : Int) + (T.length : Int)) (by omega) (by omega)]
            refine Branch.of (fun hh => ?_) (fun hh => ?_)
            · exfalso; simp only [gt_iff_lt, ge_iff_le, decide_eq_true_eq, decide_eq_false_iff_not, beq_iff_eq, beq_eq_false_iff_ne, bne_iff_ne, bne_eq_false_iff_eq, ne_eq] at hh; first | done | omega | (simp at hh; done)
            try rw [hh]
            clear hh
            conv => whnf
            refine (c_wmany0 k2 _ false).mono fun r st e => ?_
            obtain ⟨rfl, rfl⟩ := e
            conv => whnf
            refine Branch.no (by rw [List.length_map]; simp) ?_
            conv => whnf
            refine ⟨tabF6R28, by decide +kernel, ?_⟩
            conv => whnf
            refine ⟨by simp only [List.length_replicate, List.length_map]; omega, ?_⟩
            conv => whnf
            rw [List.length_map, List.length_map, w64 (x := ((K ++ T.take j).length : Int) - (K.length : Int)) (by omega) (by omega), show ((K ++ T.take j).length : Int) - (K.length : Int) = (j : Int) by omega]
            refine ⟨by omega, by omega, by rw [List.length_map]; omega, ?_⟩
            conv => whnf
            refine ⟨by simp only [List.length_append, List.length_replicate, List.length_map, List.length_take, List.length_drop]; omega, ?_⟩
            conv => whnf
            rw [show List.replicate 0 (AV.sl Shape.lf [] Mark.ex) ++ (K.map fun b => (AV.sl .lf (by8 (b)) .ro)) ++ List.take ((j : Int).toNat - 0) (List.drop 0 (T.map fun b => (AV.sl .lf (by8 (b)) .ro))) = (K ++ T.take j).map fun b => (AV.sl .lf (by8 (b)) .ro) by simp]
            refine ⟨_, _, c_texts (K ++ T.take j) (K ++ T.take j) (by omega) (by omega) (fun b hb => by have := hgM b hb; omega), ?_⟩
            conv => whnf
            rw [beq_self_eq_true]
            conv => whnf
            refine ⟨false, [0, 4, 1, 2, 3], 2, ?_⟩
            conv => whnf
            exact ⟨k2, K ++ T.take j, hF2, by omega, .inl ⟨hb4, rfl⟩⟩
      · rw [show (w.a.d == 3) = false from decide_eq_false h3]
        conv => whnf
        refine (c_dead0 k).mono fun r st e => ?_
        obtain ⟨rfl, rfl⟩ := e
        conv => whnf
        refine Branch.no (by rw [hdd]; rfl) ?_
        conv => whnf
        refine ⟨[], ?_⟩
        conv => whnf
        refine cc.mono ?_
        rintro r st ⟨rfl, ⟨hbn, rfl⟩ | ⟨cap3, c3, L3, hL3, rfl⟩⟩
        · conv => whnf
          refine (c_openE k1 hbn hw1 hd1 ha1 o2).mono ?_
          rintro r st ⟨rfl, rfl⟩
          generalize (openP k1).1 = k2 at hF2 hbE
          have hb2 := hbE hbn
          conv => whnf
          refine Branch.of (fun hh => ?_) (fun hh => ?_)
          · exfalso; simp only [gt_iff_lt, ge_iff_le, decide_eq_true_eq, decide_eq_false_iff_not, beq_iff_eq, beq_eq_false_iff_ne, bne_iff_ne, bne_eq_false_iff_eq, ne_eq, List.length_map] at hh; first | done | omega | (simp at hh; done)
          try rw [hh]
          clear hh
          conv => whnf
          rw [List.length_map, List.length_map, List.length_map, w64 (x := (K.length : Int) + (T.length : Int)) (by omega) (by omega)]
          refine Branch.of (fun hh => ?_) (fun hh => ?_)
          · exfalso; simp only [gt_iff_lt, ge_iff_le, decide_eq_true_eq, decide_eq_false_iff_not, beq_iff_eq, beq_eq_false_iff_ne, bne_iff_ne, bne_eq_false_iff_eq, ne_eq] at hh; first | done | omega | (simp at hh; done)
          try rw [hh]
          clear hh
          conv => whnf
          refine (c_wmany0 k2 _ false).mono fun r st e => ?_
          obtain ⟨rfl, rfl⟩ := e
          conv => whnf
          refine Branch.no (by rw [List.length_map]; simp) ?_
          conv => whnf
          refine ⟨tabF6R28, by decide +kernel, ?_⟩
          conv => whnf
          refine ⟨by simp only [List.length_replicate, List.length_map]; omega, ?_⟩
          conv => whnf
          rw [List.length_map, List.length_map, w64 (x := ((K ++ T.take j).length : Int) - (K.length : Int)) (by omega) (by omega), show ((K ++ T.take j).length : Int) - (K.length : Int) = (j : Int) by omega]
          refine ⟨by omega, by omega, by rw [List.length_map]; omega, ?_⟩
          conv => whnf
          refine ⟨by simp only [List.length_append, List.length_replicate, List.length_map, List.length_take, List.length_drop]; omega, ?_⟩
          conv => whnf
          rw [show List.replicate 0 (AV.sl Shape.lf [] Mark.ex) ++ (K.map fun b => (AV.sl .lf (by8 (b)) .ro)) ++ List.take ((j : Int).toNat - 0) (List.drop 0 (T.map fun b => (AV.sl .lf (by8 (b)) .ro))) = (K ++ T.take j).map fun b => (AV.sl .lf (by8 (b)) .ro) by simp]
          refine ⟨_, _, c_texts (K ++ T.take j) (K ++ T.take j) (by omega) (by omega) (fun b hb => by have := hgM b hb; omega), ?_⟩
          conv => whnf
          rw [beq_self_eq_true]
          conv => whnf
          refine ⟨false, [0, 3, 1, 2], 2, ?_⟩
          conv => whnf
          exact ⟨k2, K ++ T.take j, hF2, by omega, .inl ⟨hb2, rfl⟩⟩
        · conv => whnf
          refine (c_open1 k1 cap3 c3 L3 hL3 hw1).mono ?_
          rw [o2]
          rintro r st (⟨h, _⟩ | ⟨_, st', hP1, rfl, rfl⟩)
          · exact absurd o1 h
          generalize (openP k1).1 = k2 at hF2 hP1
          rcases hP1 with ⟨cap4, c4, L4, hL4, rfl⟩ | ⟨cap4, c4, L4, cj, Lj, hL4, rfl⟩ | ⟨hb4, cj, Lj, rfl⟩
          · conv => whnf
            refine Branch.of (fun hh => ?_) (fun hh => ?_)
            · exfalso; simp only [gt_iff_lt, ge_iff_le, decide_eq_true_eq, decide_eq_false_iff_not, beq_iff_eq, beq_eq_false_iff_ne, bne_iff_ne, bne_eq_false_iff_eq, ne_eq, List.length_map] at hh; first | done | omega | (simp at hh; done)
            try rw [hh]
            clear hh
            conv => whnf
            rw [List.length_map, List.length_map, List.length_map, w64 (x := (K.length : Int) + (T.length : Int)) (by omega) (by omega)]
            refine Branch.of (fun hh => ?_) (fun hh => ?_)
            · exfalso; simp only [gt_iff_lt, ge_iff_le, decide_eq_true_eq, decide_eq_false_iff_not, beq_iff_eq, beq_eq_false_iff_ne, bne_iff_ne, bne_eq_false_iff_eq, ne_eq] at hh; first | done | omega | (simp at hh; done)
            try rw [hh]
            clear hh
            conv => whnf
            refine (c_wmany1 k2 _ false cap4 c4 L4).mono fun r st e => ?_
            obtain ⟨rfl, rfl⟩ := e
            conv => whnf
            refine Branch.no (by rw [List.length_map]; simp) ?_
            conv => whnf
            refine ⟨tabF6R28, by decide +kernel, ?_⟩
            conv => whnf
            refine ⟨by simp only [List.length_replicate, List.length_map]; omega, ?_⟩
            conv => whnf
            rw [List.length_map, List.length_map, w64 (x := ((K ++ T.take j).length : Int) - (K.length : Int)) (by omega) (by omega), show ((K ++ T.take j).length : Int) - (K.length : Int) = (j : Int) by omega]
            refine ⟨by omega, by omega, by rw [List.length_map]; omega, ?_⟩
            conv => whnf
            refine ⟨by simp only [List.length_append, List.length_replicate, List.length_map, List.length_take, List.length_drop]; omega, ?_⟩
            conv => whnf
            rw [show List.replicate 0 (AV.sl Shape.lf [] Mark.ex) ++ (K.map fun b => (AV.sl .lf (by8 (b)) .ro)) ++ List.take ((j : Int).toNat - 0) (List.drop 0 (T.map fun b => (AV.sl .lf (by8 (b)) .ro))) = (K ++ T.take j).map fun b => (AV.sl .lf (by8 (b)) .ro) by simp]
            refine ⟨_, _, c_texts (K ++ T.take j) (K ++ T.take j) (by omega) (by omega) (fun b hb => by have := hgM b hb; omega), ?_⟩
            conv => whnf
            rw [beq_self_eq_true]
            conv => whnf
            refine ⟨false, [0, 4, 3, 1, 2], 3, ?_⟩
            conv => whnf
            exact ⟨k2, K ++ T.take j, hF2, by omega, .inr ⟨cap4, c4, L4, hL4, rfl⟩⟩
          · conv => whnf
            refine Branch.of (fun hh => ?_) (fun hh => ?_)
            · exfalso; simp only [gt_iff_lt, ge_iff_le, decide_eq_true_eq, decide_eq_false_iff_not, beq_iff_eq, beq_eq_false_iff_ne, bne_iff_ne, bne_eq_false_iff_eq, ne_eq, List.length_map] at hh; first | done | omega | (simp at hh; done)
            try rw [hh]
            clear hh
            conv => whnf
            rw [List.length_map, List.length_map, List.length_map, w64 (x := (K.length : Int) + (T.length : Int)) (by omega) (by omega)]
            refine Branch.of (fun hh => ?_) (fun hh => ?_)
            · exfalso; simp only [gt_iff_lt, ge_iff_le, decide_eq_true_eq, decide_eq_false_iff_not, beq_iff_eq, beq_eq_false_iff_ne, bne_iff_ne, bne_eq_false_iff_eq, ne_eq] at hh; first | done | omega | (simp at hh; done)
            try rw [hh]
            clear hh
            conv => whnf
            refine (c_wmany1 k2 _ false cap4 c4 L4).mono fun r st e => ?_
            obtain ⟨rfl, rfl⟩ := e
            conv => whnf
            refine Branch.no (by rw [List.length_map]; simp) ?_
            conv => whnf
            refine ⟨tabF6R28, by decide +kernel, ?_⟩
            conv => whnf
            refine ⟨by simp only [List.length_replicate, List.length_map]; omega, ?_⟩
            conv => whnf
            rw [List.length_map, List.length_map, w64 (x := ((K ++ T.take j).length : Int) - (K.length : Int)) (by omega) (by omega), show ((K ++ T.take j).length : Int) - (K.length : Int) = (j : Int) by omega]
            refine ⟨by omega, by omega, by rw [List.length_map]; omega, ?_⟩
            conv => whnf
            refine ⟨by simp only [List.length_append, List.length_replicate, List.length_map, List.length_take, List.length_drop]; omega, ?_⟩
            conv => whnf
            rw [show List.replicate 0 (AV.sl Shape.lf [] Mark.ex) ++ (K.map fun b => (AV.sl .lf (by8 (b)) .ro)) ++ List.take ((j : Int).toNat - 0) (List.drop 0 (T.map fun b => (AV.sl .lf (by8 (b)) .ro))) = (K ++ T.take j).map fun b => (AV.sl .lf (by8 (b)) .ro) by simp]
            refine ⟨_, _, c_texts (K ++ T.take j) (K ++ T.take j) (by omega) (by omega) (fun b hb => by have := hgM b hb; omega), ?_⟩
            conv => whnf
            rw [beq_self_eq_true]
            conv => whnf
            refine ⟨false, [0, 5, 4, 1, 2, 3], 3, ?_⟩
            conv => whnf
            exact ⟨k2, K ++ T.take j, hF2, by omega, .inr ⟨cap4, c4, L4, hL4, rfl⟩⟩
          · conv => whnf
            refine Branch.of (fun hh => ?_) (fun hh => ?_)
            · exfalso; simp only [gt_iff_lt, ge_iff_le, decide_eq_true_eq, decide_eq_false_iff_not, beq_iff_eq, beq_eq_false_iff_ne, bne_iff_ne, bne_eq_false_iff_eq, ne_eq, List.length_map] at hh; first | done | omega | (simp at hh; done)
            try rw [hh]
            clear hh
            conv => whnf
            rw [List.length_map, List.length_map, List.length_map, w64 (x := (K.length : Int) + (T.length : Int)) (by omega) (by omega)]
            refine Branch.of (fun hh => ?_) (fun hh => ?_)
            · exfalso; simp only [gt_iff_lt, ge_iff_le, decide_eq_true_eq, decide_eq_false_iff_not, beq_iff_eq, beq_eq_false_iff_ne, bne_iff_ne, bne_eq_false_iff_eq, ne_eq] at hh; first | done | omega | (simp at hh; done)
            try rw [hh]
            clear hh
            conv => whnf
            refine (c_wmany0 k2 _ false).mono fun r st e => ?_
            obtain ⟨rfl, rfl⟩ := e
            conv => whnf
            refine Branch.no (by rw [List.length_map]; simp) ?_
            conv => whnf
            refine ⟨tabF6R28, by decide +kernel, ?_⟩
            conv => whnf
            refine ⟨by simp only [List.length_replicate, List.length_map]; omega, ?_⟩
            conv => whnf
            rw [List.length_map, List.length_map, w64 (x := ((K ++ T.take j).length : Int) - (K.length : Int)) (by omega) (by omega), show ((K ++ T.take j).length : Int) - (K.length : Int) = (j : Int) by omega]
            refine ⟨by omega, by omega, by rw [List.length_map]; omega, ?_⟩
            conv => whnf
            refine ⟨by simp only [List.length_append, List.length_replicate, List.length_map, List.length_take, List.length_drop]; omega, ?_⟩
            conv => whnf
            rw [show List.replicate 0 (AV.sl Shape.lf [] Mark.ex) ++ (K.map fun b => (AV.sl .lf (by8 (b)) .ro)) ++ List.take ((j : Int).toNat - 0) (List.drop 0 (T.map fun b => (AV.sl .lf (by8 (b)) .ro))) = (K ++ T.take j).map fun b => (AV.sl .lf (by8 (b)) .ro) by simp]
            refine ⟨_, _, c_texts (K ++ T.take j) (K ++ T.take j) (by omega) (by omega) (fun b hb => by have := hgM b hb; omega), ?_⟩
            conv => whnf
            rw [beq_self_eq_true]
            conv => whnf
            refine ⟨false, [0, 4, 1, 2, 3], 2, ?_⟩
            conv => whnf
            exact ⟨k2, K ++ T.take j, hF2, by omega, .inl ⟨hb4, rfl⟩⟩
    · conv => whnf
      rcases Bool.eq_false_or_eq_true k.dead with hdd | hdd
      rotate_left
      · obtain ⟨hF, rfl⟩ := hG.fk hdd
        obtain ⟨rfl, rfl⟩ := hlive hdd
        by_cases h3 : w.a.d = 3
        · rw [show (w.a.d == 3) = true from decide_eq_true h3]
          conv => whnf
          refine (c_dead1 k cap c2 L).mono fun r st e => ?_
          obtain ⟨rfl, rfl⟩ := e
          conv => whnf
          refine Branch.yes (by rw [hdd]; rfl) ?_
          conv => whnf
          refine (c_arm1 k cap c2 L w.a.n).mono fun r st e => ?_
          obtain ⟨rfl, rfl⟩ := e
          conv => whnf
          refine (c_dead1 {k with armed := max w.a.n (-1)} cap c2 L).mono fun r st e => ?_
          obtain ⟨rfl, rfl⟩ := e
          conv => whnf
          refine Branch.yes (show (!k.dead) = true by rw [hdd]; rfl) ?_
          conv => whnf
          refine ⟨false, [0, 1, 3, 2], 3, ?_⟩
          conv => whnf
          exact ⟨{k with armed := max w.a.n (-1)}, K, hF.arm w.a.n hni, by rw [List.length_nil] at hKT; omega, .inr ⟨cap, c2, L, hL, rfl⟩⟩
        · rw [show (w.a.d == 3) = false from decide_eq_false h3]
          conv => whnf
          refine (c_dead1 k cap c2 L).mono fun r st e => ?_
          obtain ⟨rfl, rfl⟩ := e
          conv => whnf
          refine Branch.yes (by rw [hdd]; rfl) ?_
          conv => whnf
          refine ⟨false, [0, 1, 3, 2], 3, ?_⟩
          conv => whnf
          exact ⟨k, K, hF, by rw [List.length_nil] at hKT; omega, .inr ⟨cap, c2, L, hL, rfl⟩⟩
      have hcf := crash_facts hG w.a.n
      have cc := c_crashR k w.a.n hG.wf.1 hG.wf.2
      generalize crashP k w.a.n = k1 at hcf cc
      obtain ⟨j, t, hj, hb1, ht, hs1, hd1, ha1, hh1, hr1, hlen1⟩ := hcf
      have hw1 : WFk k1 := ⟨by rw [hr1]; decide, by rw [hr1]; decide, by rw [hr1]; exact hlen1, by rw [hs1]; omega, by rw [hs1]; omega, by rw [ha1]; decide, by rw [ha1]; decide⟩
      have hgM : Good (K ++ T.take j) := hG.good.app (hG.goodT.take j)
      have lK := hG.many
      have lT := hG.manyT
      have hlM : (K ++ T.take j).length = K.length + j := by rw [List.length_append, List.length_take]; omega
      obtain ⟨o1, o2, hF2⟩ := open_facts hb1 ht hs1 hd1 ha1 hh1 hr1 hgM (by omega)
      have hbE : k1.b = [] → (openP k1).1.b = [] := fun e => by rw [hF2.b, ← o2, e, recsB_nil]; rfl
      by_cases h3 : w.a.d = 3
      · rw [show (w.a.d == 3) = true from decide_eq_true h3]
        conv => whnf
        refine (c_dead1 k cap c2 L).mono fun r st e => ?_
        obtain ⟨rfl, rfl⟩ := e
        conv => whnf
        refine Branch.no (by rw [hdd]; rfl) ?_
        conv => whnf
        refine (c_dead1 k cap c2 L).mono fun r st e => ?_
        obtain ⟨rfl, rfl⟩ := e
        conv => whnf
        refine Branch.no (by rw [hdd]; rfl) ?_
        conv => whnf
        refine ⟨[(0, [0])], ?_⟩
        conv => whnf
        rw [List.drop_zero, hL.2.2.2]
        refine cc.mono ?_
        rintro r st ⟨rfl, ⟨hbn, rfl⟩ | ⟨cap3, c3, L3, hL3, rfl⟩⟩
        · conv => whnf
          refine (c_openE k1 hbn hw1 hd1 ha1 o2).mono ?_
          rintro r st ⟨rfl, rfl⟩
          generalize (openP k1).1 = k2 at hF2 hbE
          have hb2 := hbE hbn
          conv => whnf
          refine Branch.of (fun hh => ?_) (fun hh => ?_)
          · exfalso; simp only [gt_iff_lt, ge_iff_le, decide_eq_true_eq, decide_eq_false_iff_not, beq_iff_eq, beq_eq_false_iff_ne, bne_iff_ne, bne_eq_false_iff_eq, ne_eq, List.length_map] at hh; first | done | omega | (simp at hh; done)
          try rw [hh]
          clear hh
          conv => whnf
          rw [List.length_map, List.length_map, List.length_map, w64 (x := (K.length : Int) + (T.length : Int)) (by omega) (by omega)]
          refine Branch.of (fun hh => ?_) (fun hh => ?_)
          · exfalso; simp only [gt_iff_lt, ge_iff_le, decide_eq_true_eq, decide_eq_false_iff_not, beq_iff_eq, beq_eq_false_iff_ne, bne_iff_ne, bne_eq_false_iff_eq, ne_eq] at hh; first | done | omega | (simp at hh; done)
          try rw [hh]
          clear hh
          conv => whnf
          refine (c_wmany0 k2 _ false).mono fun r st e => ?_
          obtain ⟨rfl, rfl⟩ := e
          conv => whnf
          refine Branch.no (by rw [List.length_map]; simp) ?_
          conv => whnf
          refine ⟨tabF6R28, by decide +kernel, ?_⟩
          conv => whnf
          refine ⟨by simp only [List.length_replicate, List.length_map]; omega, ?_⟩
          conv => whnf
          rw [List.length_map, List.length_map, w64 (x := ((K ++ T.take j).length : Int) - (K.length : Int)) (by omega) (by omega), show ((K ++ T.take j).length : Int) - (K.length : Int) = (j : Int) by omega]
          refine ⟨by omega, by omega, by rw [List.length_map]; omega, ?_⟩
          conv => whnf
          refine ⟨by simp only [List.length_append, List.length_replicate, List.length_map, List.length_take, List.length_drop]; omega, ?_⟩
          conv => whnf
          rw [show List.replicate 0 (AV.sl Shape.lf [] Mark.ex) ++ (K.map fun b => (AV.sl .lf (by8 (b)) .ro)) ++ List.take ((j : Int).toNat - 0) (List.drop 0 (T.map fun b => (AV.sl .lf (by8 (b)) .ro))) = (K ++ T.take j).map fun b => (AV.sl .lf (by8 (b)) .ro) by simp]
          refine ⟨_, _, c_texts (K ++ T.take j) (K ++ T.take j) (by omega) (by omega) (fun b hb => by have := hgM b hb; omega), ?_⟩
          conv => whnf
          rw [beq_self_eq_true]
          conv => whnf
          refine ⟨false, [0, 4, 1, 2, 3], 2, ?_⟩
          conv => whnf
          exact ⟨k2, K ++ T.take j, hF2, by omega, .inl ⟨hb2, rfl⟩⟩
        · conv => whnf
          refine (c_open1 k1 cap3 c3 L3 hL3 hw1).mono ?_
          rw [o2]
          rintro r st (⟨h, _⟩ | ⟨_, st', hP1, rfl, rfl⟩)
          · exact absurd o1 h
          generalize (openP k1).1 = k2 at hF2 hP1
          rcases hP1 with ⟨cap4, c4, L4, hL4, rfl⟩ | ⟨cap4, c4, L4, cj, Lj, hL4, rfl⟩ | ⟨hb4, cj, Lj, rfl⟩
          · conv => whnf
            refine Branch.of (fun hh => ?_) (fun hh => ?_)
            · exfalso; simp only [gt_iff_lt, ge_iff_le, decide_eq_true_eq, decide_eq_false_iff_not, beq_iff_eq, beq_eq_false_iff_ne, bne_iff_ne, bne_eq_false_iff_eq, ne_eq, List.length_map] at hh; first | done | omega | (simp at hh; done)
            try rw [hh]
            clear hh
            conv => whnf
            rw [List.length_map, List.length_map, List.length_map, w64 (x := (K.length : Int) + (T.length : Int)) (by omega) (by omega)]
            refine Branch.of (fun hh => ?_) (fun hh => ?_)
            · exfalso; simp only [gt_iff_lt, ge_iff_le, decide_eq_true_eq, decide_eq_false_iff_not, beq_iff_eq, beq_eq_false_iff_ne, bne_iff_ne, bne_eq_false_iff_eq, ne_eq] at hh; first | done | omega | (simp at hh; done)
            try rw [hh]
            clear hh
            conv => whnf
            refine (c_wmany1 k2 _ false cap4 c4 L4).mono fun r st e => ?_
            obtain ⟨rfl, rfl⟩ := e
            conv => whnf
            refine Branch.no (by rw [List.length_map]; simp) ?_
            conv => whnf
            refine ⟨tabF6R28, by decide +kernel, ?_⟩
            conv => whnf
            refine ⟨by simp only [List.length_replicate, List.length_map]; omega, ?_⟩
            conv => whnf
            rw [List.length_map, List.length_map, w64 (x := ((K ++ T.take j).length : Int) - (K.length : Int)) (by omega) (by omega), show ((K ++ T.take j).length : Int) - (K.length : Int) = (j : Int) by omega]
            refine ⟨by omega, by omega, by rw [List.length_map]; omega, ?_⟩
            conv => whnf
            refine ⟨by simp only [List.length_append, List.length_replicate, List.length_map, List.length_take, List.length_drop]; omega, ?_⟩
            conv => whnf
            rw [show List.replicate 0 (AV.sl Shape.lf [] Mark.ex) ++ (K.map fun b => (AV.sl .lf (by8 (b)) .ro)) ++ List.take ((j : Int).toNat - 0) (List.drop 0 (T.map fun b => (AV.sl .lf (by8 (b)) .ro))) = (K ++ T.take j).map fun b => (AV.sl .lf (by8 (b)) .ro) by simp]
            refine ⟨_, _, c_texts (K ++ T.take j) (K ++ T.take j) (by omega) (by omega) (fun b hb => by have := hgM b hb; omega), ?_⟩
            conv => whnf
            rw [beq_self_eq_true]
            conv => whnf
            refine ⟨false, [0, 5, 4, 1, 2, 3], 3, ?_⟩
            conv => whnf
            exact ⟨k2, K ++ T.take j, hF2, by omega, .inr ⟨cap4, c4, L4, hL4, rfl⟩⟩
          · conv => whnf
            refine Branch.of (fun hh => ?_) (fun hh => ?_)
            · exfalso; simp only [gt_iff_lt, ge_iff_le, decide_eq_true_eq, decide_eq_false_iff_not, beq_iff_eq, beq_eq_false_iff_ne, bne_iff_ne, bne_eq_false_iff_eq, ne_eq, List.length_map] at hh; first | done | omega | (simp at hh; done)
            try rw [hh]
            clear hh
            conv => whnf
            rw [List.length_map, List.length_map, List.length_map, w64 (x := (K.length : Int) + (T.length : Int)) (by omega) (by omega)]
            refine Branch.of (fun hh => ?_) (fun hh => ?_)
            · exfalso; simp only [gt_iff_lt, ge_iff_le, decide_eq_true_eq, decide_eq_false_iff_not, beq_iff_eq, beq_eq_false_iff_ne, bne_iff_ne, bne_eq_false_iff_eq, ne_eq] at hh; first | done | omega | (simp at hh; done)
            try rw [hh]
            clear hh
            conv => whnf
            refine (c_wmany1 k2 _ false cap4 c4 L4).mono fun r st e => ?_
            obtain ⟨rfl, rfl⟩ := e
            conv => whnf
            refine Branch.no (by rw [List.length_map]; simp) ?_
            conv => whnf
            refine ⟨tabF6R28, by decide +kernel, ?_⟩
            conv => whnf
            refine ⟨by simp only [List.length_replicate, List.length_map]; omega, ?_⟩
            conv => whnf
            rw [List.length_map, List.length_map, w64 (x := ((K ++ T.take j).length : Int) - (K.length : Int)) (by omega) (by omega), show ((K ++ T.take j).length : Int) - (K.length : Int) = (j : Int) by omega]
            refine ⟨by omega, by omega, by rw [List.length_map]; omega, ?_⟩
            conv => whnf
            refine ⟨by simp only [List.length_append, List.length_replicate, List.length_map, List.length_take, List.length_drop]; omega, ?_⟩
            conv => whnf
            rw [show List.replicate 0 (AV.sl Shape.lf [] Mark.ex) ++ (K.map fun b => (AV.sl .lf (by8 (b)) .ro)) ++ List.take ((j : Int).toNat - 0) (List.drop 0 (T.map fun b => (AV.sl .lf (by8 (b)) .ro))) = (K ++ T.take j).map fun b => (AV.sl .lf (by8 (b)) .ro) by simp]
            refine ⟨_, _, c_texts (K ++ T.take j) (K ++ T.take j) (by omega) (by omega) (fun b hb => by have := hgM b hb; omega), ?_⟩
            conv => whnf
            rw [beq_self_eq_true]
            conv => whnf
            refine ⟨false, [0, 6, 5, 1, 2, 3, 4], 3, ?_⟩
            conv => whnf
            exact ⟨k2, K ++ T.take j, hF2, by omega, .inr ⟨cap4, c4, L4, hL4, rfl⟩⟩
          · conv => whnf
            refine Branch.of (fun hh => ?_) (fun hh => ?_)
            · exfalso; simp only [gt_iff_lt, ge_iff_le, decide_eq_true_eq, decide_eq_false_iff_not, beq_iff_eq, beq_eq_false_iff_ne, bne_iff_ne, bne_eq_false_iff_eq, ne_eq, List.length_map] at hh; first | done | omega | (simp at hh; done)
            try rw [hh]
            clear hh
            conv => whnf
            rw [List.length_map, List.length_map, List.length_map, w64 (x := (K.length : Int) + (T.length : Int)) (by omega) (by omega)]
            refine Branch.of (fun hh => ?_) (fun hh => ?_)
            · exfalso; simp only [gt_iff_lt, ge_iff_le, decide_eq_true_eq, decide_eq_false_iff_not, beq_iff_eq, beq_eq_false_iff_ne, bne_iff_ne, bne_eq_false_iff_eq, ne_eq] at hh; first | done | omega | (simp at hh; done)
            try rw [hh]
            clear hh
            conv => whnf
            refine (c_wmany0 k2 _ false).mono fun r st e => ?_
            obtain ⟨rfl, rfl⟩ := e
            conv => whnf
            refine Branch.no (by rw [List.length_map]; simp) ?_
            conv => whnf
            refine ⟨tabF6R28, by decide +kernel, ?_⟩
            conv => whnf
            refine ⟨by simp only [List.length_replicate, List.length_map]; omega, ?_⟩
            conv => whnf
            rw [List.length_map, List.length_map, w64 (x := ((K ++ T.take j).length : Int) - (K.length : Int)) (by omega) (by omega), show ((K ++ T.take j).length : Int) - (K.length : Int) = (j : Int) by omega]
            refine ⟨by omega, by omega, by rw [List.length_map]; omega, ?_⟩
            conv => whnf
            refine ⟨by simp only [List.length_append, List.length_replicate, List.length_map, List.length_take, List.length_drop]; omega, ?_⟩
            conv => whnf
            rw [show List.replicate 0 (AV.sl Shape.lf [] Mark.ex) ++ (K.map fun b => (AV.sl .lf (by8 (b)) .ro)) ++ List.take ((j : Int).toNat - 0) (List.drop 0 (T.map fun b => (AV.sl .lf (by8 (b)) .ro))) = (K ++ T.take j).map fun b => (AV.sl .lf (by8 (b)) .ro) by simp]
            refine ⟨_, _, c_texts (K ++ T.take j) (K ++ T.take j) (by omega) (by omega) (fun b hb => by have := hgM b hb; omega), ?_⟩
            conv => whnf
            rw [beq_self_eq_true]
            conv => whnf
            refine ⟨false, [0, 5, 1, 2, 3, 4], 2, ?_⟩
            conv => whnf
            exact ⟨k2, K ++ T.take j, hF2, by omega, .inl ⟨hb4, rfl⟩⟩
      · rw [show (w.a.d == 3) = false from decide_eq_false h3]
        conv => whnf
        refine (c_dead1 k cap c2 L).mono fun r st e => ?_
        obtain ⟨rfl, rfl⟩ := e
        conv => whnf
        refine Branch.no (by rw [hdd]; rfl) ?_
        conv => whnf
        refine ⟨[(0, [0])], ?_⟩
        conv => whnf
        rw [List.drop_zero, hL.2.2.2]
        refine cc.mono ?_
        rintro r st ⟨rfl, ⟨hbn, rfl⟩ | ⟨cap3, c3, L3, hL3, rfl⟩⟩
        · conv => whnf
          refine (c_openE k1 hbn hw1 hd1 ha1 o2).mono ?_
          rintro r st ⟨rfl, rfl⟩
          generalize (openP k1).1 = k2 at hF2 hbE
          have hb2 := hbE hbn
          conv => whnf
          refine Branch.of (fun hh => ?_) (fun hh => ?_)
          · exfalso; simp only [gt_iff_lt, ge_iff_le, decide_eq_true_eq, decide_eq_false_iff_not, beq_iff_eq, beq_eq_false_iff_ne, bne_iff_ne, bne_eq_false_iff_eq, ne_eq, List.length_map] at hh; first | done | omega | (simp at hh; done)
          try rw [hh]
          clear hh
          conv => whnf
          rw [List.length_map, List.length_map, List.length_map, w64 (x := (K.length : Int) + (T.length : Int)) (by omega) (by omega)]
          refine Branch.of (fun hh => ?_) (fun hh => ?_)
          · exfalso; simp only [gt_iff_lt, ge_iff_le, decide_eq_true_eq, decide_eq_false_iff_not, beq_iff_eq, beq_eq_false_iff_ne, bne_iff_ne, bne_eq_false_iff_eq, ne_eq] at hh; first | done | omega | (simp at hh; done)
          try rw [hh]
          clear hh
          conv => whnf
          refine (c_wmany0 k2 _ false).mono fun r st e => ?_
          obtain ⟨rfl, rfl⟩ := e
          conv => whnf
          refine Branch.no (by rw [List.length_map]; simp) ?_
          conv => whnf
          refine ⟨tabF6R28, by decide +kernel, ?_⟩
          conv => whnf
          refine ⟨by simp only [List.length_replicate, List.length_map]; omega, ?_⟩
          conv => whnf
          rw [List.length_map, List.length_map, w64 (x := ((K ++ T.take j).length : Int) - (K.length : Int)) (by omega) (by omega), show ((K ++ T.take j).length : Int) - (K.length : Int) = (j : Int) by omega]
          refine ⟨by omega, by omega, by rw [List.length_map]; omega, ?_⟩
          conv => whnf
          refine ⟨by simp only [List.length_append, List.length_replicate, List.length_map, List.length_take, List.length_drop]; omega, ?_⟩
          conv => whnf
          rw [show List.replicate 0 (AV.sl Shape.lf [] Mark.ex) ++ (K.map fun b => (AV.sl .lf (by8 (b)) .ro)) ++ List.take ((j : Int).toNat - 0) (List.drop 0 (T.map fun b => (AV.sl .lf (by8 (b)) .ro))) = (K ++ T.take j).map fun b => (AV.sl .lf (by8 (b)) .ro) by simp]
          refine ⟨_, _, c_texts (K ++ T.take j) (K ++ T.take j) (by omega) (by omega) (fun b hb => by have := hgM b hb; omega), ?_⟩
          conv => whnf
          rw [beq_self_eq_true]
          conv => whnf
          refine ⟨false, [0, 4, 1, 2, 3], 2, ?_⟩
          conv => whnf
          exact ⟨k2, K ++ T.take j, hF2, by omega, .inl ⟨hb2, rfl⟩⟩
        · conv => whnf
          refine (c_open1 k1 cap3 c3 L3 hL3 hw1).mono ?_
          rw [o2]
          rintro r st (⟨h, _⟩ | ⟨_, st', hP1, rfl, rfl⟩)
          · exact absurd o1 h
          generalize (openP k1).1 = k2 at hF2 hP1
          rcases hP1 with ⟨cap4, c4, L4, hL4, rfl⟩ | ⟨cap4, c4, L4, cj, Lj, hL4, rfl⟩ | ⟨hb4, cj, Lj, rfl⟩
          · conv => whnf
            refine Branch.of (fun hh => ?_) (fun hh => ?_)
            · exfalso; simp only [gt_iff_lt, ge_iff_le, decide_eq_true_eq, decide_eq_false_iff_not, beq_iff_eq, beq_eq_false_iff_ne, bne_iff_ne, bne_eq_false_iff_eq, ne_eq, List.length_map] at hh; first | done | omega | (simp at hh; done)
            try rw [hh]
            clear hh
            conv => whnf
            rw [List.length_map, List.length_map, List.length_map, w64 (x := (K.length : Int) + (T.length : Int)) (by omega) (by omega)]
            refine Branch.of (fun hh => ?_) (fun hh => ?_)
            · exfalso; simp only [gt_iff_lt, ge_iff_le, decide_eq_true_eq, decide_eq_false_iff_not, beq_iff_eq, beq_eq_false_iff_ne, bne_iff_ne, bne_eq_false_iff_eq, ne_eq] at hh; first | done | omega | (simp at hh; done)
            try rw [hh]
            clear hh
            conv => whnf
            refine (c_wmany1 k2 _ false cap4 c4 L4).mono fun r st e => ?_
            obtain ⟨rfl, rfl⟩ := e
            conv => whnf
            refine Branch.no (by rw [List.length_map]; simp) ?_
            conv => whnf
            refine ⟨tabF6R28, by decide +kernel, ?_⟩
            conv => whnf
            refine ⟨by simp only [List.length_replicate, List.length_map]; omega, ?_⟩
            conv => whnf
            rw [List.length_map, List.length_map, w64 (x := ((K ++ T.take j).length : Int) - (K.length : Int)) (by omega) (by omega), show ((K ++ T.take j).length : Int) - (K.length : Int) = (j : Int) by omega]
            refine ⟨by omega, by omega, by rw [List.length_map]; omega, ?_⟩
            conv => whnf
            refine ⟨by simp only [List.length_append, List.length_replicate, List.length_map, List.length_take, List.length_drop]; omega, ?_⟩
            conv => whnf
            rw [show List.replicate 0 (AV.sl Shape.lf [] Mark.ex) ++ (K.map fun b => (AV.sl .lf (by8 (b)) .ro)) ++ List.take ((j : Int).toNat - 0) (List.drop 0 (T.map fun b => (AV.sl .lf (by8 (b)) .ro))) = (K ++ T.take j).map fun b => (AV.sl .lf (by8 (b)) .ro) by simp]
            refine ⟨_, _, c_texts (K ++ T.take j) (K ++ T.take j) (by omega) (by omega) (fun b hb => by have := hgM b hb; omega), ?_⟩
            conv => whnf
            rw [beq_self_eq_true]
            conv => whnf
            refine ⟨false, [0, 5, 4, 1, 2, 3], 3, ?_⟩
            conv => whnf
            exact ⟨k2, K ++ T.take j, hF2, by omega, .inr ⟨cap4, c4, L4, hL4, rfl⟩⟩
          · conv => whnf
            refine Branch.of (fun hh => ?_) (fun hh => ?_)
            · exfalso; simp only [gt_iff_lt, ge_iff_le, decide_eq_true_eq, decide_eq_false_iff_not, beq_iff_eq, beq_eq_false_iff_ne, bne_iff_ne, bne_eq_false_iff_eq, ne_eq, List.length_map] at hh; first | done | omega | (simp at hh; done)
            try rw [hh]
            clear hh
            conv => whnf
            rw [List.length_map, List.length_map, List.length_map, w64 (x := (K.length : Int) + (T.length : Int)) (by omega) (by omega)]
            refine Branch.of (fun hh => ?_) (fun hh => ?_)
            · exfalso; simp only [gt_iff_lt, ge_iff_le, decide_eq_true_eq, decide_eq_false_iff_not, beq_iff_eq, beq_eq_false_iff_ne, bne_iff_ne, bne_eq_false_iff_eq, ne_eq] at hh; first | done | omega | (simp at hh; done)
            try rw [hh]
            clear hh
            conv => whnf
            refine (c_wmany1 k2 _ false cap4 c4 L4).mono fun r st e => ?_
            obtain ⟨rfl, rfl⟩ := e
            conv => whnf
            refine Branch.no (by rw [List.length_map]; simp) ?_
            conv => whnf
            refine ⟨tabF6R28, by decide +kernel, ?_⟩
            conv => whnf
            refine ⟨by simp only [List.length_replicate, List.length_map]; omega, ?_⟩
            conv => whnf
            rw [List.length_map, List.length_map, w64 (x := ((K ++ T.take j).length : Int) - (K.length : Int)) (by omega) (by omega), show ((K ++ T.take j).length : Int) - (K.length : Int) = (j : Int) by omega]
            refine ⟨by omega, by omega, by rw [List.length_map]; omega, ?_⟩
            conv => whnf
            refine ⟨by simp only [List.length_append, List.length_replicate, List.length_map, List.length_take, List.length_drop]; omega, ?_⟩
            conv => whnf
            rw [show List.replicate 0 (AV.sl Shape.lf [] Mark.ex) ++ (K.map fun b => (AV.sl .lf (by8 (b)) .ro)) ++ List.take ((j : Int).toNat - 0) (List.drop 0 (T.map fun b => (AV.sl .lf (by8 (b)) .ro))) = (K ++ T.take j).map fun b => (AV.sl .lf (by8 (b)) .ro) by simp]
            refine ⟨_, _, c_texts (K ++ T.take j) (K ++ T.take j) (by omega) (by omega) (fun b hb => by have := hgM b hb; omega), ?_⟩
            conv => whnf
            rw [beq_self_eq_true]
            conv => whnf
            refine ⟨false, [0, 6, 5, 1, 2, 3, 4], 3, ?_⟩
            conv => whnf
            exact ⟨k2, K ++ T.take j, hF2, by omega, .inr ⟨cap4, c4, L4, hL4, rfl⟩⟩
          · conv => whnf
            refine Branch.of (fun hh => ?_) (fun hh => ?_)
            · exfalso; simp only [gt_iff_lt, ge_iff_le, decide_eq_true_eq, decide_eq_false_iff_not, beq_iff_eq, beq_eq_false_iff_ne, bne_iff_ne, bne_eq_false_iff_eq, ne_eq, List.length_map] at hh; first | done | omega | (simp at hh; done)
            try rw [hh]
            clear hh
            conv => whnf
            rw [List.length_map, List.length_map, List.length_map, w64 (x := (K.length : Int) + (T.length : Int)) (by omega) (by omega)]
            refine Branch.of (fun hh => ?_) (fun hh => ?_)
            · exfalso; simp only [gt_iff_lt, ge_iff_le, decide_eq_true_eq, decide_eq_false_iff_not, beq_iff_eq, beq_eq_false_iff_ne, bne_iff_ne, bne_eq_false_iff_eq, ne_eq] at hh; first | done | omega | (simp at hh; done)
            try rw [hh]
            clear hh
            conv => whnf
            refine (c_wmany0 k2 _ false).mono fun r st e => ?_
            obtain ⟨rfl, rfl⟩ := e
            conv => whnf
            refine Branch.no (by rw [List.length_map]; simp) ?_
            conv => whnf
            refine ⟨tabF6R28, by decide +kernel, ?_⟩
            conv => whnf
            refine ⟨by simp only [List.length_replicate, List.length_map]; omega, ?_⟩
            conv => whnf
            rw [List.length_map, List.length_map, w64 (x := ((K ++ T.take j).length : Int) - (K.length : Int)) (by omega) (by omega), show ((K ++ T.take j).length : Int) - (K.length : Int) = (j : Int) by omega]
            refine ⟨by omega, by omega, by rw [List.length_map]; omega, ?_⟩
            conv => whnf
            refine ⟨by simp only [List.length_append, List.length_replicate, List.length_map, List.length_take, List.length_drop]; omega, ?_⟩
            conv => whnf
            rw [show List.replicate 0 (AV.sl Shape.lf [] Mark.ex) ++ (K.map fun b => (AV.sl .lf (by8 (b)) .ro)) ++ List.take ((j : Int).toNat - 0) (List.drop 0 (T.map fun b => (AV.sl .lf (by8 (b)) .ro))) = (K ++ T.take j).map fun b => (AV.sl .lf (by8 (b)) .ro) by simp]
            refine ⟨_, _, c_texts (K ++ T.take j) (K ++ T.take j) (by omega) (by omega) (fun b hb => by have := hgM b hb; omega), ?_⟩
            conv => whnf
            rw [beq_self_eq_true]
            conv => whnf
            refine ⟨false, [0, 5, 1, 2, 3, 4], 2, ?_⟩
            conv => whnf
            exact ⟨k2, K ++ T.take j, hF2, by omega, .inl ⟨hb4, rfl⟩⟩
end Go.WL.T5
