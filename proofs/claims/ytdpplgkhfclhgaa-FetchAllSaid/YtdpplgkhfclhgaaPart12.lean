/- Blocks that are asked for: the theorem of asking, the walk. No condition. -/
import Derived.Test.YtdpplgkhfclhgaaPart11
set_option linter.unusedVariables false
set_option linter.unusedSimpArgs false
namespace Go.WL.T8
open Go.WL Go.Proofs
set_option maxRecDepth 20000
set_option maxHeartbeats 8000000
def fk (me n : Int) (r : List (Nat × AV)) (bx : List (AV × Bool)) : AS := ⟨124, (0, (AV.sc (.int .i64 (me)))) :: (1, (AV.sc (.int .i64 (n)))) :: r, ⟨bx, [], 0⟩⟩
theorem c_wantN (w : AV) : FnOK Try.prog D 13 [.sc (.pointer none), (AV.ar 32 .lf (by8 (zz))), w] [] (fun r st => r = (AV.sc (.int .i64 (5))) ∧ st = []) := by
  refine fnok_of_W hmix tabOK Try.func13 rfl rfl (Nat.le_of_ble_eq_true rfl) ?_
  conv => whnf
  refine ⟨false, [], ?_⟩
  conv => whnf
  exact ⟨rfl, rfl⟩
theorem c_wantZ (w : AV) : FnOK Try.prog D 13 [.pt 0 [], (AV.ar 32 .lf (by8 (zz))), w] [(.st [(AV.sc (.int .i64 (0))), (AV.sc (.int .i64 (0))), .sl (.nd [.ar 32 .lf, .lf, .lf]) [] .ex])] (fun r st => r = (AV.sc (.int .i64 (5))) ∧ st = [(.st [(AV.sc (.int .i64 (0))), (AV.sc (.int .i64 (0))), .sl (.nd [.ar 32 .lf, .lf, .lf]) [] .ex])]) := by
  refine fnok_of_W hmix tabOK Try.func13 rfl rfl (Nat.le_of_ble_eq_true rfl) ?_
  conv => whnf
  refine ⟨false, [], ?_⟩
  conv => whnf
  exact ⟨rfl, rfl⟩
theorem c_gotN : FnOK Try.prog D 14 [.sc (.pointer none), (AV.ar 32 .lf (by8 (zz)))] [] (fun r st => r = (AV.sc (.bool (false))) ∧ st = []) := by
  refine fnok_of_W hmix tabOK Try.func14 rfl rfl (Nat.le_of_ble_eq_true rfl) ?_
  conv => whnf
  refine ⟨false, [], ?_⟩
  conv => whnf
  exact ⟨rfl, rfl⟩
theorem c_tickN : FnOK Try.prog D 16 [.sc (.pointer none)] [] (fun r st => r = .sl (.nd [.lf, .lf, .lf, .nd [.lf, .lf, .lf, .lf, .ar 32 .lf, .lf, .ar 32 .lf, .ar 32 .lf], .nd [.nd [.lf, .lf, .lf, .lf, .ar 32 .lf, .lf, .ar 32 .lf, .ar 32 .lf], .lf], .nd [.lf, .lf, .lf, .ar 32 .lf, .lf, .ar 32 .lf], .nd [.ar 32 .lf, .lf, .lf, .lf, .lf], .ar 32 .lf, .nd [.lf, .lf, .lf, .lf, .lf, .lf, .lf]]) [] .ro ∧ st = []) := by
  refine fnok_of_W hmix tabOK Try.func16 rfl rfl (Nat.le_of_ble_eq_true rfl) ?_
  conv => whnf
  refine ⟨false, [999], ?_⟩
  conv => whnf
  exact ⟨rfl, rfl⟩
theorem c_wantsN : FnOK Try.prog D 19 [.sc (.pointer none)] [] (fun r st => r = .sl (.ar 32 .lf) [] .ro ∧ st = []) := by
  refine fnok_of_W hmix tabOK Try.func19 rfl rfl (Nat.le_of_ble_eq_true rfl) ?_
  conv => whnf
  refine ⟨false, [999], ?_⟩
  conv => whnf
  exact ⟨rfl, rfl⟩
def h1 : List UInt8 := 1 :: List.replicate 31 0
theorem c_fetchall (me n o : Int) : FnOK Try.prog D 5 [(AV.sc (.int .i64 (me))), (AV.sc (.int .i64 (n))), (AV.sc (.int .i64 (o)))] [] (fun r st => r = (AV.sc (.bool (true))) ∧ st = []) := by
  refine fnok_of_W hmix tabOK Try.func5 rfl rfl (Nat.le_of_ble_eq_true rfl) ?_
  conv => whnf
  by_cases hbad : quo n < 2 ∨ me < 1 ∨ n < me
  · refine (c_fnewX me n hbad).mono fun r st e => ?_
    obtain ⟨rfl, rfl⟩ := e
    conv => whnf
    refine (c_awake33).mono fun r st e => ?_
    obtain ⟨rfl, rfl⟩ := e
    conv => whnf
    refine ⟨false, [], ?_⟩
    conv => whnf
    exact ⟨rfl, rfl⟩
  have hq : 2 ≤ quo n := by omega
  have hme1 : 1 ≤ me := by omega
  have hme2 : me ≤ n := by omega
  have hn21 : 3 ≤ n ∧ n ≤ 21 := by
    obtain ⟨k, hk, rfl⟩ := quo_n hq
    have : ∀ k ∈ [3, 5, 7, 9, 11, 13, 15, 17, 19, 21], 3 ≤ k ∧ k ≤ 21 := by decide
    have := this k hk
    omega
  refine (c_fnew me n hq hme1 hme2).mono fun r st e => ?_
  obtain ⟨rfl, rfl⟩ := e
  conv => whnf
  have cw := c_want0 me n h1 o (by omega) _ rfl _ rfl
  by_cases hE : wanE me n ([] : List Fw) h1 o = 0
  rotate_left
  · have hl : wanL me n ([] : List Fw) h1 o = [] := wan_old hE
    rw [hl] at cw
    generalize wanE me n ([] : List Fw) h1 o = E at cw hE
    refine cw.mono ?_
    rintro r st ⟨rfl, hP⟩
    rcases hP with ⟨_, rfl⟩ | ⟨cap, L, hL, rfl⟩
    · conv => whnf
      refine Branch.yes (by rw [bne_iff_ne]; exact hE) ?_
      conv => whnf
      refine (c_awake33).mono fun r st e => ?_
      obtain ⟨rfl, rfl⟩ := e
      conv => whnf
      refine ⟨false, [], ?_⟩
      conv => whnf
      exact ⟨rfl, rfl⟩
    · conv => whnf
      refine Branch.yes (by rw [bne_iff_ne]; exact hE) ?_
      conv => whnf
      refine (c_awake33).mono fun r st e => ?_
      obtain ⟨rfl, rfl⟩ := e
      conv => whnf
      refine ⟨false, [], ?_⟩
      conv => whnf
      exact ⟨rfl, rfl⟩
  have ho : 1 ≤ o ∧ o ≤ n ∧ o ≠ me := by
    unfold wanE at hE
    by_cases g : o < 1 ∨ n < o ∨ o = me
    · rw [if_pos g] at hE
      cases hE
    · omega
  have hR := ring_f hq hme1 hme2 ho.1 ho.2.1 ho.2.2
  have hl : wanL me n ([] : List Fw) h1 o = [⟨h1, o, 0⟩] := by
    unfold wanL
    rw [if_pos hE]
    rfl
  rw [hl, hE] at cw
  have hs : (⟨h1, o, 0⟩ : Fw) = askW me n o h1 0 := by
    unfold askW
    rw [show (((0 + 3) / 4 : Nat) : Int) = 0 from rfl, hR.zero]
  rw [hs] at cw
  clear hl hs hE
  refine cw.mono ?_
  rintro r st ⟨rfl, ⟨h, _⟩ | ⟨cap, L, hL, rfl⟩⟩
  · cases h
  conv => whnf
  refine ⟨false, [0, 1, 7, 9, 10], fun τ => ∃ (t : Nat) (L : List AV), t ≤ 4 * (n - 1).toNat ∧ OKW [askW me n o h1 t] cap L ∧ τ = fk me n [(7, .pt 0 []), (9, .pt 2 []), (10, (AV.sc (.int .i64 ((t : Int)))))] [((.st [(AV.sc (.int .i64 (me))), (AV.sc (.int .i64 (n))), .bs 1 [] (.nd [.ar 32 .lf, .lf, .lf]) 0 1 cap]), false), (.ar cap (.nd [.ar 32 .lf, .lf, .lf]) L, false), (.ar 22 .lf (askA me n o t), false)], fun τ => 4 * (n - 1).toNat - (slotI τ 10).toNat, ?_, ?_⟩
  · conv => whnf
    exact ⟨0, L, by omega, hL, rfl⟩
  clear hL cw
  rintro τ ⟨t, L, ht, hL, rfl⟩
  apply enter3
  intro kk kK
  conv => whnf
  rw [w64 (x := n - 1) (by omega) (by omega), w64 (x := 4 * (n - 1)) (by omega) (by omega)]
  refine Branch.of (fun g1 => ?_) (fun g1 => ?_) <;> rw [g1] <;> conv => whnf
  rotate_left
  · have g1 := of_decide_eq_false g1
    obtain rfl : t = 4 * (n - 1).toNat := by omega
    refine kK _ _ ?_
    conv => whnf
    refine ⟨false, [0, 1, 9, 13], fun τ => ∃ p : Nat, 1 ≤ p ∧ (p : Int) ≤ n + 1 ∧ τ = fk me n [(9, .pt 2 []), (13, (AV.sc (.int .i64 ((p : Int)))))] [((.st [(AV.sc (.int .i64 (me))), (AV.sc (.int .i64 (n))), .bs 1 [] (.nd [.ar 32 .lf, .lf, .lf]) 0 1 cap]), false), (.ar cap (.nd [.ar 32 .lf, .lf, .lf]) L, false), (.ar 22 .lf (askA me n o (4 * (n - 1).toNat)), false)], fun τ => 23 - (slotI τ 13).toNat, ?_, ?_⟩
    · conv => whnf
      exact ⟨1, by omega, by omega, rfl⟩
    rintro τ ⟨p, hp1, hp2, rfl⟩
    apply enter3
    intro k3 kK3
    conv => whnf
    by_cases g3 : (p : Int) ≤ n
    · rw [decide_eq_true g3]
      conv => whnf
      refine ⟨by omega, by omega, ?_⟩
      conv => whnf
      refine ⟨_, (show (askA me n o (4 * (n - 1).toNat))[((p : Nat) : Int).toNat]? = some _ by rw [Int.toNat_natCast]; exact askA_at me n o _ p (by omega)), ?_⟩
      conv => whnf
      rw [askA_all hR p hp1 g3]
      refine Branch.no (by simp) ?_
      conv => whnf
      rw [w64 (x := (p : Int) + 1) (by omega) (by omega)]
      refine kK3 _ _ ?_
      conv => whnf
      refine ⟨⟨p + 1, by omega, by omega, rfl⟩, ?_⟩
      show 23 - ((p : Int) + 1).toNat < 23 - (p : Int).toNat
      omega
    · rw [decide_eq_false g3]
      conv => whnf
      refine kK3 _ _ ?_
      conv => whnf
      refine ⟨false, [0, 1, 14], fun τ => ∃ j : Nat, j ≤ 2 ∧ τ = fk me n [(14, (AV.sc (.int .i64 ((j : Int)))))] [((.st [(AV.sc (.int .i64 (me))), (AV.sc (.int .i64 (n))), .bs 1 [] (.nd [.ar 32 .lf, .lf, .lf]) 0 1 cap]), false), (.ar cap (.nd [.ar 32 .lf, .lf, .lf]) L, false), (.ar 22 .lf (askA me n o (4 * (n - 1).toNat)), false)], fun τ => 2 - (slotI τ 14).toNat, ?_, ?_⟩
      · conv => whnf
        exact ⟨0, by omega, rfl⟩
      rintro τ ⟨j, hj, rfl⟩
      conv => whnf
      by_cases hj2 : (j : Int) < 2
      · refine Branch.of (fun hh => ?_) (fun hh => ?_)
        rotate_left
        · exfalso; simp only [gt_iff_lt, ge_iff_le, decide_eq_true_eq, decide_eq_false_iff_not, beq_iff_eq, beq_eq_false_iff_ne, bne_iff_ne, bne_eq_false_iff_eq, ne_eq] at hh; first | done | omega | (simp at hh; done)
        try rw [hh]
        clear hh
        conv => whnf
        by_cases hj1 : j = 1
        · subst hj1
          conv => whnf
          refine (c_wantZ _).mono fun r st e => ?_
          obtain ⟨rfl, rfl⟩ := e
          conv => whnf
          refine (c_got0 0 0 zz).mono fun r st e => ?_
          obtain ⟨rfl, rfl⟩ := e
          conv => whnf
          refine (c_tick0 0 0).mono fun r st e => ?_
          obtain ⟨rfl, rfl⟩ := e
          conv => whnf
          refine (c_wants0 0 0).mono fun r st e => ?_
          obtain ⟨rfl, rfl⟩ := e
          conv => whnf
          exact ⟨⟨2, by omega, rfl⟩, by show (2 : Nat) - 2 < 2 - 1; omega⟩
        · obtain rfl : j = 0 := by omega
          conv => whnf
          refine (c_wantN _).mono fun r st e => ?_
          obtain ⟨rfl, rfl⟩ := e
          conv => whnf
          refine (c_gotN).mono fun r st e => ?_
          obtain ⟨rfl, rfl⟩ := e
          conv => whnf
          refine (c_tickN).mono fun r st e => ?_
          obtain ⟨rfl, rfl⟩ := e
          conv => whnf
          refine (c_wantsN).mono fun r st e => ?_
          obtain ⟨rfl, rfl⟩ := e
          conv => whnf
          exact ⟨⟨1, by omega, rfl⟩, by show (2 : Nat) - 1 < 2 - 0; omega⟩
      · refine Branch.of (fun hh => ?_) (fun hh => ?_)
        · exfalso; simp only [gt_iff_lt, ge_iff_le, decide_eq_true_eq, decide_eq_false_iff_not, beq_iff_eq, beq_eq_false_iff_ne, bne_iff_ne, bne_eq_false_iff_eq, ne_eq] at hh; first | done | omega | (simp at hh; done)
        try rw [hh]
        clear hh
        conv => whnf
        refine (c_awake33).mono fun r st e => ?_
        obtain ⟨rfl, rfl⟩ := e
        conv => whnf
        refine ⟨false, [], ?_⟩
        conv => whnf
        exact ⟨rfl, rfl⟩
  have g1 := of_decide_eq_true g1
  have ct := c_tickB me n [askW me n o h1 t] cap L hL (by simp) (by omega) (by omega) (fun w hw => by
    rw [List.mem_singleton.1 hw]
    have := hR.lo (((t + 3) / 4 : Nat) : Int)
    exact ⟨by show 0 ≤ whom me n o _; omega, by show (0 : Int) ≤ ((_ : Nat) : Int); omega, by show ((_ : Nat) : Int) ≤ 1000; omega⟩)
  obtain ⟨s1, s2⟩ := askW_step hR h1 t
  rw [show [askW me n o h1 t].map (tick1 me n) = [askW me n o h1 (t + 1)] by rw [← s1]; rfl] at ct
  refine ct.mono ?_
  rintro r st ⟨rfl, L2, hL2, rfl⟩
  by_cases e : t % 4 = 0
  · obtain ⟨k, rfl⟩ : ∃ k, t = 4 * k := ⟨t / 4, by omega⟩
    rw [show tickM me [askW me n o h1 (4 * k)] = [(⟨me, whom me n o (k : Int), h1⟩ : Ms)] by
      unfold tickM
      rw [List.filter_cons_of_pos (by rw [beq_iff_eq]; exact s2.2 e)]
      unfold askW
      rw [show (4 * k + 3) / 4 = k by omega]
      rfl]
    have hlo := hR.lo (k : Int)
    obtain ⟨q, hq2⟩ : ∃ q : Nat, whom me n o (k : Int) = (q : Int) := ⟨(whom me n o (k : Int)).toNat, by omega⟩
    have hset := askA_set me n o k q hq2
    rw [hq2] at hlo ⊢
    conv => whnf
    refine ⟨false, [0, 1, 7, 9, 10, 11, 12], fun τ => ∃ j : Nat, j ≤ 1 ∧ τ = fk me n [(7, .pt 0 []), (9, .pt 2 []), (10, (AV.sc (.int .i64 (((4 * k : Nat) : Int))))), (11, .sl (.nd [.lf, .lf, .lf, .nd [.lf, .lf, .lf, .lf, .ar 32 .lf, .lf, .ar 32 .lf, .ar 32 .lf], .nd [.nd [.lf, .lf, .lf, .lf, .ar 32 .lf, .lf, .ar 32 .lf, .ar 32 .lf], .lf], .nd [.lf, .lf, .lf, .ar 32 .lf, .lf, .ar 32 .lf], .nd [.ar 32 .lf, .lf, .lf, .lf, .lf], .ar 32 .lf, .nd [.lf, .lf, .lf, .lf, .lf, .lf, .lf]]) (msA [(⟨me, (q : Int), h1⟩ : Ms)]) .ro), (12, (AV.sc (.int .i64 ((j : Int)))))] [((.st [(AV.sc (.int .i64 (me))), (AV.sc (.int .i64 (n))), .bs 1 [] (.nd [.ar 32 .lf, .lf, .lf]) 0 1 cap]), false), (.ar cap (.nd [.ar 32 .lf, .lf, .lf]) L2, false), (.ar 22 .lf (askA me n o (4 * k + j)), false)], fun τ => 1 - (slotI τ 12).toNat, ?_, ?_⟩
    · conv => whnf
      exact ⟨0, by omega, rfl⟩
    rintro τ ⟨j, hj, rfl⟩
    apply enter3
    intro k2 kK2
    conv => whnf
    rw [ms_len]
    by_cases hj0 : j = 0
    · subst hj0
      conv => whnf
      refine ⟨by omega, _, rfl, ?_⟩
      conv => whnf
      rw [decide_eq_false (show ¬ (q : Int) < 1 by omega)]
      conv => whnf
      refine ⟨by omega, _, rfl, ?_⟩
      conv => whnf
      rw [decide_eq_false (show ¬ (q : Int) > n by omega)]
      conv => whnf
      refine ⟨by omega, _, rfl, ?_⟩
      conv => whnf
      refine Branch.no (by simp) ?_
      conv => whnf
      refine ⟨by omega, _, rfl, ?_⟩
      conv => whnf
      refine ⟨by show (0 : Int) ≤ (q : Int); omega, by show (q : Int) < ((22 : Nat) : Int); omega, ?_⟩
      conv => whnf
      refine ⟨_, (show (askA me n o (4 * k + 0))[((q : Nat) : Int).toNat]? = some _ by rw [Int.toNat_natCast]; exact askA_at me n o _ q (by omega)), ?_⟩
      conv => whnf
      rw [Int.toNat_natCast, show 4 * k + 0 = 4 * k from rfl, hset]
      refine kK2 _ _ ?_
      conv => whnf
      exact ⟨⟨1, by omega, rfl⟩, by show (1 : Nat) - 1 < 1 - 0; omega⟩
    · obtain rfl : j = 1 := by omega
      conv => whnf
      refine kK2 _ _ ?_
      conv => whnf
      rw [w64 (x := ((4 * k : Nat) : Int) + 1) (by omega) (by omega)]
      refine kK _ _ ?_
      conv => whnf
      refine ⟨⟨4 * k + 1, L2, by omega, hL2, rfl⟩, ?_⟩
      show 4 * (n - 1).toNat - (((4 * k : Nat) : Int) + 1).toNat < 4 * (n - 1).toNat - ((4 * k : Nat) : Int).toNat
      omega
  · rw [show tickM me [askW me n o h1 t] = [] by
      unfold tickM
      rw [List.filter_cons_of_neg (by rw [beq_iff_eq]; exact fun h => e (s2.1 h))]
      rfl]
    have hsame := askA_same me n o t e
    conv => whnf
    refine ⟨false, [0, 1, 7, 9, 10, 11, 12], fun τ => τ = fk me n [(7, .pt 0 []), (9, .pt 2 []), (10, (AV.sc (.int .i64 ((t : Int))))), (11, .sl (.nd [.lf, .lf, .lf, .nd [.lf, .lf, .lf, .lf, .ar 32 .lf, .lf, .ar 32 .lf, .ar 32 .lf], .nd [.nd [.lf, .lf, .lf, .lf, .ar 32 .lf, .lf, .ar 32 .lf, .ar 32 .lf], .lf], .nd [.lf, .lf, .lf, .ar 32 .lf, .lf, .ar 32 .lf], .nd [.ar 32 .lf, .lf, .lf, .lf, .lf], .ar 32 .lf, .nd [.lf, .lf, .lf, .lf, .lf, .lf, .lf]]) (msA []) .ro), (12, (AV.sc (.int .i64 (0))))] [((.st [(AV.sc (.int .i64 (me))), (AV.sc (.int .i64 (n))), .bs 1 [] (.nd [.ar 32 .lf, .lf, .lf]) 0 1 cap]), false), (.ar cap (.nd [.ar 32 .lf, .lf, .lf]) L2, false), (.ar 22 .lf (askA me n o t), false)], fun τ => 0, ?_, ?_⟩
    · conv => whnf
      try exact rfl
    rintro τ rfl
    apply enter3
    intro k2 kK2
    conv => whnf
    refine kK2 _ _ ?_
    conv => whnf
    rw [w64 (x := (t : Int) + 1) (by omega) (by omega), ← hsame]
    refine kK _ _ ?_
    conv => whnf
    refine ⟨⟨t + 1, L2, by omega, hL2, rfl⟩, ?_⟩
    show 4 * (n - 1).toNat - ((t : Int) + 1).toNat < 4 * (n - 1).toNat - (t : Int).toNat
    omega
end Go.WL.T8
