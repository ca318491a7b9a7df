/- Spoilt records: the walk. No condition. -/
import Derived.Test.YtdlgmddegldcjaaPart32
set_option linter.unusedVariables false
set_option linter.unusedSimpArgs false
namespace Go.WL.T5
open Go.WL Go.Proofs
set_option maxRecDepth 20000
set_option maxHeartbeats 8000000
def fr (n : Nat) (bx : List (AV × Bool)) (tm : List (Nat × AV)) : AS := ⟨n, tm, ⟨bx, [], 0⟩⟩
theorem c_walspoilt (l : List (List UInt8)) (at_ from_ : Nat) (ts : List UInt8) (hts : ts.length = 4) (hat_ : at_ < 256) (hfr : from_ < 65536) (hl9 : l.length ≤ 9223372036854775807) : FnOK Try.prog D 7 [.sl .lf (l.map fun b => (AV.sl .lf (by8 (b)) .ro)) .ro, .st [(AV.sc (.int .u8 ((at_ : Int)))), .ar 4 .lf (by8 ts), (AV.sc (.int .u16 ((from_ : Int))))]] [] (fun r st => r = (AV.sc (.bool (true))) ∧ st = []) := by
  refine fnok_of_Ws [7800027, 7800028, 8000000] hmix tabOK Try.func7 rfl rfl (Nat.le_of_ble_eq_true rfl) ?_
  conv => whnf
  refine ⟨tabF7R1, by decide +kernel, ?_⟩
  conv => whnf
  rw [List.length_map]
  by_cases a1 : l.length < 2
  · refine Branch.of (fun hh => ?_) (fun hh => ?_)
    rotate_left
    · exfalso; simp only [gt_iff_lt, ge_iff_le, decide_eq_true_eq, decide_eq_false_iff_not, beq_iff_eq, beq_eq_false_iff_ne, bne_iff_ne, bne_eq_false_iff_eq, ne_eq] at hh; first | done | omega | (simp at hh; done)
    try rw [hh]
    clear hh
    conv => whnf
    refine (c_awake19).mono fun r st e => ?_
    obtain ⟨rfl, rfl⟩ := e
    conv => whnf
    refine ⟨false, [], ?_⟩
    conv => whnf
    exact ⟨rfl, rfl⟩
  refine Branch.of (fun hh => ?_) (fun hh => ?_)
  · exfalso; simp only [gt_iff_lt, ge_iff_le, decide_eq_true_eq, decide_eq_false_iff_not, beq_iff_eq, beq_eq_false_iff_ne, bne_iff_ne, bne_eq_false_iff_eq, ne_eq] at hh; first | done | omega | (simp at hh; done)
  try rw [hh]
  clear hh
  conv => whnf
  by_cases a2 : 6 < l.length
  · refine Branch.of (fun hh => ?_) (fun hh => ?_)
    rotate_left
    · exfalso; simp only [gt_iff_lt, ge_iff_le, decide_eq_true_eq, decide_eq_false_iff_not, beq_iff_eq, beq_eq_false_iff_ne, bne_iff_ne, bne_eq_false_iff_eq, ne_eq, List.length_map] at hh; first | done | omega | (simp at hh; done)
    try rw [hh]
    clear hh
    conv => whnf
    refine (c_awake19).mono fun r st e => ?_
    obtain ⟨rfl, rfl⟩ := e
    conv => whnf
    refine ⟨false, [], ?_⟩
    conv => whnf
    exact ⟨rfl, rfl⟩
  refine Branch.of (fun hh => ?_) (fun hh => ?_)
  · exfalso; simp only [gt_iff_lt, ge_iff_le, decide_eq_true_eq, decide_eq_false_iff_not, beq_iff_eq, beq_eq_false_iff_ne, bne_iff_ne, bne_eq_false_iff_eq, ne_eq, List.length_map] at hh; first | done | omega | (simp at hh; done)
  try rw [hh]
  clear hh
  conv => whnf
  refine ⟨ts, [0,0,0,0], rfl, rfl, ?_⟩
  conv => whnf
  cases a3 : (ts == [0, 0, 0, 0]) with
  | true =>
    conv => whnf
    refine (c_awake19).mono fun r st e => ?_
    obtain ⟨rfl, rfl⟩ := e
    conv => whnf
    refine ⟨false, [], ?_⟩
    conv => whnf
    exact ⟨rfl, rfl⟩
  | false =>
  conv => whnf
  rw [List.length_map, w64 (x := (l.length : Int) - 1) (by omega) (by omega)]
  refine ⟨by omega, ?_⟩
  conv => whnf
  rw [w64 (x := (at_ : Int)) (by omega) (by omega), show Int.tmod (at_ : Int) ((l.length : Int) - 1) = ((at_ % (l.length - 1) : Nat) : Int) by rw [show (l.length : Int) - 1 = ((l.length - 1 : Nat) : Int) by omega]; rfl]
  have hk : at_ % (l.length - 1) < l.length - 1 := Nat.mod_lt _ (by omega)
  generalize at_ % (l.length - 1) = k at hk
  refine ⟨false, [0, 6, 7, 8, 9, 10], fun τ => ∃ i pl : Nat, i ≤ l.length ∧ (∀ b ∈ l.take i, 0 < b.length ∧ b.length ≤ 60) ∧ pl = (recL (l.take (min i k))).length ∧ τ = fr 220 [(.st [(AV.sc (.int .u8 ((at_ : Int)))), .ar 4 .lf (by8 ts), (AV.sc (.int .u16 ((from_ : Int))))], false), (.ar 4 .lf (by8 ts), false)] [(0, .sl .lf (l.map fun b => (AV.sl .lf (by8 (b)) .ro)) .ro), (6, .pt 1 []), (7, (AV.sc (.int .u16 ((from_ : Int))))), (8, (AV.sc (.int .i64 ((k : Int))))), (9, (AV.sc (.int .i64 ((pl : Int))))), (10, (AV.sc (.int .i64 ((i : Int)))))], fun τ => l.length - (slotI τ 10).toNat, ?_, ?_⟩
  · conv => whnf
    exact ⟨0, 0, by omega, by simp, by simp [recL], rfl⟩
  rintro τ ⟨i, pl, hi, hg, hpl, rfl⟩
  have hpb : pl ≤ 1008 * l.length := by
    rw [hpl]
    refine Nat.le_trans (recL_len _ fun b hb => ?_) (Nat.mul_le_mul_left _ (by rw [List.length_take]; omega))
    rw [Nat.min_comm, ← List.take_take] at hb
    have := hg b (List.mem_of_mem_take hb)
    omega
  apply enter3
  intro kk kK
  conv => whnf
  rw [List.length_map]
  refine Branch.of (fun h1 => ?_) (fun h1 => ?_) <;> rw [h1] <;> conv => whnf
  rotate_left
  · have h1 := of_decide_eq_false h1
    obtain rfl : i = l.length := by omega
    rw [List.take_length] at hg
    rw [Nat.min_eq_right (by omega)] at hpl
    refine kK _ _ ?_
    conv => whnf
    have hlen : (recL l).length ≤ 10000 := by
      have := recL_len l fun b hb => by have := hg b hb; omega
      omega
    have hgood : goodL l = true := good_all fun b hb e => by
      have := hg b hb
      rw [e] at this
      simp at this
    have hne : l ≠ [] := by
      intro e
      rw [e] at hk
      simp at hk
    have hkl : k < l.length := by omega
    have hatk := at_ro hkl
    have hbk := hg l[k] (List.getElem_mem hkl)
    have cp := c_put0 ⟨[], 0, 10000, -1, false, []⟩ 0 false l rfl (by simp [WFk]) (by omega) (fun b hb => by have := hg b hb; omega) (by decide) (by decide) _ (put_new 10000 l hgood hne (by omega) (recL_ne hne))
    refine (c_new 10000 (by decide) (by decide)).mono fun r st e => ?_
    obtain ⟨rfl, rfl⟩ := e
    conv => whnf
    refine (c_open0 ⟨[], 0, 10000, -1, false, []⟩ rfl (by simp [WFk])).mono ?_
    rw [show syncP ⟨[], 0, 10000, -1, false, []⟩ = ((⟨[], 0, 10000, -1, false, []⟩ : Pk), (0 : Int)) from rfl]
    rintro r st (⟨h, _⟩ | ⟨_, h, _⟩ | ⟨_, _, rfl, rfl⟩)
    · cases h
    · cases h
    conv => whnf
    refine cp.mono ?_
    rintro r st ⟨rfl, ⟨h, _⟩ | ⟨cap, c2, L, hL, rfl⟩⟩
    · exact absurd h (recL_ne hne)
    have hL : OKL (recL l) cap c2 L := hL
    conv => whnf
    rw [w64 (x := (from_ : Int)) (by omega) (by omega)]
    refine ⟨by omega, _, hatk, ?_⟩
    conv => whnf
    rw [len8]
    refine ⟨by omega, ?_⟩
    conv => whnf
    rw [show Int.tmod (from_ : Int) (l[k].length : Int) = ((from_ % l[k].length : Nat) : Int) from rfl]
    have hgb : from_ % l[k].length < l[k].length := Nat.mod_lt _ hbk.1
    generalize from_ % l[k].length = g at hgb
    have hsplit : l = l.take k ++ l[k] :: l.drop (k + 1) := by
      rw [List.getElem_cons_drop, List.take_append_drop]
    have hA0 : recL l = spoR (l.take k) l[k] (xorW l[k] g (ts.take 0)) (l.drop (k + 1)) := by
      rw [List.take_zero, xorW_nil, spoR_same, ← hsplit]
    rw [hA0] at hL
    refine ⟨false, [0, 6, 8, 9, 11, 16, 17, 18], fun τ => ∃ i L, i ≤ 4 ∧ g + i ≤ l[k].length ∧ OKL (spoR (l.take k) l[k] (xorW l[k] g (ts.take i)) (l.drop (k + 1))) cap c2 L ∧ τ = fr 220 [(.st [(AV.sc (.int .u8 ((at_ : Int)))), .ar 4 .lf (by8 ts), (AV.sc (.int .u16 ((from_ : Int))))], false), (.ar 4 .lf (by8 ts), false), (.st [.bs 4 [] .lf 0 (spoR (l.take k) l[k] (xorW l[k] g (ts.take i)) (l.drop (k + 1))).length cap, (AV.sc (.int .i64 (((recL l).length : Int)))), (AV.sc (.int .i64 (10000))), (AV.sc (.bool (true))), (AV.sc (.int .i64 ((-1)))), (AV.sc (.bool (false))), .sl .lf [] .ro], false), (.st [.pt 2 [], (AV.sc (.int .i64 ((l.length : Int)))), (AV.sc (.bool (false)))], false), (.ar c2 .lf L, false)] [(0, .sl .lf (l.map fun b => (AV.sl .lf (by8 (b)) .ro)) .ro), (6, .pt 1 []), (8, (AV.sc (.int .i64 ((k : Int))))), (9, (AV.sc (.int .i64 ((pl : Int))))), (11, .pt 2 []), (16, (AV.sc (.int .i64 ((g : Int))))), (17, (AV.sc (.bool (((ts.take i).any fun y => y != 0))))), (18, (AV.sc (.int .i64 ((i : Int)))))], fun τ => 4 - (slotI τ 18).toNat, ?_, ?_⟩
    · conv => whnf
      exact ⟨0, L, by omega, by omega, hL, by rw [← hA0]; rfl⟩
    clear hL cp
    rintro τ ⟨i, L, hi4, hgi, hL, rfl⟩
    have hdl := (walk_spoilt l k (by omega) hg ts i g hgi hts hi4 hlen _ rfl _ rfl)
    apply enter3
    intro kk kK
    conv => whnf
    have hal : (spoR (l.take k) l[k] (xorW l[k] g (ts.take i)) (l.drop (k + 1))).length = (recL l).length := hdl.2
    by_cases h3 : i < 4 ∧ g + i < l[k].length
    · obtain ⟨h3, h4⟩ := h3
      refine Branch.of (fun hh => ?_) (fun hh => ?_)
      rotate_left
      · exfalso; simp only [gt_iff_lt, ge_iff_le, decide_eq_true_eq, decide_eq_false_iff_not, beq_iff_eq, beq_eq_false_iff_ne, bne_iff_ne, bne_eq_false_iff_eq, ne_eq] at hh; first | done | omega | (simp at hh; done)
      try rw [hh]
      clear hh
      conv => whnf
      rw [w64 (x := (g : Int) + (i : Int)) (by omega) (by omega)]
      refine ⟨by omega, _, hatk, ?_⟩
      conv => whnf
      rw [len8]
      refine Branch.of (fun hh => ?_) (fun hh => ?_)
      rotate_left
      · exfalso; simp only [gt_iff_lt, ge_iff_le, decide_eq_true_eq, decide_eq_false_iff_not, beq_iff_eq, beq_eq_false_iff_ne, bne_iff_ne, bne_eq_false_iff_eq, ne_eq] at hh; first | done | omega | (simp at hh; done)
      try rw [hh]
      clear hh
      conv => whnf
      rw [w64 (x := (pl : Int) + 8) (by omega) (by omega), w64 (x := (pl : Int) + 8 + (g : Int)) (by omega) (by omega), w64 (x := (pl : Int) + 8 + (g : Int) + (i : Int)) (by omega) (by omega)]
      have hit : i < ts.length := by omega
      have hati : (by8 ts)[((i : Int)).toNat]? = some ((AV.sc (.int .u8 ((ts[i].toNat : Int))))) := by
        rw [Int.toNat_natCast]
        exact by8_at hit
      have cs := c_spoil1 ⟨spoR (l.take k) l[k] (xorW l[k] g (ts.take i)) (l.drop (k + 1)), ((recL l).length : Int), 10000, -1, false, []⟩ ((pl : Int) + 8 + (g : Int) + (i : Int)) ts[i] cap c2 L hL (by simp only [hal]; omega)
      rw [sp_step (l.take k) l[k] (l.drop (k + 1)) g ts i hit h4 ((pl : Int) + 8 + (g : Int) + (i : Int)) (by omega) 10000 ((recL l).length : Int)] at cs
      refine ⟨by omega, by omega, ?_⟩
      conv => whnf
      refine ⟨_, hati, ?_⟩
      conv => whnf
      refine cs.mono ?_
      rintro r st ⟨rfl, L', hL', rfl⟩
      have hL' : OKL (spoR (l.take k) l[k] (xorW l[k] g (ts.take (i + 1))) (l.drop (k + 1))) cap c2 L' := hL'
      have hany := any_step ts i hit
      cases hsi : (ts.take i).any fun y => y != 0 with
      | true =>
        rw [hsi, Bool.true_or] at hany
        conv => whnf
        rw [w64 (x := (i : Int) + 1) (by omega) (by omega)]
        refine kK _ _ ?_
        conv => whnf
        refine ⟨⟨i + 1, L', by omega, by omega, hL', by rw [hany]; rfl⟩, ?_⟩
        show 4 - ((i : Int) + 1).toNat < 4 - (i : Int).toNat
        omega
      | false =>
        rw [hsi, Bool.false_or] at hany
        conv => whnf
        refine ⟨by omega, by omega, ?_⟩
        conv => whnf
        refine ⟨_, hati, ?_⟩
        conv => whnf
        rw [u8_ne, ← hany, w64 (x := (i : Int) + 1) (by omega) (by omega)]
        refine kK _ _ ?_
        conv => whnf
        refine ⟨⟨i + 1, L', by omega, by omega, hL', rfl⟩, ?_⟩
        show 4 - ((i : Int) + 1).toNat < 4 - (i : Int).toNat
        omega
    · have hww : WFk ⟨spoR (l.take k) l[k] (xorW l[k] g (ts.take i)) (l.drop (k + 1)), ((recL l).length : Int), 10000, -1, false, []⟩ := wfk_b _ _ _ (by omega) (by rw [hal]; omega) (by rw [hal]; omega) (by omega)
      have hAne : spoR (l.take k) l[k] (xorW l[k] g (ts.take i)) (l.drop (k + 1)) ≠ [] := by
        intro e
        rw [e] at hal
        exact recL_ne hne (List.eq_nil_of_length_eq_zero hal.symm)
      have ho := hdl.1
      clear hdl hA0
      generalize spoR (l.take k) l[k] (xorW l[k] g (ts.take i)) (l.drop (k + 1)) = A at hL hal ho hAne hww ⊢
      generalize ((ts.take i).any fun y => y != 0) = S at ho ⊢
      cases S with
      | true =>
        rw [if_pos rfl] at ho
        have co := fun cap c2 L hL => c_open1 ⟨A, ((recL l).length : Int), 10000, -1, false, []⟩ cap c2 L hL hww
        rw [ho] at co
        rcases Nat.lt_or_ge i 4 with h5 | h5
        · rw [decide_eq_true (show (i : Int) < 4 by omega)]
          conv => whnf
          rw [w64 (x := (g : Int) + (i : Int)) (by omega) (by omega)]
          refine ⟨by omega, _, hatk, ?_⟩
          conv => whnf
          rw [len8, decide_eq_false (show ¬ (g : Int) + (i : Int) < (l[k].length : Int) by omega)]
          conv => whnf
          refine kK _ _ ?_
          conv => whnf
          refine ⟨[11, 17, 21], fun τ => ∃ cap c2 L, OKL A cap c2 L ∧ τ = fr 220 [(.st [.bs 1 [] .lf 0 A.length cap, (AV.sc (.int .i64 (((recL l).length : Int)))), (AV.sc (.int .i64 (10000))), (AV.sc (.bool (true))), (AV.sc (.int .i64 ((-1)))), (AV.sc (.bool (false))), .sl .lf [] .ro], false), (.ar c2 .lf L, false)] [(11, .pt 0 []), (17, (AV.sc (.bool (true)))), (21, (AV.sc (.int .i64 (10))))], ?_, ?_⟩
          rotate_left
          · refine (co cap c2 L hL).mono ?_
            rintro r st (⟨_, rfl, hP⟩ | ⟨h, _⟩)
            rotate_left
            · exact absurd h (show ¬ (10 : Int) = 0 by decide)
            rcases hP with ⟨cap2, c3, L2, hL2, rfl⟩ | ⟨cap2, c3, L2, cj, Lj, hL2, rfl⟩ | ⟨hb2, _⟩
            · conv => whnf
              refine ⟨false, [2, 4, 0, 1, 3], 2, ?_⟩
              conv => whnf
              exact ⟨cap2, c3, L2, hL2, rfl⟩
            · conv => whnf
              refine ⟨false, [2, 5, 0, 1, 3, 4], 2, ?_⟩
              conv => whnf
              exact ⟨cap2, c3, L2, hL2, rfl⟩
            · exact absurd hb2 hAne
          rintro τ ⟨cap, c2, L, hL, rfl⟩
          conv => whnf
          refine ⟨[17, 21, 24], fun τ => τ = fr 220 [] [(17, (AV.sc (.bool (true)))), (21, (AV.sc (.int .i64 (10)))), (24, (AV.sc (.int .i64 (10))))], ?_, ?_⟩
          rotate_left
          · refine (co cap c2 L hL).mono ?_
            rintro r st (⟨_, rfl, hP⟩ | ⟨h, _⟩)
            rotate_left
            · exact absurd h (show ¬ (10 : Int) = 0 by decide)
            rcases hP with ⟨cap2, c3, L2, hL2, rfl⟩ | ⟨cap2, c3, L2, cj, Lj, hL2, rfl⟩ | ⟨hb2, _⟩
            · conv => whnf
              refine ⟨false, [0, 1], 0, ?_⟩
              conv => whnf
              exact rfl
            · conv => whnf
              refine ⟨false, [0, 1, 2], 0, ?_⟩
              conv => whnf
              exact rfl
            · exact absurd hb2 hAne
          rintro τ rfl
          conv => whnf
          refine ⟨false, [17, 21, 24, 25], fun τ => ∃ j : Nat, j ≤ 2 ∧ τ = fr 220 [] [(17, (AV.sc (.bool (true)))), (21, (AV.sc (.int .i64 (10)))), (24, (AV.sc (.int .i64 (10)))), (25, (AV.sc (.int .i64 ((j : Int)))))], fun τ => 2 - (slotI τ 25).toNat, ?_, ?_⟩
          · conv => whnf
            exact ⟨0, by omega, rfl⟩
          rintro τ ⟨j, hj, rfl⟩
          conv => whnf
          by_cases hj2 : (j : Int) < 2
          · refine Branch.of (fun hh => ?_) (fun hh => ?_)
            rotate_left
            · exfalso; simp only [gt_iff_lt, ge_iff_le, decide_eq_true_eq, decide_eq_false_iff_not, beq_iff_eq, beq_eq_false_iff_ne, bne_iff_ne, bne_eq_false_iff_eq, ne_eq] at hh; first | done | omega | (simp at hh; done)
            try rw [hh]
            clear hh
            conv => whnf
            by_cases hj1 : j = 1
            · subst hj1
              conv => whnf
              refine (c_putZ _).mono fun r st e => ?_
              obtain ⟨rfl, rfl⟩ := e
              conv => whnf
              refine (c_wmanyZ).mono fun r st e => ?_
              obtain ⟨rfl, rfl⟩ := e
              conv => whnf
              refine (c_wbrokenZ).mono fun r st e => ?_
              obtain ⟨rfl, rfl⟩ := e
              conv => whnf
              exact ⟨⟨2, by omega, rfl⟩, by show (2 : Nat) - 2 < 2 - 1; omega⟩
            · obtain rfl : j = 0 := by omega
              conv => whnf
              refine (c_putN _).mono fun r st e => ?_
              obtain ⟨rfl, rfl⟩ := e
              conv => whnf
              refine (c_wmanyN).mono fun r st e => ?_
              obtain ⟨rfl, rfl⟩ := e
              conv => whnf
              refine (c_wbrokenN).mono fun r st e => ?_
              obtain ⟨rfl, rfl⟩ := e
              conv => whnf
              exact ⟨⟨1, by omega, rfl⟩, by show (2 : Nat) - 1 < 2 - 0; omega⟩
          · refine Branch.of (fun hh => ?_) (fun hh => ?_)
            · exfalso; simp only [gt_iff_lt, ge_iff_le, decide_eq_true_eq, decide_eq_false_iff_not, beq_iff_eq, beq_eq_false_iff_ne, bne_iff_ne, bne_eq_false_iff_eq, ne_eq] at hh; first | done | omega | (simp at hh; done)
            try rw [hh]
            clear hh
            conv => whnf
            refine (c_openN).mono fun r st e => ?_
            obtain ⟨rfl, rfl⟩ := e
            conv => whnf
            refine (c_awake19).mono fun r st e => ?_
            obtain ⟨rfl, rfl⟩ := e
            conv => whnf
            refine ⟨false, [], ?_⟩
            conv => whnf
            exact ⟨rfl, rfl⟩
        · rw [decide_eq_false (show ¬ (i : Int) < 4 by omega)]
          conv => whnf
          refine kK _ _ ?_
          conv => whnf
          refine ⟨[11, 17, 21], fun τ => ∃ cap c2 L, OKL A cap c2 L ∧ τ = fr 220 [(.st [.bs 1 [] .lf 0 A.length cap, (AV.sc (.int .i64 (((recL l).length : Int)))), (AV.sc (.int .i64 (10000))), (AV.sc (.bool (true))), (AV.sc (.int .i64 ((-1)))), (AV.sc (.bool (false))), .sl .lf [] .ro], false), (.ar c2 .lf L, false)] [(11, .pt 0 []), (17, (AV.sc (.bool (true)))), (21, (AV.sc (.int .i64 (10))))], ?_, ?_⟩
          rotate_left
          · refine (co cap c2 L hL).mono ?_
            rintro r st (⟨_, rfl, hP⟩ | ⟨h, _⟩)
            rotate_left
            · exact absurd h (show ¬ (10 : Int) = 0 by decide)
            rcases hP with ⟨cap2, c3, L2, hL2, rfl⟩ | ⟨cap2, c3, L2, cj, Lj, hL2, rfl⟩ | ⟨hb2, _⟩
            · conv => whnf
              refine ⟨false, [2, 4, 0, 1, 3], 2, ?_⟩
              conv => whnf
              exact ⟨cap2, c3, L2, hL2, rfl⟩
            · conv => whnf
              refine ⟨false, [2, 5, 0, 1, 3, 4], 2, ?_⟩
              conv => whnf
              exact ⟨cap2, c3, L2, hL2, rfl⟩
            · exact absurd hb2 hAne
          rintro τ ⟨cap, c2, L, hL, rfl⟩
          conv => whnf
          refine ⟨[17, 21, 24], fun τ => τ = fr 220 [] [(17, (AV.sc (.bool (true)))), (21, (AV.sc (.int .i64 (10)))), (24, (AV.sc (.int .i64 (10))))], ?_, ?_⟩
          rotate_left
          · refine (co cap c2 L hL).mono ?_
            rintro r st (⟨_, rfl, hP⟩ | ⟨h, _⟩)
            rotate_left
            · exact absurd h (show ¬ (10 : Int) = 0 by decide)
            rcases hP with ⟨cap2, c3, L2, hL2, rfl⟩ | ⟨cap2, c3, L2, cj, Lj, hL2, rfl⟩ | ⟨hb2, _⟩
            · conv => whnf
              refine ⟨false, [0, 1], 0, ?_⟩
              conv => whnf
              exact rfl
            · conv => whnf
              refine ⟨false, [0, 1, 2], 0, ?_⟩
              conv => whnf
              exact rfl
            · exact absurd hb2 hAne
          rintro τ rfl
          conv => whnf
          refine ⟨false, [17, 21, 24, 25], fun τ => ∃ j : Nat, j ≤ 2 ∧ τ = fr 220 [] [(17, (AV.sc (.bool (true)))), (21, (AV.sc (.int .i64 (10)))), (24, (AV.sc (.int .i64 (10)))), (25, (AV.sc (.int .i64 ((j : Int)))))], fun τ => 2 - (slotI τ 25).toNat, ?_, ?_⟩
          · conv => whnf
            exact ⟨0, by omega, rfl⟩
          rintro τ ⟨j, hj, rfl⟩
          conv => whnf
          by_cases hj2 : (j : Int) < 2
          · refine Branch.of (fun hh => ?_) (fun hh => ?_)
            rotate_left
            · exfalso; simp only [gt_iff_lt, ge_iff_le, decide_eq_true_eq, decide_eq_false_iff_not, beq_iff_eq, beq_eq_false_iff_ne, bne_iff_ne, bne_eq_false_iff_eq, ne_eq] at hh; first | done | omega | (simp at hh; done)
            try rw [hh]
            clear hh
            conv => whnf
            by_cases hj1 : j = 1
            · subst hj1
              conv => whnf
              refine (c_putZ _).mono fun r st e => ?_
              obtain ⟨rfl, rfl⟩ := e
              conv => whnf
              refine (c_wmanyZ).mono fun r st e => ?_
              obtain ⟨rfl, rfl⟩ := e
              conv => whnf
              refine (c_wbrokenZ).mono fun r st e => ?_
              obtain ⟨rfl, rfl⟩ := e
              conv => whnf
              exact ⟨⟨2, by omega, rfl⟩, by show (2 : Nat) - 2 < 2 - 1; omega⟩
            · obtain rfl : j = 0 := by omega
              conv => whnf
              refine (c_putN _).mono fun r st e => ?_
              obtain ⟨rfl, rfl⟩ := e
              conv => whnf
              refine (c_wmanyN).mono fun r st e => ?_
              obtain ⟨rfl, rfl⟩ := e
              conv => whnf
              refine (c_wbrokenN).mono fun r st e => ?_
              obtain ⟨rfl, rfl⟩ := e
              conv => whnf
              exact ⟨⟨1, by omega, rfl⟩, by show (2 : Nat) - 1 < 2 - 0; omega⟩
          · refine Branch.of (fun hh => ?_) (fun hh => ?_)
            · exfalso; simp only [gt_iff_lt, ge_iff_le, decide_eq_true_eq, decide_eq_false_iff_not, beq_iff_eq, beq_eq_false_iff_ne, bne_iff_ne, bne_eq_false_iff_eq, ne_eq] at hh; first | done | omega | (simp at hh; done)
            try rw [hh]
            clear hh
            conv => whnf
            refine (c_openN).mono fun r st e => ?_
            obtain ⟨rfl, rfl⟩ := e
            conv => whnf
            refine (c_awake19).mono fun r st e => ?_
            obtain ⟨rfl, rfl⟩ := e
            conv => whnf
            refine ⟨false, [], ?_⟩
            conv => whnf
            exact ⟨rfl, rfl⟩
      | false =>
        rw [if_neg (by simp)] at ho
        have co := fun cap c2 L hL => c_open1 ⟨A, ((recL l).length : Int), 10000, -1, false, []⟩ cap c2 L hL hww
        rw [ho] at co
        rcases Nat.lt_or_ge i 4 with h5 | h5
        · rw [decide_eq_true (show (i : Int) < 4 by omega)]
          conv => whnf
          rw [w64 (x := (g : Int) + (i : Int)) (by omega) (by omega)]
          refine ⟨by omega, _, hatk, ?_⟩
          conv => whnf
          rw [len8, decide_eq_false (show ¬ (g : Int) + (i : Int) < (l[k].length : Int) by omega)]
          conv => whnf
          refine kK _ _ ?_
          conv => whnf
          refine ⟨[11, 17, 21], fun τ => ∃ cap c2 L, OKL A cap c2 L ∧ τ = fr 220 [(.st [.bs 1 [] .lf 0 A.length cap, (AV.sc (.int .i64 (((recL l).length : Int)))), (AV.sc (.int .i64 (10000))), (AV.sc (.bool (true))), (AV.sc (.int .i64 ((-1)))), (AV.sc (.bool (false))), .sl .lf [] .ro], false), (.ar c2 .lf L, false)] [(11, .pt 0 []), (17, (AV.sc (.bool (false)))), (21, (AV.sc (.int .i64 (0))))], ?_, ?_⟩
          rotate_left
          · refine (co cap c2 L hL).mono ?_
            rintro r st (⟨h, _⟩ | ⟨_, st', hP, rfl, rfl⟩)
            · exact absurd rfl h
            rcases hP with ⟨cap2, c3, L2, hL2, rfl⟩ | ⟨cap2, c3, L2, cj, Lj, hL2, rfl⟩ | ⟨hb2, _⟩
            · conv => whnf
              refine ⟨false, [2, 4, 0, 1, 3, 5], 2, ?_⟩
              conv => whnf
              exact ⟨cap2, c3, L2, hL2, rfl⟩
            · conv => whnf
              refine ⟨false, [2, 5, 0, 1, 3, 4, 6], 2, ?_⟩
              conv => whnf
              exact ⟨cap2, c3, L2, hL2, rfl⟩
            · exact absurd hb2 hAne
          rintro τ ⟨cap, c2, L, hL, rfl⟩
          conv => whnf
          refine ⟨[17, 21, 24], fun τ => τ = fr 220 [] [(17, (AV.sc (.bool (false)))), (21, (AV.sc (.int .i64 (0)))), (24, (AV.sc (.int .i64 (0))))], ?_, ?_⟩
          rotate_left
          · refine (co cap c2 L hL).mono ?_
            rintro r st (⟨h, _⟩ | ⟨_, st', hP, rfl, rfl⟩)
            · exact absurd rfl h
            rcases hP with ⟨cap2, c3, L2, hL2, rfl⟩ | ⟨cap2, c3, L2, cj, Lj, hL2, rfl⟩ | ⟨hb2, _⟩
            · conv => whnf
              refine ⟨false, [0, 1, 2], 0, ?_⟩
              conv => whnf
              exact rfl
            · conv => whnf
              refine ⟨false, [0, 1, 2, 3], 0, ?_⟩
              conv => whnf
              exact rfl
            · exact absurd hb2 hAne
          rintro τ rfl
          conv => whnf
          refine ⟨false, [17, 21, 24, 25], fun τ => ∃ j : Nat, j ≤ 2 ∧ τ = fr 220 [] [(17, (AV.sc (.bool (false)))), (21, (AV.sc (.int .i64 (0)))), (24, (AV.sc (.int .i64 (0)))), (25, (AV.sc (.int .i64 ((j : Int)))))], fun τ => 2 - (slotI τ 25).toNat, ?_, ?_⟩
          · conv => whnf
            exact ⟨0, by omega, rfl⟩
          rintro τ ⟨j, hj, rfl⟩
          conv => whnf
          by_cases hj2 : (j : Int) < 2
          · refine Branch.of (fun hh => ?_) (fun hh => ?_)
            rotate_left
            · exfalso; simp only [gt_iff_lt, ge_iff_le, decide_eq_true_eq, decide_eq_false_iff_not, beq_iff_eq, beq_eq_false_iff_ne, bne_iff_ne, bne_eq_false_iff_eq, ne_eq] at hh; first | done | omega | (simp at hh; done)
            try rw [hh]
            clear hh
            conv => whnf
            by_cases hj1 : j = 1
            · subst hj1
              conv => whnf
              refine (c_putZ _).mono fun r st e => ?_
              obtain ⟨rfl, rfl⟩ := e
              conv => whnf
              refine (c_wmanyZ).mono fun r st e => ?_
              obtain ⟨rfl, rfl⟩ := e
              conv => whnf
              refine (c_wbrokenZ).mono fun r st e => ?_
              obtain ⟨rfl, rfl⟩ := e
              conv => whnf
              exact ⟨⟨2, by omega, rfl⟩, by show (2 : Nat) - 2 < 2 - 1; omega⟩
            · obtain rfl : j = 0 := by omega
              conv => whnf
              refine (c_putN _).mono fun r st e => ?_
              obtain ⟨rfl, rfl⟩ := e
              conv => whnf
              refine (c_wmanyN).mono fun r st e => ?_
              obtain ⟨rfl, rfl⟩ := e
              conv => whnf
              refine (c_wbrokenN).mono fun r st e => ?_
              obtain ⟨rfl, rfl⟩ := e
              conv => whnf
              exact ⟨⟨1, by omega, rfl⟩, by show (2 : Nat) - 1 < 2 - 0; omega⟩
          · refine Branch.of (fun hh => ?_) (fun hh => ?_)
            · exfalso; simp only [gt_iff_lt, ge_iff_le, decide_eq_true_eq, decide_eq_false_iff_not, beq_iff_eq, beq_eq_false_iff_ne, bne_iff_ne, bne_eq_false_iff_eq, ne_eq] at hh; first | done | omega | (simp at hh; done)
            try rw [hh]
            clear hh
            conv => whnf
            refine (c_openN).mono fun r st e => ?_
            obtain ⟨rfl, rfl⟩ := e
            conv => whnf
            refine (c_awake19).mono fun r st e => ?_
            obtain ⟨rfl, rfl⟩ := e
            conv => whnf
            refine ⟨false, [], ?_⟩
            conv => whnf
            exact ⟨rfl, rfl⟩
        · rw [decide_eq_false (show ¬ (i : Int) < 4 by omega)]
          conv => whnf
          refine kK _ _ ?_
          conv => whnf
          refine ⟨[11, 17, 21], fun τ => ∃ cap c2 L, OKL A cap c2 L ∧ τ = fr 220 [(.st [.bs 1 [] .lf 0 A.length cap, (AV.sc (.int .i64 (((recL l).length : Int)))), (AV.sc (.int .i64 (10000))), (AV.sc (.bool (true))), (AV.sc (.int .i64 ((-1)))), (AV.sc (.bool (false))), .sl .lf [] .ro], false), (.ar c2 .lf L, false)] [(11, .pt 0 []), (17, (AV.sc (.bool (false)))), (21, (AV.sc (.int .i64 (0))))], ?_, ?_⟩
          rotate_left
          · refine (co cap c2 L hL).mono ?_
            rintro r st (⟨h, _⟩ | ⟨_, st', hP, rfl, rfl⟩)
            · exact absurd rfl h
            rcases hP with ⟨cap2, c3, L2, hL2, rfl⟩ | ⟨cap2, c3, L2, cj, Lj, hL2, rfl⟩ | ⟨hb2, _⟩
            · conv => whnf
              refine ⟨false, [2, 4, 0, 1, 3, 5], 2, ?_⟩
              conv => whnf
              exact ⟨cap2, c3, L2, hL2, rfl⟩
            · conv => whnf
              refine ⟨false, [2, 5, 0, 1, 3, 4, 6], 2, ?_⟩
              conv => whnf
              exact ⟨cap2, c3, L2, hL2, rfl⟩
            · exact absurd hb2 hAne
          rintro τ ⟨cap, c2, L, hL, rfl⟩
          conv => whnf
          refine ⟨[17, 21, 24], fun τ => τ = fr 220 [] [(17, (AV.sc (.bool (false)))), (21, (AV.sc (.int .i64 (0)))), (24, (AV.sc (.int .i64 (0))))], ?_, ?_⟩
          rotate_left
          · refine (co cap c2 L hL).mono ?_
            rintro r st (⟨h, _⟩ | ⟨_, st', hP, rfl, rfl⟩)
            · exact absurd rfl h
            rcases hP with ⟨cap2, c3, L2, hL2, rfl⟩ | ⟨cap2, c3, L2, cj, Lj, hL2, rfl⟩ | ⟨hb2, _⟩
            · conv => whnf
              refine ⟨false, [0, 1, 2], 0, ?_⟩
              conv => whnf
              exact rfl
            · conv => whnf
              refine ⟨false, [0, 1, 2, 3], 0, ?_⟩
              conv => whnf
              exact rfl
            · exact absurd hb2 hAne
          rintro τ rfl
          conv => whnf
          refine ⟨false, [17, 21, 24, 25], fun τ => ∃ j : Nat, j ≤ 2 ∧ τ = fr 220 [] [(17, (AV.sc (.bool (false)))), (21, (AV.sc (.int .i64 (0)))), (24, (AV.sc (.int .i64 (0)))), (25, (AV.sc (.int .i64 ((j : Int)))))], fun τ => 2 - (slotI τ 25).toNat, ?_, ?_⟩
          · conv => whnf
            exact ⟨0, by omega, rfl⟩
          rintro τ ⟨j, hj, rfl⟩
          conv => whnf
          by_cases hj2 : (j : Int) < 2
          · refine Branch.of (fun hh => ?_) (fun hh => ?_)
            rotate_left
            · exfalso; simp only [gt_iff_lt, ge_iff_le, decide_eq_true_eq, decide_eq_false_iff_not, beq_iff_eq, beq_eq_false_iff_ne, bne_iff_ne, bne_eq_false_iff_eq, ne_eq] at hh; first | done | omega | (simp at hh; done)
            try rw [hh]
            clear hh
            conv => whnf
            by_cases hj1 : j = 1
            · subst hj1
              conv => whnf
              refine (c_putZ _).mono fun r st e => ?_
              obtain ⟨rfl, rfl⟩ := e
              conv => whnf
              refine (c_wmanyZ).mono fun r st e => ?_
              obtain ⟨rfl, rfl⟩ := e
              conv => whnf
              refine (c_wbrokenZ).mono fun r st e => ?_
              obtain ⟨rfl, rfl⟩ := e
              conv => whnf
              exact ⟨⟨2, by omega, rfl⟩, by show (2 : Nat) - 2 < 2 - 1; omega⟩
            · obtain rfl : j = 0 := by omega
              conv => whnf
              refine (c_putN _).mono fun r st e => ?_
              obtain ⟨rfl, rfl⟩ := e
              conv => whnf
              refine (c_wmanyN).mono fun r st e => ?_
              obtain ⟨rfl, rfl⟩ := e
              conv => whnf
              refine (c_wbrokenN).mono fun r st e => ?_
              obtain ⟨rfl, rfl⟩ := e
              conv => whnf
              exact ⟨⟨1, by omega, rfl⟩, by show (2 : Nat) - 1 < 2 - 0; omega⟩
          · refine Branch.of (fun hh => ?_) (fun hh => ?_)
            · exfalso; simp only [gt_iff_lt, ge_iff_le, decide_eq_true_eq, decide_eq_false_iff_not, beq_iff_eq, beq_eq_false_iff_ne, bne_iff_ne, bne_eq_false_iff_eq, ne_eq] at hh; first | done | omega | (simp at hh; done)
            try rw [hh]
            clear hh
            conv => whnf
            refine (c_openN).mono fun r st e => ?_
            obtain ⟨rfl, rfl⟩ := e
            conv => whnf
            refine (c_awake19).mono fun r st e => ?_
            obtain ⟨rfl, rfl⟩ := e
            conv => whnf
            refine ⟨false, [], ?_⟩
            conv => whnf
            exact ⟨rfl, rfl⟩
  have h1 := of_decide_eq_true h1
  have ih : i < l.length := by omega
  have hat := at_ro ih
  have hsucc := recL_succ ih
  have htk : ∀ b ∈ l.take (i + 1), b ∈ l.take i ∨ b = l[i] := by
    intro b hb
    rw [List.take_add_one, List.getElem?_eq_getElem ih] at hb
    rcases List.mem_append.1 hb with h | h
    · exact .inl h
    · exact .inr (List.mem_singleton.1 h)
  generalize l[i] = b at hat hsucc htk
  refine ⟨by omega, _, hat, ?_⟩
  conv => whnf
  rw [len8]
  by_cases c1 : b.length < 1
  · refine Branch.of (fun hh => ?_) (fun hh => ?_)
    rotate_left
    · exfalso; simp only [gt_iff_lt, ge_iff_le, decide_eq_true_eq, decide_eq_false_iff_not, beq_iff_eq, beq_eq_false_iff_ne, bne_iff_ne, bne_eq_false_iff_eq, ne_eq] at hh; first | done | omega | (simp at hh; done)
    try rw [hh]
    clear hh
    conv => whnf
    refine (c_awake19).mono fun r st e => ?_
    obtain ⟨rfl, rfl⟩ := e
    conv => whnf
    refine kK _ _ ?_
    conv => whnf
    refine ⟨false, [], ?_⟩
    conv => whnf
    exact ⟨rfl, rfl⟩
  refine Branch.of (fun hh => ?_) (fun hh => ?_)
  · exfalso; simp only [gt_iff_lt, ge_iff_le, decide_eq_true_eq, decide_eq_false_iff_not, beq_iff_eq, beq_eq_false_iff_ne, bne_iff_ne, bne_eq_false_iff_eq, ne_eq] at hh; first | done | omega | (simp at hh; done)
  try rw [hh]
  clear hh
  conv => whnf
  refine ⟨by omega, _, hat, ?_⟩
  conv => whnf
  rw [len8]
  by_cases c2 : 60 < b.length
  · refine Branch.of (fun hh => ?_) (fun hh => ?_)
    rotate_left
    · exfalso; simp only [gt_iff_lt, ge_iff_le, decide_eq_true_eq, decide_eq_false_iff_not, beq_iff_eq, beq_eq_false_iff_ne, bne_iff_ne, bne_eq_false_iff_eq, ne_eq] at hh; first | done | omega | (simp at hh; done)
    try rw [hh]
    clear hh
    conv => whnf
    refine (c_awake19).mono fun r st e => ?_
    obtain ⟨rfl, rfl⟩ := e
    conv => whnf
    refine kK _ _ ?_
    conv => whnf
    refine ⟨false, [], ?_⟩
    conv => whnf
    exact ⟨rfl, rfl⟩
  refine Branch.of (fun hh => ?_) (fun hh => ?_)
  · exfalso; simp only [gt_iff_lt, ge_iff_le, decide_eq_true_eq, decide_eq_false_iff_not, beq_iff_eq, beq_eq_false_iff_ne, bne_iff_ne, bne_eq_false_iff_eq, ne_eq] at hh; first | done | omega | (simp at hh; done)
  try rw [hh]
  clear hh
  conv => whnf
  have hg2 : ∀ x ∈ l.take (i + 1), 0 < x.length ∧ x.length ≤ 60 := by
    intro x hx
    rcases htk x hx with h | h
    · exact hg x h
    · subst h
      omega
  by_cases c3 : i < k
  · refine Branch.of (fun hh => ?_) (fun hh => ?_)
    rotate_left
    · exfalso; simp only [gt_iff_lt, ge_iff_le, decide_eq_true_eq, decide_eq_false_iff_not, beq_iff_eq, beq_eq_false_iff_ne, bne_iff_ne, bne_eq_false_iff_eq, ne_eq] at hh; first | done | omega | (simp at hh; done)
    try rw [hh]
    clear hh
    conv => whnf
    refine ⟨by omega, _, hat, ?_⟩
    conv => whnf
    rw [len8, w64 (x := (pl : Int) + 8) (by omega) (by omega), w64 (x := (pl : Int) + 8 + (b.length : Int)) (by omega) (by omega), w64 (x := (i : Int) + 1) (by omega) (by omega)]
    refine kK _ _ ?_
    conv => whnf
    refine ⟨⟨i + 1, pl + 8 + b.length, by omega, hg2, ?_, rfl⟩, ?_⟩
    · rw [Nat.min_eq_left (by omega)] at hpl ⊢
      rw [hsucc, List.length_append, rec_len]
      omega
    · show l.length - ((i : Int) + 1).toNat < l.length - (i : Int).toNat
      omega
  · refine Branch.of (fun hh => ?_) (fun hh => ?_)
    · exfalso; simp only [gt_iff_lt, ge_iff_le, decide_eq_true_eq, decide_eq_false_iff_not, beq_iff_eq, beq_eq_false_iff_ne, bne_iff_ne, bne_eq_false_iff_eq, ne_eq] at hh; first | done | omega | (simp at hh; done)
    try rw [hh]
    clear hh
    conv => whnf
    rw [w64 (x := (i : Int) + 1) (by omega) (by omega)]
    refine kK _ _ ?_
    conv => whnf
    refine ⟨⟨i + 1, pl, by omega, hg2, ?_, rfl⟩, ?_⟩
    · rw [Nat.min_eq_right (by omega)] at hpl ⊢
      exact hpl
    · show l.length - ((i : Int) + 1).toNat < l.length - (i : Int).toNat
      omega
end Go.WL.T5
