/- Which blocks there may be. No condition. -/
import Derived.Test.YtcmdkiejkheahaaDoorPart35
import Derived.Test.YtcmdkiejkheahaaDoorPart29
set_option linter.unusedVariables false
set_option linter.unusedSimpArgs false
namespace Go.WL.T6d
open Go.WL Go.Proofs
set_option maxRecDepth 20000
set_option maxHeartbeats 8000000
theorem fupto_num {B rest : List UInt8} {a n : Nat} {top : Int} (h : B.drop a = num n ++ rest) (hn : n < 18446744073709551616) (ht : (n : Int) ≤ top) : fupto B a false top = (n, a + (num n).length, false) := by
  have hr := rdn_num rest n 0 0 (by omega) (by omega) (.inl rfl)
  have hp := num_pos n
  rw [Nat.zero_add, Nat.zero_add, Nat.pow_zero, Nat.mul_one] at hr
  have hf : fnum B a false = (n, a + (num n).length, false) := by
    unfold fnum
    rw [h, hr, if_neg (by simp only [Bool.false_eq_true, false_or]; omega)]
  unfold fupto
  rw [hf, if_neg (by simp; omega)]
theorem getF_put (g : List UInt8) (h p c : Nat) (hg : g.length = 32) (hm : mayR h p c = true) : getF (putR g h p c) = (g, h, p, c, true) := by
  have hm2 := hm
  rw [mayR_eq, decide_eq_true_eq] at hm2
  have d1 : (putR g h p c).drop 32 = num h ++ (num p ++ num c) := by
    rw [putR, ← hg]
    simp
  have d2 : (putR g h p c).drop (32 + (num h).length) = num p ++ num c := by
    rw [← List.drop_drop, d1]
    simp
  have d3 : (putR g h p c).drop (32 + (num h).length + (num p).length) = num c ++ [] := by
    rw [← List.drop_drop, d2]
    simp
  have f1 : fhash (putR g h p c) 0 false = (g, 32, false) := by
    unfold fhash
    rw [if_neg (by simp [putR, hg]), List.drop_zero]
    congr 1
    rw [putR, ← hg]
    simp
  unfold getF
  simp only [f1, fupto_num (top := 1099511627776) d1 (by omega) (by omega), fupto_num (top := 7) d2 (by omega) (by omega), fupto_num (top := 20) d3 (by omega) (by omega)]
  rw [if_pos ⟨trivial, by simp [putR, hg]; omega, hm⟩]
theorem putR_len (g : List UInt8) (h p c : Nat) (hg : g.length = 32) (hm : mayR h p c = true) : (putR g h p c).length ≤ 62 := by
  rw [mayR_eq, decide_eq_true_eq] at hm
  have h1 := num_ten (n := h) (by omega)
  have h2 := num_ten (n := p) (by omega)
  have h3 := num_ten (n := c) (by omega)
  simp [putR]
  omega
theorem c_rawake : FnOK Tryd.prog D 36 [] [] (fun r st => r = (AV.sc (.bool (true))) ∧ st = []) := by
  have hm : mayR ((1 : Nat) : Int) ((0 : Nat) : Int) ((0 : Nat) : Int) = true := by rw [mayR_eq]; decide
  have c1 := c_put_yes (List.replicate 32 0) 1 0 0 (by simp) hm
  have c2 := c_get (putR (List.replicate 32 0) 1 0 0) (by have := putR_len (List.replicate 32 0) 1 0 0 (by simp) hm; omega)
  rw [getF_put _ 1 0 0 (by simp) hm] at c2
  have hl : (putR (List.replicate 32 0) 1 0 0).length = 35 := by
    rw [putR, num_low (by decide), num_low (by decide)]
    simp
  generalize putR (List.replicate 32 0) 1 0 0 = q at c1 c2 hl
  simp only at c2
  refine fnok_of_W hmix tabOK Tryd.func36 rfl rfl (Nat.le_of_ble_eq_true rfl) ?_
  conv => whnf
  refine c1.mono fun r st e => ?_
  obtain ⟨rfl, rfl⟩ := e
  conv => whnf
  refine c2.mono fun r st e => ?_
  obtain ⟨rfl, rfl⟩ := e
  conv => whnf
  rw [len8, hl]
  conv => whnf
  refine ⟨false, [], ?_⟩
  conv => whnf
  exact ⟨rfl, rfl⟩
end Go.WL.T6d
namespace Go.WL.T6d
open Go.WL Go.Proofs
set_option maxRecDepth 20000
set_option maxHeartbeats 8000000
def b0 : Bl := ⟨z32, 0, 0, 0, []⟩
abbrev shortK (l : List Tx) : Prop := ∀ t ∈ l, t.key.length < 4294967296
theorem c_bwithin (n lo hi : Int) : FnOK Tryd.prog D 86 [(AV.sc (.int .i64 (n))), (AV.sc (.int .i64 (lo))), (AV.sc (.int .i64 (hi)))] [] (fun r st => r = (AV.sc (.bool (decide (lo ≤ n ∧ n ≤ hi)))) ∧ st = []) := by
  refine fnok_of_W hmix tabOK Tryd.func86 rfl rfl (Nat.le_of_ble_eq_true rfl) ?_
  conv => whnf
  repeat' (first
    | (refine And.intro (by omega) ?_
       conv => whnf)
    | (refine Branch.of (fun h => ?_) (fun h => ?_) <;> (rw [h]; conv => whnf)))
  all_goals refine ⟨false, [], ?_⟩
  all_goals conv => whnf
  all_goals refine ⟨?_, rfl⟩
  all_goals congr 2
  all_goals (try simp_all)
  all_goals first | done | omega | (intros; omega) | (rw [Bool.eq_iff_iff]; simp only [Bool.and_eq_true, Bool.or_eq_true, Bool.not_eq_true', decide_eq_true_eq, decide_eq_false_iff_not, beq_iff_eq]; omega)
theorem c_first : FnOK Tryd.prog D 79 [] [] (fun r st => r = .st [.ar 32 .lf (List.replicate 32 (AV.sc (.int .u8 (0)))), (AV.sc (.int .i64 (0))), (AV.sc (.int .i64 (0))), (AV.sc (.int .i64 (0))), .sl (.nd [.lf, .lf, .lf, .lf, .lf, .lf, .lf]) [] .ex] ∧ st = []) := by
  refine fnok_of_W hmix tabOK Tryd.func79 rfl rfl (Nat.le_of_ble_eq_true rfl) ?_
  conv => whnf
  refine ⟨false, [], ?_⟩
  conv => whnf
  exact ⟨rfl, rfl⟩
theorem c_bad (t : Tx) (hk : t.key.length < 4294967296) : FnOK Tryd.prog D 88 [(AV.st [.sc (.int .i64 (t).f), .sc (.int .i64 (t).n), .sc (.int .i64 (t).k), .sc (.int .i64 (t).to), .sc (.int .i64 (t).am), .sc (.string (strB (t).key)), .sc (.string (strB (t).val))])] [] (fun r st => r = (AV.sc (.bool (!mayT t))) ∧ st = []) := by
  have ck := c_txcheck t hk
  refine fnok_of_W hmix tabOK Tryd.func88 rfl rfl (Nat.le_of_ble_eq_true rfl) ?_
  conv => whnf
  refine (ck).mono fun r st e => ?_
  obtain ⟨rfl, rfl⟩ := e
  conv => whnf
  refine ⟨false, [], ?_⟩
  conv => whnf
  refine ⟨?_, rfl⟩
  cases mayT t <;> rfl
theorem c_indexbad (l : List Tx) (hl : l.length < 4294967296) (hk : shortK l) : FnOK Tryd.prog D 117 [(AV.sl (.nd [.lf, .lf, .lf, .lf, .lf, .lf, .lf]) (txsA (l)) .ro), .fn 88 []] [] (fun r st => (∃ k : Int, r = (AV.sc (.int .i64 (k))) ∧ decide (k ≥ 0) = !(l.all mayT)) ∧ st = []) := by
  have hll := lenT l
  refine fnok_of_W hmix tabOK Tryd.func117 rfl rfl (Nat.le_of_ble_eq_true rfl) ?_
  conv => whnf
  rw [hll]
  refine ⟨false, [0, 1, 7, 8], fun τ => ∃ i : Nat, i ≤ l.length ∧ (l.take i).all mayT = true ∧ τ = ⟨19, [(0, (AV.sl (.nd [.lf, .lf, .lf, .lf, .lf, .lf, .lf]) (txsA (l)) .ro)), (1, .fn 88 []), (7, (AV.sc (.int .i64 ((l.length : Int))))), (8, (AV.sc (.int .i64 ((i : Int)))))], ⟨[], [], 0⟩⟩, fun τ => l.length - (slotI τ 8).toNat, ?_, ?_⟩
  · conv => whnf
    exact ⟨0, by omega, rfl, rfl⟩
  rintro τ ⟨i, hi, ha, rfl⟩
  conv => whnf
  refine Branch.of (fun h1 => ?_) (fun h1 => ?_) <;> rw [h1] <;> conv => whnf
  · simp only [decide_eq_true_eq] at h1
    have il : i < l.length := by omega
    repeat (refine And.intro (by first | omega) ?_; conv => whnf)
    refine ⟨_, atT il, ?_⟩
    conv => whnf
    refine (c_bad l[i] (hk _ (List.getElem_mem il))).mono fun r st e => ?_
    obtain ⟨rfl, rfl⟩ := e
    conv => whnf
    cases h2 : mayT l[i]
    · conv => whnf
      refine ⟨false, [], ?_⟩
      conv => whnf
      refine ⟨⟨(i : Int), rfl, ?_⟩, rfl⟩
      have e : l.all mayT = false := by
        rw [List.all_eq_false]
        exact ⟨l[i], List.getElem_mem il, by rw [h2]; simp⟩
      rw [e, decide_eq_true (show (i : Int) ≥ 0 by omega)]
      rfl
    · conv => whnf
      rw [w64 (x := (i : Int) + 1) (by omega) (by omega)]
      refine ⟨⟨i + 1, by omega, ?_, rfl⟩, ?_⟩
      · rw [List.take_succ_eq_append_getElem il, List.all_append, ha]
        simp [h2]
      · show l.length - ((i : Int) + 1).toNat < l.length - (i : Int).toNat
        omega
  · simp only [decide_eq_false_iff_not] at h1
    rw [List.take_of_length_le (by omega)] at ha
    refine ⟨false, [], ?_⟩
    conv => whnf
    refine ⟨⟨-1, rfl, ?_⟩, rfl⟩
    rw [ha]
    rfl
theorem c_anybad (l : List Tx) (hl : l.length < 4294967296) (hk : shortK l) : FnOK Tryd.prog D 87 [(AV.sl (.nd [.lf, .lf, .lf, .lf, .lf, .lf, .lf]) (txsA (l)) .ro), .fn 88 []] [] (fun r st => r = (AV.sc (.bool (!(l.all mayT)))) ∧ st = []) := by
  refine fnok_of_W hmix tabOK Tryd.func87 rfl rfl (Nat.le_of_ble_eq_true rfl) ?_
  conv => whnf
  refine (c_indexbad l hl hk).mono fun r st e => ?_
  obtain ⟨⟨k, rfl, hk2⟩, rfl⟩ := e
  conv => whnf
  refine ⟨false, [], ?_⟩
  conv => whnf
  refine ⟨?_, rfl⟩
  rw [hk2]
@[irreducible] def mayB (b : Bl) : Bool := decide (b = b0) || (decide (1 ≤ b.v ∧ b.v ≤ 1099511627776) && decide (1 ≤ b.h ∧ b.h ≤ 1099511627776) && decide (1 ≤ b.by_ ∧ b.by_ ≤ 21) && decide (b.txs.length ≤ 8) && b.txs.all mayT)
theorem mayB_eq (b : Bl) : mayB b = (decide (b = b0) || (decide (1 ≤ b.v ∧ b.v ≤ 1099511627776) && decide (1 ≤ b.h ∧ b.h ≤ 1099511627776) && decide (1 ≤ b.by_ ∧ b.by_ ≤ 21) && decide (b.txs.length ≤ 8) && b.txs.all mayT)) := by unfold mayB; rfl
theorem weak0 : Weak (.st [.ar 32 .lf (List.replicate 32 (AV.sc (.int .u8 (0)))), (AV.sc (.int .i64 (0))), (AV.sc (.int .i64 (0))), (AV.sc (.int .i64 (0))), .sl (.nd [.lf, .lf, .lf, .lf, .lf, .lf, .lf]) [] .ex]) (AV.st [.ar 32 .lf (by8 (b0).p), .sc (.int .i64 (b0).v), .sc (.int .i64 (b0).h), .sc (.int .i64 (b0).by_), .sl (.nd [.lf, .lf, .lf, .lf, .lf, .lf, .lf]) (txsA (b0).txs) .ro]) :=
  .st rfl (.cons (Weak.refl _) (.cons (Weak.refl _) (.cons (Weak.refl _) (.cons (Weak.refl _) (.cons (.sl (.inl rfl) .nil) .nil)))))
theorem c_bsame0 (b : Bl) (hl : b.txs.length < 4294967296) : FnOK Tryd.prog D 33 [(AV.st [.ar 32 .lf (by8 (b).p), .sc (.int .i64 (b).v), .sc (.int .i64 (b).h), .sc (.int .i64 (b).by_), .sl (.nd [.lf, .lf, .lf, .lf, .lf, .lf, .lf]) (txsA (b).txs) .ro]), .st [.ar 32 .lf (List.replicate 32 (AV.sc (.int .u8 (0)))), (AV.sc (.int .i64 (0))), (AV.sc (.int .i64 (0))), (AV.sc (.int .i64 (0))), .sl (.nd [.lf, .lf, .lf, .lf, .lf, .lf, .lf]) [] .ex]] [] (fun r st => r = (AV.sc (.bool (decide (b = b0)))) ∧ st = []) :=
  (c_bsame b b0 hl).weak (.cons (Weak.refl _) (.cons weak0 .nil))
theorem c_bcheck (b : Bl) (hl : b.txs.length < 4294967296) (hk : shortK b.txs) : FnOK Tryd.prog D 30 [(AV.st [.ar 32 .lf (by8 (b).p), .sc (.int .i64 (b).v), .sc (.int .i64 (b).h), .sc (.int .i64 (b).by_), .sl (.nd [.lf, .lf, .lf, .lf, .lf, .lf, .lf]) (txsA (b).txs) .ro])] [] (fun r st => r = (AV.sc (.int .i64 (if mayB b = true then 0 else 1))) ∧ st = []) := by
  have hll := lenT b.txs
  refine fnok_of_W hmix tabOK Tryd.func30 rfl rfl (Nat.le_of_ble_eq_true rfl) ?_
  conv => whnf
  refine ⟨tabF30R1, by decide +kernel, ?_⟩
  conv => whnf
  refine ⟨_, _, c_first, ?_⟩
  conv => whnf
  refine ⟨_, _, c_bsame0 b hl, ?_⟩
  conv => whnf
  cases h0 : decide (b = b0)
  · conv => whnf
    repeat' (first
      | (refine (c_bwithin _ _ _).mono fun r st e => ?_
         obtain ⟨rfl, rfl⟩ := e
         conv => whnf)
      | (refine (c_anybad b.txs hl hk).mono fun r st e => ?_
         obtain ⟨rfl, rfl⟩ := e
         conv => whnf)
      | (refine And.intro (by omega) ?_
         conv => whnf)
      | (refine Branch.of (fun h => ?_) (fun h => ?_) <;> (rw [h]; conv => whnf)))
    all_goals refine ⟨false, [], ?_⟩
    all_goals conv => whnf
    all_goals refine ⟨?_, rfl⟩
    all_goals rw [mayB_eq, h0]
    all_goals congr 2
    all_goals (try simp_all)
    all_goals first | done | omega | (intros; omega)
  · conv => whnf
    refine ⟨false, [], ?_⟩
    conv => whnf
    refine ⟨?_, rfl⟩
    rw [mayB_eq, h0]
    rfl
end Go.WL.T6d
