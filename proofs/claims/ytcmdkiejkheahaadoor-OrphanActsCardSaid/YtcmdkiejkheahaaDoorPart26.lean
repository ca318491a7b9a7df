/- Which blocks there may be. No condition. -/
import Derived.Test.YtcmdkiejkheahaaDoorPart24
import Derived.Test.YtcmdkiejkheahaaDoorPart25
import Derived.Test.YtcmdkiejkheahaaDoorWordsD
set_option linter.unusedVariables false
set_option linter.unusedSimpArgs false
namespace Go.WL.T6d
open Go.WL Go.Proofs
set_option maxRecDepth 20000
set_option maxHeartbeats 8000000
/-- Transactions, as cells of a row. -/
def txsA (l : List Tx) : List AV := l.map fun t => (AV.st [.sc (.int .i64 (t).f), .sc (.int .i64 (t).n), .sc (.int .i64 (t).k), .sc (.int .i64 (t).to), .sc (.int .i64 (t).am), .sc (.string (strB (t).key)), .sc (.string (strB (t).val))])
theorem lenT (l : List Tx) : (txsA l).length = l.length := by simp [txsA]
theorem atT {l : List Tx} {i : Nat} (h : i < l.length) : (txsA l)[((i : Nat) : Int).toNat]? = some (AV.st [.sc (.int .i64 (l[i]).f), .sc (.int .i64 (l[i]).n), .sc (.int .i64 (l[i]).k), .sc (.int .i64 (l[i]).to), .sc (.int .i64 (l[i]).am), .sc (.string (strB (l[i]).key)), .sc (.string (strB (l[i]).val))]) := by simp [txsA, h]
structure Bl where
  p : List UInt8
  v : Int
  h : Int
  by_ : Int
  txs : List Tx
  deriving DecidableEq
theorem tx_eq (a b : Tx) : (a.f == b.f && (a.n == b.n && (a.k == b.k && (a.to == b.to && (a.am == b.am && ((strB a.key).toList == (strB b.key).toList && ((strB a.val).toList == (strB b.val).toList && true))))))) = decide (a = b) := by
  rw [beq_strB, beq_strB]
  obtain ⟨f, n, k, to, am, key, val⟩ := a
  obtain ⟨f2, n2, k2, to2, am2, key2, val2⟩ := b
  rw [Bool.eq_iff_iff]
  simp
theorem take_eq {l m : List Tx} {i : Nat} (h1 : i < l.length) (h2 : i < m.length) (h : l.take i = m.take i) (e : l[i] = m[i]) : l.take (i + 1) = m.take (i + 1) := by
  rw [List.take_succ_eq_append_getElem h1, List.take_succ_eq_append_getElem h2, h, e]
theorem c_equal (l m : List Tx) (hl : l.length < 4294967296) : FnOK Tryd.prog D 89 [(AV.sl (.nd [.lf, .lf, .lf, .lf, .lf, .lf, .lf]) (txsA (l)) .ro), (AV.sl (.nd [.lf, .lf, .lf, .lf, .lf, .lf, .lf]) (txsA (m)) .ro)] [] (fun r st => r = (AV.sc (.bool (decide (l = m)))) ∧ st = []) := by
  have hll := lenT l
  have hlm := lenT m
  refine fnok_of_W hmix tabOK Tryd.func89 rfl rfl (Nat.le_of_ble_eq_true rfl) ?_
  conv => whnf
  rw [hll, hlm]
  refine Branch.of (fun h1 => ?_) (fun h1 => ?_) <;> rw [h1] <;> conv => whnf
  · simp only [bne_iff_ne, ne_eq] at h1
    refine ⟨false, [], ?_⟩
    conv => whnf
    refine ⟨?_, rfl⟩
    rw [decide_eq_false (fun e : l = m => h1 (by rw [e]))]
  simp only [bne_eq_false_iff_eq] at h1
  rw [hll]
  refine ⟨false, [0, 1, 12, 13], fun τ => ∃ i : Nat, i ≤ l.length ∧ l.take i = m.take i ∧ τ = ⟨26, [(0, (AV.sl (.nd [.lf, .lf, .lf, .lf, .lf, .lf, .lf]) (txsA (l)) .ro)), (1, (AV.sl (.nd [.lf, .lf, .lf, .lf, .lf, .lf, .lf]) (txsA (m)) .ro)), (12, (AV.sc (.int .i64 ((l.length : Int))))), (13, (AV.sc (.int .i64 ((i : Int)))))], ⟨[], [], 0⟩⟩, fun τ => l.length - (slotI τ 13).toNat, ?_, ?_⟩
  · conv => whnf
    exact ⟨0, by omega, rfl, rfl⟩
  rintro τ ⟨i, hi, ht, rfl⟩
  conv => whnf
  refine Branch.of (fun h2 => ?_) (fun h2 => ?_) <;> rw [h2] <;> conv => whnf
  · simp only [decide_eq_true_eq] at h2
    have il : i < l.length := by omega
    have im : i < m.length := by omega
    refine ⟨tabF89R6, by decide +kernel, ?_⟩
    conv => whnf
    repeat (refine And.intro (by first | omega) ?_; conv => whnf)
    refine ⟨_, atT il, ?_⟩
    conv => whnf
    repeat (refine And.intro (by first | omega) ?_; conv => whnf)
    refine ⟨_, atT im, ?_⟩
    conv => whnf
    rw [tx_eq]
    refine Branch.of (fun h3 => ?_) (fun h3 => ?_) <;> rw [h3] <;> conv => whnf
    · simp only [Bool.not_eq_true', decide_eq_false_iff_not] at h3
      refine ⟨false, [], ?_⟩
      conv => whnf
      refine ⟨?_, rfl⟩
      rw [decide_eq_false]
      intro e
      subst e
      exact h3 rfl
    · simp only [Bool.not_eq_false', decide_eq_true_eq] at h3
      rw [w64 (x := (i : Int) + 1) (by omega) (by omega)]
      refine ⟨⟨i + 1, by omega, take_eq il im ht h3, rfl⟩, ?_⟩
      show l.length - ((i : Int) + 1).toNat < l.length - (i : Int).toNat
      omega
  · simp only [decide_eq_false_iff_not] at h2
    rw [List.take_of_length_le (by omega), List.take_of_length_le (by omega)] at ht
    refine ⟨false, [], ?_⟩
    conv => whnf
    refine ⟨?_, rfl⟩
    rw [decide_eq_true ht]
theorem bl_eq (a b : Bl) : a = b ↔ a.p = b.p ∧ a.v = b.v ∧ a.h = b.h ∧ a.by_ = b.by_ ∧ a.txs = b.txs := by
  obtain ⟨p, v, h, y, t⟩ := a
  obtain ⟨p2, v2, h2, y2, t2⟩ := b
  simp
theorem c_bsame (a b : Bl) (hl : a.txs.length < 4294967296) : FnOK Tryd.prog D 33 [(AV.st [.ar 32 .lf (by8 (a).p), .sc (.int .i64 (a).v), .sc (.int .i64 (a).h), .sc (.int .i64 (a).by_), .sl (.nd [.lf, .lf, .lf, .lf, .lf, .lf, .lf]) (txsA (a).txs) .ro]), (AV.st [.ar 32 .lf (by8 (b).p), .sc (.int .i64 (b).v), .sc (.int .i64 (b).h), .sc (.int .i64 (b).by_), .sl (.nd [.lf, .lf, .lf, .lf, .lf, .lf, .lf]) (txsA (b).txs) .ro])] [] (fun r st => r = (AV.sc (.bool (decide (a = b)))) ∧ st = []) := by
  have e := bl_eq a b
  refine fnok_of_W hmix tabOK Tryd.func33 rfl rfl (Nat.le_of_ble_eq_true rfl) ?_
  conv => whnf
  refine ⟨a.p, b.p, rfl, rfl, ?_⟩
  conv => whnf
  repeat' (first
    | (refine (c_equal _ _ hl).mono fun r st e => ?_
       obtain ⟨rfl, rfl⟩ := e
       conv => whnf)
    | (refine And.intro (by omega) ?_
       conv => whnf)
    | (refine Branch.of (fun h => ?_) (fun h => ?_) <;> (rw [h]; conv => whnf)))
  all_goals refine ⟨false, [], ?_⟩
  all_goals conv => whnf
  all_goals refine ⟨?_, rfl⟩
  all_goals congr 2
  all_goals simp_all
end Go.WL.T6d
namespace Go.WL.T6d
open Go.WL Go.Proofs
set_option maxRecDepth 20000
set_option maxHeartbeats 8000000
def b0 : Bl := ⟨z32, 0, 0, 0, []⟩
abbrev shortK (l : List Tx) : Prop := ∀ t ∈ l, t.key.length < 4294967296
theorem c_bwithin (n lo hi : Int) : FnOK Tryd.prog D 86 [(AV.sc (.int .i64 (n))), (AV.sc (.int .i64 (lo))), (AV.sc (.int .i64 (hi)))] [] (fun r st => r = (AV.sc (.bool (decide (lo ≤ n ∧ n ≤ hi)))) ∧ st = []) := by
  refine fnok_of_W hmix tabOK Tryd.func86 rfl rfl (Nat.le_of_ble_eq_true rfl) ?_
  conv => whnf
  repeat' (first
    | (refine And.intro (by omega) ?_
       conv => whnf)
    | (refine Branch.of (fun h => ?_) (fun h => ?_) <;> (rw [h]; conv => whnf)))
  all_goals refine ⟨false, [], ?_⟩
  all_goals conv => whnf
  all_goals refine ⟨?_, rfl⟩
  all_goals congr 2
  all_goals (try simp_all)
  all_goals first | done | omega | (intros; omega) | (rw [Bool.eq_iff_iff]; simp only [Bool.and_eq_true, Bool.or_eq_true, Bool.not_eq_true', decide_eq_true_eq, decide_eq_false_iff_not, beq_iff_eq]; omega)
theorem c_first : FnOK Tryd.prog D 79 [] [] (fun r st => r = .st [.ar 32 .lf (List.replicate 32 (AV.sc (.int .u8 (0)))), (AV.sc (.int .i64 (0))), (AV.sc (.int .i64 (0))), (AV.sc (.int .i64 (0))), .sl (.nd [.lf, .lf, .lf, .lf, .lf, .lf, .lf]) [] .ex] ∧ st = []) := by
  refine fnok_of_W hmix tabOK Tryd.func79 rfl rfl (Nat.le_of_ble_eq_true rfl) ?_
  conv => whnf
  refine ⟨false, [], ?_⟩
  conv => whnf
  exact ⟨rfl, rfl⟩
theorem c_bad (t : Tx) (hk : t.key.length < 4294967296) : FnOK Tryd.prog D 88 [(AV.st [.sc (.int .i64 (t).f), .sc (.int .i64 (t).n), .sc (.int .i64 (t).k), .sc (.int .i64 (t).to), .sc (.int .i64 (t).am), .sc (.string (strB (t).key)), .sc (.string (strB (t).val))])] [] (fun r st => r = (AV.sc (.bool (!mayT t))) ∧ st = []) := by
  have ck := c_txcheck t hk
  refine fnok_of_W hmix tabOK Tryd.func88 rfl rfl (Nat.le_of_ble_eq_true rfl) ?_
  conv => whnf
  refine (ck).mono fun r st e => ?_
  obtain ⟨rfl, rfl⟩ := e
  conv => whnf
  refine ⟨false, [], ?_⟩
  conv => whnf
  refine ⟨?_, rfl⟩
  cases mayT t <;> rfl
theorem c_indexbad (l : List Tx) (hl : l.length < 4294967296) (hk : shortK l) : FnOK Tryd.prog D 117 [(AV.sl (.nd [.lf, .lf, .lf, .lf, .lf, .lf, .lf]) (txsA (l)) .ro), .fn 88 []] [] (fun r st => (∃ k : Int, r = (AV.sc (.int .i64 (k))) ∧ decide (k ≥ 0) = !(l.all mayT)) ∧ st = []) := by
  have hll := lenT l
  refine fnok_of_W hmix tabOK Tryd.func117 rfl rfl (Nat.le_of_ble_eq_true rfl) ?_
  conv => whnf
  rw [hll]
  refine ⟨false, [0, 1, 7, 8], fun τ => ∃ i : Nat, i ≤ l.length ∧ (l.take i).all mayT = true ∧ τ = ⟨19, [(0, (AV.sl (.nd [.lf, .lf, .lf, .lf, .lf, .lf, .lf]) (txsA (l)) .ro)), (1, .fn 88 []), (7, (AV.sc (.int .i64 ((l.length : Int))))), (8, (AV.sc (.int .i64 ((i : Int)))))], ⟨[], [], 0⟩⟩, fun τ => l.length - (slotI τ 8).toNat, ?_, ?_⟩
  · conv => whnf
    exact ⟨0, by omega, rfl, rfl⟩
  rintro τ ⟨i, hi, ha, rfl⟩
  conv => whnf
  refine Branch.of (fun h1 => ?_) (fun h1 => ?_) <;> rw [h1] <;> conv => whnf
  · simp only [decide_eq_true_eq] at h1
    have il : i < l.length := by omega
    repeat (refine And.intro (by first | omega) ?_; conv => whnf)
    refine ⟨_, atT il, ?_⟩
    conv => whnf
    refine (c_bad l[i] (hk _ (List.getElem_mem il))).mono fun r st e => ?_
    obtain ⟨rfl, rfl⟩ := e
    conv => whnf
    cases h2 : mayT l[i]
    · conv => whnf
      refine ⟨false, [], ?_⟩
      conv => whnf
      refine ⟨⟨(i : Int), rfl, ?_⟩, rfl⟩
      have e : l.all mayT = false := by
        rw [List.all_eq_false]
        exact ⟨l[i], List.getElem_mem il, by rw [h2]; simp⟩
      rw [e, decide_eq_true (show (i : Int) ≥ 0 by omega)]
      rfl
    · conv => whnf
      rw [w64 (x := (i : Int) + 1) (by omega) (by omega)]
      refine ⟨⟨i + 1, by omega, ?_, rfl⟩, ?_⟩
      · rw [List.take_succ_eq_append_getElem il, List.all_append, ha]
        simp [h2]
      · show l.length - ((i : Int) + 1).toNat < l.length - (i : Int).toNat
        omega
  · simp only [decide_eq_false_iff_not] at h1
    rw [List.take_of_length_le (by omega)] at ha
    refine ⟨false, [], ?_⟩
    conv => whnf
    refine ⟨⟨-1, rfl, ?_⟩, rfl⟩
    rw [ha]
    rfl
theorem c_anybad (l : List Tx) (hl : l.length < 4294967296) (hk : shortK l) : FnOK Tryd.prog D 87 [(AV.sl (.nd [.lf, .lf, .lf, .lf, .lf, .lf, .lf]) (txsA (l)) .ro), .fn 88 []] [] (fun r st => r = (AV.sc (.bool (!(l.all mayT)))) ∧ st = []) := by
  refine fnok_of_W hmix tabOK Tryd.func87 rfl rfl (Nat.le_of_ble_eq_true rfl) ?_
  conv => whnf
  refine (c_indexbad l hl hk).mono fun r st e => ?_
  obtain ⟨⟨k, rfl, hk2⟩, rfl⟩ := e
  conv => whnf
  refine ⟨false, [], ?_⟩
  conv => whnf
  refine ⟨?_, rfl⟩
  rw [hk2]
@[irreducible] def mayB (b : Bl) : Bool := decide (b = b0) || (decide (1 ≤ b.v ∧ b.v ≤ 1099511627776) && decide (1 ≤ b.h ∧ b.h ≤ 1099511627776) && decide (1 ≤ b.by_ ∧ b.by_ ≤ 21) && decide (b.txs.length ≤ 8) && b.txs.all mayT)
theorem mayB_eq (b : Bl) : mayB b = (decide (b = b0) || (decide (1 ≤ b.v ∧ b.v ≤ 1099511627776) && decide (1 ≤ b.h ∧ b.h ≤ 1099511627776) && decide (1 ≤ b.by_ ∧ b.by_ ≤ 21) && decide (b.txs.length ≤ 8) && b.txs.all mayT)) := by unfold mayB; rfl
theorem weak0 : Weak (.st [.ar 32 .lf (List.replicate 32 (AV.sc (.int .u8 (0)))), (AV.sc (.int .i64 (0))), (AV.sc (.int .i64 (0))), (AV.sc (.int .i64 (0))), .sl (.nd [.lf, .lf, .lf, .lf, .lf, .lf, .lf]) [] .ex]) (AV.st [.ar 32 .lf (by8 (b0).p), .sc (.int .i64 (b0).v), .sc (.int .i64 (b0).h), .sc (.int .i64 (b0).by_), .sl (.nd [.lf, .lf, .lf, .lf, .lf, .lf, .lf]) (txsA (b0).txs) .ro]) :=
  .st rfl (.cons (Weak.refl _) (.cons (Weak.refl _) (.cons (Weak.refl _) (.cons (Weak.refl _) (.cons (.sl (.inl rfl) .nil) .nil)))))
theorem c_bsame0 (b : Bl) (hl : b.txs.length < 4294967296) : FnOK Tryd.prog D 33 [(AV.st [.ar 32 .lf (by8 (b).p), .sc (.int .i64 (b).v), .sc (.int .i64 (b).h), .sc (.int .i64 (b).by_), .sl (.nd [.lf, .lf, .lf, .lf, .lf, .lf, .lf]) (txsA (b).txs) .ro]), .st [.ar 32 .lf (List.replicate 32 (AV.sc (.int .u8 (0)))), (AV.sc (.int .i64 (0))), (AV.sc (.int .i64 (0))), (AV.sc (.int .i64 (0))), .sl (.nd [.lf, .lf, .lf, .lf, .lf, .lf, .lf]) [] .ex]] [] (fun r st => r = (AV.sc (.bool (decide (b = b0)))) ∧ st = []) :=
  (c_bsame b b0 hl).weak (.cons (Weak.refl _) (.cons weak0 .nil))
theorem c_bcheck (b : Bl) (hl : b.txs.length < 4294967296) (hk : shortK b.txs) : FnOK Tryd.prog D 30 [(AV.st [.ar 32 .lf (by8 (b).p), .sc (.int .i64 (b).v), .sc (.int .i64 (b).h), .sc (.int .i64 (b).by_), .sl (.nd [.lf, .lf, .lf, .lf, .lf, .lf, .lf]) (txsA (b).txs) .ro])] [] (fun r st => r = (AV.sc (.int .i64 (if mayB b = true then 0 else 1))) ∧ st = []) := by
  have hll := lenT b.txs
  refine fnok_of_W hmix tabOK Tryd.func30 rfl rfl (Nat.le_of_ble_eq_true rfl) ?_
  conv => whnf
  refine ⟨tabF30R1, by decide +kernel, ?_⟩
  conv => whnf
  refine ⟨_, _, c_first, ?_⟩
  conv => whnf
  refine ⟨_, _, c_bsame0 b hl, ?_⟩
  conv => whnf
  cases h0 : decide (b = b0)
  · conv => whnf
    repeat' (first
      | (refine (c_bwithin _ _ _).mono fun r st e => ?_
         obtain ⟨rfl, rfl⟩ := e
         conv => whnf)
      | (refine (c_anybad b.txs hl hk).mono fun r st e => ?_
         obtain ⟨rfl, rfl⟩ := e
         conv => whnf)
      | (refine And.intro (by omega) ?_
         conv => whnf)
      | (refine Branch.of (fun h => ?_) (fun h => ?_) <;> (rw [h]; conv => whnf)))
    all_goals refine ⟨false, [], ?_⟩
    all_goals conv => whnf
    all_goals refine ⟨?_, rfl⟩
    all_goals rw [mayB_eq, h0]
    all_goals congr 2
    all_goals (try simp_all)
    all_goals first | done | omega | (intros; omega)
  · conv => whnf
    refine ⟨false, [], ?_⟩
    conv => whnf
    refine ⟨?_, rfl⟩
    rw [mayB_eq, h0]
    rfl
end Go.WL.T6d
