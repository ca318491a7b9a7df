/- Why a transaction may not be. No condition. -/
import Derived.Test.YtcmdkiejkheahaaDoorPart04
import Derived.Test.YtcmdkiejkheahaaDoorWordsD
set_option linter.unusedVariables false
set_option linter.unusedSimpArgs false
namespace Go.WL.T6d
open Go.WL Go.Proofs
set_option maxRecDepth 20000
set_option maxHeartbeats 8000000
structure Tx where
  f : Int
  n : Int
  k : Int
  to : Int
  am : Int
  key : List UInt8
  val : List UInt8
  deriving DecidableEq
def keyc (c : UInt8) : Bool := decide (97 ≤ c.toNat ∧ c.toNat ≤ 122) || decide (48 ≤ c.toNat ∧ c.toNat ≤ 57)
def okKey (s : List UInt8) : Bool := s.all keyc && decide (1 ≤ s.length ∧ s.length ≤ 16)
@[irreducible] def mayT (t : Tx) : Bool := decide (1 ≤ t.f ∧ t.f ≤ 40) && decide (1 ≤ t.n ∧ t.n ≤ 1099511627776) &&
  (if t.k = 1 then decide (1 ≤ t.to ∧ t.to ≤ 40) && decide (0 ≤ t.am ∧ t.am ≤ 1099511627776) && (t.key == []) && (t.val == [])
  else if t.k = 2 then (t.to == 0) && (t.am == 0) && okKey t.key && decide (t.val.length ≤ 200)
  else if t.k = 3 then (t.to == 0) && (t.am == 0) && okKey t.key && (t.val == []) else false)
theorem mayT_eq (t : Tx) : mayT t = (decide (1 ≤ t.f ∧ t.f ≤ 40) && decide (1 ≤ t.n ∧ t.n ≤ 1099511627776) &&
  (if t.k = 1 then decide (1 ≤ t.to ∧ t.to ≤ 40) && decide (0 ≤ t.am ∧ t.am ≤ 1099511627776) && (t.key == []) && (t.val == [])
  else if t.k = 2 then (t.to == 0) && (t.am == 0) && okKey t.key && decide (t.val.length ≤ 200)
  else if t.k = 3 then (t.to == 0) && (t.am == 0) && okKey t.key && (t.val == []) else false)) := by unfold mayT; rfl
theorem c_txwithin (n lo hi : Int) : FnOK Tryd.prog D 70 [(AV.sc (.int .i64 (n))), (AV.sc (.int .i64 (lo))), (AV.sc (.int .i64 (hi)))] [] (fun r st => r = (AV.sc (.bool (decide (lo ≤ n ∧ n ≤ hi)))) ∧ st = []) := by
  refine fnok_of_W hmix tabOK Tryd.func70 rfl rfl (Nat.le_of_ble_eq_true rfl) ?_
  conv => whnf
  refine Branch.of (fun h => ?_) (fun h => ?_) <;> rw [h] <;> conv => whnf
  · simp only [ge_iff_le, decide_eq_true_eq] at h
    refine ⟨false, [], ?_⟩
    conv => whnf
    refine ⟨?_, rfl⟩
    congr 2
    simp [h]
  · simp only [ge_iff_le, decide_eq_false_iff_not] at h
    refine ⟨false, [], ?_⟩
    conv => whnf
    refine ⟨?_, rfl⟩
    congr 2
    simp [h]
theorem take_all (s : List UInt8) (i : Nat) (h : i < s.length) (p : UInt8 → Bool) (ha : (s.take i).all p = true) (hp : p s[i] = true) : (s.take (i + 1)).all p = true := by
  rw [List.take_succ_eq_append_getElem h, List.all_append, ha]
  simp [hp]
theorem all_no (s : List UInt8) (i : Nat) (h : i < s.length) (p : UInt8 → Bool) (hp : p s[i] = false) : s.all p = false := by
  rw [List.all_eq_false]
  exact ⟨s[i], List.getElem_mem h, by simp [hp]⟩
theorem keyc_yes {c : UInt8} (h : (97 ≤ c.toNat ∧ c.toNat ≤ 122) ∨ (48 ≤ c.toNat ∧ c.toNat ≤ 57)) : keyc c = true := by
  unfold keyc
  simpa using h
theorem keyc_no {c : UInt8} (h : ¬ ((97 ≤ c.toNat ∧ c.toNat ≤ 122) ∨ (48 ≤ c.toNat ∧ c.toNat ≤ 57))) : keyc c = false := by
  unfold keyc
  rw [Bool.or_eq_false_iff, decide_eq_false_iff_not, decide_eq_false_iff_not]
  omega
theorem c_txkey (s : List UInt8) (hs : s.length < 4294967296) : FnOK Tryd.prog D 71 [(AV.sc (.string (strB (s))))] [] (fun r st => r = (AV.sc (.bool (okKey s))) ∧ st = []) := by
  have hlen := len8 s
  refine fnok_of_W hmix tabOK Tryd.func71 rfl rfl (Nat.le_of_ble_eq_true rfl) ?_
  conv => whnf
  refine And.intro (by rw [strB_size]; omega) ?_
  conv => whnf
  rw [bytes_strB]
  refine ⟨false, [0, 6, 7, 8], fun τ => ∃ i : Nat, i ≤ s.length ∧ (s.take i).all keyc = true ∧ τ = ⟨30, [(0, (AV.sc (.string (strB (s))))), (6, (AV.sl .lf (by8 (s)) .ro)), (7, (AV.sc (.int .i64 ((s.length : Int))))), (8, (AV.sc (.int .i64 ((i : Int)))))], ⟨[], [], 0⟩⟩, fun τ => s.length - (slotI τ 8).toNat, ?_, ?_⟩
  · conv => whnf
    refine ⟨0, by omega, rfl, ?_⟩
    rw [hlen]
    rfl
  rintro τ ⟨i, hi, ha, rfl⟩
  conv => whnf
  refine Branch.of (fun h1 => ?_) (fun h1 => ?_) <;> rw [h1] <;> conv => whnf
  rotate_left
  · simp only [decide_eq_false_iff_not] at h1
    rw [List.take_of_length_le (by omega)] at ha
    rw [strB_size]
    refine (c_txwithin s.length 1 16).mono fun r st e => ?_
    obtain ⟨rfl, rfl⟩ := e
    conv => whnf
    refine ⟨false, [], ?_⟩
    conv => whnf
    refine ⟨?_, rfl⟩
    congr 2
    unfold okKey
    rw [ha, Bool.true_and, decide_eq_decide]
    omega
  simp only [decide_eq_true_eq] at h1
  have hil : i < s.length := by omega
  repeat (refine And.intro (by first | omega) ?_; conv => whnf)
  rw [Int.toNat_natCast]
  refine ⟨_, at8u hil, ?_⟩
  conv => whnf
  have next : keyc s[i] = true → ∃ i' : Nat, i' ≤ s.length ∧ (s.take i').all keyc = true ∧ i' = i + 1 := fun h => ⟨i + 1, by omega, take_all s i hil keyc ha h, rfl⟩
  have no : keyc s[i] = false → okKey s = false := fun h => by unfold okKey; rw [all_no s i hil keyc h]; rfl
  have hc := s[i].toNat_lt
  refine Branch.of (fun h2 => ?_) (fun h2 => ?_) <;> rw [h2] <;> conv => whnf
  · simp only [decide_eq_true_eq] at h2
    refine Branch.of (fun h3 => ?_) (fun h3 => ?_) <;> rw [h3] <;> conv => whnf
    · simp only [decide_eq_true_eq] at h3
      refine ⟨false, [], ?_⟩
      conv => whnf
      refine ⟨?_, rfl⟩
      rw [no (keyc_no (by omega))]
    · simp only [decide_eq_false_iff_not] at h3
      refine Branch.of (fun h4 => ?_) (fun h4 => ?_) <;> rw [h4] <;> conv => whnf
      · simp only [gt_iff_lt, decide_eq_true_eq] at h4
        refine ⟨false, [], ?_⟩
        conv => whnf
        refine ⟨?_, rfl⟩
        rw [no (keyc_no (by omega))]
      · simp only [gt_iff_lt, decide_eq_false_iff_not] at h4
        obtain ⟨i', h5, h6, rfl⟩ := next (keyc_yes (by omega))
        rw [w64 (x := (i : Int) + 1) (by omega) (by omega)]
        refine ⟨⟨i + 1, h5, h6, rfl⟩, ?_⟩
        show s.length - ((i : Int) + 1).toNat < s.length - (i : Int).toNat
        omega
  · simp only [decide_eq_false_iff_not] at h2
    refine Branch.of (fun h3 => ?_) (fun h3 => ?_) <;> rw [h3] <;> conv => whnf
    · simp only [gt_iff_lt, decide_eq_true_eq] at h3
      refine Branch.of (fun h4 => ?_) (fun h4 => ?_) <;> rw [h4] <;> conv => whnf
      · simp only [decide_eq_true_eq] at h4
        omega
      · simp only [decide_eq_false_iff_not] at h4
        refine Branch.of (fun h5 => ?_) (fun h5 => ?_) <;> rw [h5] <;> conv => whnf
        · refine ⟨false, [], ?_⟩
          conv => whnf
          refine ⟨?_, rfl⟩
          rw [no (keyc_no (by omega))]
        · simp only [gt_iff_lt, decide_eq_false_iff_not] at h5
          omega
    · simp only [gt_iff_lt, decide_eq_false_iff_not] at h3
      obtain ⟨i', h5, h6, rfl⟩ := next (keyc_yes (by omega))
      rw [w64 (x := (i : Int) + 1) (by omega) (by omega)]
      refine ⟨⟨i + 1, h5, h6, rfl⟩, ?_⟩
      show s.length - ((i : Int) + 1).toNat < s.length - (i : Int).toNat
      omega
end Go.WL.T6d
namespace Go.WL.T6d
open Go.WL Go.Proofs
set_option maxRecDepth 20000
set_option maxHeartbeats 8000000
theorem c_txcheck (t : Tx) (hk : t.key.length < 4294967296) : FnOK Tryd.prog D 15 [(AV.st [.sc (.int .i64 (t).f), .sc (.int .i64 (t).n), .sc (.int .i64 (t).k), .sc (.int .i64 (t).to), .sc (.int .i64 (t).am), .sc (.string (strB (t).key)), .sc (.string (strB (t).val))])] [] (fun r st => r = (AV.sc (.int .i64 (if mayT t = true then 0 else 1))) ∧ st = []) := by
  have hkk := strB_size t.key
  have hvv := strB_size t.val
  have nn := nil_str
  have s1 := strB_list t.key
  have s2 := strB_list t.val
  refine fnok_of_W hmix tabOK Tryd.func15 rfl rfl (Nat.le_of_ble_eq_true rfl) ?_
  conv => whnf
  repeat' (first
    | (refine (c_txwithin _ _ _).mono fun r st e => ?_
       obtain ⟨rfl, rfl⟩ := e
       conv => whnf)
    | (refine (c_txkey _ hk).mono fun r st e => ?_
       obtain ⟨rfl, rfl⟩ := e
       conv => whnf)
    | (refine And.intro (by omega) ?_
       conv => whnf)
    | (refine Branch.of (fun h => ?_) (fun h => ?_) <;> (rw [h]; conv => whnf)))
  all_goals refine ⟨false, [], ?_⟩
  all_goals conv => whnf
  all_goals refine ⟨?_, rfl⟩
  all_goals rw [mayT_eq]
  all_goals congr 2
  all_goals (try simp_all)
  all_goals first | done | omega | (intros; omega) | (rw [Bool.eq_iff_iff]; simp only [Bool.and_eq_true, Bool.or_eq_true, Bool.not_eq_true', decide_eq_true_eq, decide_eq_false_iff_not, beq_iff_eq]; omega)
theorem c_txkeyR (s : List UInt8) (hs : s.length < 4294967296) : FnOK Tryd.prog D 66 [(AV.sc (.string (strB (s))))] [] (fun r st => r = (AV.sc (.bool (okKey s))) ∧ st = []) := by
  have hsz := strB_size s
  refine fnok_of_W hmix tabOK Tryd.func66 rfl rfl (Nat.le_of_ble_eq_true rfl) ?_
  conv => whnf
  refine ⟨false, [0, 3], fun τ => ∃ i : Nat, i ≤ s.length ∧ (s.take i).all keyc = true ∧ τ = ⟨41, [(0, (AV.sc (.string (strB (s))))), (3, (AV.sc (.int .i64 ((i : Int)))))], ⟨[], [], 0⟩⟩, fun τ => s.length - (slotI τ 3).toNat, ?_, ?_⟩
  · conv => whnf
    exact ⟨0, by omega, rfl, rfl⟩
  rintro τ ⟨i, hi, ha, rfl⟩
  conv => whnf
  rw [hsz]
  refine Branch.of (fun h1 => ?_) (fun h1 => ?_) <;> rw [h1] <;> conv => whnf
  · simp only [decide_eq_true_eq] at h1
    have hil : i < s.length := by omega
    have hat : (strB s).toList[((i : Nat) : Int).toNat]? = some s[i] := by rw [strB_list, Int.toNat_natCast, List.getElem?_eq_getElem hil]
    have next : (97 ≤ s[i].toNat ∧ s[i].toNat ≤ 122) ∨ (48 ≤ s[i].toNat ∧ s[i].toNat ≤ 57) → (s.take (i + 1)).all keyc = true := fun h => take_all s i hil keyc ha (keyc_yes h)
    have no : ¬ ((97 ≤ s[i].toNat ∧ s[i].toNat ≤ 122) ∨ (48 ≤ s[i].toNat ∧ s[i].toNat ≤ 57)) → okKey s = false := fun h => by unfold okKey; rw [all_no s i hil keyc (keyc_no h)]; rfl
    repeat' (first
      | (refine ⟨_, hat, ?_⟩
         conv => whnf)
      | (refine And.intro (by omega) ?_
         conv => whnf)
      | (refine Branch.of (fun h => ?_) (fun h => ?_) <;> (rw [h]; conv => whnf)))
    all_goals simp only [ge_iff_le, Bool.not_eq_true', Bool.not_eq_false', decide_eq_true_eq, decide_eq_false_iff_not] at *
    all_goals first
      | (refine ⟨false, [], ?_⟩
         conv => whnf
         refine ⟨?_, rfl⟩
         rw [no (by omega)])
      | (rw [w64 (x := (i : Int) + 1) (by omega) (by omega)]
         refine ⟨⟨i + 1, by omega, next (by omega), rfl⟩, ?_⟩
         show s.length - ((i : Int) + 1).toNat < s.length - (i : Int).toNat
         omega)
  · simp only [decide_eq_false_iff_not] at h1
    rw [List.take_of_length_le (by omega)] at ha
    have e : okKey s = decide (1 ≤ s.length ∧ s.length ≤ 16) := by unfold okKey; rw [ha, Bool.true_and]
    clear ha hi h1
    generalize s.length = L at *
    repeat' (first
      | (refine And.intro (by omega) ?_
         conv => whnf)
      | (refine Branch.of (fun h => ?_) (fun h => ?_) <;> (rw [h]; conv => whnf)))
    all_goals refine ⟨false, [], ?_⟩
    all_goals conv => whnf
    all_goals refine ⟨?_, rfl⟩
    all_goals rw [e]
    all_goals congr 2
    all_goals (try simp_all)
    all_goals first | done | omega | (intros; omega) | (rw [Bool.eq_iff_iff]; simp only [Bool.and_eq_true, Bool.or_eq_true, Bool.not_eq_true', decide_eq_true_eq, decide_eq_false_iff_not, beq_iff_eq]; omega)
theorem c_mayR (t : Tx) (hk : t.key.length < 4294967296) : FnOK Tryd.prog D 13 [(AV.st [.sc (.int .i64 (t).f), .sc (.int .i64 (t).n), .sc (.int .i64 (t).k), .sc (.int .i64 (t).to), .sc (.int .i64 (t).am), .sc (.string (strB (t).key)), .sc (.string (strB (t).val))])] [] (fun r st => r = (AV.sc (.bool (mayT t))) ∧ st = []) := by
  have hkk := strB_size t.key
  have hvv := strB_size t.val
  have nn := nil_str
  have s1 := strB_list t.key
  have s2 := strB_list t.val
  refine fnok_of_W hmix tabOK Tryd.func13 rfl rfl (Nat.le_of_ble_eq_true rfl) ?_
  conv => whnf
  repeat' (first
    | (refine (c_txkeyR _ hk).mono fun r st e => ?_
       obtain ⟨rfl, rfl⟩ := e
       conv => whnf)
    | (refine And.intro (by omega) ?_
       conv => whnf)
    | (refine Branch.of (fun h => ?_) (fun h => ?_) <;> (rw [h]; conv => whnf)))
  all_goals refine ⟨false, [], ?_⟩
  all_goals conv => whnf
  all_goals refine ⟨?_, rfl⟩
  all_goals rw [mayT_eq]
  all_goals congr 2
  all_goals (try simp_all)
  all_goals first | done | omega | (intros; omega) | (rw [Bool.eq_iff_iff]; simp only [Bool.and_eq_true, Bool.or_eq_true, Bool.not_eq_true', decide_eq_true_eq, decide_eq_false_iff_not, beq_iff_eq]; omega)
end Go.WL.T6d
