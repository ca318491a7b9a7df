/- Accumulations: whether one is right: the program's. No condition. -/
import Derived.Test.YtmpnboonjpcmpaaDoorPart14
import Derived.Test.YtmpnboonjpcmpaaDoorPart26
import Derived.Test.YtmpnboonjpcmpaaDoorWordsD
set_option linter.unusedVariables false
set_option linter.unusedSimpArgs false
namespace Go.WL.T7
open Go.WL Go.Proofs
set_option maxRecDepth 20000
set_option maxHeartbeats 8000000
structure Ac where
  by_ : Int
  v : Int
  pv : Int
  pg : List UInt8
  fr : List Int
  tag : List UInt8
  deriving DecidableEq
abbrev Ac.wf (a : Ac) : Prop := a.pg.length = 32 ∧ a.tag.length = 32
theorem lenI (l : List Int) : (ints .i64 l).length = l.length := by simp [ints]
theorem atI {l : List Int} {i : Nat} (h : i < l.length) : (ints .i64 l)[((i : Nat) : Int).toNat]? = some (AV.sc (.int .i64 (l[i]))) := by
  rw [Int.toNat_natCast]
  simp [ints, h]
def risesI : Int → List Int → Bool
  | _, [] => true
  | last, n :: l => decide (last < n ∧ n ≤ 21) && risesI n l
theorem risesI_cons (last n : Int) (l : List Int) : risesI last (n :: l) = (decide (last < n ∧ n ≤ 21) && risesI n l) := rfl
theorem risesI_mem : ∀ (l : List Int) (last : Int), risesI last l = true → 0 ≤ last → ∀ n ∈ l, 0 < n ∧ n ≤ 21
  | [], _, _, _, n, hn => by simp at hn
  | x :: l, last, h, h0, n, hn => by
    rw [risesI_cons, Bool.and_eq_true, decide_eq_true_eq] at h
    rcases List.mem_cons.1 hn with rfl | hn
    · omega
    · exact risesI_mem l x h.2 (by omega) n hn
theorem risesI_len : ∀ (l : List Int) (last : Int), risesI last l = true → last ≤ 21 → (l.length : Int) ≤ 21 - last
  | [], last, _, h => by simp; omega
  | x :: l, last, h, h0 => by
    rw [risesI_cons, Bool.and_eq_true, decide_eq_true_eq] at h
    have := risesI_len l x h.2 h.1.2
    rw [List.length_cons]
    omega
@[irreducible] def restA (a : Ac) : Bool := isNode a.by_ && decide (1 ≤ a.v ∧ a.v ≤ 1099511627776) && decide (0 ≤ a.pv ∧ a.pv < a.v) && decide (1 ≤ a.fr.length)
theorem restA_eq (a : Ac) : restA a = (isNode a.by_ && decide (1 ≤ a.v ∧ a.v ≤ 1099511627776) && decide (0 ≤ a.pv ∧ a.pv < a.v) && decide (1 ≤ a.fr.length)) := by unfold restA; rfl
def mayAc (a : Ac) : Bool := risesI 0 a.fr && restA a
theorem c_acwithin (n lo hi : Int) : FnOK Tryd.prog D 187 [(AV.sc (.int .i64 (n))), (AV.sc (.int .i64 (lo))), (AV.sc (.int .i64 (hi)))] [] (fun r st => r = (AV.sc (.bool (decide (lo ≤ n ∧ n ≤ hi)))) ∧ st = []) := by
  refine fnok_of_W hmix tabOK Tryd.func187 rfl rfl (Nat.le_of_ble_eq_true rfl) ?_
  conv => whnf
  repeat' (first
    | (refine And.intro (by omega) ?_
       conv => whnf)
    | (refine Branch.of (fun h => ?_) (fun h => ?_) <;> (rw [h]; conv => whnf)))
  all_goals refine ⟨false, [], ?_⟩
  all_goals conv => whnf
  all_goals refine ⟨?_, rfl⟩
  all_goals congr 2
  all_goals (try simp_all)
  all_goals first | done | omega | (intros; omega) | (rw [Bool.eq_iff_iff]; simp only [Bool.and_eq_true, Bool.or_eq_true, Bool.not_eq_true', decide_eq_true_eq, decide_eq_false_iff_not, beq_iff_eq]; omega)
theorem c_acmay (a : Ac) (hl : a.fr.length < 4294967296) : FnOK Tryd.prog D 173 [(AV.st [.sc (.int .i64 (a).by_), .sc (.int .i64 (a).v), .sc (.int .i64 (a).pv), .ar 32 .lf (by8 (a).pg), .sl .lf (ints .i64 (a).fr) .ro, .ar 32 .lf (by8 (a).tag)])] [] (fun r st => r = (AV.sc (.bool (mayAc a))) ∧ st = []) := by
  have hll := lenI a.fr
  have hn : isNode a.by_ = (decide (1 ≤ a.by_) && decide (a.by_ ≤ 21)) := rfl
  have hw : 1 ≤ a.v → a.v ≤ 1099511627776 → IntKind.i64.wrap (a.v - 1) = a.v - 1 := fun h1 h2 => w64 (by omega) (by omega)
  refine fnok_of_W hmix tabOK Tryd.func173 rfl rfl (Nat.le_of_ble_eq_true rfl) ?_
  conv => whnf
  rw [hll]
  refine ⟨false, [1, 3, 7, 8, 9], fun τ => ∃ (i : Nat) (last : Int), i ≤ a.fr.length ∧ risesI 0 a.fr = risesI last (a.fr.drop i) ∧ τ = ⟨44, [(1, .pt 0 []), (3, (AV.sc (.int .i64 (last)))), (7, .sl .lf (ints .i64 a.fr) .ro), (8, (AV.sc (.int .i64 ((a.fr.length : Int))))), (9, (AV.sc (.int .i64 ((i : Int)))))], ⟨[((AV.st [.sc (.int .i64 (a).by_), .sc (.int .i64 (a).v), .sc (.int .i64 (a).pv), .ar 32 .lf (by8 (a).pg), .sl .lf (ints .i64 (a).fr) .ro, .ar 32 .lf (by8 (a).tag)]), false)], [], 0⟩⟩, fun τ => a.fr.length - (slotI τ 9).toNat, ?_, ?_⟩
  · conv => whnf
    exact ⟨0, 0, by omega, rfl, rfl⟩
  rintro τ ⟨i, last, hi, e, rfl⟩
  apply enter3
  intro kk kK
  conv => whnf
  refine Branch.of (fun h1 => ?_) (fun h1 => ?_) <;> rw [h1] <;> conv => whnf
  · simp only [decide_eq_true_eq] at h1
    have il : i < a.fr.length := by omega
    rw [List.drop_eq_getElem_cons il, risesI_cons] at e
    repeat (refine And.intro (by first | omega) ?_; conv => whnf)
    refine ⟨_, atI il, ?_⟩
    conv => whnf
    have no : ¬ (last < a.fr[i] ∧ a.fr[i] ≤ 21) → mayAc a = false := fun h => by unfold mayAc; rw [e, decide_eq_false h]; rfl
    refine Branch.of (fun h2 => ?_) (fun h2 => ?_) <;> rw [h2] <;> conv => whnf
    · simp only [decide_eq_true_eq] at h2
      refine kK _ _ ?_
      conv => whnf
      refine ⟨false, [], ?_⟩
      conv => whnf
      refine ⟨?_, rfl⟩
      rw [no (by omega)]
    · simp only [decide_eq_false_iff_not] at h2
      refine Branch.of (fun h3 => ?_) (fun h3 => ?_) <;> rw [h3] <;> conv => whnf
      · simp only [gt_iff_lt, decide_eq_true_eq] at h3
        refine kK _ _ ?_
        conv => whnf
        refine ⟨false, [], ?_⟩
        conv => whnf
        refine ⟨?_, rfl⟩
        rw [no (by omega)]
      · simp only [gt_iff_lt, decide_eq_false_iff_not] at h3
        refine kK _ _ ?_
        conv => whnf
        rw [w64 (x := (i : Int) + 1) (by omega) (by omega)]
        refine ⟨⟨i + 1, a.fr[i], by omega, ?_, rfl⟩, ?_⟩
        · rw [e, decide_eq_true (show last < a.fr[i] ∧ a.fr[i] ≤ 21 by omega), Bool.true_and]
        · show a.fr.length - ((i : Int) + 1).toNat < a.fr.length - (i : Int).toNat
          omega
  · simp only [decide_eq_false_iff_not] at h1
    rw [List.drop_of_length_le (by omega)] at e
    have e : mayAc a = restA a := by unfold mayAc; rw [e]; rfl
    clear h1 hi
    refine kK _ _ ?_
    conv => whnf
    rw [e]
    clear kK kk e
    generalize hL : a.fr.length = L at *
    repeat' (first
      | (refine (c_node _).mono fun r st e => ?_
         obtain ⟨rfl, rfl⟩ := e
         conv => whnf)
      | (refine (c_acwithin _ _ _).mono fun r st e => ?_
         obtain ⟨rfl, rfl⟩ := e
         conv => whnf)
      | (refine And.intro (by omega) ?_
         conv => whnf)
      | (refine Branch.of (fun h => ?_) (fun h => ?_) <;> (rw [h]; conv => whnf)))
    all_goals refine ⟨false, [], ?_⟩
    all_goals conv => whnf
    all_goals refine ⟨?_, rfl⟩
    all_goals rw [restA_eq, hL]
    all_goals congr 2
    all_goals (try simp_all)
    all_goals first | done | omega | (rw [Bool.eq_iff_iff]; simp only [Bool.and_eq_true, Bool.or_eq_true, Bool.not_eq_true', decide_eq_true_eq, decide_eq_false_iff_not, beq_iff_eq]; omega)
def accB (v pv : Nat) (pg : List UInt8) (fr : List Int) : List UInt8 := num v ++ num pv ++ pg ++ num fr.length ++ fr.flatMap fun n => num n.toNat
theorem frB_len : ∀ (l : List Int), (∀ n ∈ l, 0 < n ∧ n ≤ 21) → (l.flatMap fun n => num n.toNat).length ≤ 6 * l.length
  | [], _ => by simp
  | x :: l, h => by
    have h1 := len6 x.toNat (by have := h x (by simp); omega)
    have h2 := frB_len l fun n hn => h n (List.mem_cons_of_mem _ hn)
    rw [List.flatMap_cons, List.length_append, List.length_cons]
    omega
theorem c_actagged (y : Int) (v pv : Nat) (pg tag : List UInt8) (fr : List Int) (hv : v ≤ 1099511627776) (hpv : pv ≤ 1099511627776) (hg : pg.length = 32) (hfl : fr.length ≤ 21) (hfr : ∀ n ∈ fr, 0 < n ∧ n ≤ 21) :
    FnOK Tryd.prog D 174 [.sl .lf [] .ex, .st [(AV.sc (.int .i64 (y))), (AV.sc (.int .i64 ((v : Int)))), (AV.sc (.int .i64 ((pv : Int)))), .ar 32 .lf (by8 pg), .sl .lf (ints .i64 fr) .ro, .ar 32 .lf (by8 tag)]] [] (fun r st => r = (AV.sl .lf (by8 (accB v pv pg fr)) (.own 0)) ∧ st = []) := by
  have low : ∀ m : Nat, m ≤ 1099511627776 → IntKind.u64.wrap (m : Int) = (m : Int) := fun m h => wu64 (by omega) (by omega)
  have hll := lenI fr
  have l1 := len6 v hv
  have l2 := len6 pv hpv
  have l3 := len6 fr.length (by omega)
  refine fnok_of_W hmix tabOK Tryd.func174 rfl rfl (Nat.le_of_ble_eq_true rfl) ?_
  conv => whnf
  refine ⟨tabF174R1, by decide +kernel, ?_⟩
  conv => whnf
  rw [low v hv]
  refine ⟨_, _, ((c_num [] v (by simp) (by omega) (m := .ex) (.inl rfl))), ?_⟩
  conv => whnf
  rw [List.nil_append, low pv hpv]
  refine ⟨_, _, (c_num (num v) pv (by omega) (by omega) (m := .ro) (.inr rfl)), ?_⟩
  conv => whnf
  refine ⟨tabF174R2, by decide +kernel, ?_⟩
  conv => whnf
  refine ⟨_, _, (c_hash0 (num v ++ num pv) pg (by rw [List.length_append]; omega) hg), ?_⟩
  conv => whnf
  rw [hll, low fr.length (by omega)]
  refine ⟨_, _, (c_num (num v ++ num pv ++ pg) fr.length (by simp only [List.length_append]; omega) (by omega) (m := .ro) (.inr rfl)), ?_⟩
  conv => whnf
  rw [hll]
  refine ⟨false, [0, 3, 26, 27, 28], fun τ => ∃ (i : Nat) (c : List UInt8), i ≤ fr.length ∧ c = num v ++ num pv ++ pg ++ num fr.length ++ (fr.take i).flatMap (fun n => num n.toNat) ∧ τ = ⟨38, [(0, (AV.sl .lf (by8 (c)) (.own 0))), (3, .pt 0 []), (26, .sl .lf (ints .i64 fr) .ro), (27, (AV.sc (.int .i64 ((fr.length : Int))))), (28, (AV.sc (.int .i64 ((i : Int)))))], ⟨[(.st [(AV.sc (.int .i64 (y))), (AV.sc (.int .i64 ((v : Int)))), (AV.sc (.int .i64 ((pv : Int)))), .ar 32 .lf (by8 pg), .sl .lf (ints .i64 fr) .ro, .ar 32 .lf (by8 tag)], false)], [0], 1⟩⟩, fun τ => fr.length - (slotI τ 28).toNat, ?_, ?_⟩
  · conv => whnf
    exact ⟨0, _, by omega, by simp, rfl⟩
  rintro τ ⟨i, c, hi, hc, rfl⟩
  have hcl : c.length ≤ 200 := by
    have := frB_len (fr.take i) fun n hn => hfr n (List.mem_of_mem_take hn)
    rw [List.length_take] at this
    rw [hc]
    simp only [List.length_append]
    omega
  apply enter3
  intro kk kK
  conv => whnf
  refine Branch.of (fun h1 => ?_) (fun h1 => ?_) <;> rw [h1] <;> conv => whnf
  · simp only [decide_eq_true_eq] at h1
    have il : i < fr.length := by omega
    have hn := hfr _ (List.getElem_mem il)
    repeat (refine And.intro (by first | omega) ?_; conv => whnf)
    refine ⟨_, atI il, ?_⟩
    conv => whnf
    obtain ⟨n, e⟩ := Int.eq_ofNat_of_zero_le (show 0 ≤ fr[i] by omega)
    rw [e, low n (by omega)]
    refine (c_num c n (by omega) (by omega) (.inr rfl)).mono fun r st e => ?_
    obtain ⟨rfl, rfl⟩ := e
    conv => whnf
    refine kK _ _ ?_
    conv => whnf
    rw [w64 (x := (i : Int) + 1) (by omega) (by omega)]
    refine ⟨⟨i + 1, _, by omega, ?_, rfl⟩, ?_⟩
    · rw [hc, List.take_succ_eq_append_getElem il, List.flatMap_append, e]
      simp
    · show fr.length - ((i : Int) + 1).toNat < fr.length - (i : Int).toNat
      omega
  · simp only [decide_eq_false_iff_not] at h1
    rw [List.take_of_length_le (by omega)] at hc
    refine kK _ _ ?_
    conv => whnf
    refine ⟨false, [], ?_⟩
    conv => whnf
    refine ⟨?_, rfl⟩
    rw [hc]
    rfl
end Go.WL.T7
