/- Accumulations: whether one is right, by the reference. No condition. -/
import Derived.Test.YtmpnboonjpcmpaaDoorPart28
set_option linter.unusedVariables false
set_option linter.unusedSimpArgs false
namespace Go.WL.T7
open Go.WL Go.Proofs
set_option maxRecDepth 20000
set_option maxHeartbeats 8000000
theorem c_acmayR (a : Ac) (hl : a.fr.length < 4294967296) : FnOK Tryd.prog D 175 [(AV.st [.sc (.int .i64 (a).by_), .sc (.int .i64 (a).v), .sc (.int .i64 (a).pv), .ar 32 .lf (by8 (a).pg), .sl .lf (ints .i64 (a).fr) .ro, .ar 32 .lf (by8 (a).tag)])] [] (fun r st => r = (AV.sc (.bool (mayAc a))) ∧ st = []) := by
  have hll := lenI a.fr
  have hn : isNode a.by_ = (decide (1 ≤ a.by_) && decide (a.by_ ≤ 21)) := rfl
  refine fnok_of_W hmix tabOK Tryd.func175 rfl rfl (Nat.le_of_ble_eq_true rfl) ?_
  conv => whnf
  refine ⟨false, [1, 3], fun τ => ∃ (i : Nat) (last : Int), i ≤ a.fr.length ∧ 0 ≤ last ∧ (i = 0 → last = 0) ∧ (0 < i → ∃ h : i - 1 < a.fr.length, a.fr[i - 1] = last) ∧ risesI 0 a.fr = risesI last (a.fr.drop i) ∧ τ = ⟨79, [(1, .pt 0 []), (3, (AV.sc (.int .i64 ((i : Int)))))], ⟨[((AV.st [.sc (.int .i64 (a).by_), .sc (.int .i64 (a).v), .sc (.int .i64 (a).pv), .ar 32 .lf (by8 (a).pg), .sl .lf (ints .i64 (a).fr) .ro, .ar 32 .lf (by8 (a).tag)]), false)], [], 0⟩⟩, fun τ => a.fr.length - (slotI τ 3).toNat, ?_, ?_⟩
  · conv => whnf
    exact ⟨0, 0, by omega, by omega, by omega, by omega, rfl, rfl⟩
  rintro τ ⟨i, last, hi, h0, hz, hp, e, rfl⟩
  apply enter3
  intro kk kK
  conv => whnf
  rw [hll]
  refine Branch.of (fun h1 => ?_) (fun h1 => ?_) <;> rw [h1] <;> conv => whnf
  · simp only [decide_eq_true_eq] at h1
    have il : i < a.fr.length := by omega
    rw [List.drop_eq_getElem_cons il, risesI_cons] at e
    have no : ¬ (last < a.fr[i] ∧ a.fr[i] ≤ 21) → mayAc a = false := fun h => by unfold mayAc; rw [e, decide_eq_false h]; rfl
    have yes : (last < a.fr[i] ∧ a.fr[i] ≤ 21) → risesI 0 a.fr = risesI a.fr[i] (a.fr.drop (i + 1)) := fun h => by rw [e, decide_eq_true h, Bool.true_and]
    have wi : IntKind.i64.wrap ((i : Int) + 1) = ((i + 1 : Nat) : Int) := by rw [w64 (by omega) (by omega)]; omega
    have wp : 0 < i → IntKind.i64.wrap ((i : Int) - 1) = (i : Int) - 1 := fun h => w64 (by omega) (by omega)
    have atp : 0 < i → (ints .i64 a.fr)[((i : Int) - 1).toNat]? = some (AV.sc (.int .i64 (last))) := by
      intro h
      obtain ⟨h2, h3⟩ := hp h
      have := atI h2
      rw [show (((i - 1 : Nat) : Int)) = (i : Int) - 1 by omega] at this
      rw [this, h3]
    have ai := atI il
    clear e hp
    generalize hcur : a.fr[i] = cur at *
    refine ⟨tabF175R4, by decide +kernel, ?_⟩
    conv => whnf
    refine And.intro (by omega) ?_
    conv => whnf
    refine ⟨_, ai, ?_⟩
    conv => whnf
    refine Branch.of (fun h2 => ?_) (fun h2 => ?_) <;> rw [h2] <;> conv => whnf
    · simp only [decide_eq_true_eq] at h2
      refine kK _ _ ?_
      conv => whnf
      refine ⟨false, [], ?_⟩
      conv => whnf
      refine ⟨?_, rfl⟩
      rw [no (by omega)]
    · simp only [decide_eq_false_iff_not] at h2
      repeat (refine And.intro (by first | omega) ?_; conv => whnf)
      refine ⟨_, ai, ?_⟩
      conv => whnf
      refine Branch.of (fun h3 => ?_) (fun h3 => ?_) <;> rw [h3] <;> conv => whnf
      · simp only [gt_iff_lt, decide_eq_true_eq] at h3
        refine kK _ _ ?_
        conv => whnf
        refine ⟨false, [], ?_⟩
        conv => whnf
        refine ⟨?_, rfl⟩
        rw [no (by omega)]
      · simp only [gt_iff_lt, decide_eq_false_iff_not] at h3
        refine Branch.of (fun h4 => ?_) (fun h4 => ?_) <;> rw [h4] <;> conv => whnf
        · simp only [gt_iff_lt, decide_eq_true_eq] at h4
          rw [wp (by omega)]
          repeat (refine And.intro (by first | omega) ?_; conv => whnf)
          refine ⟨_, atp (by omega), ?_⟩
          conv => whnf
          repeat (refine And.intro (by first | omega) ?_; conv => whnf)
          refine ⟨_, ai, ?_⟩
          conv => whnf
          refine Branch.of (fun h5 => ?_) (fun h5 => ?_) <;> rw [h5] <;> conv => whnf
          · simp only [ge_iff_le, decide_eq_true_eq] at h5
            refine kK _ _ ?_
            conv => whnf
            refine ⟨false, [], ?_⟩
            conv => whnf
            refine ⟨?_, rfl⟩
            rw [no (by omega)]
          · simp only [ge_iff_le, decide_eq_false_iff_not] at h5
            refine kK _ _ ?_
            conv => whnf
            rw [wi]
            refine ⟨⟨i + 1, cur, by omega, by omega, by omega, fun _ => ⟨by omega, hcur⟩, yes (by omega), rfl⟩, ?_⟩
            show a.fr.length - (((i + 1 : Nat) : Int)).toNat < a.fr.length - (i : Int).toNat
            omega
        · simp only [gt_iff_lt, decide_eq_false_iff_not] at h4
          have hl0 : last = 0 := hz (by omega)
          refine kK _ _ ?_
          conv => whnf
          rw [wi]
          refine ⟨⟨i + 1, cur, by omega, by omega, by omega, fun _ => ⟨by omega, hcur⟩, yes (by omega), rfl⟩, ?_⟩
          show a.fr.length - (((i + 1 : Nat) : Int)).toNat < a.fr.length - (i : Int).toNat
          omega
  · simp only [decide_eq_false_iff_not] at h1
    rw [List.drop_of_length_le (by omega)] at e
    have e : mayAc a = restA a := by unfold mayAc; rw [e]; rfl
    clear h1 hi hp
    refine kK _ _ ?_
    conv => whnf
    clear kK kk
    rw [e]
    clear e
    generalize hL : a.fr.length = L at *
    repeat' (first
      | (refine And.intro (by omega) ?_
         conv => whnf)
      | (refine Branch.of (fun h => ?_) (fun h => ?_) <;> (rw [h]; conv => whnf)))
    all_goals refine ⟨false, [], ?_⟩
    all_goals conv => whnf
    all_goals refine ⟨?_, rfl⟩
    all_goals rw [restA_eq, hL]
    all_goals congr 2
    all_goals (try simp_all)
    all_goals first | done | omega | (rw [Bool.eq_iff_iff]; simp only [Bool.and_eq_true, Bool.or_eq_true, Bool.not_eq_true', decide_eq_true_eq, decide_eq_false_iff_not, beq_iff_eq]; omega)
theorem c_actaggedR (y : Int) (v pv : Nat) (pg tag : List UInt8) (fr : List Int) (hv : v ≤ 1099511627776) (hpv : pv ≤ 1099511627776) (hg : pg.length = 32) (hfl : fr.length ≤ 21) (hfr : ∀ n ∈ fr, 0 < n ∧ n ≤ 21) :
    FnOK Tryd.prog D 188 [.st [(AV.sc (.int .i64 (y))), (AV.sc (.int .i64 ((v : Int)))), (AV.sc (.int .i64 ((pv : Int)))), .ar 32 .lf (by8 pg), .sl .lf (ints .i64 fr) .ro, .ar 32 .lf (by8 tag)]] [] (fun r st => r = (AV.sl .lf (by8 (accB v pv pg fr)) (.own 0)) ∧ st = []) := by
  have low : ∀ m : Nat, m ≤ 1099511627776 → IntKind.u64.wrap (m : Int) = (m : Int) := fun m h => wu64 (by omega) (by omega)
  have low8 : ∀ m : Nat, m ≤ 21 → IntKind.u8.wrap (m : Int) = ((UInt8.ofNat m).toNat : Int) := fun m h => by
    rw [wu8 (by omega) (by omega), UInt8.toNat_ofNat']; omega
  have hll := lenI fr
  have l1 := len6 v hv
  have l2 := len6 pv hpv
  have l3 := len6 fr.length (by omega)
  refine fnok_of_W hmix tabOK Tryd.func188 rfl rfl (Nat.le_of_ble_eq_true rfl) ?_
  conv => whnf
  refine ⟨tabF188R1, by decide +kernel, ?_⟩
  conv => whnf
  rw [low v hv]
  refine ⟨_, _, c_refnum v (by omega), ?_⟩
  conv => whnf
  rw [low pv hpv]
  refine ⟨_, _, c_refnum pv (by omega), ?_⟩
  conv => whnf
  refine And.intro (by rw [len8, len8]; omega) ?_
  conv => whnf
  rw [by8_ap]
  refine ⟨tabF188R2, by decide +kernel, ?_⟩
  conv => whnf
  refine ⟨_, _, c_bytes7 pg hg, ?_⟩
  conv => whnf
  refine And.intro (by simp only [len8, List.length_append]; omega) ?_
  conv => whnf
  rw [by8_ap, hll, low8 fr.length hfl]
  refine And.intro (by simp only [len8, List.length_append]; show _ + 1 < _; omega) ?_
  conv => whnf
  rw [show [(AV.sc (.int .u8 (((UInt8.ofNat fr.length).toNat : Int))))] = by8 [UInt8.ofNat fr.length] from rfl, by8_ap, ← num_low (show fr.length < 128 by omega)]
  refine ⟨false, [1, 3, 4], fun τ => ∃ (i : Nat) (c : List UInt8), i ≤ fr.length ∧ c = num v ++ num pv ++ pg ++ num fr.length ++ (fr.take i).flatMap (fun n => num n.toNat) ∧ τ = ⟨42, [(1, .pt 0 []), (3, (AV.sl .lf (by8 (c)) (.own 0))), (4, (AV.sc (.int .i64 ((i : Int)))))], ⟨[(.st [(AV.sc (.int .i64 (y))), (AV.sc (.int .i64 ((v : Int)))), (AV.sc (.int .i64 ((pv : Int)))), .ar 32 .lf (by8 pg), .sl .lf (ints .i64 fr) .ro, .ar 32 .lf (by8 tag)], false)], [0], 1⟩⟩, fun τ => fr.length - (slotI τ 4).toNat, ?_, ?_⟩
  · conv => whnf
    exact ⟨0, _, by omega, by simp, rfl⟩
  rintro τ ⟨i, c, hi, hc, rfl⟩
  have hcl : c.length ≤ 200 := by
    have := frB_len (fr.take i) fun n hn => hfr n (List.mem_of_mem_take hn)
    rw [List.length_take] at this
    rw [hc]
    simp only [List.length_append]
    omega
  apply enter3
  intro kk kK
  conv => whnf
  rw [hll]
  refine Branch.of (fun h1 => ?_) (fun h1 => ?_) <;> rw [h1] <;> conv => whnf
  · simp only [decide_eq_true_eq] at h1
    have il : i < fr.length := by omega
    have hn := hfr _ (List.getElem_mem il)
    repeat (refine And.intro (by first | omega) ?_; conv => whnf)
    refine ⟨_, atI il, ?_⟩
    conv => whnf
    obtain ⟨n, e⟩ := Int.eq_ofNat_of_zero_le (show 0 ≤ fr[i] by omega)
    rw [e, low8 n (by omega)]
    refine And.intro (by rw [len8]; show _ + 1 < _; omega) ?_
    conv => whnf
    rw [show [(AV.sc (.int .u8 (((UInt8.ofNat n).toNat : Int))))] = by8 [UInt8.ofNat n] from rfl, by8_ap, ← num_low (show n < 128 by omega)]
    refine kK _ _ ?_
    conv => whnf
    rw [w64 (x := (i : Int) + 1) (by omega) (by omega)]
    refine ⟨⟨i + 1, _, by omega, ?_, rfl⟩, ?_⟩
    · rw [hc, List.take_succ_eq_append_getElem il, List.flatMap_append, e]
      simp
    · show fr.length - ((i : Int) + 1).toNat < fr.length - (i : Int).toNat
      omega
  · simp only [decide_eq_false_iff_not] at h1
    rw [List.take_of_length_le (by omega)] at hc
    refine kK _ _ ?_
    conv => whnf
    refine ⟨false, [], ?_⟩
    conv => whnf
    refine ⟨?_, rfl⟩
    rw [hc]
    rfl
theorem c_actaggedRA (a : Ac) (hw : a.wf) (hm : mayAc a = true) : FnOK Tryd.prog D 188 [(AV.st [.sc (.int .i64 (a).by_), .sc (.int .i64 (a).v), .sc (.int .i64 (a).pv), .ar 32 .lf (by8 (a).pg), .sl .lf (ints .i64 (a).fr) .ro, .ar 32 .lf (by8 (a).tag)])] [] (fun r st => r = (AV.sl .lf (by8 (accOf a)) (.own 0)) ∧ st = []) := by
  obtain ⟨h1, h2, h3, h4, h5, h6⟩ := mayAc_facts hm
  obtain ⟨y, v, pv, pg, fr, tag⟩ := a
  simp only at h1 h2 h3 h4 h5 h6
  obtain ⟨v, rfl⟩ := Int.eq_ofNat_of_zero_le (show 0 ≤ v by omega)
  obtain ⟨pv, rfl⟩ := Int.eq_ofNat_of_zero_le (show 0 ≤ pv by omega)
  exact c_actaggedR y v pv pg tag fr (by omega) (by omega) hw.1 h5 h6
theorem c_actagR_aux (a : Ac) (T G : List UInt8) (hG : G.length = 32) (ct : FnOK Tryd.prog D 188 [(AV.st [.sc (.int .i64 (a).by_), .sc (.int .i64 (a).v), .sc (.int .i64 (a).pv), .ar 32 .lf (by8 (a).pg), .sl .lf (ints .i64 (a).fr) .ro, .ar 32 .lf (by8 (a).tag)])] [] (fun r st => r = (AV.sl .lf (by8 (T)) (.own 0)) ∧ st = []))
    (cg : FnOK Tryd.prog D 185 [(AV.sc (.int .i64 (a.by_))), (AV.sc (.int .u8 (2))), (AV.sl .lf (by8 (T)) .ro)] [] (fun r st => r = .ar 32 .lf (by8 G) ∧ st = [])) :
    FnOK Tryd.prog D 176 [(AV.st [.sc (.int .i64 (a).by_), .sc (.int .i64 (a).v), .sc (.int .i64 (a).pv), .ar 32 .lf (by8 (a).pg), .sl .lf (ints .i64 (a).fr) .ro, .ar 32 .lf (by8 (a).tag)])] [] (fun r st => r = .ar 32 .lf (by8 G) ∧ st = []) := by
  refine fnok_of_W hmix tabOK Tryd.func176 rfl rfl (Nat.le_of_ble_eq_true rfl) ?_
  conv => whnf
  refine ⟨tabF176R1, by decide +kernel, ?_⟩
  conv => whnf
  refine ⟨_, _, ct, ?_⟩
  conv => whnf
  refine ⟨_, _, cg, ?_⟩
  conv => whnf
  refine ⟨false, [], ?_⟩
  conv => whnf
  exact ⟨rfl, rfl⟩
theorem c_actagR (a : Ac) (hw : a.wf) (hm : mayAc a = true) : FnOK Tryd.prog D 176 [(AV.st [.sc (.int .i64 (a).by_), .sc (.int .i64 (a).v), .sc (.int .i64 (a).pv), .ar 32 .lf (by8 (a).pg), .sl .lf (ints .i64 (a).fr) .ro, .ar 32 .lf (by8 (a).tag)])] [] (fun r st => r = .ar 32 .lf (by8 (tagB a.by_ 2 (accOf a))) ∧ st = []) := by
  have := accOf_len hw hm
  exact c_actagR_aux a (accOf a) _ (tagB_len _ _ _) (c_actaggedRA a hw hm) (c_tagR a.by_ 2 (accOf a) (by omega))
theorem c_acrightR_aux (n q : Int) (a : Ac) (m R : Bool) (G : List UInt8) (hR : R = (decide (0 < q) && m && decide (a.by_ ≤ n) && decide ((a.fr.length : Int) = q) && decide (lastI a.fr ≤ n) && (a.tag == G))) (hl : a.fr.length < 4294967296) (hm1 : m = true → 1 ≤ a.fr.length)
    (cq : FnOK Tryd.prog D 52 [(AV.sc (.int .i64 (n)))] [] (fun r st => r = (AV.sc (.int .i64 (q))) ∧ st = []))
    (cm : FnOK Tryd.prog D 175 [(AV.st [.sc (.int .i64 (a).by_), .sc (.int .i64 (a).v), .sc (.int .i64 (a).pv), .ar 32 .lf (by8 (a).pg), .sl .lf (ints .i64 (a).fr) .ro, .ar 32 .lf (by8 (a).tag)])] [] (fun r st => r = (AV.sc (.bool (m))) ∧ st = []))
    (ct : m = true → FnOK Tryd.prog D 176 [(AV.st [.sc (.int .i64 (a).by_), .sc (.int .i64 (a).v), .sc (.int .i64 (a).pv), .ar 32 .lf (by8 (a).pg), .sl .lf (ints .i64 (a).fr) .ro, .ar 32 .lf (by8 (a).tag)])] [] (fun r st => r = .ar 32 .lf (by8 G) ∧ st = [])) :
    FnOK Tryd.prog D 146 [(AV.sc (.int .i64 (n))), (AV.st [.sc (.int .i64 (a).by_), .sc (.int .i64 (a).v), .sc (.int .i64 (a).pv), .ar 32 .lf (by8 (a).pg), .sl .lf (ints .i64 (a).fr) .ro, .ar 32 .lf (by8 (a).tag)])] [] (fun r st => r = (AV.sc (.bool (R))) ∧ st = []) := by
  have hll := lenI a.fr
  refine fnok_of_W hmix tabOK Tryd.func146 rfl rfl (Nat.le_of_ble_eq_true rfl) ?_
  conv => whnf
  refine (cq).mono fun r st e => ?_
  obtain ⟨rfl, rfl⟩ := e
  conv => whnf
  refine ⟨tabF146R2, by decide +kernel, ?_⟩
  conv => whnf
  refine Branch.of (fun h1 => ?_) (fun h1 => ?_) <;> rw [h1] <;> conv => whnf
  rotate_left
  · refine ⟨false, [], ?_⟩
    conv => whnf
    refine ⟨?_, rfl⟩
    rw [hR, show decide (0 < q) = false from h1]
    rfl
  have h1' : 0 < q := by simpa using h1
  refine ⟨_, _, cm, ?_⟩
  conv => whnf
  cases m with
  | false =>
    conv => whnf
    refine ⟨false, [], ?_⟩
    conv => whnf
    refine ⟨?_, rfl⟩
    rw [hR]
    simp
  | true =>
    have hm1 := hm1 rfl
    have ct := ct rfl
    conv => whnf
    refine Branch.of (fun h2 => ?_) (fun h2 => ?_) <;> rw [h2] <;> conv => whnf
    rotate_left
    · refine ⟨false, [], ?_⟩
      conv => whnf
      refine ⟨?_, rfl⟩
      rw [hR, h2]
      simp
    rw [hll]
    by_cases h3 : (a.fr.length : Int) = q
    rotate_left
    · rw [beq_eq_false_iff_ne.2 h3]
      conv => whnf
      refine ⟨false, [], ?_⟩
      conv => whnf
      refine ⟨?_, rfl⟩
      rw [hR, decide_eq_false h3]
      simp
    rw [beq_iff_eq.2 h3]
    conv => whnf
    rw [hll, w64 (x := (a.fr.length : Int) - 1) (by omega) (by omega)]
    have hat := lastI_at (l := a.fr) (by omega)
    repeat (refine And.intro (by first | omega) ?_; conv => whnf)
    refine ⟨_, hat, ?_⟩
    conv => whnf
    refine Branch.of (fun h4 => ?_) (fun h4 => ?_) <;> rw [h4] <;> conv => whnf
    rotate_left
    · refine ⟨false, [], ?_⟩
      conv => whnf
      refine ⟨?_, rfl⟩
      rw [hR, h4]
      simp
    refine ⟨_, _, ct, ?_⟩
    conv => whnf
    refine ⟨a.tag, G, rfl, rfl, ?_⟩
    conv => whnf
    refine ⟨false, [], ?_⟩
    conv => whnf
    refine ⟨?_, rfl⟩
    rw [hR, show decide (0 < q) = true from h1, h2, h4, decide_eq_true h3]
    rfl
theorem c_acrightR (n : Int) (a : Ac) (hl : a.fr.length < 4294967296) (hw : a.wf) : FnOK Tryd.prog D 146 [(AV.sc (.int .i64 (n))), (AV.st [.sc (.int .i64 (a).by_), .sc (.int .i64 (a).v), .sc (.int .i64 (a).pv), .ar 32 .lf (by8 (a).pg), .sl .lf (ints .i64 (a).fr) .ro, .ar 32 .lf (by8 (a).tag)])] [] (fun r st => r = (AV.sc (.bool (rightAc n a))) ∧ st = []) := by
  unfold rightAc
  exact c_acrightR_aux n (quo n) a (mayAc a) _ _ rfl hl (fun hm => (mayAc_facts hm).2.2.2.1) (c_quorumR n) (c_acmayR a hl) (fun hm => c_actagR a hw hm)
end Go.WL.T7
