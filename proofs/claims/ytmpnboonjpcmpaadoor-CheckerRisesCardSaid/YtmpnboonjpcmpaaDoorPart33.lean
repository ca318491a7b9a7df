/- Certificates: whether one is right, by the reference. No condition. -/
import Derived.Test.YtmpnboonjpcmpaaDoorPart32
set_option linter.unusedVariables false
set_option linter.unusedSimpArgs false
namespace Go.WL.T7
open Go.WL Go.Proofs
set_option maxRecDepth 20000
set_option maxHeartbeats 8000000
theorem c_risesR (l : List Sg) (top : Int) (hl : l.length < 4294967296) : FnOK Tryd.prog D 136 [(AV.sl (.nd [.lf, .ar 32 .lf]) (sigsA (l)) .ro), (AV.sc (.int .i64 (top)))] [] (fun r st => r = (AV.sc (.bool (rises 0 top l))) ∧ st = []) := by
  have hll := lenS l
  refine fnok_of_W hmix tabOK Tryd.func136 rfl rfl (Nat.le_of_ble_eq_true rfl) ?_
  conv => whnf
  refine ⟨false, [0, 1, 5], fun τ => ∃ (i : Nat) (last : Int), i ≤ l.length ∧ 0 ≤ last ∧ (i = 0 → last = 0) ∧ (0 < i → ∃ h : i - 1 < l.length, l[i - 1].by_ = last) ∧ rises 0 top l = rises last top (l.drop i) ∧ τ = ⟨45, [(0, (AV.sl (.nd [.lf, .ar 32 .lf]) (sigsA (l)) .ro)), (1, (AV.sc (.int .i64 (top)))), (5, (AV.sc (.int .i64 ((i : Int)))))], ⟨[], [], 0⟩⟩, fun τ => l.length - (slotI τ 5).toNat, ?_, ?_⟩
  · conv => whnf
    exact ⟨0, 0, by omega, by omega, by omega, by omega, rfl, rfl⟩
  rintro τ ⟨i, last, hi, h0, hz, hp, e, rfl⟩
  conv => whnf
  rw [hll]
  refine Branch.of (fun h1 => ?_) (fun h1 => ?_) <;> rw [h1] <;> conv => whnf
  · simp only [decide_eq_true_eq] at h1
    have il : i < l.length := by omega
    rw [List.drop_eq_getElem_cons il, rises_cons] at e
    have no : ¬ (last < l[i].by_ ∧ l[i].by_ ≤ top) → rises 0 top l = false := fun h => by rw [e, decide_eq_false h, Bool.false_and]
    have yes : (last < l[i].by_ ∧ l[i].by_ ≤ top) → rises 0 top l = rises l[i].by_ top (l.drop (i + 1)) := fun h => by rw [e, decide_eq_true h, Bool.true_and]
    have wi : IntKind.i64.wrap ((i : Int) + 1) = ((i + 1 : Nat) : Int) := by rw [w64 (by omega) (by omega)]; omega
    have wp : 0 < i → IntKind.i64.wrap ((i : Int) - 1) = (i : Int) - 1 := fun h => w64 (by omega) (by omega)
    have atp : 0 < i → (sigsA l)[((i : Int) - 1).toNat]? = some (.st [.sc (.int .i64 last), .ar 32 .lf (by8 (l.getD (i - 1) ⟨0, []⟩).tag)]) := by
      intro h
      obtain ⟨h2, h3⟩ := hp h
      have := atS h2
      rw [show (((i - 1 : Nat) : Int)) = (i : Int) - 1 by omega] at this
      rw [this, h3, List.getD_eq_getElem?_getD, List.getElem?_eq_getElem h2]
      rfl
    have ai := atS il
    clear e hp
    generalize hcur : l[i].by_ = cur at *
    refine ⟨tabF136R4, by decide +kernel, ?_⟩
    conv => whnf
    refine And.intro (by omega) ?_
    conv => whnf
    refine ⟨_, ai, ?_⟩
    conv => whnf
    refine Branch.of (fun h2 => ?_) (fun h2 => ?_) <;> rw [h2] <;> conv => whnf
    · simp only [decide_eq_true_eq] at h2
      refine ⟨false, [], ?_⟩
      conv => whnf
      refine ⟨?_, rfl⟩
      rw [no (by omega)]
    · simp only [decide_eq_false_iff_not] at h2
      repeat (refine And.intro (by first | omega) ?_; conv => whnf)
      refine ⟨_, ai, ?_⟩
      conv => whnf
      refine Branch.of (fun h3 => ?_) (fun h3 => ?_) <;> rw [h3] <;> conv => whnf
      · simp only [gt_iff_lt, decide_eq_true_eq] at h3
        refine ⟨false, [], ?_⟩
        conv => whnf
        refine ⟨?_, rfl⟩
        rw [no (by omega)]
      · simp only [gt_iff_lt, decide_eq_false_iff_not] at h3
        refine Branch.of (fun h4 => ?_) (fun h4 => ?_) <;> rw [h4] <;> conv => whnf
        · simp only [gt_iff_lt, decide_eq_true_eq] at h4
          rw [wp (by omega)]
          repeat (refine And.intro (by first | omega) ?_; conv => whnf)
          refine ⟨_, atp (by omega), ?_⟩
          conv => whnf
          repeat (refine And.intro (by first | omega) ?_; conv => whnf)
          refine ⟨_, ai, ?_⟩
          conv => whnf
          refine Branch.of (fun h5 => ?_) (fun h5 => ?_) <;> rw [h5] <;> conv => whnf
          · simp only [ge_iff_le, decide_eq_true_eq] at h5
            refine ⟨false, [], ?_⟩
            conv => whnf
            refine ⟨?_, rfl⟩
            rw [no (by omega)]
          · simp only [ge_iff_le, decide_eq_false_iff_not] at h5
            rw [wi]
            refine ⟨⟨i + 1, cur, by omega, by omega, by omega, fun _ => ⟨by omega, hcur⟩, yes (by omega), rfl⟩, ?_⟩
            show l.length - (((i + 1 : Nat) : Int)).toNat < l.length - (i : Int).toNat
            omega
        · simp only [gt_iff_lt, decide_eq_false_iff_not] at h4
          have hl0 : last = 0 := hz (by omega)
          rw [wi]
          refine ⟨⟨i + 1, cur, by omega, by omega, by omega, fun _ => ⟨by omega, hcur⟩, yes (by omega), rfl⟩, ?_⟩
          show l.length - (((i + 1 : Nat) : Int)).toNat < l.length - (i : Int).toNat
          omega
  · simp only [decide_eq_false_iff_not] at h1
    refine ⟨false, [], ?_⟩
    conv => whnf
    refine ⟨?_, rfl⟩
    rw [e, List.drop_of_length_le (by omega)]
    rfl
theorem c_withR (a : At) (s : Sg) : FnOK Tryd.prog D 139 [(AV.st [.sc (.int .i64 (a).by_), .sc (.int .i64 (a).k), .sc (.int .i64 (a).v), .sc (.int .i64 (a).ph), .ar 32 .lf (by8 (a).h), .sc (.int .i64 (a).pv), .ar 32 .lf (by8 (a).pg), .ar 32 .lf (by8 (a).tag)]), (AV.st [.sc (.int .i64 (s).by_), .ar 32 .lf (by8 (s).tag)])] [] (fun r st => r = (AV.st [.sc (.int .i64 (withA a s).by_), .sc (.int .i64 (withA a s).k), .sc (.int .i64 (withA a s).v), .sc (.int .i64 (withA a s).ph), .ar 32 .lf (by8 (withA a s).h), .sc (.int .i64 (withA a s).pv), .ar 32 .lf (by8 (withA a s).pg), .ar 32 .lf (by8 (withA a s).tag)]) ∧ st = []) := by
  refine fnok_of_W hmix tabOK Tryd.func139 rfl rfl (Nat.le_of_ble_eq_true rfl) ?_
  conv => whnf
  refine ⟨false, [], ?_⟩
  conv => whnf
  exact ⟨rfl, rfl⟩
theorem c_bare (a : At) (l : List Sg) : FnOK Tryd.prog D 137 [.st [(AV.st [.sc (.int .i64 (a).by_), .sc (.int .i64 (a).k), .sc (.int .i64 (a).v), .sc (.int .i64 (a).ph), .ar 32 .lf (by8 (a).h), .sc (.int .i64 (a).pv), .ar 32 .lf (by8 (a).pg), .ar 32 .lf (by8 (a).tag)]), (AV.sl (.nd [.lf, .ar 32 .lf]) (sigsA (l)) .ro)]] [] (fun r st => r = (AV.sc (.bool (bareA a))) ∧ st = []) := by
  refine fnok_of_W hmix tabOK Tryd.func137 rfl rfl (Nat.le_of_ble_eq_true rfl) ?_
  conv => whnf
  unfold bareA
  repeat' (first
    | (refine ⟨a.tag, z32, rfl, rfl, ?_⟩
       conv => whnf)
    | (refine And.intro (by omega) ?_
       conv => whnf)
    | (refine Branch.of (fun h => ?_) (fun h => ?_) <;> (rw [h]; conv => whnf)))
  all_goals refine ⟨false, [], ?_⟩
  all_goals conv => whnf
  all_goals refine ⟨?_, rfl⟩
  all_goals congr 2
  all_goals (try simp_all)
  all_goals first | done | omega | (intros; omega) | (rw [Bool.eq_iff_iff]; simp only [Bool.and_eq_true, Bool.or_eq_true, Bool.not_eq_true', decide_eq_true_eq, decide_eq_false_iff_not, beq_iff_eq]; omega)
theorem c_crightR_aux (n q : Int) (a : At) (l : List Sg) (p : Sg → Bool) (ri ba : Bool) (hl : l.length < 4294967296)
    (cq : FnOK Tryd.prog D 52 [(AV.sc (.int .i64 (n)))] [] (fun r st => r = (AV.sc (.int .i64 (q))) ∧ st = []))
    (cr : FnOK Tryd.prog D 136 [(AV.sl (.nd [.lf, .ar 32 .lf]) (sigsA (l)) .ro), (AV.sc (.int .i64 (n)))] [] (fun r st => r = (AV.sc (.bool (ri))) ∧ st = []))
    (cb : FnOK Tryd.prog D 137 [.st [(AV.st [.sc (.int .i64 (a).by_), .sc (.int .i64 (a).k), .sc (.int .i64 (a).v), .sc (.int .i64 (a).ph), .ar 32 .lf (by8 (a).h), .sc (.int .i64 (a).pv), .ar 32 .lf (by8 (a).pg), .ar 32 .lf (by8 (a).tag)]), (AV.sl (.nd [.lf, .ar 32 .lf]) (sigsA (l)) .ro)]] [] (fun r st => r = (AV.sc (.bool (ba))) ∧ st = []))
    (cw : ∀ s ∈ l, FnOK Tryd.prog D 138 [(AV.st [.sc (.int .i64 (withA a s).by_), .sc (.int .i64 (withA a s).k), .sc (.int .i64 (withA a s).v), .sc (.int .i64 (withA a s).ph), .ar 32 .lf (by8 (withA a s).h), .sc (.int .i64 (withA a s).pv), .ar 32 .lf (by8 (withA a s).pg), .ar 32 .lf (by8 (withA a s).tag)])] [] (fun r st => r = (AV.sc (.bool (p s))) ∧ st = [])) :
    FnOK Tryd.prog D 90 [(AV.sc (.int .i64 (n))), .st [(AV.st [.sc (.int .i64 (a).by_), .sc (.int .i64 (a).k), .sc (.int .i64 (a).v), .sc (.int .i64 (a).ph), .ar 32 .lf (by8 (a).h), .sc (.int .i64 (a).pv), .ar 32 .lf (by8 (a).pg), .ar 32 .lf (by8 (a).tag)]), (AV.sl (.nd [.lf, .ar 32 .lf]) (sigsA (l)) .ro)]] [] (fun r st => r = (AV.sc (.bool (decide (q ≠ 0 ∧ (l.length : Int) = q) && ri && ba && l.all p))) ∧ st = []) := by
  have hll := lenS l
  refine fnok_of_W hmix tabOK Tryd.func90 rfl rfl (Nat.le_of_ble_eq_true rfl) ?_
  conv => whnf
  refine (cq).mono fun r st e => ?_
  obtain ⟨rfl, rfl⟩ := e
  conv => whnf
  by_cases hX : (decide (q ≠ 0 ∧ (l.length : Int) = q) && ri && ba) = true
  rotate_left
  · simp only [Bool.not_eq_true] at hX
    rw [hX, Bool.false_and]
    repeat' (first
      | (refine (cr).mono fun r st e => ?_
         obtain ⟨rfl, rfl⟩ := e
         conv => whnf)
      | (refine (cb).mono fun r st e => ?_
         obtain ⟨rfl, rfl⟩ := e
         conv => whnf)
      | (refine And.intro (by omega) ?_
         conv => whnf)
      | (refine Branch.of (fun h => ?_) (fun h => ?_) <;> (rw [h]; conv => whnf)))
    all_goals first
      | (exfalso; simp_all; done)
      | (refine ⟨false, [], ?_⟩; conv => whnf
         exact ⟨rfl, rfl⟩)
  · simp only [Bool.and_eq_true, decide_eq_true_eq] at hX
    obtain ⟨⟨⟨hq, hlq⟩, rfl⟩, rfl⟩ := hX
    refine Branch.of (fun hh => ?_) (fun hh => ?_)
    · exfalso; simp only [gt_iff_lt, ge_iff_le, decide_eq_true_eq, decide_eq_false_iff_not, beq_iff_eq, beq_eq_false_iff_ne, bne_iff_ne, bne_eq_false_iff_eq, ne_eq] at hh; first | done | omega | (simp at hh; done)
    try rw [hh]
    clear hh
    conv => whnf
    rw [hll]
    refine Branch.of (fun hh => ?_) (fun hh => ?_)
    · exfalso; simp only [gt_iff_lt, ge_iff_le, decide_eq_true_eq, decide_eq_false_iff_not, beq_iff_eq, beq_eq_false_iff_ne, bne_iff_ne, bne_eq_false_iff_eq, ne_eq] at hh; first | done | omega | (simp at hh; done)
    try rw [hh]
    clear hh
    conv => whnf
    refine (cr).mono fun r st e => ?_
    obtain ⟨rfl, rfl⟩ := e
    conv => whnf
    refine (cb).mono fun r st e => ?_
    obtain ⟨rfl, rfl⟩ := e
    conv => whnf
    refine ⟨false, [3, 6], fun τ => ∃ i : Nat, i ≤ l.length ∧ (l.take i).all p = true ∧ τ = ⟨47, [(3, .pt 0 []), (6, (AV.sc (.int .i64 ((i : Int)))))], ⟨[(.st [(AV.st [.sc (.int .i64 (a).by_), .sc (.int .i64 (a).k), .sc (.int .i64 (a).v), .sc (.int .i64 (a).ph), .ar 32 .lf (by8 (a).h), .sc (.int .i64 (a).pv), .ar 32 .lf (by8 (a).pg), .ar 32 .lf (by8 (a).tag)]), (AV.sl (.nd [.lf, .ar 32 .lf]) (sigsA (l)) .ro)], false)], [], 0⟩⟩, fun τ => l.length - (slotI τ 6).toNat, ?_, ?_⟩
    · conv => whnf
      exact ⟨0, by omega, rfl, rfl⟩
    rintro τ ⟨i, hi, ha, rfl⟩
    conv => whnf
    rw [hll]
    refine Branch.of (fun h1 => ?_) (fun h1 => ?_) <;> rw [h1] <;> conv => whnf
    · simp only [decide_eq_true_eq] at h1
      have il : i < l.length := by omega
      refine ⟨tabF90R7, by decide +kernel, ?_⟩
      conv => whnf
      repeat (refine And.intro (by first | omega) ?_; conv => whnf)
      refine ⟨_, atS il, ?_⟩
      conv => whnf
      refine ⟨_, _, c_withR a l[i], ?_⟩
      conv => whnf
      refine ⟨_, _, cw l[i] (List.getElem_mem il), ?_⟩
      conv => whnf
      cases hp : p l[i] with
      | true =>
        conv => whnf
        rw [w64 (x := (i : Int) + 1) (by omega) (by omega)]
        refine ⟨⟨i + 1, by omega, ?_, rfl⟩, ?_⟩
        · rw [List.take_succ_eq_append_getElem il, List.all_append, ha]
          simp [hp]
        · show l.length - ((i : Int) + 1).toNat < l.length - (i : Int).toNat
          omega
      | false =>
        conv => whnf
        refine ⟨false, [], ?_⟩
        conv => whnf
        have : l.all p = false := by
          rw [List.all_eq_false]
          exact ⟨l[i], List.getElem_mem il, by simp [hp]⟩
        rw [this]
        exact ⟨by simp, rfl⟩
    · simp only [decide_eq_false_iff_not] at h1
      rw [List.take_of_length_le (by omega)] at ha
      refine ⟨false, [], ?_⟩
      conv => whnf
      rw [ha]
      refine ⟨?_, rfl⟩
      rw [decide_eq_true ⟨hq, hlq⟩]
      rfl
theorem c_crightR (n : Int) (a : At) (l : List Sg) (hl : l.length < 4294967296) (hw : a.wf) (hs : sigOK l) : FnOK Tryd.prog D 90 [(AV.sc (.int .i64 (n))), .st [(AV.st [.sc (.int .i64 (a).by_), .sc (.int .i64 (a).k), .sc (.int .i64 (a).v), .sc (.int .i64 (a).ph), .ar 32 .lf (by8 (a).h), .sc (.int .i64 (a).pv), .ar 32 .lf (by8 (a).pg), .ar 32 .lf (by8 (a).tag)]), (AV.sl (.nd [.lf, .ar 32 .lf]) (sigsA (l)) .ro)]] [] (fun r st => r = (AV.sc (.bool (rightC n a l))) ∧ st = []) :=
  c_crightR_aux n (quo n) a l (fun s => rightA (withA a s)) _ _ hl (c_quorumR n) (c_risesR l n hl) (c_bare a l) fun s hm => c_arightR (withA a s) ⟨hw.1, hw.2.1, hs s hm⟩
end Go.WL.T7
