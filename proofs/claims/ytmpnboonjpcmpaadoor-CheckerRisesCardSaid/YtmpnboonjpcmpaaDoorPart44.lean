/- Whatever is asked, one behind the other: views and phases rise. No condition. -/
import Derived.Test.YtmpnboonjpcmpaaDoorPart43
set_option linter.unusedVariables false
set_option linter.unusedSimpArgs false
namespace Go.WL.T7
open Go.WL Go.Proofs
set_option maxRecDepth 20000
set_option maxHeartbeats 8000000
def spsA (l : List Sp) : List AV := l.map fun x => .st [(AV.sc (.int .i64 (x.d))), (AV.sc (.int .i64 (x.v))), (AV.st [.ar 32 .lf (by8 (x.b).p), .sc (.int .i64 (x.b).v), .sc (.int .i64 (x.b).h), .sc (.int .i64 (x.b).by_), .sl (.nd [.lf, .lf, .lf, .lf, .lf, .lf, .lf]) (txsA (x.b).txs) .ro]), (AV.st [.sc (.int .i64 (x.a).by_), .sc (.int .i64 (x.a).v), .sc (.int .i64 (x.a).pv), .ar 32 .lf (by8 (x.a).pg), .sl .lf (ints .i64 (x.a).fr) .ro, .ar 32 .lf (by8 (x.a).tag)]), .st [(AV.st [.sc (.int .i64 (x.t).by_), .sc (.int .i64 (x.t).k), .sc (.int .i64 (x.t).v), .sc (.int .i64 (x.t).ph), .ar 32 .lf (by8 (x.t).h), .sc (.int .i64 (x.t).pv), .ar 32 .lf (by8 (x.t).pg), .ar 32 .lf (by8 (x.t).tag)]), (AV.sl (.nd [.lf, .ar 32 .lf]) (sigsA (x.l)) .ro)]]
theorem lenSp (l : List Sp) : (spsA l).length = l.length := by simp [spsA]
theorem atSp {l : List Sp} {i : Nat} (h : i < l.length) : (spsA l)[((i : Nat) : Int).toNat]? = some (.st [(AV.sc (.int .i64 (l[i].d))), (AV.sc (.int .i64 (l[i].v))), (AV.st [.ar 32 .lf (by8 (l[i].b).p), .sc (.int .i64 (l[i].b).v), .sc (.int .i64 (l[i].b).h), .sc (.int .i64 (l[i].b).by_), .sl (.nd [.lf, .lf, .lf, .lf, .lf, .lf, .lf]) (txsA (l[i].b).txs) .ro]), (AV.st [.sc (.int .i64 (l[i].a).by_), .sc (.int .i64 (l[i].a).v), .sc (.int .i64 (l[i].a).pv), .ar 32 .lf (by8 (l[i].a).pg), .sl .lf (ints .i64 (l[i].a).fr) .ro, .ar 32 .lf (by8 (l[i].a).tag)]), .st [(AV.st [.sc (.int .i64 (l[i].t).by_), .sc (.int .i64 (l[i].t).k), .sc (.int .i64 (l[i].t).v), .sc (.int .i64 (l[i].t).ph), .ar 32 .lf (by8 (l[i].t).h), .sc (.int .i64 (l[i].t).pv), .ar 32 .lf (by8 (l[i].t).pg), .ar 32 .lf (by8 (l[i].t).tag)]), (AV.sl (.nd [.lf, .ar 32 .lf]) (sigsA (l[i].l)) .ro)]]) := by
  rw [Int.toNat_natCast]
  simp [spsA, h]
def tab15A : List (List Nat) := [[], [], [], [], [2, 3], [3, 2, 4], [0, 1, 4, 2, 3, 5], [5, 3, 2, 4, 1, 0, 6], [6, 0, 1, 4, 2, 3, 5, 7], [6, 0, 1, 4, 2, 3, 5, 7], [6, 0, 1, 4, 2, 3, 5, 7], [6, 0, 1, 4, 2, 3, 5, 7], [], [12], [7, 5, 3, 2, 4, 1, 0, 6, 8, 12, 13], [9, 13, 12, 8, 6, 0, 1, 4, 2, 3, 5, 7, 14], [10, 14, 7, 5, 3, 2, 4, 1, 0, 6, 8, 12, 13, 9, 15], [11, 15, 9, 13, 12, 8, 6, 0, 1, 4, 2, 3, 5, 7, 14, 10, 16]]
def tab15B : List (List Nat) := [[], [], [], [], [2, 3], [3, 2, 4], [0, 1, 4, 2, 3, 5], [5, 3, 2, 4, 1, 0, 6], [6, 0, 1, 4, 2, 3, 5, 7], [6, 0, 1, 4, 2, 3, 5, 7], [6, 0, 1, 4, 2, 3, 5, 7], [6, 0, 1, 4, 2, 3, 5, 7], [], [12], [7, 5, 3, 2, 4, 1, 0, 6, 8, 13, 12], [9, 12, 13, 8, 6, 0, 1, 4, 2, 3, 5, 7, 14], [10, 14, 7, 5, 3, 2, 4, 1, 0, 6, 8, 13, 12, 9, 15], [11, 15, 9, 12, 13, 8, 6, 0, 1, 4, 2, 3, 5, 7, 14, 10, 16]]
theorem c_ckrises_aux (n : Int) (l : List Sp) (step : Se → Sp → Out) (may : Se → Bool) (hl : l.length ≤ maxLen) (h0 : may se0 = true)
    (hst : ∀ s x, (step s x).2.2 = 0 → may (step s x).1 = true ∧ (s.v < (step s x).1.v ∨ s.v = (step s x).1.v ∧ s.ph < (step s x).1.ph) ∧ (step s x).2.1.v = (step s x).1.v ∧ (step s x).2.1.ph = (step s x).1.ph ∧ s.pv ≤ (step s x).1.pv ∧ ((step s x).1.pv = s.pv → (step s x).1.pg = s.pg))
    (cw : FnOK Tryd.prog D 55 [] [] (fun r st => r = (AV.sc (.bool (true))) ∧ st = []))
    (cD : ∀ (s : Se) (i : Nat) (hi : i < l.length), lightB l[i].b → l[i].a.fr.length ≤ 30 → l[i].l.length ≤ 30 → FnOK Tryd.prog D 57 [(AV.st [.sc (.int .i64 (s).v), .sc (.int .i64 (s).ph), .sc (.int .i64 (s).pv), .ar 32 .lf (by8 (s).pg)]), (AV.sc (.int .i64 (n))), .st [(AV.sc (.int .i64 (l[i].d))), (AV.sc (.int .i64 (l[i].v))), (AV.st [.ar 32 .lf (by8 (l[i].b).p), .sc (.int .i64 (l[i].b).v), .sc (.int .i64 (l[i].b).h), .sc (.int .i64 (l[i].b).by_), .sl (.nd [.lf, .lf, .lf, .lf, .lf, .lf, .lf]) (txsA (l[i].b).txs) .ro]), (AV.st [.sc (.int .i64 (l[i].a).by_), .sc (.int .i64 (l[i].a).v), .sc (.int .i64 (l[i].a).pv), .ar 32 .lf (by8 (l[i].a).pg), .sl .lf (ints .i64 (l[i].a).fr) .ro, .ar 32 .lf (by8 (l[i].a).tag)]), .st [(AV.st [.sc (.int .i64 (l[i].t).by_), .sc (.int .i64 (l[i].t).k), .sc (.int .i64 (l[i].t).v), .sc (.int .i64 (l[i].t).ph), .ar 32 .lf (by8 (l[i].t).h), .sc (.int .i64 (l[i].t).pv), .ar 32 .lf (by8 (l[i].t).pg), .ar 32 .lf (by8 (l[i].t).tag)]), (AV.sl (.nd [.lf, .ar 32 .lf]) (sigsA (l[i].l)) .ro)]]] [] (fun r st => r = .tup [(AV.st [.sc (.int .i64 ((step s l[i]).1).v), .sc (.int .i64 ((step s l[i]).1).ph), .sc (.int .i64 ((step s l[i]).1).pv), .ar 32 .lf (by8 ((step s l[i]).1).pg)]), (AV.st [.sc (.int .i64 ((step s l[i]).2.1).by_), .sc (.int .i64 ((step s l[i]).2.1).k), .sc (.int .i64 ((step s l[i]).2.1).v), .sc (.int .i64 ((step s l[i]).2.1).ph), .ar 32 .lf (by8 ((step s l[i]).2.1).h), .sc (.int .i64 ((step s l[i]).2.1).pv), .ar 32 .lf (by8 ((step s l[i]).2.1).pg), .ar 32 .lf (by8 ((step s l[i]).2.1).tag)]), (AV.sc (.int .i64 ((step s l[i]).2.2))), (AV.sc (.bool (true)))] ∧ st = [])) :
    FnOK Tryd.prog D 9 [(AV.sc (.int .i64 (n))), .sl (.nd [.lf, .lf, .nd [.ar 32 .lf, .lf, .lf, .lf, .lf], .nd [.lf, .lf, .lf, .ar 32 .lf, .lf, .ar 32 .lf], .nd [.nd [.lf, .lf, .lf, .lf, .ar 32 .lf, .lf, .ar 32 .lf, .ar 32 .lf], .lf]]) (spsA l) .ro] [] (fun r _ => r = (AV.sc (.bool (true)))) := by
  have hll := lenSp l
  refine fnok_of_Ws [3000000 + 57, 5101213] hmix tabOK Tryd.func9 rfl rfl (Nat.le_of_ble_eq_true rfl) ?_
  conv => whnf
  rw [hll]
  refine Branch.of (fun h1 => ?_) (fun h1 => ?_) <;> rw [h1] <;> conv => whnf
  · refine (cw).mono fun r st e => ?_
    obtain ⟨rfl, rfl⟩ := e
    conv => whnf
    refine ⟨false, [], ?_⟩
    conv => whnf
  simp only [gt_iff_lt, decide_eq_false_iff_not] at h1
  refine ⟨false, [0, 1, 5, 6, 7, 8], fun τ => ∃ (i : Nat) (s : Se), i ≤ l.length ∧ may s = true ∧ τ = ⟨88, [(0, (AV.sc (.int .i64 (n)))), (1, .sl (.nd [.lf, .lf, .nd [.ar 32 .lf, .lf, .lf, .lf, .lf], .nd [.lf, .lf, .lf, .ar 32 .lf, .lf, .ar 32 .lf], .nd [.nd [.lf, .lf, .lf, .lf, .ar 32 .lf, .lf, .ar 32 .lf, .ar 32 .lf], .lf]]) (spsA l) .ro), (5, .pt 0 []), (6, (AV.sc (.int .i64 (s.v)))), (7, (AV.sc (.int .i64 (s.ph)))), (8, (AV.sc (.int .i64 ((i : Int)))))], ⟨[((AV.st [.sc (.int .i64 (s).v), .sc (.int .i64 (s).ph), .sc (.int .i64 (s).pv), .ar 32 .lf (by8 (s).pg)]), false)], [], 0⟩⟩, fun τ => l.length - (slotI τ 8).toNat, ?_, ?_⟩
  · conv => whnf
    exact ⟨0, se0, by omega, h0, rfl⟩
  rintro τ ⟨i, s, hi, hm, rfl⟩
  apply enter3
  intro kk kK
  conv => whnf
  rw [hll]
  refine Branch.of (fun h4 => ?_) (fun h4 => ?_) <;> rw [h4] <;> conv => whnf
  rotate_left
  · refine kK _ _ ?_
    conv => whnf
    refine (cw).mono fun r st e => ?_
    obtain ⟨rfl, rfl⟩ := e
    conv => whnf
    refine ⟨false, [], ?_⟩
    conv => whnf
  simp only [decide_eq_true_eq] at h4
  have il : i < l.length := by omega
  repeat (refine And.intro (by first | omega) ?_; conv => whnf)
  refine ⟨_, atSp il, ?_⟩
  conv => whnf
  refine (c_klight l[i].d l[i].v l[i].b l[i].a l[i].t l[i].l).mono fun r st e => ?_
  obtain ⟨rfl | ⟨rfl, g1, g2, g3⟩, rfl⟩ := e
  · conv => whnf
    refine (cw).mono fun r st e => ?_
    obtain ⟨rfl, rfl⟩ := e
    conv => whnf
    refine kK _ _ ?_
    conv => whnf
    refine ⟨false, [], ?_⟩
    conv => whnf
  have cd := cD s i il g1 g2 g3
  have hs := hst s l[i]
  generalize step s l[i] = X at cd hs
  conv => whnf
  refine ⟨by decide +kernel, ⟨tab15A, by decide +kernel, ?_⟩, ⟨tab15B, by decide +kernel, ?_⟩⟩
  all_goals
    conv => whnf
    repeat (refine And.intro (by first | omega) ?_; conv => whnf)
    refine ⟨_, atSp il, ?_⟩
    conv => whnf
    refine ⟨_, cd, rfl, ?_⟩
    conv => whnf
    refine Branch.of (fun h5 => ?_) (fun h5 => ?_) <;> rw [h5] <;> conv => whnf
    · refine kK _ _ ?_
      conv => whnf
      rw [w64 (x := (i : Int) + 1) (by omega) (by omega)]
      refine ⟨⟨i + 1, s, by omega, hm, rfl⟩, ?_⟩
      show l.length - ((i : Int) + 1).toNat < l.length - (i : Int).toNat
      omega
    simp only [bne_eq_false_iff_eq] at h5
    obtain ⟨k1, k2, k3, k4, k5, k6⟩ := hs h5
    clear cd cD hst
    refine Branch.of (fun hh => ?_) (fun hh => ?_)
    · exfalso; simp only [gt_iff_lt, ge_iff_le, decide_eq_true_eq, decide_eq_false_iff_not, beq_iff_eq, beq_eq_false_iff_ne, bne_iff_ne, bne_eq_false_iff_eq, ne_eq] at hh; first | done | omega | (simp at hh; done)
    try rw [hh]
    clear hh
    conv => whnf
    refine Branch.of (fun h6 => ?_) (fun h6 => ?_) <;> rw [h6] <;> conv => whnf
    · simp only [beq_iff_eq] at h6
      refine Branch.of (fun hh => ?_) (fun hh => ?_)
      · exfalso; simp only [gt_iff_lt, ge_iff_le, decide_eq_true_eq, decide_eq_false_iff_not, beq_iff_eq, beq_eq_false_iff_ne, bne_iff_ne, bne_eq_false_iff_eq, ne_eq] at hh; first | done | omega | (simp at hh; done)
      try rw [hh]
      clear hh
      conv => whnf
      refine Branch.of (fun hh => ?_) (fun hh => ?_)
      · exfalso; simp only [gt_iff_lt, ge_iff_le, decide_eq_true_eq, decide_eq_false_iff_not, beq_iff_eq, beq_eq_false_iff_ne, bne_iff_ne, bne_eq_false_iff_eq, ne_eq] at hh; first | done | omega | (simp at hh; done)
      try rw [hh]
      clear hh
      conv => whnf
      refine Branch.of (fun h8 => ?_) (fun h8 => ?_) <;> rw [h8] <;> conv => whnf
      · simp only [beq_iff_eq] at h8
        refine ⟨X.1.pg, s.pg, rfl, rfl, ?_⟩
        conv => whnf
        rw [show (X.1.pg == s.pg) = true by rw [k6 h8, beq_self_eq_true]]
        conv => whnf
        refine ⟨tabF9R14, by decide +kernel, ?_⟩
        conv => whnf
        refine kK _ _ ?_
        conv => whnf
        rw [w64 (x := (i : Int) + 1) (by omega) (by omega)]
        refine ⟨⟨i + 1, X.1, by omega, k1, by rw [k3, k4]; rfl⟩, ?_⟩
        show l.length - ((i : Int) + 1).toNat < l.length - (i : Int).toNat
        omega
      · skip
        refine ⟨tabF9R14, by decide +kernel, ?_⟩
        conv => whnf
        refine kK _ _ ?_
        conv => whnf
        rw [w64 (x := (i : Int) + 1) (by omega) (by omega)]
        refine ⟨⟨i + 1, X.1, by omega, k1, by rw [k3, k4]; rfl⟩, ?_⟩
        show l.length - ((i : Int) + 1).toNat < l.length - (i : Int).toNat
        omega
    · simp only [beq_eq_false_iff_ne, ne_eq] at h6
      refine Branch.of (fun hh => ?_) (fun hh => ?_)
      · exfalso; simp only [gt_iff_lt, ge_iff_le, decide_eq_true_eq, decide_eq_false_iff_not, beq_iff_eq, beq_eq_false_iff_ne, bne_iff_ne, bne_eq_false_iff_eq, ne_eq] at hh; first | done | omega | (simp at hh; done)
      try rw [hh]
      clear hh
      conv => whnf
      refine Branch.of (fun h8 => ?_) (fun h8 => ?_) <;> rw [h8] <;> conv => whnf
      · simp only [beq_iff_eq] at h8
        refine ⟨X.1.pg, s.pg, rfl, rfl, ?_⟩
        conv => whnf
        rw [show (X.1.pg == s.pg) = true by rw [k6 h8, beq_self_eq_true]]
        conv => whnf
        refine ⟨tabF9R14, by decide +kernel, ?_⟩
        conv => whnf
        refine kK _ _ ?_
        conv => whnf
        rw [w64 (x := (i : Int) + 1) (by omega) (by omega)]
        refine ⟨⟨i + 1, X.1, by omega, k1, by rw [k3, k4]; rfl⟩, ?_⟩
        show l.length - ((i : Int) + 1).toNat < l.length - (i : Int).toNat
        omega
      · skip
        refine ⟨tabF9R14, by decide +kernel, ?_⟩
        conv => whnf
        refine kK _ _ ?_
        conv => whnf
        rw [w64 (x := (i : Int) + 1) (by omega) (by omega)]
        refine ⟨⟨i + 1, X.1, by omega, k1, by rw [k3, k4]; rfl⟩, ?_⟩
        show l.length - ((i : Int) + 1).toNat < l.length - (i : Int).toNat
        omega
theorem c_ckrises (n : Int) (l : List Sp) (hl : l.length ≤ maxLen) (hp : ∀ x ∈ l, x.b.p.length = 32 ∧ x.a.wf ∧ x.t.wf ∧ sigOK x.l) :
    FnOK Tryd.prog D 9 [(AV.sc (.int .i64 (n))), .sl (.nd [.lf, .lf, .nd [.ar 32 .lf, .lf, .lf, .lf, .lf], .nd [.lf, .lf, .lf, .ar 32 .lf, .lf, .ar 32 .lf], .nd [.nd [.lf, .lf, .lf, .lf, .ar 32 .lf, .lf, .ar 32 .lf, .ar 32 .lf], .lf]]) (spsA l) .ro] [] (fun r _ => r = (AV.sc (.bool (true)))) := by
  refine c_ckrises_aux n l (fun s x => doK s n x.d x.v x.b x.a x.t x.l) maySe hl (by rw [maySe_eq]; decide +kernel) (fun s x h => ?_) c_awake15 (fun s i hi h1 h2 h3 => ?_)
  · have g := ahead_do h
    exact ⟨g.m, less_iff.1 g.l, g.v, g.p, g.q, g.g⟩
  · obtain ⟨p1, p2, p3, p4⟩ := hp _ (List.getElem_mem hi)
    exact c_kdo s n _ _ _ _ _ _ h1 p1 h2 h3 p2 p3 p4
theorem sps_map : ∀ xs : List AV, (∀ x ∈ xs, OfTy (.st [.int .i64, .int .i64, .st [.ar 32 .lf (.int .u8), .int .i64, .int .i64, .int .i64, .sl (.nd [.lf, .lf, .lf, .lf, .lf, .lf, .lf]) (.st [.int .i64, .int .i64, .int .i64, .int .i64, .int .i64, .str, .str])], .st [.int .i64, .int .i64, .int .i64, .ar 32 .lf (.int .u8), .sl .lf (.int .i64), .ar 32 .lf (.int .u8)], .st [.st [.int .i64, .int .i64, .int .i64, .int .i64, .ar 32 .lf (.int .u8), .int .i64, .ar 32 .lf (.int .u8), .ar 32 .lf (.int .u8)], .sl (.nd [.lf, .ar 32 .lf]) (.st [.int .i64, .ar 32 .lf (.int .u8)])]]) x) → ∃ l : List Sp, xs = spsA l ∧ ∀ x ∈ l, x.b.p.length = 32 ∧ x.a.wf ∧ x.t.wf ∧ sigOK x.l
  | [], _ => ⟨[], rfl, fun i h => by simp at h⟩
  | x :: xs, h => by
    obtain ⟨l, e, hl⟩ := sps_map xs fun y hy => h y (List.mem_cons_of_mem _ hy)
    obtain ⟨a, e2, h2⟩ := sp_of (h x (by simp))
    refine ⟨a :: l, by rw [e, e2]; rfl, fun y hy => ?_⟩
    rcases List.mem_cons.1 hy with rfl | hy
    · exact h2
    · exact hl y hy
end Go.WL.T7
