/- What a trusted part does, step by step. No condition. -/
import Derived.Test.YtmpnboonjpcmpaaDoorPart29
import Derived.Test.YtmpnboonjpcmpaaDoorPart30
import Derived.Test.YtmpnboonjpcmpaaDoorPart33
import Derived.Test.YtmpnboonjpcmpaaDoorPart35
set_option linter.unusedVariables false
set_option linter.unusedSimpArgs false
namespace Go.WL.T7
open Go.WL Go.Proofs
set_option maxRecDepth 20000
set_option maxHeartbeats 8000000
def se0 : Se := ⟨0, 0, 0, z32⟩
def an0 : At := ⟨0, 0, 0, 0, z32, 0, z32, z32⟩
abbrev Out := Se × At × Int
def no (e : Int) : Out := (se0, an0, e)
def upS (s : Se) (v p : Int) : Se := ⟨v, p, s.pv, s.pg⟩
def upA (s : Se) (v p : Int) : At := ⟨0, p, v, p, z32, s.pv, s.pg, z32⟩
def stepK (s : Se) (v p : Int) : Out := if oldSe s v p = true then no 11 else (upS s v p, upA s v p, 0)
theorem c_kstep (s : Se) (v p : Int) : FnOK Tryd.prog D 142 [(AV.st [.sc (.int .i64 (s).v), .sc (.int .i64 (s).ph), .sc (.int .i64 (s).pv), .ar 32 .lf (by8 (s).pg)]), (AV.sc (.int .i64 (v))), (AV.sc (.int .i64 (p)))] [] (fun r st => r = .tup [(AV.st [.sc (.int .i64 ((stepK s v p).1).v), .sc (.int .i64 ((stepK s v p).1).ph), .sc (.int .i64 ((stepK s v p).1).pv), .ar 32 .lf (by8 ((stepK s v p).1).pg)]), (AV.st [.sc (.int .i64 ((stepK s v p).2.1).by_), .sc (.int .i64 ((stepK s v p).2.1).k), .sc (.int .i64 ((stepK s v p).2.1).v), .sc (.int .i64 ((stepK s v p).2.1).ph), .ar 32 .lf (by8 ((stepK s v p).2.1).h), .sc (.int .i64 ((stepK s v p).2.1).pv), .ar 32 .lf (by8 ((stepK s v p).2.1).pg), .ar 32 .lf (by8 ((stepK s v p).2.1).tag)]), (AV.sc (.int .i64 ((stepK s v p).2.2)))] ∧ st = []) := by
  have cl := c_sless s (upS s v p)
  have ho := old_less s v p s.pv s.pg
  have e : stepK s v p = if oldSe s v p = true then no 11 else (upS s v p, upA s v p, 0) := rfl
  rw [show (⟨v, p, s.pv, s.pg⟩ : Se) = upS s v p from rfl] at ho
  generalize lessSe s (upS s v p) = l at cl ho
  rw [ho] at e
  generalize stepK s v p = O at e
  refine fnok_of_W hmix tabOK Tryd.func142 rfl rfl (Nat.le_of_ble_eq_true rfl) ?_
  conv => whnf
  refine (cl).mono fun r st e => ?_
  obtain ⟨rfl, rfl⟩ := e
  conv => whnf
  cases l with
  | false =>
    have e : O = no 11 := e
    subst e
    conv => whnf
    refine ⟨false, [], ?_⟩
    conv => whnf
    exact ⟨rfl, rfl⟩
  | true =>
    have e : O = (upS s v p, upA s v p, 0) := e
    subst e
    conv => whnf
    refine ⟨tabF142R5, by decide +kernel, ?_⟩
    conv => whnf
    refine ⟨false, [], ?_⟩
    conv => whnf
    exact ⟨rfl, rfl⟩
def newK (m : Bool) (s : Se) (v : Int) : Out := if m = true ∧ 1 ≤ v ∧ v ≤ 1099511627776 then stepK s v 1 else no 1
theorem c_knew_aux (s : Se) (v : Int) (m : Bool) (O S : Out) (h1 : m = true ∧ 1 ≤ v ∧ v ≤ 1099511627776 → O = S) (h2 : ¬ (m = true ∧ 1 ≤ v ∧ v ≤ 1099511627776) → O = no 1)
    (cm : FnOK Tryd.prog D 141 [(AV.st [.sc (.int .i64 (s).v), .sc (.int .i64 (s).ph), .sc (.int .i64 (s).pv), .ar 32 .lf (by8 (s).pg)])] [] (fun r st => r = (AV.sc (.int .i64 (if m = true then 0 else 1))) ∧ st = []))
    (cs : FnOK Tryd.prog D 142 [(AV.st [.sc (.int .i64 (s).v), .sc (.int .i64 (s).ph), .sc (.int .i64 (s).pv), .ar 32 .lf (by8 (s).pg)]), (AV.sc (.int .i64 (v))), (AV.sc (.int .i64 (1)))] [] (fun r st => r = .tup [(AV.st [.sc (.int .i64 (S.1).v), .sc (.int .i64 (S.1).ph), .sc (.int .i64 (S.1).pv), .ar 32 .lf (by8 (S.1).pg)]), (AV.st [.sc (.int .i64 (S.2.1).by_), .sc (.int .i64 (S.2.1).k), .sc (.int .i64 (S.2.1).v), .sc (.int .i64 (S.2.1).ph), .ar 32 .lf (by8 (S.2.1).h), .sc (.int .i64 (S.2.1).pv), .ar 32 .lf (by8 (S.2.1).pg), .ar 32 .lf (by8 (S.2.1).tag)]), (AV.sc (.int .i64 (S.2.2)))] ∧ st = [])) :
    FnOK Tryd.prog D 92 [(AV.st [.sc (.int .i64 (s).v), .sc (.int .i64 (s).ph), .sc (.int .i64 (s).pv), .ar 32 .lf (by8 (s).pg)]), (AV.sc (.int .i64 (v)))] [] (fun r st => r = .tup [(AV.st [.sc (.int .i64 (O.1).v), .sc (.int .i64 (O.1).ph), .sc (.int .i64 (O.1).pv), .ar 32 .lf (by8 (O.1).pg)]), (AV.st [.sc (.int .i64 (O.2.1).by_), .sc (.int .i64 (O.2.1).k), .sc (.int .i64 (O.2.1).v), .sc (.int .i64 (O.2.1).ph), .ar 32 .lf (by8 (O.2.1).h), .sc (.int .i64 (O.2.1).pv), .ar 32 .lf (by8 (O.2.1).pg), .ar 32 .lf (by8 (O.2.1).tag)]), (AV.sc (.int .i64 (O.2.2)))] ∧ st = []) := by
  refine fnok_of_W hmix tabOK Tryd.func92 rfl rfl (Nat.le_of_ble_eq_true rfl) ?_
  conv => whnf
  refine (cm).mono fun r st e => ?_
  obtain ⟨rfl, rfl⟩ := e
  conv => whnf
  by_cases hc : m = true ∧ 1 ≤ v ∧ v ≤ 1099511627776
  · obtain rfl := h1 hc
    obtain ⟨rfl, h3, h4⟩ := hc
    conv => whnf
    refine Branch.of (fun hh => ?_) (fun hh => ?_)
    · exfalso; simp only [gt_iff_lt, ge_iff_le, decide_eq_true_eq, decide_eq_false_iff_not, beq_iff_eq, beq_eq_false_iff_ne, bne_iff_ne, bne_eq_false_iff_eq, ne_eq] at hh; first | done | omega | (simp at hh; done)
    try rw [hh]
    clear hh
    conv => whnf
    refine Branch.of (fun hh => ?_) (fun hh => ?_)
    · exfalso; simp only [gt_iff_lt, ge_iff_le, decide_eq_true_eq, decide_eq_false_iff_not, beq_iff_eq, beq_eq_false_iff_ne, bne_iff_ne, bne_eq_false_iff_eq, ne_eq] at hh; first | done | omega | (simp at hh; done)
    try rw [hh]
    clear hh
    conv => whnf
    refine (cs).mono fun r st e => ?_
    obtain ⟨rfl, rfl⟩ := e
    conv => whnf
    refine ⟨false, [], ?_⟩
    conv => whnf
    exact ⟨rfl, rfl⟩
  · obtain rfl := h2 hc
    repeat' (first
      | (refine And.intro (by omega) ?_
         conv => whnf)
      | (refine Branch.of (fun h => ?_) (fun h => ?_) <;> (rw [h]; conv => whnf)))
    all_goals first
      | (exfalso; simp_all; done)
      | (exfalso; simp_all; omega)
      | (refine ⟨false, [], ?_⟩; conv => whnf
         exact ⟨rfl, rfl⟩)
theorem c_knew (s : Se) (v : Int) : FnOK Tryd.prog D 92 [(AV.st [.sc (.int .i64 (s).v), .sc (.int .i64 (s).ph), .sc (.int .i64 (s).pv), .ar 32 .lf (by8 (s).pg)]), (AV.sc (.int .i64 (v)))] [] (fun r st => r = .tup [(AV.st [.sc (.int .i64 ((newK (maySe s) s v).1).v), .sc (.int .i64 ((newK (maySe s) s v).1).ph), .sc (.int .i64 ((newK (maySe s) s v).1).pv), .ar 32 .lf (by8 ((newK (maySe s) s v).1).pg)]), (AV.st [.sc (.int .i64 ((newK (maySe s) s v).2.1).by_), .sc (.int .i64 ((newK (maySe s) s v).2.1).k), .sc (.int .i64 ((newK (maySe s) s v).2.1).v), .sc (.int .i64 ((newK (maySe s) s v).2.1).ph), .ar 32 .lf (by8 ((newK (maySe s) s v).2.1).h), .sc (.int .i64 ((newK (maySe s) s v).2.1).pv), .ar 32 .lf (by8 ((newK (maySe s) s v).2.1).pg), .ar 32 .lf (by8 ((newK (maySe s) s v).2.1).tag)]), (AV.sc (.int .i64 ((newK (maySe s) s v).2.2)))] ∧ st = []) :=
  c_knew_aux s v (maySe s) _ (stepK s v 1) (fun h => if_pos h) (fun h => if_neg h) (c_scheck s) (c_kstep s v 1)
theorem c_knewR_aux (s : Se) (v : Int) (m o : Bool) (O : Out) (h1 : m = true ∧ 1 ≤ v ∧ v ≤ 1099511627776 → O = if o = true then no 11 else (upS s v 1, upA s v 1, 0)) (h2 : ¬ (m = true ∧ 1 ≤ v ∧ v ≤ 1099511627776) → O = no 1)
    (cm : FnOK Tryd.prog D 143 [(AV.st [.sc (.int .i64 (s).v), .sc (.int .i64 (s).ph), .sc (.int .i64 (s).pv), .ar 32 .lf (by8 (s).pg)])] [] (fun r st => r = (AV.sc (.bool (m))) ∧ st = []))
    (co : FnOK Tryd.prog D 144 [(AV.st [.sc (.int .i64 (s).v), .sc (.int .i64 (s).ph), .sc (.int .i64 (s).pv), .ar 32 .lf (by8 (s).pg)]), (AV.sc (.int .i64 (v))), (AV.sc (.int .i64 (1)))] [] (fun r st => r = (AV.sc (.bool (o))) ∧ st = [])) :
    FnOK Tryd.prog D 93 [(AV.st [.sc (.int .i64 (s).v), .sc (.int .i64 (s).ph), .sc (.int .i64 (s).pv), .ar 32 .lf (by8 (s).pg)]), (AV.sc (.int .i64 (v)))] [] (fun r st => r = .tup [(AV.st [.sc (.int .i64 (O.1).v), .sc (.int .i64 (O.1).ph), .sc (.int .i64 (O.1).pv), .ar 32 .lf (by8 (O.1).pg)]), (AV.st [.sc (.int .i64 (O.2.1).by_), .sc (.int .i64 (O.2.1).k), .sc (.int .i64 (O.2.1).v), .sc (.int .i64 (O.2.1).ph), .ar 32 .lf (by8 (O.2.1).h), .sc (.int .i64 (O.2.1).pv), .ar 32 .lf (by8 (O.2.1).pg), .ar 32 .lf (by8 (O.2.1).tag)]), (AV.sc (.int .i64 (O.2.2)))] ∧ st = []) := by
  refine fnok_of_W hmix tabOK Tryd.func93 rfl rfl (Nat.le_of_ble_eq_true rfl) ?_
  conv => whnf
  refine (cm).mono fun r st e => ?_
  obtain ⟨rfl, rfl⟩ := e
  conv => whnf
  by_cases hc : m = true ∧ 1 ≤ v ∧ v ≤ 1099511627776
  · have h9 := h1 hc
    clear h1 h2
    obtain ⟨rfl, h3, h4⟩ := hc
    conv => whnf
    refine Branch.of (fun hh => ?_) (fun hh => ?_)
    · exfalso; simp only [gt_iff_lt, ge_iff_le, decide_eq_true_eq, decide_eq_false_iff_not, beq_iff_eq, beq_eq_false_iff_ne, bne_iff_ne, bne_eq_false_iff_eq, ne_eq] at hh; first | done | omega | (simp at hh; done)
    try rw [hh]
    clear hh
    conv => whnf
    refine Branch.of (fun hh => ?_) (fun hh => ?_)
    · exfalso; simp only [gt_iff_lt, ge_iff_le, decide_eq_true_eq, decide_eq_false_iff_not, beq_iff_eq, beq_eq_false_iff_ne, bne_iff_ne, bne_eq_false_iff_eq, ne_eq] at hh; first | done | omega | (simp at hh; done)
    try rw [hh]
    clear hh
    conv => whnf
    refine (co).mono fun r st e => ?_
    obtain ⟨rfl, rfl⟩ := e
    conv => whnf
    cases o with
    | true =>
      obtain rfl : O = no 11 := h9
      conv => whnf
      refine ⟨false, [], ?_⟩
      conv => whnf
      exact ⟨rfl, rfl⟩
    | false =>
      obtain rfl : O = (upS s v 1, upA s v 1, 0) := h9
      conv => whnf
      refine ⟨tabF93R5, by decide +kernel, ?_⟩
      conv => whnf
      refine ⟨false, [], ?_⟩
      conv => whnf
      exact ⟨rfl, rfl⟩
  · obtain rfl := h2 hc
    repeat' (first
      | (refine And.intro (by omega) ?_
         conv => whnf)
      | (refine Branch.of (fun h => ?_) (fun h => ?_) <;> (rw [h]; conv => whnf)))
    all_goals first
      | (exfalso; simp_all; done)
      | (exfalso; simp_all; omega)
      | (refine ⟨false, [], ?_⟩; conv => whnf
         exact ⟨rfl, rfl⟩)
theorem c_knewR (s : Se) (v : Int) : FnOK Tryd.prog D 93 [(AV.st [.sc (.int .i64 (s).v), .sc (.int .i64 (s).ph), .sc (.int .i64 (s).pv), .ar 32 .lf (by8 (s).pg)]), (AV.sc (.int .i64 (v)))] [] (fun r st => r = .tup [(AV.st [.sc (.int .i64 ((newK (maySe s) s v).1).v), .sc (.int .i64 ((newK (maySe s) s v).1).ph), .sc (.int .i64 ((newK (maySe s) s v).1).pv), .ar 32 .lf (by8 ((newK (maySe s) s v).1).pg)]), (AV.st [.sc (.int .i64 ((newK (maySe s) s v).2.1).by_), .sc (.int .i64 ((newK (maySe s) s v).2.1).k), .sc (.int .i64 ((newK (maySe s) s v).2.1).v), .sc (.int .i64 ((newK (maySe s) s v).2.1).ph), .ar 32 .lf (by8 ((newK (maySe s) s v).2.1).h), .sc (.int .i64 ((newK (maySe s) s v).2.1).pv), .ar 32 .lf (by8 ((newK (maySe s) s v).2.1).pg), .ar 32 .lf (by8 ((newK (maySe s) s v).2.1).tag)]), (AV.sc (.int .i64 ((newK (maySe s) s v).2.2)))] ∧ st = []) :=
  c_knewR_aux s v (maySe s) (oldSe s v 1) _ (fun h => if_pos h) (fun h => if_neg h) (c_smayR s) (c_old s v 1)
def prepA (m : Bool) (rc : Bool) (H : List UInt8) (s : Se) (b : Bl) (a : Ac) : Out := if m = true ∧ b.v ≠ 0 then
  (if rc = true ∧ a.v = b.v ∧ a.pg = b.p then
    (if oldSe s b.v 2 = true then no 11 else (upS s b.v 2, ⟨0, 2, b.v, 2, H, a.pv, a.pg, z32⟩, 0)) else no 7) else no 1
theorem c_kprep_aux (s : Se) (n : Int) (b : Bl) (a : Ac) (ms mb rc o : Bool) (H : List UInt8) (O : Out)
    (h1 : ¬ (ms = true ∧ mb = true ∧ b.v ≠ 0) → O = no 1) (h7 : (ms = true ∧ mb = true ∧ b.v ≠ 0) → ¬ (rc = true ∧ a.v = b.v ∧ a.pg = b.p) → O = no 7)
    (h0 : (ms = true ∧ mb = true ∧ b.v ≠ 0) → (rc = true ∧ a.v = b.v ∧ a.pg = b.p) → O = if o = true then no 11 else (upS s b.v 2, ⟨0, 2, b.v, 2, H, a.pv, a.pg, z32⟩, 0))
    (cm : FnOK Tryd.prog D 141 [(AV.st [.sc (.int .i64 (s).v), .sc (.int .i64 (s).ph), .sc (.int .i64 (s).pv), .ar 32 .lf (by8 (s).pg)])] [] (fun r st => r = (AV.sc (.int .i64 (if ms = true then 0 else 1))) ∧ st = []))
    (cb : FnOK Tryd.prog D 61 [(AV.st [.ar 32 .lf (by8 (b).p), .sc (.int .i64 (b).v), .sc (.int .i64 (b).h), .sc (.int .i64 (b).by_), .sl (.nd [.lf, .lf, .lf, .lf, .lf, .lf, .lf]) (txsA (b).txs) .ro])] [] (fun r st => r = (AV.sc (.int .i64 (if mb = true then 0 else 1))) ∧ st = []))
    (cr : FnOK Tryd.prog D 145 [(AV.sc (.int .i64 (n))), (AV.st [.sc (.int .i64 (a).by_), .sc (.int .i64 (a).v), .sc (.int .i64 (a).pv), .ar 32 .lf (by8 (a).pg), .sl .lf (ints .i64 (a).fr) .ro, .ar 32 .lf (by8 (a).tag)])] [] (fun r st => r = (AV.sc (.bool (rc))) ∧ st = []))
    (ch : FnOK Tryd.prog D 60 [(AV.st [.ar 32 .lf (by8 (b).p), .sc (.int .i64 (b).v), .sc (.int .i64 (b).h), .sc (.int .i64 (b).by_), .sl (.nd [.lf, .lf, .lf, .lf, .lf, .lf, .lf]) (txsA (b).txs) .ro])] [] (fun r st => r = .ar 32 .lf (by8 H) ∧ st = []))
    (cs : FnOK Tryd.prog D 142 [(AV.st [.sc (.int .i64 (s).v), .sc (.int .i64 (s).ph), .sc (.int .i64 (s).pv), .ar 32 .lf (by8 (s).pg)]), (AV.sc (.int .i64 (b.v))), (AV.sc (.int .i64 (2)))] [] (fun r st => (o = true ∧ r = .tup [(AV.st [.sc (.int .i64 (se0).v), .sc (.int .i64 (se0).ph), .sc (.int .i64 (se0).pv), .ar 32 .lf (by8 (se0).pg)]), (AV.st [.sc (.int .i64 (an0).by_), .sc (.int .i64 (an0).k), .sc (.int .i64 (an0).v), .sc (.int .i64 (an0).ph), .ar 32 .lf (by8 (an0).h), .sc (.int .i64 (an0).pv), .ar 32 .lf (by8 (an0).pg), .ar 32 .lf (by8 (an0).tag)]), (AV.sc (.int .i64 (11)))] ∨ o = false ∧ r = .tup [(AV.st [.sc (.int .i64 (upS s b.v 2).v), .sc (.int .i64 (upS s b.v 2).ph), .sc (.int .i64 (upS s b.v 2).pv), .ar 32 .lf (by8 (upS s b.v 2).pg)]), (AV.st [.sc (.int .i64 (upA s b.v 2).by_), .sc (.int .i64 (upA s b.v 2).k), .sc (.int .i64 (upA s b.v 2).v), .sc (.int .i64 (upA s b.v 2).ph), .ar 32 .lf (by8 (upA s b.v 2).h), .sc (.int .i64 (upA s b.v 2).pv), .ar 32 .lf (by8 (upA s b.v 2).pg), .ar 32 .lf (by8 (upA s b.v 2).tag)]), (AV.sc (.int .i64 (0)))]) ∧ st = [])) :
    FnOK Tryd.prog D 94 [(AV.st [.sc (.int .i64 (s).v), .sc (.int .i64 (s).ph), .sc (.int .i64 (s).pv), .ar 32 .lf (by8 (s).pg)]), (AV.sc (.int .i64 (n))), (AV.st [.ar 32 .lf (by8 (b).p), .sc (.int .i64 (b).v), .sc (.int .i64 (b).h), .sc (.int .i64 (b).by_), .sl (.nd [.lf, .lf, .lf, .lf, .lf, .lf, .lf]) (txsA (b).txs) .ro]), (AV.st [.sc (.int .i64 (a).by_), .sc (.int .i64 (a).v), .sc (.int .i64 (a).pv), .ar 32 .lf (by8 (a).pg), .sl .lf (ints .i64 (a).fr) .ro, .ar 32 .lf (by8 (a).tag)])] [] (fun r st => r = .tup [(AV.st [.sc (.int .i64 (O.1).v), .sc (.int .i64 (O.1).ph), .sc (.int .i64 (O.1).pv), .ar 32 .lf (by8 (O.1).pg)]), (AV.st [.sc (.int .i64 (O.2.1).by_), .sc (.int .i64 (O.2.1).k), .sc (.int .i64 (O.2.1).v), .sc (.int .i64 (O.2.1).ph), .ar 32 .lf (by8 (O.2.1).h), .sc (.int .i64 (O.2.1).pv), .ar 32 .lf (by8 (O.2.1).pg), .ar 32 .lf (by8 (O.2.1).tag)]), (AV.sc (.int .i64 (O.2.2)))] ∧ st = []) := by
  refine fnok_of_W hmix tabOK Tryd.func94 rfl rfl (Nat.le_of_ble_eq_true rfl) ?_
  conv => whnf
  refine (cm).mono fun r st e => ?_
  obtain ⟨rfl, rfl⟩ := e
  conv => whnf
  by_cases hc : ms = true ∧ mb = true ∧ b.v ≠ 0
  rotate_left
  · obtain rfl := h1 hc
    clear h1 h7 h0
    repeat' (first
      | (refine (cb).mono fun r st e => ?_
         obtain ⟨rfl, rfl⟩ := e
         conv => whnf)
      | (refine And.intro (by omega) ?_
         conv => whnf)
      | (refine Branch.of (fun h => ?_) (fun h => ?_) <;> (rw [h]; conv => whnf)))
    all_goals first
      | (refine ⟨false, [], ?_⟩; conv => whnf
         exact ⟨rfl, rfl⟩)
      | (exfalso; simp_all; done)
  have h70 := h7 hc
  have h00 := h0 hc
  clear h1 h7 h0
  obtain ⟨rfl, rfl, hv⟩ := hc
  conv => whnf
  refine (cb).mono fun r st e => ?_
  obtain ⟨rfl, rfl⟩ := e
  conv => whnf
  refine Branch.of (fun hh => ?_) (fun hh => ?_)
  · exfalso; simp only [gt_iff_lt, ge_iff_le, decide_eq_true_eq, decide_eq_false_iff_not, beq_iff_eq, beq_eq_false_iff_ne, bne_iff_ne, bne_eq_false_iff_eq, ne_eq] at hh; first | done | omega | (simp at hh; done)
  try rw [hh]
  clear hh
  conv => whnf
  refine (cr).mono fun r st e => ?_
  obtain ⟨rfl, rfl⟩ := e
  conv => whnf
  by_cases hd : rc = true ∧ a.v = b.v ∧ a.pg = b.p
  rotate_left
  · obtain rfl := h70 hd
    clear h70 h00
    repeat' (first
      | (refine ⟨a.pg, b.p, rfl, rfl, ?_⟩
         conv => whnf)
      | (refine And.intro (by omega) ?_
         conv => whnf)
      | (refine Branch.of (fun h => ?_) (fun h => ?_) <;> (rw [h]; conv => whnf)))
    all_goals first
      | (refine ⟨false, [], ?_⟩; conv => whnf
         exact ⟨rfl, rfl⟩)
      | (exfalso; simp_all; done)
  have h01 := h00 hd
  clear h70 h00
  obtain ⟨rfl, h3, h4⟩ := hd
  conv => whnf
  refine Branch.of (fun hh => ?_) (fun hh => ?_)
  · exfalso; simp only [gt_iff_lt, ge_iff_le, decide_eq_true_eq, decide_eq_false_iff_not, beq_iff_eq, beq_eq_false_iff_ne, bne_iff_ne, bne_eq_false_iff_eq, ne_eq] at hh; first | done | omega | (simp at hh; done)
  try rw [hh]
  clear hh
  conv => whnf
  refine ⟨a.pg, b.p, rfl, rfl, ?_⟩
  conv => whnf
  rw [h4, beq_self_eq_true]
  conv => whnf
  refine cs.mono fun r st e => ?_
  obtain ⟨⟨rfl, rfl⟩ | ⟨rfl, rfl⟩, rfl⟩ := e
  · obtain rfl : O = no 11 := h01
    conv => whnf
    refine ⟨false, [], ?_⟩
    conv => whnf
    exact ⟨rfl, rfl⟩
  · obtain rfl : O = (upS s b.v 2, ⟨0, 2, b.v, 2, H, a.pv, b.p, z32⟩, 0) := by rw [h01, h4]; rfl
    conv => whnf
    refine ⟨tabF94R12, by decide +kernel, ?_⟩
    conv => whnf
    refine ⟨_, _, ch, ?_⟩
    conv => whnf
    refine ⟨tabF94R13, by decide +kernel, ?_⟩
    conv => whnf
    refine ⟨false, [], ?_⟩
    conv => whnf
    first
      | exact ⟨rfl, rfl⟩
      | (rw [h4]; exact ⟨rfl, rfl⟩)
theorem step_or (s : Se) (v p : Int) : FnOK Tryd.prog D 142 [(AV.st [.sc (.int .i64 (s).v), .sc (.int .i64 (s).ph), .sc (.int .i64 (s).pv), .ar 32 .lf (by8 (s).pg)]), (AV.sc (.int .i64 (v))), (AV.sc (.int .i64 (p)))] [] (fun r st => (oldSe s v p = true ∧ r = .tup [(AV.st [.sc (.int .i64 (se0).v), .sc (.int .i64 (se0).ph), .sc (.int .i64 (se0).pv), .ar 32 .lf (by8 (se0).pg)]), (AV.st [.sc (.int .i64 (an0).by_), .sc (.int .i64 (an0).k), .sc (.int .i64 (an0).v), .sc (.int .i64 (an0).ph), .ar 32 .lf (by8 (an0).h), .sc (.int .i64 (an0).pv), .ar 32 .lf (by8 (an0).pg), .ar 32 .lf (by8 (an0).tag)]), (AV.sc (.int .i64 (11)))] ∨ oldSe s v p = false ∧ r = .tup [(AV.st [.sc (.int .i64 (upS s v p).v), .sc (.int .i64 (upS s v p).ph), .sc (.int .i64 (upS s v p).pv), .ar 32 .lf (by8 (upS s v p).pg)]), (AV.st [.sc (.int .i64 (upA s v p).by_), .sc (.int .i64 (upA s v p).k), .sc (.int .i64 (upA s v p).v), .sc (.int .i64 (upA s v p).ph), .ar 32 .lf (by8 (upA s v p).h), .sc (.int .i64 (upA s v p).pv), .ar 32 .lf (by8 (upA s v p).pg), .ar 32 .lf (by8 (upA s v p).tag)]), (AV.sc (.int .i64 (0)))]) ∧ st = []) := by
  refine (c_kstep s v p).mono fun r st e => ⟨?_, e.2⟩
  rw [e.1]
  unfold stepK
  cases h : oldSe s v p
  · exact .inr ⟨rfl, rfl⟩
  · exact .inl ⟨rfl, rfl⟩
def prepK (s : Se) (n : Int) (b : Bl) (a : Ac) : Out := prepA (maySe s && mayB b) (rightAc n a) (blH b) s b a
theorem c_kprep (s : Se) (n : Int) (b : Bl) (a : Ac) (ob : b.txs.length < 4294967296 ∧ shortK b.txs ∧ b.p.length = 32) (hl : a.fr.length < 4294967296) (hw : a.wf) : FnOK Tryd.prog D 94 [(AV.st [.sc (.int .i64 (s).v), .sc (.int .i64 (s).ph), .sc (.int .i64 (s).pv), .ar 32 .lf (by8 (s).pg)]), (AV.sc (.int .i64 (n))), (AV.st [.ar 32 .lf (by8 (b).p), .sc (.int .i64 (b).v), .sc (.int .i64 (b).h), .sc (.int .i64 (b).by_), .sl (.nd [.lf, .lf, .lf, .lf, .lf, .lf, .lf]) (txsA (b).txs) .ro]), (AV.st [.sc (.int .i64 (a).by_), .sc (.int .i64 (a).v), .sc (.int .i64 (a).pv), .ar 32 .lf (by8 (a).pg), .sl .lf (ints .i64 (a).fr) .ro, .ar 32 .lf (by8 (a).tag)])] [] (fun r st => r = .tup [(AV.st [.sc (.int .i64 ((prepK s n b a).1).v), .sc (.int .i64 ((prepK s n b a).1).ph), .sc (.int .i64 ((prepK s n b a).1).pv), .ar 32 .lf (by8 ((prepK s n b a).1).pg)]), (AV.st [.sc (.int .i64 ((prepK s n b a).2.1).by_), .sc (.int .i64 ((prepK s n b a).2.1).k), .sc (.int .i64 ((prepK s n b a).2.1).v), .sc (.int .i64 ((prepK s n b a).2.1).ph), .ar 32 .lf (by8 ((prepK s n b a).2.1).h), .sc (.int .i64 ((prepK s n b a).2.1).pv), .ar 32 .lf (by8 ((prepK s n b a).2.1).pg), .ar 32 .lf (by8 ((prepK s n b a).2.1).tag)]), (AV.sc (.int .i64 ((prepK s n b a).2.2)))] ∧ st = []) := by
  refine c_kprep_aux s n b a (maySe s) (mayB b) (rightAc n a) (oldSe s b.v 2) (blH b) _ (fun h => ?_) (fun h k => ?_) (fun h k => ?_) (c_scheck s) (c_bcheck b ob.1 ob.2.1) (c_acright n a hl hw) (c_bhash b ob.1 ob.2.1 ob.2.2) (step_or s b.v 2)
  · exact if_neg fun k => h (by rw [Bool.and_eq_true] at k; exact ⟨k.1.1, k.1.2, k.2⟩)
  · unfold prepK prepA
    rw [if_pos ⟨by rw [h.1, h.2.1]; rfl, h.2.2⟩, if_neg k]
  · unfold prepK prepA
    rw [if_pos ⟨by rw [h.1, h.2.1]; rfl, h.2.2⟩, if_pos k]
theorem c_kprepR_aux (s : Se) (n : Int) (b : Bl) (a : Ac) (ms mb rc o : Bool) (H : List UInt8) (O : Out)
    (h1 : ¬ (ms = true ∧ mb = true ∧ b.v ≠ 0) → O = no 1) (h7 : (ms = true ∧ mb = true ∧ b.v ≠ 0) → ¬ (rc = true ∧ a.v = b.v ∧ a.pg = b.p) → O = no 7)
    (h0 : (ms = true ∧ mb = true ∧ b.v ≠ 0) → (rc = true ∧ a.v = b.v ∧ a.pg = b.p) → O = if o = true then no 11 else (upS s b.v 2, ⟨0, 2, b.v, 2, H, a.pv, a.pg, z32⟩, 0))
    (cm : FnOK Tryd.prog D 143 [(AV.st [.sc (.int .i64 (s).v), .sc (.int .i64 (s).ph), .sc (.int .i64 (s).pv), .ar 32 .lf (by8 (s).pg)])] [] (fun r st => r = (AV.sc (.bool (ms))) ∧ st = []))
    (cb : FnOK Tryd.prog D 14 [(AV.st [.ar 32 .lf (by8 (b).p), .sc (.int .i64 (b).v), .sc (.int .i64 (b).h), .sc (.int .i64 (b).by_), .sl (.nd [.lf, .lf, .lf, .lf, .lf, .lf, .lf]) (txsA (b).txs) .ro])] [] (fun r st => r = (AV.sc (.bool (mb))) ∧ st = []))
    (cr : FnOK Tryd.prog D 146 [(AV.sc (.int .i64 (n))), (AV.st [.sc (.int .i64 (a).by_), .sc (.int .i64 (a).v), .sc (.int .i64 (a).pv), .ar 32 .lf (by8 (a).pg), .sl .lf (ints .i64 (a).fr) .ro, .ar 32 .lf (by8 (a).tag)])] [] (fun r st => r = (AV.sc (.bool (rc))) ∧ st = []))
    (ch : FnOK Tryd.prog D 48 [(AV.st [.ar 32 .lf (by8 (b).p), .sc (.int .i64 (b).v), .sc (.int .i64 (b).h), .sc (.int .i64 (b).by_), .sl (.nd [.lf, .lf, .lf, .lf, .lf, .lf, .lf]) (txsA (b).txs) .ro])] [] (fun r st => r = .ar 32 .lf (by8 H) ∧ st = []))
    (co : FnOK Tryd.prog D 144 [(AV.st [.sc (.int .i64 (s).v), .sc (.int .i64 (s).ph), .sc (.int .i64 (s).pv), .ar 32 .lf (by8 (s).pg)]), (AV.sc (.int .i64 (b.v))), (AV.sc (.int .i64 (2)))] [] (fun r st => r = (AV.sc (.bool (o))) ∧ st = [])) :
    FnOK Tryd.prog D 95 [(AV.st [.sc (.int .i64 (s).v), .sc (.int .i64 (s).ph), .sc (.int .i64 (s).pv), .ar 32 .lf (by8 (s).pg)]), (AV.sc (.int .i64 (n))), (AV.st [.ar 32 .lf (by8 (b).p), .sc (.int .i64 (b).v), .sc (.int .i64 (b).h), .sc (.int .i64 (b).by_), .sl (.nd [.lf, .lf, .lf, .lf, .lf, .lf, .lf]) (txsA (b).txs) .ro]), (AV.st [.sc (.int .i64 (a).by_), .sc (.int .i64 (a).v), .sc (.int .i64 (a).pv), .ar 32 .lf (by8 (a).pg), .sl .lf (ints .i64 (a).fr) .ro, .ar 32 .lf (by8 (a).tag)])] [] (fun r st => r = .tup [(AV.st [.sc (.int .i64 (O.1).v), .sc (.int .i64 (O.1).ph), .sc (.int .i64 (O.1).pv), .ar 32 .lf (by8 (O.1).pg)]), (AV.st [.sc (.int .i64 (O.2.1).by_), .sc (.int .i64 (O.2.1).k), .sc (.int .i64 (O.2.1).v), .sc (.int .i64 (O.2.1).ph), .ar 32 .lf (by8 (O.2.1).h), .sc (.int .i64 (O.2.1).pv), .ar 32 .lf (by8 (O.2.1).pg), .ar 32 .lf (by8 (O.2.1).tag)]), (AV.sc (.int .i64 (O.2.2)))] ∧ st = []) := by
  refine fnok_of_W hmix tabOK Tryd.func95 rfl rfl (Nat.le_of_ble_eq_true rfl) ?_
  conv => whnf
  refine (cm).mono fun r st e => ?_
  obtain ⟨rfl, rfl⟩ := e
  conv => whnf
  by_cases hc : ms = true ∧ mb = true ∧ b.v ≠ 0
  rotate_left
  · obtain rfl := h1 hc
    clear h1 h7 h0
    repeat' (first
      | (refine (cb).mono fun r st e => ?_
         obtain ⟨rfl, rfl⟩ := e
         conv => whnf)
      | (refine And.intro (by omega) ?_
         conv => whnf)
      | (refine Branch.of (fun h => ?_) (fun h => ?_) <;> (rw [h]; conv => whnf)))
    all_goals first
      | (exfalso; simp_all; done)
      | (refine ⟨false, [], ?_⟩; conv => whnf
         exact ⟨rfl, rfl⟩)
  have h70 := h7 hc
  have h00 := h0 hc
  clear h1 h7 h0
  obtain ⟨rfl, rfl, hv⟩ := hc
  conv => whnf
  refine (cb).mono fun r st e => ?_
  obtain ⟨rfl, rfl⟩ := e
  conv => whnf
  refine Branch.of (fun hh => ?_) (fun hh => ?_)
  · exfalso; simp only [gt_iff_lt, ge_iff_le, decide_eq_true_eq, decide_eq_false_iff_not, beq_iff_eq, beq_eq_false_iff_ne, bne_iff_ne, bne_eq_false_iff_eq, ne_eq] at hh; first | done | omega | (simp at hh; done)
  try rw [hh]
  clear hh
  conv => whnf
  refine (cr).mono fun r st e => ?_
  obtain ⟨rfl, rfl⟩ := e
  conv => whnf
  by_cases hd : rc = true ∧ a.v = b.v ∧ a.pg = b.p
  rotate_left
  · obtain rfl := h70 hd
    clear h70 h00
    repeat' (first
      | (refine ⟨a.pg, b.p, rfl, rfl, ?_⟩
         conv => whnf)
      | (refine And.intro (by omega) ?_
         conv => whnf)
      | (refine Branch.of (fun h => ?_) (fun h => ?_) <;> (rw [h]; conv => whnf)))
    all_goals first
      | (exfalso; simp_all; done)
      | (refine ⟨false, [], ?_⟩; conv => whnf
         exact ⟨rfl, rfl⟩)
  have h01 := h00 hd
  clear h70 h00
  obtain ⟨rfl, h3, h4⟩ := hd
  conv => whnf
  refine Branch.of (fun hh => ?_) (fun hh => ?_)
  · exfalso; simp only [gt_iff_lt, ge_iff_le, decide_eq_true_eq, decide_eq_false_iff_not, beq_iff_eq, beq_eq_false_iff_ne, bne_iff_ne, bne_eq_false_iff_eq, ne_eq] at hh; first | done | omega | (simp at hh; done)
  try rw [hh]
  clear hh
  conv => whnf
  refine ⟨a.pg, b.p, rfl, rfl, ?_⟩
  conv => whnf
  rw [h4, beq_self_eq_true]
  conv => whnf
  refine (co).mono fun r st e => ?_
  obtain ⟨rfl, rfl⟩ := e
  conv => whnf
  cases o with
  | true =>
    obtain rfl : O = no 11 := h01
    conv => whnf
    refine ⟨false, [], ?_⟩
    conv => whnf
    exact ⟨rfl, rfl⟩
  | false =>
    obtain rfl : O = (upS s b.v 2, ⟨0, 2, b.v, 2, H, a.pv, b.p, z32⟩, 0) := by rw [h01, h4]; rfl
    conv => whnf
    refine ⟨tabF95R7, by decide +kernel, ?_⟩
    conv => whnf
    refine ⟨_, _, ch, ?_⟩
    conv => whnf
    refine ⟨false, [], ?_⟩
    conv => whnf
    first
      | exact ⟨rfl, rfl⟩
      | (rw [h4]; exact ⟨rfl, rfl⟩)
end Go.WL.T7
