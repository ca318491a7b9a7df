/- The requests of a trusted part: awake, Light, Do. No condition. -/
import Derived.Test.YtmpnboonjpcmpaaDoorPart37
import Derived.Test.YtmpnboonjpcmpaaDoorPart39
set_option linter.unusedVariables false
set_option linter.unusedSimpArgs false
namespace Go.WL.T7
open Go.WL Go.Proofs
set_option maxRecDepth 20000
set_option maxHeartbeats 8000000
structure Sp where
  d : Int
  v : Int
  b : Bl
  a : Ac
  t : At
  l : List Sg
theorem c_awake15_aux (A B : Out) (h1 : A.2.2 = 0) (h2 : A.2.1.v = 3) (h3 : A.2.1.k = 1) (h4 : A.1.v = 3) (h5 : B.2.2 = 11)
    (cn : FnOK Tryd.prog D 92 [(AV.st [.sc (.int .i64 (se0).v), .sc (.int .i64 (se0).ph), .sc (.int .i64 (se0).pv), .ar 32 .lf (by8 (se0).pg)]), (AV.sc (.int .i64 (3)))] [] (fun r st => r = .tup [(AV.st [.sc (.int .i64 (A.1).v), .sc (.int .i64 (A.1).ph), .sc (.int .i64 (A.1).pv), .ar 32 .lf (by8 (A.1).pg)]), (AV.st [.sc (.int .i64 (A.2.1).by_), .sc (.int .i64 (A.2.1).k), .sc (.int .i64 (A.2.1).v), .sc (.int .i64 (A.2.1).ph), .ar 32 .lf (by8 (A.2.1).h), .sc (.int .i64 (A.2.1).pv), .ar 32 .lf (by8 (A.2.1).pg), .ar 32 .lf (by8 (A.2.1).tag)]), (AV.sc (.int .i64 (A.2.2)))] ∧ st = []))
    (cm : FnOK Tryd.prog D 92 [(AV.st [.sc (.int .i64 (A.1).v), .sc (.int .i64 (A.1).ph), .sc (.int .i64 (A.1).pv), .ar 32 .lf (by8 (A.1).pg)]), (AV.sc (.int .i64 (3)))] [] (fun r st => r = .tup [(AV.st [.sc (.int .i64 (B.1).v), .sc (.int .i64 (B.1).ph), .sc (.int .i64 (B.1).pv), .ar 32 .lf (by8 (B.1).pg)]), (AV.st [.sc (.int .i64 (B.2.1).by_), .sc (.int .i64 (B.2.1).k), .sc (.int .i64 (B.2.1).v), .sc (.int .i64 (B.2.1).ph), .ar 32 .lf (by8 (B.2.1).h), .sc (.int .i64 (B.2.1).pv), .ar 32 .lf (by8 (B.2.1).pg), .ar 32 .lf (by8 (B.2.1).tag)]), (AV.sc (.int .i64 (B.2.2)))] ∧ st = [])) :
    FnOK Tryd.prog D 55 [] [] (fun r st => r = (AV.sc (.bool (true))) ∧ st = []) := by
  refine fnok_of_W hmix tabOK Tryd.func55 rfl rfl (Nat.le_of_ble_eq_true rfl) ?_
  conv => whnf
  refine (cn).mono fun r st e => ?_
  obtain ⟨rfl, rfl⟩ := e
  conv => whnf
  refine (cm).mono fun r st e => ?_
  obtain ⟨rfl, rfl⟩ := e
  conv => whnf
  rw [h1, h2, h3, h4, h5]
  conv => whnf
  refine ⟨false, [], ?_⟩
  conv => whnf
  exact ⟨rfl, rfl⟩
theorem newK0 : newK (maySe se0) se0 3 = (⟨3, 1, 0, z32⟩, ⟨0, 1, 3, 1, z32, 0, z32, z32⟩, 0) := by
  rw [maySe_eq]; decide +kernel
theorem newK1 : newK (maySe ⟨3, 1, 0, z32⟩) ⟨3, 1, 0, z32⟩ 3 = no 11 := by
  rw [maySe_eq]; decide +kernel
theorem c_awake15 : FnOK Tryd.prog D 55 [] [] (fun r st => r = (AV.sc (.bool (true))) ∧ st = []) := by
  have h1 := c_knew se0 3
  rw [newK0] at h1
  have h2 := c_knew ⟨3, 1, 0, z32⟩ 3
  rw [newK1] at h2
  exact c_awake15_aux (⟨3, 1, 0, z32⟩, ⟨0, 1, 3, 1, z32, 0, z32, z32⟩, 0) (no 11) rfl rfl rfl rfl rfl h1 h2
theorem c_klight (d v : Int) (b : Bl) (a : Ac) (t : At) (l : List Sg) : FnOK Tryd.prog D 56 [.st [(AV.sc (.int .i64 (d))), (AV.sc (.int .i64 (v))), (AV.st [.ar 32 .lf (by8 (b).p), .sc (.int .i64 (b).v), .sc (.int .i64 (b).h), .sc (.int .i64 (b).by_), .sl (.nd [.lf, .lf, .lf, .lf, .lf, .lf, .lf]) (txsA (b).txs) .ro]), (AV.st [.sc (.int .i64 (a).by_), .sc (.int .i64 (a).v), .sc (.int .i64 (a).pv), .ar 32 .lf (by8 (a).pg), .sl .lf (ints .i64 (a).fr) .ro, .ar 32 .lf (by8 (a).tag)]), .st [(AV.st [.sc (.int .i64 (t).by_), .sc (.int .i64 (t).k), .sc (.int .i64 (t).v), .sc (.int .i64 (t).ph), .ar 32 .lf (by8 (t).h), .sc (.int .i64 (t).pv), .ar 32 .lf (by8 (t).pg), .ar 32 .lf (by8 (t).tag)]), (AV.sl (.nd [.lf, .ar 32 .lf]) (sigsA (l)) .ro)]]] [] (fun r st => (r = (AV.sc (.bool (false))) ∨ (r = (AV.sc (.bool (true))) ∧ lightB b ∧ a.fr.length ≤ 30 ∧ l.length ≤ 30)) ∧ st = []) := by
  have hll := lenI a.fr
  have hls := lenS l
  refine fnok_of_W hmix tabOK Tryd.func56 rfl rfl (Nat.le_of_ble_eq_true rfl) ?_
  conv => whnf
  refine (c_blight b).mono fun r st e => ?_
  obtain ⟨rfl | ⟨rfl, hlight⟩, rfl⟩ := e
  · conv => whnf
    refine ⟨false, [], ?_⟩
    conv => whnf
    exact ⟨.inl rfl, rfl⟩
  conv => whnf
  rw [hll]
  refine Branch.of (fun h1 => ?_) (fun h1 => ?_) <;> rw [h1] <;> conv => whnf
  rotate_left
  · refine ⟨false, [], ?_⟩
    conv => whnf
    exact ⟨.inl rfl, rfl⟩
  rw [hls]
  refine ⟨false, [], ?_⟩
  conv => whnf
  refine ⟨?_, rfl⟩
  by_cases h2 : l.length ≤ 30
  · refine .inr ⟨by congr 2; exact decide_eq_true (by omega), hlight, ?_, h2⟩
    simp only [decide_eq_true_eq] at h1
    omega
  · exact .inl (by congr 2; exact decide_eq_false (by omega))
theorem c_kdo_aux (s : Se) (n d v : Int) (b : Bl) (a : Ac) (t : At) (l : List Sg) (N P S X : Out)
    (h0 : d = 0 → X = N) (h1 : d ≠ 0 → d = 1 → X = P) (h2 : d ≠ 0 → d ≠ 1 → X = S)
    (cN : FnOK Tryd.prog D 92 [(AV.st [.sc (.int .i64 (s).v), .sc (.int .i64 (s).ph), .sc (.int .i64 (s).pv), .ar 32 .lf (by8 (s).pg)]), (AV.sc (.int .i64 (v)))] [] (fun r st => r = .tup [(AV.st [.sc (.int .i64 (N.1).v), .sc (.int .i64 (N.1).ph), .sc (.int .i64 (N.1).pv), .ar 32 .lf (by8 (N.1).pg)]), (AV.st [.sc (.int .i64 (N.2.1).by_), .sc (.int .i64 (N.2.1).k), .sc (.int .i64 (N.2.1).v), .sc (.int .i64 (N.2.1).ph), .ar 32 .lf (by8 (N.2.1).h), .sc (.int .i64 (N.2.1).pv), .ar 32 .lf (by8 (N.2.1).pg), .ar 32 .lf (by8 (N.2.1).tag)]), (AV.sc (.int .i64 (N.2.2)))] ∧ st = []))
    (cNR : FnOK Tryd.prog D 93 [(AV.st [.sc (.int .i64 (s).v), .sc (.int .i64 (s).ph), .sc (.int .i64 (s).pv), .ar 32 .lf (by8 (s).pg)]), (AV.sc (.int .i64 (v)))] [] (fun r st => r = .tup [(AV.st [.sc (.int .i64 (N.1).v), .sc (.int .i64 (N.1).ph), .sc (.int .i64 (N.1).pv), .ar 32 .lf (by8 (N.1).pg)]), (AV.st [.sc (.int .i64 (N.2.1).by_), .sc (.int .i64 (N.2.1).k), .sc (.int .i64 (N.2.1).v), .sc (.int .i64 (N.2.1).ph), .ar 32 .lf (by8 (N.2.1).h), .sc (.int .i64 (N.2.1).pv), .ar 32 .lf (by8 (N.2.1).pg), .ar 32 .lf (by8 (N.2.1).tag)]), (AV.sc (.int .i64 (N.2.2)))] ∧ st = []))
    (cP : FnOK Tryd.prog D 94 [(AV.st [.sc (.int .i64 (s).v), .sc (.int .i64 (s).ph), .sc (.int .i64 (s).pv), .ar 32 .lf (by8 (s).pg)]), (AV.sc (.int .i64 (n))), (AV.st [.ar 32 .lf (by8 (b).p), .sc (.int .i64 (b).v), .sc (.int .i64 (b).h), .sc (.int .i64 (b).by_), .sl (.nd [.lf, .lf, .lf, .lf, .lf, .lf, .lf]) (txsA (b).txs) .ro]), (AV.st [.sc (.int .i64 (a).by_), .sc (.int .i64 (a).v), .sc (.int .i64 (a).pv), .ar 32 .lf (by8 (a).pg), .sl .lf (ints .i64 (a).fr) .ro, .ar 32 .lf (by8 (a).tag)])] [] (fun r st => r = .tup [(AV.st [.sc (.int .i64 (P.1).v), .sc (.int .i64 (P.1).ph), .sc (.int .i64 (P.1).pv), .ar 32 .lf (by8 (P.1).pg)]), (AV.st [.sc (.int .i64 (P.2.1).by_), .sc (.int .i64 (P.2.1).k), .sc (.int .i64 (P.2.1).v), .sc (.int .i64 (P.2.1).ph), .ar 32 .lf (by8 (P.2.1).h), .sc (.int .i64 (P.2.1).pv), .ar 32 .lf (by8 (P.2.1).pg), .ar 32 .lf (by8 (P.2.1).tag)]), (AV.sc (.int .i64 (P.2.2)))] ∧ st = []))
    (cPR : FnOK Tryd.prog D 95 [(AV.st [.sc (.int .i64 (s).v), .sc (.int .i64 (s).ph), .sc (.int .i64 (s).pv), .ar 32 .lf (by8 (s).pg)]), (AV.sc (.int .i64 (n))), (AV.st [.ar 32 .lf (by8 (b).p), .sc (.int .i64 (b).v), .sc (.int .i64 (b).h), .sc (.int .i64 (b).by_), .sl (.nd [.lf, .lf, .lf, .lf, .lf, .lf, .lf]) (txsA (b).txs) .ro]), (AV.st [.sc (.int .i64 (a).by_), .sc (.int .i64 (a).v), .sc (.int .i64 (a).pv), .ar 32 .lf (by8 (a).pg), .sl .lf (ints .i64 (a).fr) .ro, .ar 32 .lf (by8 (a).tag)])] [] (fun r st => r = .tup [(AV.st [.sc (.int .i64 (P.1).v), .sc (.int .i64 (P.1).ph), .sc (.int .i64 (P.1).pv), .ar 32 .lf (by8 (P.1).pg)]), (AV.st [.sc (.int .i64 (P.2.1).by_), .sc (.int .i64 (P.2.1).k), .sc (.int .i64 (P.2.1).v), .sc (.int .i64 (P.2.1).ph), .ar 32 .lf (by8 (P.2.1).h), .sc (.int .i64 (P.2.1).pv), .ar 32 .lf (by8 (P.2.1).pg), .ar 32 .lf (by8 (P.2.1).tag)]), (AV.sc (.int .i64 (P.2.2)))] ∧ st = []))
    (cS : FnOK Tryd.prog D 96 [(AV.st [.sc (.int .i64 (s).v), .sc (.int .i64 (s).ph), .sc (.int .i64 (s).pv), .ar 32 .lf (by8 (s).pg)]), (AV.sc (.int .i64 (n))), .st [(AV.st [.sc (.int .i64 (t).by_), .sc (.int .i64 (t).k), .sc (.int .i64 (t).v), .sc (.int .i64 (t).ph), .ar 32 .lf (by8 (t).h), .sc (.int .i64 (t).pv), .ar 32 .lf (by8 (t).pg), .ar 32 .lf (by8 (t).tag)]), (AV.sl (.nd [.lf, .ar 32 .lf]) (sigsA (l)) .ro)]] [] (fun r st => r = .tup [(AV.st [.sc (.int .i64 (S.1).v), .sc (.int .i64 (S.1).ph), .sc (.int .i64 (S.1).pv), .ar 32 .lf (by8 (S.1).pg)]), (AV.st [.sc (.int .i64 (S.2.1).by_), .sc (.int .i64 (S.2.1).k), .sc (.int .i64 (S.2.1).v), .sc (.int .i64 (S.2.1).ph), .ar 32 .lf (by8 (S.2.1).h), .sc (.int .i64 (S.2.1).pv), .ar 32 .lf (by8 (S.2.1).pg), .ar 32 .lf (by8 (S.2.1).tag)]), (AV.sc (.int .i64 (S.2.2)))] ∧ st = []))
    (cSR : FnOK Tryd.prog D 97 [(AV.st [.sc (.int .i64 (s).v), .sc (.int .i64 (s).ph), .sc (.int .i64 (s).pv), .ar 32 .lf (by8 (s).pg)]), (AV.sc (.int .i64 (n))), .st [(AV.st [.sc (.int .i64 (t).by_), .sc (.int .i64 (t).k), .sc (.int .i64 (t).v), .sc (.int .i64 (t).ph), .ar 32 .lf (by8 (t).h), .sc (.int .i64 (t).pv), .ar 32 .lf (by8 (t).pg), .ar 32 .lf (by8 (t).tag)]), (AV.sl (.nd [.lf, .ar 32 .lf]) (sigsA (l)) .ro)]] [] (fun r st => r = .tup [(AV.st [.sc (.int .i64 (S.1).v), .sc (.int .i64 (S.1).ph), .sc (.int .i64 (S.1).pv), .ar 32 .lf (by8 (S.1).pg)]), (AV.st [.sc (.int .i64 (S.2.1).by_), .sc (.int .i64 (S.2.1).k), .sc (.int .i64 (S.2.1).v), .sc (.int .i64 (S.2.1).ph), .ar 32 .lf (by8 (S.2.1).h), .sc (.int .i64 (S.2.1).pv), .ar 32 .lf (by8 (S.2.1).pg), .ar 32 .lf (by8 (S.2.1).tag)]), (AV.sc (.int .i64 (S.2.2)))] ∧ st = [])) :
    FnOK Tryd.prog D 57 [(AV.st [.sc (.int .i64 (s).v), .sc (.int .i64 (s).ph), .sc (.int .i64 (s).pv), .ar 32 .lf (by8 (s).pg)]), (AV.sc (.int .i64 (n))), .st [(AV.sc (.int .i64 (d))), (AV.sc (.int .i64 (v))), (AV.st [.ar 32 .lf (by8 (b).p), .sc (.int .i64 (b).v), .sc (.int .i64 (b).h), .sc (.int .i64 (b).by_), .sl (.nd [.lf, .lf, .lf, .lf, .lf, .lf, .lf]) (txsA (b).txs) .ro]), (AV.st [.sc (.int .i64 (a).by_), .sc (.int .i64 (a).v), .sc (.int .i64 (a).pv), .ar 32 .lf (by8 (a).pg), .sl .lf (ints .i64 (a).fr) .ro, .ar 32 .lf (by8 (a).tag)]), .st [(AV.st [.sc (.int .i64 (t).by_), .sc (.int .i64 (t).k), .sc (.int .i64 (t).v), .sc (.int .i64 (t).ph), .ar 32 .lf (by8 (t).h), .sc (.int .i64 (t).pv), .ar 32 .lf (by8 (t).pg), .ar 32 .lf (by8 (t).tag)]), (AV.sl (.nd [.lf, .ar 32 .lf]) (sigsA (l)) .ro)]]] [] (fun r st => r = .tup [(AV.st [.sc (.int .i64 (X.1).v), .sc (.int .i64 (X.1).ph), .sc (.int .i64 (X.1).pv), .ar 32 .lf (by8 (X.1).pg)]), (AV.st [.sc (.int .i64 (X.2.1).by_), .sc (.int .i64 (X.2.1).k), .sc (.int .i64 (X.2.1).v), .sc (.int .i64 (X.2.1).ph), .ar 32 .lf (by8 (X.2.1).h), .sc (.int .i64 (X.2.1).pv), .ar 32 .lf (by8 (X.2.1).pg), .ar 32 .lf (by8 (X.2.1).tag)]), (AV.sc (.int .i64 (X.2.2))), (AV.sc (.bool (true)))] ∧ st = []) := by
  have es : ∀ x : Se, ((x.v == x.v) && ((x.ph == x.ph) && ((x.pv == x.pv) && ((x.pg == x.pg) && true)))) = true := by intro x; simp
  have ea : ∀ x : At, ((x.by_ == x.by_) && ((x.k == x.k) && ((x.v == x.v) && ((x.ph == x.ph) && ((x.h == x.h) && ((x.pv == x.pv) && ((x.pg == x.pg) && ((x.tag == x.tag) && true)))))))) = true := by intro x; simp
  refine fnok_of_W hmix tabOK Tryd.func57 rfl rfl (Nat.le_of_ble_eq_true rfl) ?_
  conv => whnf
  by_cases hd : d = 0
  · obtain rfl := h0 hd
    clear h0 h1 h2
    refine Branch.of (fun hh => ?_) (fun hh => ?_)
    rotate_left
    · exfalso; simp only [gt_iff_lt, ge_iff_le, decide_eq_true_eq, decide_eq_false_iff_not, beq_iff_eq, beq_eq_false_iff_ne, bne_iff_ne, bne_eq_false_iff_eq, ne_eq] at hh; first | done | omega | (simp at hh; done)
    try rw [hh]
    clear hh
    conv => whnf
    refine (cN).mono fun r st e => ?_
    obtain ⟨rfl, rfl⟩ := e
    conv => whnf
    refine (cNR).mono fun r st e => ?_
    obtain ⟨rfl, rfl⟩ := e
    conv => whnf
    refine ⟨tabF57R5, by decide +kernel, ?_⟩
    conv => whnf
    refine ⟨X.1.pg, X.1.pg, rfl, rfl, ?_⟩
    conv => whnf
    rw [es]
    conv => whnf
    refine ⟨X.2.1.h, X.2.1.h, rfl, rfl, ?_⟩
    conv => whnf
    refine ⟨X.2.1.pg, X.2.1.pg, rfl, rfl, ?_⟩
    conv => whnf
    refine ⟨X.2.1.tag, X.2.1.tag, rfl, rfl, ?_⟩
    conv => whnf
    rw [ea]
    conv => whnf
    rw [beq_self_eq_true]
    refine ⟨false, [], ?_⟩
    conv => whnf
    exact ⟨rfl, rfl⟩
  by_cases hd1 : d = 1
  · obtain rfl := h1 hd hd1
    clear h0 h1 h2
    refine Branch.of (fun hh => ?_) (fun hh => ?_)
    · exfalso; simp only [gt_iff_lt, ge_iff_le, decide_eq_true_eq, decide_eq_false_iff_not, beq_iff_eq, beq_eq_false_iff_ne, bne_iff_ne, bne_eq_false_iff_eq, ne_eq] at hh; first | done | omega | (simp at hh; done)
    try rw [hh]
    clear hh
    conv => whnf
    refine Branch.of (fun hh => ?_) (fun hh => ?_)
    rotate_left
    · exfalso; simp only [gt_iff_lt, ge_iff_le, decide_eq_true_eq, decide_eq_false_iff_not, beq_iff_eq, beq_eq_false_iff_ne, bne_iff_ne, bne_eq_false_iff_eq, ne_eq] at hh; first | done | omega | (simp at hh; done)
    try rw [hh]
    clear hh
    conv => whnf
    refine (cP).mono fun r st e => ?_
    obtain ⟨rfl, rfl⟩ := e
    conv => whnf
    refine (cPR).mono fun r st e => ?_
    obtain ⟨rfl, rfl⟩ := e
    conv => whnf
    refine ⟨tabF57R9, by decide +kernel, ?_⟩
    conv => whnf
    refine ⟨X.1.pg, X.1.pg, rfl, rfl, ?_⟩
    conv => whnf
    rw [es]
    conv => whnf
    refine ⟨X.2.1.h, X.2.1.h, rfl, rfl, ?_⟩
    conv => whnf
    refine ⟨X.2.1.pg, X.2.1.pg, rfl, rfl, ?_⟩
    conv => whnf
    refine ⟨X.2.1.tag, X.2.1.tag, rfl, rfl, ?_⟩
    conv => whnf
    rw [ea]
    conv => whnf
    rw [beq_self_eq_true]
    refine ⟨false, [], ?_⟩
    conv => whnf
    exact ⟨rfl, rfl⟩
  · obtain rfl := h2 hd hd1
    clear h0 h1 h2
    refine Branch.of (fun hh => ?_) (fun hh => ?_)
    · exfalso; simp only [gt_iff_lt, ge_iff_le, decide_eq_true_eq, decide_eq_false_iff_not, beq_iff_eq, beq_eq_false_iff_ne, bne_iff_ne, bne_eq_false_iff_eq, ne_eq] at hh; first | done | omega | (simp at hh; done)
    try rw [hh]
    clear hh
    conv => whnf
    refine Branch.of (fun hh => ?_) (fun hh => ?_)
    · exfalso; simp only [gt_iff_lt, ge_iff_le, decide_eq_true_eq, decide_eq_false_iff_not, beq_iff_eq, beq_eq_false_iff_ne, bne_iff_ne, bne_eq_false_iff_eq, ne_eq] at hh; first | done | omega | (simp at hh; done)
    try rw [hh]
    clear hh
    conv => whnf
    refine (cS).mono fun r st e => ?_
    obtain ⟨rfl, rfl⟩ := e
    conv => whnf
    refine (cSR).mono fun r st e => ?_
    obtain ⟨rfl, rfl⟩ := e
    conv => whnf
    refine ⟨tabF57R12, by decide +kernel, ?_⟩
    conv => whnf
    refine ⟨X.1.pg, X.1.pg, rfl, rfl, ?_⟩
    conv => whnf
    rw [es]
    conv => whnf
    refine ⟨X.2.1.h, X.2.1.h, rfl, rfl, ?_⟩
    conv => whnf
    refine ⟨X.2.1.pg, X.2.1.pg, rfl, rfl, ?_⟩
    conv => whnf
    refine ⟨X.2.1.tag, X.2.1.tag, rfl, rfl, ?_⟩
    conv => whnf
    rw [ea]
    conv => whnf
    rw [beq_self_eq_true]
    refine ⟨false, [], ?_⟩
    conv => whnf
    exact ⟨rfl, rfl⟩
end Go.WL.T7
