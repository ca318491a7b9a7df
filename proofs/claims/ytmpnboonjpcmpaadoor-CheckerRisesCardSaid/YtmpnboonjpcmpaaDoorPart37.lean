/- What a trusted part stores, both sides. No condition. -/
import Derived.Test.YtmpnboonjpcmpaaDoorPart36
set_option linter.unusedVariables false
set_option linter.unusedSimpArgs false
namespace Go.WL.T7
open Go.WL Go.Proofs
set_option maxRecDepth 20000
set_option maxHeartbeats 8000000
def storeA (m rc : Bool) (s : Se) (a : At) : Out := if m = true then
  (if rc = true ∧ a.k = 2 then
    (if oldSe s a.v 3 = true then no 11 else (⟨a.v, 3, a.v, a.h⟩, ⟨0, 3, a.v, 3, a.h, a.v, a.h, z32⟩, 0)) else no 7) else no 1
theorem c_kstore_aux (s : Se) (n : Int) (a : At) (l : List Sg) (ms rc o : Bool) (O : Out)
    (h1 : ¬ ms = true → O = no 1) (h7 : ms = true → ¬ (rc = true ∧ a.k = 2) → O = no 7)
    (h0 : ms = true → (rc = true ∧ a.k = 2) → O = if o = true then no 11 else (⟨a.v, 3, a.v, a.h⟩, ⟨0, 3, a.v, 3, a.h, a.v, a.h, z32⟩, 0))
    (cm : FnOK Tryd.prog D 141 [(AV.st [.sc (.int .i64 (s).v), .sc (.int .i64 (s).ph), .sc (.int .i64 (s).pv), .ar 32 .lf (by8 (s).pg)])] [] (fun r st => r = (AV.sc (.int .i64 (if ms = true then 0 else 1))) ∧ st = []))
    (cr : FnOK Tryd.prog D 89 [(AV.sc (.int .i64 (n))), .st [(AV.st [.sc (.int .i64 (a).by_), .sc (.int .i64 (a).k), .sc (.int .i64 (a).v), .sc (.int .i64 (a).ph), .ar 32 .lf (by8 (a).h), .sc (.int .i64 (a).pv), .ar 32 .lf (by8 (a).pg), .ar 32 .lf (by8 (a).tag)]), (AV.sl (.nd [.lf, .ar 32 .lf]) (sigsA (l)) .ro)]] [] (fun r st => r = (AV.sc (.bool (rc))) ∧ st = []))
    (cs : FnOK Tryd.prog D 142 [(AV.st [.sc (.int .i64 (s).v), .sc (.int .i64 (s).ph), .sc (.int .i64 (s).pv), .ar 32 .lf (by8 (s).pg)]), (AV.sc (.int .i64 (a.v))), (AV.sc (.int .i64 (3)))] [] (fun r st => (o = true ∧ r = .tup [(AV.st [.sc (.int .i64 (se0).v), .sc (.int .i64 (se0).ph), .sc (.int .i64 (se0).pv), .ar 32 .lf (by8 (se0).pg)]), (AV.st [.sc (.int .i64 (an0).by_), .sc (.int .i64 (an0).k), .sc (.int .i64 (an0).v), .sc (.int .i64 (an0).ph), .ar 32 .lf (by8 (an0).h), .sc (.int .i64 (an0).pv), .ar 32 .lf (by8 (an0).pg), .ar 32 .lf (by8 (an0).tag)]), (AV.sc (.int .i64 (11)))] ∨ o = false ∧ r = .tup [(AV.st [.sc (.int .i64 (upS s a.v 3).v), .sc (.int .i64 (upS s a.v 3).ph), .sc (.int .i64 (upS s a.v 3).pv), .ar 32 .lf (by8 (upS s a.v 3).pg)]), (AV.st [.sc (.int .i64 (upA s a.v 3).by_), .sc (.int .i64 (upA s a.v 3).k), .sc (.int .i64 (upA s a.v 3).v), .sc (.int .i64 (upA s a.v 3).ph), .ar 32 .lf (by8 (upA s a.v 3).h), .sc (.int .i64 (upA s a.v 3).pv), .ar 32 .lf (by8 (upA s a.v 3).pg), .ar 32 .lf (by8 (upA s a.v 3).tag)]), (AV.sc (.int .i64 (0)))]) ∧ st = [])) :
    FnOK Tryd.prog D 96 [(AV.st [.sc (.int .i64 (s).v), .sc (.int .i64 (s).ph), .sc (.int .i64 (s).pv), .ar 32 .lf (by8 (s).pg)]), (AV.sc (.int .i64 (n))), .st [(AV.st [.sc (.int .i64 (a).by_), .sc (.int .i64 (a).k), .sc (.int .i64 (a).v), .sc (.int .i64 (a).ph), .ar 32 .lf (by8 (a).h), .sc (.int .i64 (a).pv), .ar 32 .lf (by8 (a).pg), .ar 32 .lf (by8 (a).tag)]), (AV.sl (.nd [.lf, .ar 32 .lf]) (sigsA (l)) .ro)]] [] (fun r st => r = .tup [(AV.st [.sc (.int .i64 (O.1).v), .sc (.int .i64 (O.1).ph), .sc (.int .i64 (O.1).pv), .ar 32 .lf (by8 (O.1).pg)]), (AV.st [.sc (.int .i64 (O.2.1).by_), .sc (.int .i64 (O.2.1).k), .sc (.int .i64 (O.2.1).v), .sc (.int .i64 (O.2.1).ph), .ar 32 .lf (by8 (O.2.1).h), .sc (.int .i64 (O.2.1).pv), .ar 32 .lf (by8 (O.2.1).pg), .ar 32 .lf (by8 (O.2.1).tag)]), (AV.sc (.int .i64 (O.2.2)))] ∧ st = []) := by
  refine fnok_of_W hmix tabOK Tryd.func96 rfl rfl (Nat.le_of_ble_eq_true rfl) ?_
  conv => whnf
  refine (cm).mono fun r st e => ?_
  obtain ⟨rfl, rfl⟩ := e
  conv => whnf
  cases ms with
  | false =>
    obtain rfl := h1 (by decide)
    clear h1 h7 h0
    conv => whnf
    refine ⟨false, [], ?_⟩
    conv => whnf
    exact ⟨rfl, rfl⟩
  | true =>
  have h70 := h7 rfl
  have h00 := h0 rfl
  clear h1 h7 h0
  conv => whnf
  refine (cr).mono fun r st e => ?_
  obtain ⟨rfl, rfl⟩ := e
  conv => whnf
  by_cases hd : rc = true ∧ a.k = 2
  rotate_left
  · obtain rfl := h70 hd
    clear h70 h00
    repeat' (first
      | (refine And.intro (by omega) ?_
         conv => whnf)
      | (refine Branch.of (fun h => ?_) (fun h => ?_) <;> (rw [h]; conv => whnf)))
    all_goals first
      | (refine ⟨false, [], ?_⟩; conv => whnf
         exact ⟨rfl, rfl⟩)
      | (exfalso; simp_all; done)
  have h01 := h00 hd
  clear h70 h00
  obtain ⟨rfl, h3⟩ := hd
  conv => whnf
  refine Branch.of (fun hh => ?_) (fun hh => ?_)
  · exfalso; simp only [gt_iff_lt, ge_iff_le, decide_eq_true_eq, decide_eq_false_iff_not, beq_iff_eq, beq_eq_false_iff_ne, bne_iff_ne, bne_eq_false_iff_eq, ne_eq] at hh; first | done | omega | (simp at hh; done)
  try rw [hh]
  clear hh
  conv => whnf
  refine cs.mono fun r st e => ?_
  obtain ⟨⟨rfl, rfl⟩ | ⟨rfl, rfl⟩, rfl⟩ := e
  · obtain rfl : O = no 11 := h01
    conv => whnf
    refine ⟨false, [], ?_⟩
    conv => whnf
    exact ⟨rfl, rfl⟩
  · obtain rfl : O = (⟨a.v, 3, a.v, a.h⟩, ⟨0, 3, a.v, 3, a.h, a.v, a.h, z32⟩, 0) := h01
    conv => whnf
    refine ⟨tabF96R9, by decide +kernel, ?_⟩
    conv => whnf
    refine ⟨tabF96R10, by decide +kernel, ?_⟩
    conv => whnf
    refine ⟨tabF96R11, by decide +kernel, ?_⟩
    conv => whnf
    refine ⟨false, [], ?_⟩
    conv => whnf
    exact ⟨rfl, rfl⟩
def storeK (s : Se) (n : Int) (a : At) (l : List Sg) : Out := storeA (maySe s) (rightC n a l) s a
theorem c_kstore (s : Se) (n : Int) (a : At) (l : List Sg) (hl : l.length < 4294967296) (hw : a.wf) (hs : sigOK l) : FnOK Tryd.prog D 96 [(AV.st [.sc (.int .i64 (s).v), .sc (.int .i64 (s).ph), .sc (.int .i64 (s).pv), .ar 32 .lf (by8 (s).pg)]), (AV.sc (.int .i64 (n))), .st [(AV.st [.sc (.int .i64 (a).by_), .sc (.int .i64 (a).k), .sc (.int .i64 (a).v), .sc (.int .i64 (a).ph), .ar 32 .lf (by8 (a).h), .sc (.int .i64 (a).pv), .ar 32 .lf (by8 (a).pg), .ar 32 .lf (by8 (a).tag)]), (AV.sl (.nd [.lf, .ar 32 .lf]) (sigsA (l)) .ro)]] [] (fun r st => r = .tup [(AV.st [.sc (.int .i64 ((storeK s n a l).1).v), .sc (.int .i64 ((storeK s n a l).1).ph), .sc (.int .i64 ((storeK s n a l).1).pv), .ar 32 .lf (by8 ((storeK s n a l).1).pg)]), (AV.st [.sc (.int .i64 ((storeK s n a l).2.1).by_), .sc (.int .i64 ((storeK s n a l).2.1).k), .sc (.int .i64 ((storeK s n a l).2.1).v), .sc (.int .i64 ((storeK s n a l).2.1).ph), .ar 32 .lf (by8 ((storeK s n a l).2.1).h), .sc (.int .i64 ((storeK s n a l).2.1).pv), .ar 32 .lf (by8 ((storeK s n a l).2.1).pg), .ar 32 .lf (by8 ((storeK s n a l).2.1).tag)]), (AV.sc (.int .i64 ((storeK s n a l).2.2)))] ∧ st = []) := by
  refine c_kstore_aux s n a l (maySe s) (rightC n a l) (oldSe s a.v 3) _ (fun h => if_neg h) (fun h k => ?_) (fun h k => ?_) (c_scheck s) (c_cright n a l hl hw hs) (step_or s a.v 3)
  · unfold storeK storeA
    rw [if_pos h, if_neg k]
  · unfold storeK storeA
    rw [if_pos h, if_pos k]
theorem c_kstoreR_aux (s : Se) (n : Int) (a : At) (l : List Sg) (ms rc o : Bool) (O : Out)
    (h1 : ¬ ms = true → O = no 1) (h7 : ms = true → ¬ (rc = true ∧ a.k = 2) → O = no 7)
    (h0 : ms = true → (rc = true ∧ a.k = 2) → O = if o = true then no 11 else (⟨a.v, 3, a.v, a.h⟩, ⟨0, 3, a.v, 3, a.h, a.v, a.h, z32⟩, 0))
    (cm : FnOK Tryd.prog D 143 [(AV.st [.sc (.int .i64 (s).v), .sc (.int .i64 (s).ph), .sc (.int .i64 (s).pv), .ar 32 .lf (by8 (s).pg)])] [] (fun r st => r = (AV.sc (.bool (ms))) ∧ st = []))
    (cr : FnOK Tryd.prog D 90 [(AV.sc (.int .i64 (n))), .st [(AV.st [.sc (.int .i64 (a).by_), .sc (.int .i64 (a).k), .sc (.int .i64 (a).v), .sc (.int .i64 (a).ph), .ar 32 .lf (by8 (a).h), .sc (.int .i64 (a).pv), .ar 32 .lf (by8 (a).pg), .ar 32 .lf (by8 (a).tag)]), (AV.sl (.nd [.lf, .ar 32 .lf]) (sigsA (l)) .ro)]] [] (fun r st => r = (AV.sc (.bool (rc))) ∧ st = []))
    (co : FnOK Tryd.prog D 144 [(AV.st [.sc (.int .i64 (s).v), .sc (.int .i64 (s).ph), .sc (.int .i64 (s).pv), .ar 32 .lf (by8 (s).pg)]), (AV.sc (.int .i64 (a.v))), (AV.sc (.int .i64 (3)))] [] (fun r st => r = (AV.sc (.bool (o))) ∧ st = [])) :
    FnOK Tryd.prog D 97 [(AV.st [.sc (.int .i64 (s).v), .sc (.int .i64 (s).ph), .sc (.int .i64 (s).pv), .ar 32 .lf (by8 (s).pg)]), (AV.sc (.int .i64 (n))), .st [(AV.st [.sc (.int .i64 (a).by_), .sc (.int .i64 (a).k), .sc (.int .i64 (a).v), .sc (.int .i64 (a).ph), .ar 32 .lf (by8 (a).h), .sc (.int .i64 (a).pv), .ar 32 .lf (by8 (a).pg), .ar 32 .lf (by8 (a).tag)]), (AV.sl (.nd [.lf, .ar 32 .lf]) (sigsA (l)) .ro)]] [] (fun r st => r = .tup [(AV.st [.sc (.int .i64 (O.1).v), .sc (.int .i64 (O.1).ph), .sc (.int .i64 (O.1).pv), .ar 32 .lf (by8 (O.1).pg)]), (AV.st [.sc (.int .i64 (O.2.1).by_), .sc (.int .i64 (O.2.1).k), .sc (.int .i64 (O.2.1).v), .sc (.int .i64 (O.2.1).ph), .ar 32 .lf (by8 (O.2.1).h), .sc (.int .i64 (O.2.1).pv), .ar 32 .lf (by8 (O.2.1).pg), .ar 32 .lf (by8 (O.2.1).tag)]), (AV.sc (.int .i64 (O.2.2)))] ∧ st = []) := by
  refine fnok_of_W hmix tabOK Tryd.func97 rfl rfl (Nat.le_of_ble_eq_true rfl) ?_
  conv => whnf
  refine (cm).mono fun r st e => ?_
  obtain ⟨rfl, rfl⟩ := e
  conv => whnf
  cases ms with
  | false =>
    obtain rfl := h1 (by decide)
    clear h1 h7 h0
    conv => whnf
    refine ⟨false, [], ?_⟩
    conv => whnf
    exact ⟨rfl, rfl⟩
  | true =>
  have h70 := h7 rfl
  have h00 := h0 rfl
  clear h1 h7 h0
  conv => whnf
  refine (cr).mono fun r st e => ?_
  obtain ⟨rfl, rfl⟩ := e
  conv => whnf
  by_cases hd : rc = true ∧ a.k = 2
  rotate_left
  · obtain rfl := h70 hd
    clear h70 h00
    repeat' (first
      | (refine And.intro (by omega) ?_
         conv => whnf)
      | (refine Branch.of (fun h => ?_) (fun h => ?_) <;> (rw [h]; conv => whnf)))
    all_goals first
      | (refine ⟨false, [], ?_⟩; conv => whnf
         exact ⟨rfl, rfl⟩)
      | (exfalso; simp_all; done)
  have h01 := h00 hd
  clear h70 h00
  obtain ⟨rfl, h3⟩ := hd
  conv => whnf
  refine Branch.of (fun hh => ?_) (fun hh => ?_)
  · exfalso; simp only [gt_iff_lt, ge_iff_le, decide_eq_true_eq, decide_eq_false_iff_not, beq_iff_eq, beq_eq_false_iff_ne, bne_iff_ne, bne_eq_false_iff_eq, ne_eq] at hh; first | done | omega | (simp at hh; done)
  try rw [hh]
  clear hh
  conv => whnf
  refine (co).mono fun r st e => ?_
  obtain ⟨rfl, rfl⟩ := e
  conv => whnf
  cases o with
  | true =>
    obtain rfl : O = no 11 := h01
    conv => whnf
    refine ⟨false, [], ?_⟩
    conv => whnf
    exact ⟨rfl, rfl⟩
  | false =>
    obtain rfl : O = (⟨a.v, 3, a.v, a.h⟩, ⟨0, 3, a.v, 3, a.h, a.v, a.h, z32⟩, 0) := h01
    conv => whnf
    refine ⟨tabF97R8, by decide +kernel, ?_⟩
    conv => whnf
    refine ⟨false, [], ?_⟩
    conv => whnf
    exact ⟨rfl, rfl⟩
theorem c_kstoreR (s : Se) (n : Int) (a : At) (l : List Sg) (hl : l.length < 4294967296) (hw : a.wf) (hs : sigOK l) : FnOK Tryd.prog D 97 [(AV.st [.sc (.int .i64 (s).v), .sc (.int .i64 (s).ph), .sc (.int .i64 (s).pv), .ar 32 .lf (by8 (s).pg)]), (AV.sc (.int .i64 (n))), .st [(AV.st [.sc (.int .i64 (a).by_), .sc (.int .i64 (a).k), .sc (.int .i64 (a).v), .sc (.int .i64 (a).ph), .ar 32 .lf (by8 (a).h), .sc (.int .i64 (a).pv), .ar 32 .lf (by8 (a).pg), .ar 32 .lf (by8 (a).tag)]), (AV.sl (.nd [.lf, .ar 32 .lf]) (sigsA (l)) .ro)]] [] (fun r st => r = .tup [(AV.st [.sc (.int .i64 ((storeK s n a l).1).v), .sc (.int .i64 ((storeK s n a l).1).ph), .sc (.int .i64 ((storeK s n a l).1).pv), .ar 32 .lf (by8 ((storeK s n a l).1).pg)]), (AV.st [.sc (.int .i64 ((storeK s n a l).2.1).by_), .sc (.int .i64 ((storeK s n a l).2.1).k), .sc (.int .i64 ((storeK s n a l).2.1).v), .sc (.int .i64 ((storeK s n a l).2.1).ph), .ar 32 .lf (by8 ((storeK s n a l).2.1).h), .sc (.int .i64 ((storeK s n a l).2.1).pv), .ar 32 .lf (by8 ((storeK s n a l).2.1).pg), .ar 32 .lf (by8 ((storeK s n a l).2.1).tag)]), (AV.sc (.int .i64 ((storeK s n a l).2.2)))] ∧ st = []) := by
  refine c_kstoreR_aux s n a l (maySe s) (rightC n a l) (oldSe s a.v 3) _ (fun h => if_neg h) (fun h k => ?_) (fun h k => ?_) (c_smayR s) (c_crightR n a l hl hw hs) (c_old s a.v 3)
  · unfold storeK storeA
    rw [if_pos h, if_neg k]
  · unfold storeK storeA
    rw [if_pos h, if_pos k]
theorem c_kprepR (s : Se) (n : Int) (b : Bl) (a : Ac) (ob : b.txs.length < 4294967296 ∧ shortK b.txs ∧ b.p.length = 32) (hl : a.fr.length < 4294967296) (hw : a.wf) : FnOK Tryd.prog D 95 [(AV.st [.sc (.int .i64 (s).v), .sc (.int .i64 (s).ph), .sc (.int .i64 (s).pv), .ar 32 .lf (by8 (s).pg)]), (AV.sc (.int .i64 (n))), (AV.st [.ar 32 .lf (by8 (b).p), .sc (.int .i64 (b).v), .sc (.int .i64 (b).h), .sc (.int .i64 (b).by_), .sl (.nd [.lf, .lf, .lf, .lf, .lf, .lf, .lf]) (txsA (b).txs) .ro]), (AV.st [.sc (.int .i64 (a).by_), .sc (.int .i64 (a).v), .sc (.int .i64 (a).pv), .ar 32 .lf (by8 (a).pg), .sl .lf (ints .i64 (a).fr) .ro, .ar 32 .lf (by8 (a).tag)])] [] (fun r st => r = .tup [(AV.st [.sc (.int .i64 ((prepK s n b a).1).v), .sc (.int .i64 ((prepK s n b a).1).ph), .sc (.int .i64 ((prepK s n b a).1).pv), .ar 32 .lf (by8 ((prepK s n b a).1).pg)]), (AV.st [.sc (.int .i64 ((prepK s n b a).2.1).by_), .sc (.int .i64 ((prepK s n b a).2.1).k), .sc (.int .i64 ((prepK s n b a).2.1).v), .sc (.int .i64 ((prepK s n b a).2.1).ph), .ar 32 .lf (by8 ((prepK s n b a).2.1).h), .sc (.int .i64 ((prepK s n b a).2.1).pv), .ar 32 .lf (by8 ((prepK s n b a).2.1).pg), .ar 32 .lf (by8 ((prepK s n b a).2.1).tag)]), (AV.sc (.int .i64 ((prepK s n b a).2.2)))] ∧ st = []) := by
  refine c_kprepR_aux s n b a (maySe s) (mayB b) (rightAc n a) (oldSe s b.v 2) (blH b) _ (fun h => ?_) (fun h k => ?_) (fun h k => ?_) (c_smayR s) (c_bmayR b ob.1 ob.2.1) (c_acrightR n a hl hw) (c_bhashR b ob.1 ob.2.1 ob.2.2) (c_old s b.v 2)
  · exact if_neg fun k => h (by rw [Bool.and_eq_true] at k; exact ⟨k.1.1, k.1.2, k.2⟩)
  · unfold prepK prepA
    rw [if_pos ⟨by rw [h.1, h.2.1]; rfl, h.2.2⟩, if_neg k]
  · unfold prepK prepA
    rw [if_pos ⟨by rw [h.1, h.2.1]; rfl, h.2.2⟩, if_pos k]
end Go.WL.T7
