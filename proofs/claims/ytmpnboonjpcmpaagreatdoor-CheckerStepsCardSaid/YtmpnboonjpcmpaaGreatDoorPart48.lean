/- What a request makes of a seal: the facts; the law of steps. No condition. -/
import Derived.Test.YtmpnboonjpcmpaaGreatDoorPart46
import Derived.Test.YtmpnboonjpcmpaaGreatDoorPart47
set_option linter.unusedVariables false
set_option linter.unusedSimpArgs false
namespace Go.WL.T7z
open Go.WL Go.Proofs
set_option maxRecDepth 20000
set_option maxHeartbeats 8000000
def oneA (a : At) : At := ⟨1, a.k, a.v, a.ph, a.h, a.pv, a.pg, a.tag⟩
structure Ahead (s : Se) (X : Out) : Prop where
  m : maySe X.1 = true
  l : lessSe s X.1 = true
  a : mayA (oneA X.2.1) = true
  v : X.2.1.v = X.1.v
  p : X.2.1.ph = X.1.ph
  q : s.pv ≤ X.1.pv
  g : X.1.pv = s.pv → X.1.pg = s.pg
theorem maySe_iff {s : Se} : maySe s = true ↔ (0 ≤ s.v ∧ s.v ≤ 1099511627776) ∧ (0 ≤ s.ph ∧ s.ph ≤ 3) ∧ (s.ph = 0 ↔ s.v = 0) ∧ (0 ≤ s.pv ∧ s.pv ≤ s.v) ∧ ¬ (0 < s.v ∧ s.ph < 3 ∧ s.pv = s.v) ∧ (s.v ≠ 0 ∨ s.pg = z32) := by
  rw [maySe_eq]
  simp only [Bool.and_eq_true, Bool.or_eq_true, Bool.not_eq_true', decide_eq_true_eq, decide_eq_false_iff_not, beq_iff_eq]
  constructor
  · rintro ⟨⟨⟨⟨⟨h1, h2⟩, h3⟩, h4⟩, h5⟩, h6⟩
    exact ⟨h1, h2, h3, h4, h5, h6⟩
  · rintro ⟨h1, h2, h3, h4, h5, h6⟩
    exact ⟨⟨⟨⟨⟨h1, h2⟩, h3⟩, h4⟩, h5⟩, h6⟩
theorem mayA_iff {a : At} : mayA a = true ↔ (1 ≤ a.by_ ∧ a.by_ ≤ 21) ∧ (1 ≤ a.k ∧ a.k ≤ 3) ∧ a.ph = a.k ∧ (1 ≤ a.v ∧ a.v ≤ 1099511627776) ∧ 0 ≤ a.pv ∧ (a.pv < a.v ∨ (a.k = 3 ∧ a.pv = a.v)) := by
  rw [mayA_eq]
  simp only [Bool.and_eq_true, decide_eq_true_eq]
  constructor
  · rintro ⟨⟨⟨⟨⟨h1, h2⟩, h3⟩, h4⟩, h5⟩, h6⟩
    exact ⟨h1, h2, h3, h4, h5, h6⟩
  · rintro ⟨h1, h2, h3, h4, h5, h6⟩
    exact ⟨⟨⟨⟨⟨h1, h2⟩, h3⟩, h4⟩, h5⟩, h6⟩
theorem notOld {s : Se} {v p : Int} (h : ¬ oldSe s v p = true) : s.v < v ∨ (s.v = v ∧ s.ph < p) := by
  unfold oldSe at h
  simp only [decide_eq_true_eq] at h
  omega
theorem less_iff {a b : Se} : lessSe a b = true ↔ (a.v < b.v ∨ (a.v = b.v ∧ a.ph < b.ph)) := by
  unfold lessSe; rw [decide_eq_true_eq]
theorem ahead_new {s : Se} {v : Int} (h : (newK (maySe s) s v).2.2 = 0) : Ahead s (newK (maySe s) s v) := by
  unfold newK stepK at h ⊢
  split at h
  · rename_i hc
    split at h
    · simp [no] at h
    · rename_i ho
      rw [if_pos hc, if_neg ho]
      have ho := notOld ho
      obtain ⟨hm, h1, h2⟩ := hc
      obtain ⟨m1, m2, m3, m4, m5, m6⟩ := maySe_iff.1 hm
      refine ⟨maySe_iff.2 ?_, less_iff.2 ?_, mayA_iff.2 ?_, rfl, rfl, Int.le_refl _, fun _ => rfl⟩
      · simp only [upS]
        refine ⟨by omega, by omega, by omega, by omega, by omega, .inl (by omega)⟩
      · simp only [upS]; omega
      · simp only [oneA, upA]
        refine ⟨by omega, by omega, by first | omega | trivial, by omega, by omega, ?_⟩
        omega
  · simp [no] at h
theorem ahead_prep {s : Se} {n : Int} {b : Bl} {a : Ac} (h : (prepK s n b a).2.2 = 0) : Ahead s (prepK s n b a) := by
  unfold prepK prepA at h ⊢
  split at h
  · rename_i hc
    split at h
    · rename_i hd
      split at h
      · simp [no] at h
      · rename_i ho
        rw [if_pos hc, if_pos hd, if_neg ho]
        have ho := notOld ho
        obtain ⟨hm, h1⟩ := hc
        obtain ⟨hr, h3, h4⟩ := hd
        rw [Bool.and_eq_true] at hm
        obtain ⟨m1, m2, m3, m4, m5, m6⟩ := maySe_iff.1 hm.1
        obtain ⟨b1, _⟩ := mayB_facts hm.2
        have ha : mayAc a = true := by
          unfold rightAc at hr
          simp only [Bool.and_eq_true] at hr
          exact hr.1.1.1.1.2
        have hf := mayAc_facts ha
        refine ⟨maySe_iff.2 ?_, less_iff.2 ?_, mayA_iff.2 ?_, rfl, rfl, Int.le_refl _, fun _ => rfl⟩
        · simp only [upS]
          refine ⟨by omega, by omega, by omega, by omega, by omega, .inl (by omega)⟩
        · simp only [upS]; omega
        · simp only [oneA]
          refine ⟨by omega, by omega, by first | omega | trivial, by omega, by omega, ?_⟩
          omega
    · simp [no] at h
  · simp [no] at h
theorem ahead_store {s : Se} {n : Int} {a : At} {l : List Sg} (h : (storeK s n a l).2.2 = 0) : Ahead s (storeK s n a l) := by
  unfold storeK storeA at h ⊢
  split at h
  · rename_i hm
    split at h
    · rename_i hd
      split at h
      · simp [no] at h
      · rename_i ho
        rw [if_pos hm, if_pos hd, if_neg ho]
        have ho := notOld ho
        obtain ⟨hr, h4⟩ := hd
        obtain ⟨m1, m2, m3, m4, m5, m6⟩ := maySe_iff.1 hm
        have hv : 1 ≤ a.v ∧ a.v ≤ 1099511627776 := by
          unfold rightC at hr
          simp only [Bool.and_eq_true, decide_eq_true_eq] at hr
          obtain ⟨⟨⟨⟨q1, q2⟩, _⟩, _⟩, hall⟩ := hr
          cases l with
          | nil => simp at q2; omega
          | cons x l =>
            rw [List.all_cons, Bool.and_eq_true] at hall
            have := hall.1
            unfold rightA at this
            rw [Bool.and_eq_true] at this
            exact (mayA_iff.1 this.1).2.2.2.1
        refine ⟨maySe_iff.2 ?_, less_iff.2 ?_, mayA_iff.2 ?_, rfl, rfl, ?_, fun e => ?_⟩
        · refine ⟨by simp only; omega, by simp only; omega, by simp only; omega, by simp only; omega, by simp only; omega, .inl (by simp only; omega)⟩
        · simp only; omega
        · simp only [oneA]
          refine ⟨by omega, by omega, by first | omega | trivial, by omega, by omega, ?_⟩
          exact .inr (by first | trivial | simp)
        · simp only; omega
        · simp only at e; exfalso; omega
    · simp [no] at h
  · simp [no] at h
def doK (s : Se) (n d v : Int) (b : Bl) (a : Ac) (t : At) (l : List Sg) : Out :=
  if d = 0 then newK (maySe s) s v else if d = 1 then prepK s n b a else storeK s n t l
theorem ahead_do {s : Se} {n d v : Int} {b : Bl} {a : Ac} {t : At} {l : List Sg} (h : (doK s n d v b a t l).2.2 = 0) : Ahead s (doK s n d v b a t l) := by
  unfold doK at h ⊢
  split at h
  · rename_i h0
    rw [if_pos h0]
    exact ahead_new h
  · rename_i h0
    rw [if_neg h0]
    split at h
    · rename_i h1
      rw [if_pos h1]
      exact ahead_prep h
    · rename_i h1
      rw [if_neg h1]
      exact ahead_store h
abbrev isNo (X : Out) : Prop := X.2.2 ≠ 0 → ∃ e, e ≠ 0 ∧ X = no e
theorem no_if {c : Prop} [Decidable c] {A B : Out} (hA : isNo A) (hB : isNo B) : isNo (if c then A else B) := by
  split
  · exact hA
  · exact hB
theorem no_no (e : Int) : isNo (no e) := fun h => ⟨e, h, rfl⟩
theorem no_ok (s : Se) (a : At) : isNo (s, a, 0) := fun h => absurd rfl h
theorem no_do (s : Se) (n d v : Int) (b : Bl) (a : Ac) (t : At) (l : List Sg) : isNo (doK s n d v b a t l) := by
  unfold doK newK stepK prepK prepA storeK storeA
  exact no_if (no_if (no_if (no_no _) (no_ok _ _)) (no_no _)) (no_if (no_if (no_if (no_if (no_no _) (no_ok _ _)) (no_no _)) (no_no _)) (no_if (no_if (no_if (no_no _) (no_ok _ _)) (no_no _)) (no_no _)))
theorem c_kdo (s : Se) (n d v : Int) (b : Bl) (a : Ac) (t : At) (l : List Sg) (hb : lightB b) (hp : b.p.length = 32) (ha : a.fr.length ≤ 30) (hl : l.length ≤ 30) (hw : a.wf) (ht : t.wf) (hs : sigOK l) :
    FnOK Tryz.prog D 6 [(AV.st [.sc (.int .i64 (s).v), .sc (.int .i64 (s).ph), .sc (.int .i64 (s).pv), .ar 32 .lf (by8 (s).pg)]), (AV.sc (.int .i64 (n))), .st [(AV.sc (.int .i64 (d))), (AV.sc (.int .i64 (v))), (AV.st [.ar 32 .lf (by8 (b).p), .sc (.int .i64 (b).v), .sc (.int .i64 (b).h), .sc (.int .i64 (b).by_), .sl (.nd [.lf, .lf, .lf, .lf, .lf, .lf, .lf]) (txsA (b).txs) .ro]), (AV.st [.sc (.int .i64 (a).by_), .sc (.int .i64 (a).v), .sc (.int .i64 (a).pv), .ar 32 .lf (by8 (a).pg), .sl .lf (ints .i64 (a).fr) .ro, .ar 32 .lf (by8 (a).tag)]), .st [(AV.st [.sc (.int .i64 (t).by_), .sc (.int .i64 (t).k), .sc (.int .i64 (t).v), .sc (.int .i64 (t).ph), .ar 32 .lf (by8 (t).h), .sc (.int .i64 (t).pv), .ar 32 .lf (by8 (t).pg), .ar 32 .lf (by8 (t).tag)]), (AV.sl (.nd [.lf, .ar 32 .lf]) (sigsA (l)) .ro)]]] [] (fun r st => r = .tup [(AV.st [.sc (.int .i64 ((doK s n d v b a t l).1).v), .sc (.int .i64 ((doK s n d v b a t l).1).ph), .sc (.int .i64 ((doK s n d v b a t l).1).pv), .ar 32 .lf (by8 ((doK s n d v b a t l).1).pg)]), (AV.st [.sc (.int .i64 ((doK s n d v b a t l).2.1).by_), .sc (.int .i64 ((doK s n d v b a t l).2.1).k), .sc (.int .i64 ((doK s n d v b a t l).2.1).v), .sc (.int .i64 ((doK s n d v b a t l).2.1).ph), .ar 32 .lf (by8 ((doK s n d v b a t l).2.1).h), .sc (.int .i64 ((doK s n d v b a t l).2.1).pv), .ar 32 .lf (by8 ((doK s n d v b a t l).2.1).pg), .ar 32 .lf (by8 ((doK s n d v b a t l).2.1).tag)]), (AV.sc (.int .i64 ((doK s n d v b a t l).2.2))), (AV.sc (.bool (true)))] ∧ st = []) := by
  have ob := okB_of hb hp
  refine c_kdo_aux s n d v b a t l (newK (maySe s) s v) (prepK s n b a) (storeK s n t l) _ (fun h => if_pos h) (fun h k => by unfold doK; rw [if_neg h, if_pos k]) (fun h k => by unfold doK; rw [if_neg h, if_neg k])
    (c_knew s v) (c_knewR s v) (c_kprep s n b a ob (by omega) hw) (c_kprepR s n b a ob (by omega) hw) (c_kstore s n t l (by omega) ht hs) (c_kstoreR s n t l (by omega) ht hs)
theorem c_cksteps_aux (s : Se) (n d v : Int) (b : Bl) (a : Ac) (t : At) (l : List Sg) (X : Out)
    (hX : X.2.2 ≠ 0 → ∃ e, e ≠ 0 ∧ X = no e) (hF : X.2.2 = 0 → X.2.1.v = X.1.v ∧ X.2.1.ph = X.1.ph)
    (cw : FnOK Tryz.prog D 5 [] [] (fun r st => r = (AV.sc (.bool (true))) ∧ st = []))
    (cD : lightB b → a.fr.length ≤ 30 → l.length ≤ 30 → FnOK Tryz.prog D 6 [(AV.st [.sc (.int .i64 (s).v), .sc (.int .i64 (s).ph), .sc (.int .i64 (s).pv), .ar 32 .lf (by8 (s).pg)]), (AV.sc (.int .i64 (n))), .st [(AV.sc (.int .i64 (d))), (AV.sc (.int .i64 (v))), (AV.st [.ar 32 .lf (by8 (b).p), .sc (.int .i64 (b).v), .sc (.int .i64 (b).h), .sc (.int .i64 (b).by_), .sl (.nd [.lf, .lf, .lf, .lf, .lf, .lf, .lf]) (txsA (b).txs) .ro]), (AV.st [.sc (.int .i64 (a).by_), .sc (.int .i64 (a).v), .sc (.int .i64 (a).pv), .ar 32 .lf (by8 (a).pg), .sl .lf (ints .i64 (a).fr) .ro, .ar 32 .lf (by8 (a).tag)]), .st [(AV.st [.sc (.int .i64 (t).by_), .sc (.int .i64 (t).k), .sc (.int .i64 (t).v), .sc (.int .i64 (t).ph), .ar 32 .lf (by8 (t).h), .sc (.int .i64 (t).pv), .ar 32 .lf (by8 (t).pg), .ar 32 .lf (by8 (t).tag)]), (AV.sl (.nd [.lf, .ar 32 .lf]) (sigsA (l)) .ro)]]] [] (fun r st => r = .tup [(AV.st [.sc (.int .i64 (X.1).v), .sc (.int .i64 (X.1).ph), .sc (.int .i64 (X.1).pv), .ar 32 .lf (by8 (X.1).pg)]), (AV.st [.sc (.int .i64 (X.2.1).by_), .sc (.int .i64 (X.2.1).k), .sc (.int .i64 (X.2.1).v), .sc (.int .i64 (X.2.1).ph), .ar 32 .lf (by8 (X.2.1).h), .sc (.int .i64 (X.2.1).pv), .ar 32 .lf (by8 (X.2.1).pg), .ar 32 .lf (by8 (X.2.1).tag)]), (AV.sc (.int .i64 (X.2.2))), (AV.sc (.bool (true)))] ∧ st = []))
    (cm : X.2.2 = 0 → FnOK Tryz.prog D 7 [(AV.st [.sc (.int .i64 (X.1).v), .sc (.int .i64 (X.1).ph), .sc (.int .i64 (X.1).pv), .ar 32 .lf (by8 (X.1).pg)])] [] (fun r st => r = (AV.sc (.bool (true))) ∧ st = []))
    (cl : X.2.2 = 0 → FnOK Tryz.prog D 8 [(AV.st [.sc (.int .i64 (s).v), .sc (.int .i64 (s).ph), .sc (.int .i64 (s).pv), .ar 32 .lf (by8 (s).pg)]), (AV.st [.sc (.int .i64 (X.1).v), .sc (.int .i64 (X.1).ph), .sc (.int .i64 (X.1).pv), .ar 32 .lf (by8 (X.1).pg)])] [] (fun r st => r = (AV.sc (.bool (true))) ∧ st = []))
    (ca : X.2.2 = 0 → FnOK Tryz.prog D 9 [(AV.st [.sc (.int .i64 (oneA X.2.1).by_), .sc (.int .i64 (oneA X.2.1).k), .sc (.int .i64 (oneA X.2.1).v), .sc (.int .i64 (oneA X.2.1).ph), .ar 32 .lf (by8 (oneA X.2.1).h), .sc (.int .i64 (oneA X.2.1).pv), .ar 32 .lf (by8 (oneA X.2.1).pg), .ar 32 .lf (by8 (oneA X.2.1).tag)])] [] (fun r st => r = (AV.sc (.bool (true))) ∧ st = [])) :
    FnOK Tryz.prog D 3 [(AV.st [.sc (.int .i64 (s).v), .sc (.int .i64 (s).ph), .sc (.int .i64 (s).pv), .ar 32 .lf (by8 (s).pg)]), (AV.sc (.int .i64 (n))), .st [(AV.sc (.int .i64 (d))), (AV.sc (.int .i64 (v))), (AV.st [.ar 32 .lf (by8 (b).p), .sc (.int .i64 (b).v), .sc (.int .i64 (b).h), .sc (.int .i64 (b).by_), .sl (.nd [.lf, .lf, .lf, .lf, .lf, .lf, .lf]) (txsA (b).txs) .ro]), (AV.st [.sc (.int .i64 (a).by_), .sc (.int .i64 (a).v), .sc (.int .i64 (a).pv), .ar 32 .lf (by8 (a).pg), .sl .lf (ints .i64 (a).fr) .ro, .ar 32 .lf (by8 (a).tag)]), .st [(AV.st [.sc (.int .i64 (t).by_), .sc (.int .i64 (t).k), .sc (.int .i64 (t).v), .sc (.int .i64 (t).ph), .ar 32 .lf (by8 (t).h), .sc (.int .i64 (t).pv), .ar 32 .lf (by8 (t).pg), .ar 32 .lf (by8 (t).tag)]), (AV.sl (.nd [.lf, .ar 32 .lf]) (sigsA (l)) .ro)]]] [] (fun r _ => r = (AV.sc (.bool (true)))) := by
  refine fnok_of_W hmix tabOK Tryz.func3 rfl rfl (Nat.le_of_ble_eq_true rfl) ?_
  conv => whnf
  refine (c_klight d v b a t l).mono fun r st e => ?_
  obtain ⟨rfl | ⟨rfl, h1, h2, h3⟩, rfl⟩ := e
  · conv => whnf
    refine (cw).mono fun r st e => ?_
    obtain ⟨rfl, rfl⟩ := e
    conv => whnf
    refine ⟨false, [], ?_⟩
    conv => whnf
  conv => whnf
  refine (cD h1 h2 h3).mono fun r st e => ?_
  obtain ⟨rfl, rfl⟩ := e
  conv => whnf
  by_cases he : X.2.2 = 0
  rotate_left
  · obtain ⟨e, he, rfl⟩ := hX he
    clear cD cm cl ca hF
    refine Branch.of (fun hh => ?_) (fun hh => ?_)
    rotate_left
    · exfalso; simp only [gt_iff_lt, ge_iff_le, decide_eq_true_eq, decide_eq_false_iff_not, beq_iff_eq, beq_eq_false_iff_ne, bne_iff_ne, bne_eq_false_iff_eq, ne_eq] at hh; first | done | omega | (simp at hh; done)
    try rw [hh]
    clear hh
    conv => whnf
    refine ⟨z32, z32, rfl, rfl, ?_⟩
    conv => whnf
    refine ⟨z32, z32, rfl, rfl, ?_⟩
    conv => whnf
    refine ⟨z32, z32, rfl, rfl, ?_⟩
    conv => whnf
    refine ⟨z32, z32, rfl, rfl, ?_⟩
    conv => whnf
    refine (cw).mono fun r st e => ?_
    obtain ⟨rfl, rfl⟩ := e
    conv => whnf
    refine ⟨false, [], ?_⟩
    conv => whnf
  have cm := cm he
  have cl := cl he
  have ca := ca he
  obtain ⟨e1, e2⟩ := hF he
  rw [he]
  conv => whnf
  refine (cm).mono fun r st e => ?_
  obtain ⟨rfl, rfl⟩ := e
  conv => whnf
  refine (cl).mono fun r st e => ?_
  obtain ⟨rfl, rfl⟩ := e
  conv => whnf
  refine (ca).mono fun r st e => ?_
  obtain ⟨rfl, rfl⟩ := e
  conv => whnf
  rw [e1, beq_self_eq_true]
  conv => whnf
  rw [e2, beq_self_eq_true]
  conv => whnf
  refine (cw).mono fun r st e => ?_
  obtain ⟨rfl, rfl⟩ := e
  conv => whnf
  refine ⟨false, [], ?_⟩
  conv => whnf
theorem c_cksteps (s : Se) (n d v : Int) (b : Bl) (a : Ac) (t : At) (l : List Sg) (hp : b.p.length = 32) (hw : a.wf) (ht : t.wf) (hs : sigOK l) :
    FnOK Tryz.prog D 3 [(AV.st [.sc (.int .i64 (s).v), .sc (.int .i64 (s).ph), .sc (.int .i64 (s).pv), .ar 32 .lf (by8 (s).pg)]), (AV.sc (.int .i64 (n))), .st [(AV.sc (.int .i64 (d))), (AV.sc (.int .i64 (v))), (AV.st [.ar 32 .lf (by8 (b).p), .sc (.int .i64 (b).v), .sc (.int .i64 (b).h), .sc (.int .i64 (b).by_), .sl (.nd [.lf, .lf, .lf, .lf, .lf, .lf, .lf]) (txsA (b).txs) .ro]), (AV.st [.sc (.int .i64 (a).by_), .sc (.int .i64 (a).v), .sc (.int .i64 (a).pv), .ar 32 .lf (by8 (a).pg), .sl .lf (ints .i64 (a).fr) .ro, .ar 32 .lf (by8 (a).tag)]), .st [(AV.st [.sc (.int .i64 (t).by_), .sc (.int .i64 (t).k), .sc (.int .i64 (t).v), .sc (.int .i64 (t).ph), .ar 32 .lf (by8 (t).h), .sc (.int .i64 (t).pv), .ar 32 .lf (by8 (t).pg), .ar 32 .lf (by8 (t).tag)]), (AV.sl (.nd [.lf, .ar 32 .lf]) (sigsA (l)) .ro)]]] [] (fun r _ => r = (AV.sc (.bool (true)))) := by
  refine c_cksteps_aux s n d v b a t l (doK s n d v b a t l) (no_do s n d v b a t l) (fun h => ⟨(ahead_do h).v, (ahead_do h).p⟩) c_awake15 (fun h1 h2 h3 => c_kdo s n d v b a t l h1 hp h2 h3 hw ht hs) (fun h => ?_) (fun h => ?_) (fun h => ?_)
  · have := c_smayR (doK s n d v b a t l).1
    rw [(ahead_do h).m] at this
    exact this
  · have := c_slessR s (doK s n d v b a t l).1
    rw [(ahead_do h).l] at this
    exact this
  · have := c_amayR (oneA (doK s n d v b a t l).2.1)
    rw [(ahead_do h).a] at this
    exact this
end Go.WL.T7z
