/- What a request makes of a seal: the facts; the law of steps. No condition. -/
import Derived.Test.YtmpnboonjpcmpaaDoorPart41
import Derived.Test.YtmpnboonjpcmpaaDoorWordsD
import Derived.Test.YtmpnboonjpcmpaaDoorPart40
set_option linter.unusedVariables false
set_option linter.unusedSimpArgs false
namespace Go.WL.T7
open Go.WL Go.Proofs
set_option maxRecDepth 20000
theorem cli_of {v : AV} (h : OfTy (.st [.int .i64, .ar 32 .lf (.int .u8), .int .i64, .int .i64]) v) : ∃ c : Cl, v = (AV.st [.sc (.int .i64 (c).n), .ar 32 .lf (by8 (c).g), .sc (.int .i64 (c).v), .sc (.int .i64 (c).h)]) ∧ c.g.length = 32 := by
  obtain ⟨_, rfl, y0, _, rfl, ⟨n, rfl, _⟩, y1, _, rfl, k1, y2, _, rfl, ⟨v, rfl, _⟩, y3, _, rfl, ⟨h, rfl, _⟩, rfl⟩ := h
  obtain ⟨g, rfl, hg⟩ := arr_of k1
  exact ⟨⟨n, g, v, h⟩, rfl, hg⟩
theorem att_of {v : AV} (h : OfTy (.st [.int .i64, .int .i64, .int .i64, .int .i64, .ar 32 .lf (.int .u8), .int .i64, .ar 32 .lf (.int .u8), .ar 32 .lf (.int .u8)]) v) : ∃ a : At, v = (AV.st [.sc (.int .i64 (a).by_), .sc (.int .i64 (a).k), .sc (.int .i64 (a).v), .sc (.int .i64 (a).ph), .ar 32 .lf (by8 (a).h), .sc (.int .i64 (a).pv), .ar 32 .lf (by8 (a).pg), .ar 32 .lf (by8 (a).tag)]) ∧ a.wf := by
  obtain ⟨_, rfl, y0, _, rfl, ⟨y, rfl, _⟩, y1, _, rfl, ⟨k, rfl, _⟩, y2, _, rfl, ⟨v, rfl, _⟩, y3, _, rfl, ⟨ph, rfl, _⟩, y4, _, rfl, k4, y5, _, rfl, ⟨pv, rfl, _⟩, y6, _, rfl, k6, y7, _, rfl, k7, rfl⟩ := h
  obtain ⟨h, rfl, h1⟩ := arr_of k4
  obtain ⟨pg, rfl, h2⟩ := arr_of k6
  obtain ⟨tag, rfl, h3⟩ := arr_of k7
  exact ⟨⟨y, k, v, ph, h, pv, pg, tag⟩, rfl, h1, h2, h3⟩
theorem sig_of {v : AV} (h : OfTy (.st [.int .i64, .ar 32 .lf (.int .u8)]) v) : ∃ s : Sg, v = (AV.st [.sc (.int .i64 (s).by_), .ar 32 .lf (by8 (s).tag)]) ∧ s.tag.length = 32 := by
  obtain ⟨_, rfl, y0, _, rfl, ⟨y, rfl, _⟩, y1, _, rfl, k1, rfl⟩ := h
  obtain ⟨t, rfl, h1⟩ := arr_of k1
  exact ⟨⟨y, t⟩, rfl, h1⟩
theorem sigs_map : ∀ xs : List AV, (∀ x ∈ xs, OfTy (.st [.int .i64, .ar 32 .lf (.int .u8)]) x) → ∃ l : List Sg, xs = sigsA l ∧ sigOK l
  | [], _ => ⟨[], rfl, fun s h => by simp at h⟩
  | x :: xs, h => by
    obtain ⟨l, e, hl⟩ := sigs_map xs fun y hy => h y (List.mem_cons_of_mem _ hy)
    obtain ⟨b, e2, hb⟩ := sig_of (h x (by simp))
    refine ⟨b :: l, by rw [e, e2]; rfl, fun c hc => ?_⟩
    rcases List.mem_cons.1 hc with rfl | hc
    · exact hb
    · exact hl c hc
theorem cert_of {v : AV} (h : OfTy (.st [.st [.int .i64, .int .i64, .int .i64, .int .i64, .ar 32 .lf (.int .u8), .int .i64, .ar 32 .lf (.int .u8), .ar 32 .lf (.int .u8)], .sl (.nd [.lf, .ar 32 .lf]) (.st [.int .i64, .ar 32 .lf (.int .u8)])]) v) :
    ∃ (a : At) (s : List Sg), v = .st [(AV.st [.sc (.int .i64 (a).by_), .sc (.int .i64 (a).k), .sc (.int .i64 (a).v), .sc (.int .i64 (a).ph), .ar 32 .lf (by8 (a).h), .sc (.int .i64 (a).pv), .ar 32 .lf (by8 (a).pg), .ar 32 .lf (by8 (a).tag)]), (AV.sl (.nd [.lf, .ar 32 .lf]) (sigsA (s)) .ro)] ∧ a.wf ∧ sigOK s := by
  obtain ⟨_, rfl, y0, _, rfl, k0, y1, _, rfl, ⟨xs, rfl, _, k1⟩, rfl⟩ := h
  obtain ⟨a, rfl, ha⟩ := att_of k0
  obtain ⟨s, rfl, hs⟩ := sigs_map xs k1
  exact ⟨a, s, rfl, ha, hs⟩
theorem bls_map : ∀ xs : List AV, (∀ x ∈ xs, OfTy (.st [.ar 32 .lf (.int .u8), .int .i64, .int .i64, .int .i64, .sl (.nd [.lf, .lf, .lf, .lf, .lf, .lf, .lf]) (.st [.int .i64, .int .i64, .int .i64, .int .i64, .int .i64, .str, .str])]) x) → ∃ l : List Bl, xs = blsA l ∧ ∀ b ∈ l, b.p.length = 32
  | [], _ => ⟨[], rfl, fun s h => by simp at h⟩
  | x :: xs, h => by
    obtain ⟨l, e, hl⟩ := bls_map xs fun y hy => h y (List.mem_cons_of_mem _ hy)
    obtain ⟨b, e2, hb⟩ := bl_of (h x (by simp))
    refine ⟨b :: l, by rw [e, e2]; rfl, fun c hc => ?_⟩
    rcases List.mem_cons.1 hc with rfl | hc
    · exact hb
    · exact hl c hc
theorem bls_of {v : AV} (h : OfTy (.sl (.nd [.ar 32 .lf, .lf, .lf, .lf, .lf]) (.st [.ar 32 .lf (.int .u8), .int .i64, .int .i64, .int .i64, .sl (.nd [.lf, .lf, .lf, .lf, .lf, .lf, .lf]) (.st [.int .i64, .int .i64, .int .i64, .int .i64, .int .i64, .str, .str])])) v) :
    ∃ l : List Bl, v = (AV.sl (.nd [.ar 32 .lf, .lf, .lf, .lf, .lf]) (blsA (l)) .ro) ∧ l.length ≤ maxLen ∧ ∀ b ∈ l, b.p.length = 32 := by
  obtain ⟨xs, rfl, h1, h2⟩ := h
  obtain ⟨l, rfl, hl⟩ := bls_map xs h2
  exact ⟨l, rfl, by simpa [blsA] using h1, hl⟩
end Go.WL.T7
namespace Go.WL.T7
open Go.WL Go.Proofs
set_option maxRecDepth 20000
set_option maxHeartbeats 8000000
def oneA (a : At) : At := ⟨1, a.k, a.v, a.ph, a.h, a.pv, a.pg, a.tag⟩
structure Ahead (s : Se) (X : Out) : Prop where
  m : maySe X.1 = true
  l : lessSe s X.1 = true
  a : mayA (oneA X.2.1) = true
  v : X.2.1.v = X.1.v
  p : X.2.1.ph = X.1.ph
  q : s.pv ≤ X.1.pv
  g : X.1.pv = s.pv → X.1.pg = s.pg
theorem maySe_iff {s : Se} : maySe s = true ↔ (0 ≤ s.v ∧ s.v ≤ 1099511627776) ∧ (0 ≤ s.ph ∧ s.ph ≤ 3) ∧ (s.ph = 0 ↔ s.v = 0) ∧ (0 ≤ s.pv ∧ s.pv ≤ s.v) ∧ ¬ (0 < s.v ∧ s.ph < 3 ∧ s.pv = s.v) ∧ (s.v ≠ 0 ∨ s.pg = z32) := by
  rw [maySe_eq]
  simp only [Bool.and_eq_true, Bool.or_eq_true, Bool.not_eq_true', decide_eq_true_eq, decide_eq_false_iff_not, beq_iff_eq]
  constructor
  · rintro ⟨⟨⟨⟨⟨h1, h2⟩, h3⟩, h4⟩, h5⟩, h6⟩
    exact ⟨h1, h2, h3, h4, h5, h6⟩
  · rintro ⟨h1, h2, h3, h4, h5, h6⟩
    exact ⟨⟨⟨⟨⟨h1, h2⟩, h3⟩, h4⟩, h5⟩, h6⟩
theorem mayA_iff {a : At} : mayA a = true ↔ (1 ≤ a.by_ ∧ a.by_ ≤ 21) ∧ (1 ≤ a.k ∧ a.k ≤ 3) ∧ a.ph = a.k ∧ (1 ≤ a.v ∧ a.v ≤ 1099511627776) ∧ 0 ≤ a.pv ∧ (a.pv < a.v ∨ (a.k = 3 ∧ a.pv = a.v)) := by
  rw [mayA_eq]
  simp only [Bool.and_eq_true, decide_eq_true_eq]
  constructor
  · rintro ⟨⟨⟨⟨⟨h1, h2⟩, h3⟩, h4⟩, h5⟩, h6⟩
    exact ⟨h1, h2, h3, h4, h5, h6⟩
  · rintro ⟨h1, h2, h3, h4, h5, h6⟩
    exact ⟨⟨⟨⟨⟨h1, h2⟩, h3⟩, h4⟩, h5⟩, h6⟩
theorem notOld {s : Se} {v p : Int} (h : ¬ oldSe s v p = true) : s.v < v ∨ (s.v = v ∧ s.ph < p) := by
  unfold oldSe at h
  simp only [decide_eq_true_eq] at h
  omega
theorem less_iff {a b : Se} : lessSe a b = true ↔ (a.v < b.v ∨ (a.v = b.v ∧ a.ph < b.ph)) := by
  unfold lessSe; rw [decide_eq_true_eq]
theorem ahead_new {s : Se} {v : Int} (h : (newK (maySe s) s v).2.2 = 0) : Ahead s (newK (maySe s) s v) := by
  unfold newK stepK at h ⊢
  split at h
  · rename_i hc
    split at h
    · simp [no] at h
    · rename_i ho
      rw [if_pos hc, if_neg ho]
      have ho := notOld ho
      obtain ⟨hm, h1, h2⟩ := hc
      obtain ⟨m1, m2, m3, m4, m5, m6⟩ := maySe_iff.1 hm
      refine ⟨maySe_iff.2 ?_, less_iff.2 ?_, mayA_iff.2 ?_, rfl, rfl, Int.le_refl _, fun _ => rfl⟩
      · simp only [upS]
        refine ⟨by omega, by omega, by omega, by omega, by omega, .inl (by omega)⟩
      · simp only [upS]; omega
      · simp only [oneA, upA]
        refine ⟨by omega, by omega, by first | omega | trivial, by omega, by omega, ?_⟩
        omega
  · simp [no] at h
theorem ahead_prep {s : Se} {n : Int} {b : Bl} {a : Ac} (h : (prepK s n b a).2.2 = 0) : Ahead s (prepK s n b a) := by
  unfold prepK prepA at h ⊢
  split at h
  · rename_i hc
    split at h
    · rename_i hd
      split at h
      · simp [no] at h
      · rename_i ho
        rw [if_pos hc, if_pos hd, if_neg ho]
        have ho := notOld ho
        obtain ⟨hm, h1⟩ := hc
        obtain ⟨hr, h3, h4⟩ := hd
        rw [Bool.and_eq_true] at hm
        obtain ⟨m1, m2, m3, m4, m5, m6⟩ := maySe_iff.1 hm.1
        obtain ⟨b1, _⟩ := mayB_facts hm.2
        have ha : mayAc a = true := by
          unfold rightAc at hr
          simp only [Bool.and_eq_true] at hr
          exact hr.1.1.1.1.2
        have hf := mayAc_facts ha
        refine ⟨maySe_iff.2 ?_, less_iff.2 ?_, mayA_iff.2 ?_, rfl, rfl, Int.le_refl _, fun _ => rfl⟩
        · simp only [upS]
          refine ⟨by omega, by omega, by omega, by omega, by omega, .inl (by omega)⟩
        · simp only [upS]; omega
        · simp only [oneA]
          refine ⟨by omega, by omega, by first | omega | trivial, by omega, by omega, ?_⟩
          omega
    · simp [no] at h
  · simp [no] at h
theorem ahead_store {s : Se} {n : Int} {a : At} {l : List Sg} (h : (storeK s n a l).2.2 = 0) : Ahead s (storeK s n a l) := by
  unfold storeK storeA at h ⊢
  split at h
  · rename_i hm
    split at h
    · rename_i hd
      split at h
      · simp [no] at h
      · rename_i ho
        rw [if_pos hm, if_pos hd, if_neg ho]
        have ho := notOld ho
        obtain ⟨hr, h4⟩ := hd
        obtain ⟨m1, m2, m3, m4, m5, m6⟩ := maySe_iff.1 hm
        have hv : 1 ≤ a.v ∧ a.v ≤ 1099511627776 := by
          unfold rightC at hr
          simp only [Bool.and_eq_true, decide_eq_true_eq] at hr
          obtain ⟨⟨⟨⟨q1, q2⟩, _⟩, _⟩, hall⟩ := hr
          cases l with
          | nil => simp at q2; omega
          | cons x l =>
            rw [List.all_cons, Bool.and_eq_true] at hall
            have := hall.1
            unfold rightA at this
            rw [Bool.and_eq_true] at this
            exact (mayA_iff.1 this.1).2.2.2.1
        refine ⟨maySe_iff.2 ?_, less_iff.2 ?_, mayA_iff.2 ?_, rfl, rfl, ?_, fun e => ?_⟩
        · refine ⟨by simp only; omega, by simp only; omega, by simp only; omega, by simp only; omega, by simp only; omega, .inl (by simp only; omega)⟩
        · simp only; omega
        · simp only [oneA]
          refine ⟨by omega, by omega, by first | omega | trivial, by omega, by omega, ?_⟩
          exact .inr (by first | trivial | simp)
        · simp only; omega
        · simp only at e; exfalso; omega
    · simp [no] at h
  · simp [no] at h
def doK (s : Se) (n d v : Int) (b : Bl) (a : Ac) (t : At) (l : List Sg) : Out :=
  if d = 0 then newK (maySe s) s v else if d = 1 then prepK s n b a else storeK s n t l
theorem ahead_do {s : Se} {n d v : Int} {b : Bl} {a : Ac} {t : At} {l : List Sg} (h : (doK s n d v b a t l).2.2 = 0) : Ahead s (doK s n d v b a t l) := by
  unfold doK at h ⊢
  split at h
  · rename_i h0
    rw [if_pos h0]
    exact ahead_new h
  · rename_i h0
    rw [if_neg h0]
    split at h
    · rename_i h1
      rw [if_pos h1]
      exact ahead_prep h
    · rename_i h1
      rw [if_neg h1]
      exact ahead_store h
abbrev isNo (X : Out) : Prop := X.2.2 ≠ 0 → ∃ e, e ≠ 0 ∧ X = no e
theorem no_if {c : Prop} [Decidable c] {A B : Out} (hA : isNo A) (hB : isNo B) : isNo (if c then A else B) := by
  split
  · exact hA
  · exact hB
theorem no_no (e : Int) : isNo (no e) := fun h => ⟨e, h, rfl⟩
theorem no_ok (s : Se) (a : At) : isNo (s, a, 0) := fun h => absurd rfl h
theorem no_do (s : Se) (n d v : Int) (b : Bl) (a : Ac) (t : At) (l : List Sg) : isNo (doK s n d v b a t l) := by
  unfold doK newK stepK prepK prepA storeK storeA
  exact no_if (no_if (no_if (no_no _) (no_ok _ _)) (no_no _)) (no_if (no_if (no_if (no_if (no_no _) (no_ok _ _)) (no_no _)) (no_no _)) (no_if (no_if (no_if (no_no _) (no_ok _ _)) (no_no _)) (no_no _)))
theorem c_kdo (s : Se) (n d v : Int) (b : Bl) (a : Ac) (t : At) (l : List Sg) (hb : lightB b) (hp : b.p.length = 32) (ha : a.fr.length ≤ 30) (hl : l.length ≤ 30) (hw : a.wf) (ht : t.wf) (hs : sigOK l) :
    FnOK Tryd.prog D 57 [(AV.st [.sc (.int .i64 (s).v), .sc (.int .i64 (s).ph), .sc (.int .i64 (s).pv), .ar 32 .lf (by8 (s).pg)]), (AV.sc (.int .i64 (n))), .st [(AV.sc (.int .i64 (d))), (AV.sc (.int .i64 (v))), (AV.st [.ar 32 .lf (by8 (b).p), .sc (.int .i64 (b).v), .sc (.int .i64 (b).h), .sc (.int .i64 (b).by_), .sl (.nd [.lf, .lf, .lf, .lf, .lf, .lf, .lf]) (txsA (b).txs) .ro]), (AV.st [.sc (.int .i64 (a).by_), .sc (.int .i64 (a).v), .sc (.int .i64 (a).pv), .ar 32 .lf (by8 (a).pg), .sl .lf (ints .i64 (a).fr) .ro, .ar 32 .lf (by8 (a).tag)]), .st [(AV.st [.sc (.int .i64 (t).by_), .sc (.int .i64 (t).k), .sc (.int .i64 (t).v), .sc (.int .i64 (t).ph), .ar 32 .lf (by8 (t).h), .sc (.int .i64 (t).pv), .ar 32 .lf (by8 (t).pg), .ar 32 .lf (by8 (t).tag)]), (AV.sl (.nd [.lf, .ar 32 .lf]) (sigsA (l)) .ro)]]] [] (fun r st => r = .tup [(AV.st [.sc (.int .i64 ((doK s n d v b a t l).1).v), .sc (.int .i64 ((doK s n d v b a t l).1).ph), .sc (.int .i64 ((doK s n d v b a t l).1).pv), .ar 32 .lf (by8 ((doK s n d v b a t l).1).pg)]), (AV.st [.sc (.int .i64 ((doK s n d v b a t l).2.1).by_), .sc (.int .i64 ((doK s n d v b a t l).2.1).k), .sc (.int .i64 ((doK s n d v b a t l).2.1).v), .sc (.int .i64 ((doK s n d v b a t l).2.1).ph), .ar 32 .lf (by8 ((doK s n d v b a t l).2.1).h), .sc (.int .i64 ((doK s n d v b a t l).2.1).pv), .ar 32 .lf (by8 ((doK s n d v b a t l).2.1).pg), .ar 32 .lf (by8 ((doK s n d v b a t l).2.1).tag)]), (AV.sc (.int .i64 ((doK s n d v b a t l).2.2))), (AV.sc (.bool (true)))] ∧ st = []) := by
  have ob := okB_of hb hp
  refine c_kdo_aux s n d v b a t l (newK (maySe s) s v) (prepK s n b a) (storeK s n t l) _ (fun h => if_pos h) (fun h k => by unfold doK; rw [if_neg h, if_pos k]) (fun h k => by unfold doK; rw [if_neg h, if_neg k])
    (c_knew s v) (c_knewR s v) (c_kprep s n b a ob (by omega) hw) (c_kprepR s n b a ob (by omega) hw) (c_kstore s n t l (by omega) ht hs) (c_kstoreR s n t l (by omega) ht hs)
end Go.WL.T7
