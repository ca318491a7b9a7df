/- Certificates: whether one is right. No condition. -/
import Derived.Test.YtmpnboonjpcmpaaDoorPart31
import Derived.Test.YtmpnboonjpcmpaaDoorWordsD
set_option linter.unusedVariables false
set_option linter.unusedSimpArgs false
namespace Go.WL.T7
open Go.WL Go.Proofs
set_option maxRecDepth 20000
set_option maxHeartbeats 8000000
structure Sg where
  by_ : Int
  tag : List UInt8
  deriving DecidableEq
def sigsA (l : List Sg) : List AV := l.map fun s => (AV.st [.sc (.int .i64 (s).by_), .ar 32 .lf (by8 (s).tag)])
theorem lenS (l : List Sg) : (sigsA l).length = l.length := by simp [sigsA]
theorem atS {l : List Sg} {i : Nat} (h : i < l.length) : (sigsA l)[((i : Nat) : Int).toNat]? = some (AV.st [.sc (.int .i64 (l[i]).by_), .ar 32 .lf (by8 (l[i]).tag)]) := by
  rw [Int.toNat_natCast]
  simp [sigsA, h]
/-- Do signers rise, from one on, up to one? -/
def rises : Int → Int → List Sg → Bool
  | _, _, [] => true
  | last, top, s :: l => decide (last < s.by_ ∧ s.by_ ≤ top) && rises s.by_ top l
theorem rises_cons (last top : Int) (s : Sg) (l : List Sg) : rises last top (s :: l) = (decide (last < s.by_ ∧ s.by_ ≤ top) && rises s.by_ top l) := rfl
theorem c_rises (l : List Sg) (top : Int) (hl : l.length < 4294967296) : FnOK Tryd.prog D 131 [(AV.sl (.nd [.lf, .ar 32 .lf]) (sigsA (l)) .ro), (AV.sc (.int .i64 (top)))] [] (fun r st => r = (AV.sc (.bool (rises 0 top l))) ∧ st = []) := by
  have hll := lenS l
  refine fnok_of_W hmix tabOK Tryd.func131 rfl rfl (Nat.le_of_ble_eq_true rfl) ?_
  conv => whnf
  rw [hll]
  refine ⟨false, [1, 5, 8, 9, 10], fun τ => ∃ (i : Nat) (last : Int), i ≤ l.length ∧ rises 0 top l = rises last top (l.drop i) ∧ τ = ⟨27, [(1, (AV.sc (.int .i64 (top)))), (5, (AV.sc (.int .i64 (last)))), (8, (AV.sl (.nd [.lf, .ar 32 .lf]) (sigsA (l)) .ro)), (9, (AV.sc (.int .i64 ((l.length : Int))))), (10, (AV.sc (.int .i64 ((i : Int)))))], ⟨[], [], 0⟩⟩, fun τ => l.length - (slotI τ 10).toNat, ?_, ?_⟩
  · conv => whnf
    exact ⟨0, 0, by omega, rfl, rfl⟩
  rintro τ ⟨i, last, hi, e, rfl⟩
  conv => whnf
  refine Branch.of (fun h1 => ?_) (fun h1 => ?_) <;> rw [h1] <;> conv => whnf
  · simp only [decide_eq_true_eq] at h1
    have il : i < l.length := by omega
    rw [List.drop_eq_getElem_cons il, rises_cons] at e
    repeat (refine And.intro (by first | omega) ?_; conv => whnf)
    refine ⟨_, atS il, ?_⟩
    conv => whnf
    refine Branch.of (fun h2 => ?_) (fun h2 => ?_) <;> rw [h2] <;> conv => whnf
    · simp only [decide_eq_true_eq] at h2
      refine ⟨false, [], ?_⟩
      conv => whnf
      refine ⟨?_, rfl⟩
      rw [e, decide_eq_false (show ¬ (last < l[i].by_ ∧ l[i].by_ ≤ top) by omega), Bool.false_and]
    · simp only [decide_eq_false_iff_not] at h2
      refine Branch.of (fun h3 => ?_) (fun h3 => ?_) <;> rw [h3] <;> conv => whnf
      · simp only [gt_iff_lt, decide_eq_true_eq] at h3
        refine ⟨false, [], ?_⟩
        conv => whnf
        refine ⟨?_, rfl⟩
        rw [e, decide_eq_false (show ¬ (last < l[i].by_ ∧ l[i].by_ ≤ top) by omega), Bool.false_and]
      · simp only [gt_iff_lt, decide_eq_false_iff_not] at h3
        rw [w64 (x := (i : Int) + 1) (by omega) (by omega)]
        refine ⟨⟨i + 1, l[i].by_, by omega, ?_, rfl⟩, ?_⟩
        · rw [e, decide_eq_true (show last < l[i].by_ ∧ l[i].by_ ≤ top by omega), Bool.true_and]
        · show l.length - ((i : Int) + 1).toNat < l.length - (i : Int).toNat
          omega
  · simp only [decide_eq_false_iff_not] at h1
    refine ⟨false, [], ?_⟩
    conv => whnf
    refine ⟨?_, rfl⟩
    rw [e, List.drop_of_length_le (by omega)]
    rfl
def withA (a : At) (s : Sg) : At := ⟨s.by_, a.k, a.v, a.ph, a.h, a.pv, a.pg, s.tag⟩
theorem c_with (a : At) (l : List Sg) (s : Sg) : FnOK Tryd.prog D 135 [.st [(AV.st [.sc (.int .i64 (a).by_), .sc (.int .i64 (a).k), .sc (.int .i64 (a).v), .sc (.int .i64 (a).ph), .ar 32 .lf (by8 (a).h), .sc (.int .i64 (a).pv), .ar 32 .lf (by8 (a).pg), .ar 32 .lf (by8 (a).tag)]), (AV.sl (.nd [.lf, .ar 32 .lf]) (sigsA (l)) .ro)], (AV.st [.sc (.int .i64 (s).by_), .ar 32 .lf (by8 (s).tag)])] [] (fun r st => r = (AV.st [.sc (.int .i64 (withA a s).by_), .sc (.int .i64 (withA a s).k), .sc (.int .i64 (withA a s).v), .sc (.int .i64 (withA a s).ph), .ar 32 .lf (by8 (withA a s).h), .sc (.int .i64 (withA a s).pv), .ar 32 .lf (by8 (withA a s).pg), .ar 32 .lf (by8 (withA a s).tag)]) ∧ st = []) := by
  refine fnok_of_W hmix tabOK Tryd.func135 rfl rfl (Nat.le_of_ble_eq_true rfl) ?_
  conv => whnf
  refine ⟨tabF135R2, by decide +kernel, ?_⟩
  conv => whnf
  refine ⟨false, [], ?_⟩
  conv => whnf
  exact ⟨rfl, rfl⟩
theorem c_wrong_aux (a : At) (l : List Sg) (s : Sg) (b : Bool)
    (cr : FnOK Tryd.prog D 134 [(AV.st [.sc (.int .i64 (withA a s).by_), .sc (.int .i64 (withA a s).k), .sc (.int .i64 (withA a s).v), .sc (.int .i64 (withA a s).ph), .ar 32 .lf (by8 (withA a s).h), .sc (.int .i64 (withA a s).pv), .ar 32 .lf (by8 (withA a s).pg), .ar 32 .lf (by8 (withA a s).tag)])] [] (fun r st => r = (AV.sc (.bool (b))) ∧ st = [])) :
    FnOK Tryd.prog D 133 [(AV.st [.sc (.int .i64 (s).by_), .ar 32 .lf (by8 (s).tag)]), .pt 0 []] [.st [(AV.st [.sc (.int .i64 (a).by_), .sc (.int .i64 (a).k), .sc (.int .i64 (a).v), .sc (.int .i64 (a).ph), .ar 32 .lf (by8 (a).h), .sc (.int .i64 (a).pv), .ar 32 .lf (by8 (a).pg), .ar 32 .lf (by8 (a).tag)]), (AV.sl (.nd [.lf, .ar 32 .lf]) (sigsA (l)) .ro)]] (fun r st => r = (AV.sc (.bool (!b))) ∧ st = [.st [(AV.st [.sc (.int .i64 (a).by_), .sc (.int .i64 (a).k), .sc (.int .i64 (a).v), .sc (.int .i64 (a).ph), .ar 32 .lf (by8 (a).h), .sc (.int .i64 (a).pv), .ar 32 .lf (by8 (a).pg), .ar 32 .lf (by8 (a).tag)]), (AV.sl (.nd [.lf, .ar 32 .lf]) (sigsA (l)) .ro)]]) := by
  refine fnok_of_W hmix tabOK Tryd.func133 rfl rfl (Nat.le_of_ble_eq_true rfl) ?_
  conv => whnf
  refine (c_with a l s).mono fun r st e => ?_
  obtain ⟨rfl, rfl⟩ := e
  conv => whnf
  refine (cr).mono fun r st e => ?_
  obtain ⟨rfl, rfl⟩ := e
  conv => whnf
  refine ⟨false, [], ?_⟩
  conv => whnf
  exact ⟨rfl, rfl⟩
abbrev sigOK (l : List Sg) : Prop := ∀ s ∈ l, s.tag.length = 32
theorem c_indexS (a : At) (l : List Sg) (p : Sg → Bool) (hl : l.length < 4294967296)
    (cw : ∀ s ∈ l, FnOK Tryd.prog D 133 [(AV.st [.sc (.int .i64 (s).by_), .ar 32 .lf (by8 (s).tag)]), .pt 0 []] [.st [(AV.st [.sc (.int .i64 (a).by_), .sc (.int .i64 (a).k), .sc (.int .i64 (a).v), .sc (.int .i64 (a).ph), .ar 32 .lf (by8 (a).h), .sc (.int .i64 (a).pv), .ar 32 .lf (by8 (a).pg), .ar 32 .lf (by8 (a).tag)]), (AV.sl (.nd [.lf, .ar 32 .lf]) (sigsA (l)) .ro)]] (fun r st => r = (AV.sc (.bool (!p s))) ∧ st = [.st [(AV.st [.sc (.int .i64 (a).by_), .sc (.int .i64 (a).k), .sc (.int .i64 (a).v), .sc (.int .i64 (a).ph), .ar 32 .lf (by8 (a).h), .sc (.int .i64 (a).pv), .ar 32 .lf (by8 (a).pg), .ar 32 .lf (by8 (a).tag)]), (AV.sl (.nd [.lf, .ar 32 .lf]) (sigsA (l)) .ro)]])) :
    FnOK Tryd.prog D 165 [(AV.sl (.nd [.lf, .ar 32 .lf]) (sigsA (l)) .ro), .fn 133 [.pt 0 []]] [.st [(AV.st [.sc (.int .i64 (a).by_), .sc (.int .i64 (a).k), .sc (.int .i64 (a).v), .sc (.int .i64 (a).ph), .ar 32 .lf (by8 (a).h), .sc (.int .i64 (a).pv), .ar 32 .lf (by8 (a).pg), .ar 32 .lf (by8 (a).tag)]), (AV.sl (.nd [.lf, .ar 32 .lf]) (sigsA (l)) .ro)]] (fun r st => (∃ k : Int, r = (AV.sc (.int .i64 (k))) ∧ decide (k ≥ 0) = !(l.all p)) ∧ st = [.st [(AV.st [.sc (.int .i64 (a).by_), .sc (.int .i64 (a).k), .sc (.int .i64 (a).v), .sc (.int .i64 (a).ph), .ar 32 .lf (by8 (a).h), .sc (.int .i64 (a).pv), .ar 32 .lf (by8 (a).pg), .ar 32 .lf (by8 (a).tag)]), (AV.sl (.nd [.lf, .ar 32 .lf]) (sigsA (l)) .ro)]]) := by
  have hll := lenS l
  refine fnok_of_W hmix tabOK Tryd.func165 rfl rfl (Nat.le_of_ble_eq_true rfl) ?_
  conv => whnf
  rw [hll]
  refine ⟨false, [0, 1, 7, 8], fun τ => ∃ i : Nat, i ≤ l.length ∧ (l.take i).all p = true ∧ τ = ⟨19, [(0, (AV.sl (.nd [.lf, .ar 32 .lf]) (sigsA (l)) .ro)), (1, .fn 133 [.pt 0 []]), (7, (AV.sc (.int .i64 ((l.length : Int))))), (8, (AV.sc (.int .i64 ((i : Int)))))], ⟨[(.st [(AV.st [.sc (.int .i64 (a).by_), .sc (.int .i64 (a).k), .sc (.int .i64 (a).v), .sc (.int .i64 (a).ph), .ar 32 .lf (by8 (a).h), .sc (.int .i64 (a).pv), .ar 32 .lf (by8 (a).pg), .ar 32 .lf (by8 (a).tag)]), (AV.sl (.nd [.lf, .ar 32 .lf]) (sigsA (l)) .ro)], false)], [], 0⟩⟩, fun τ => l.length - (slotI τ 8).toNat, ?_, ?_⟩
  · conv => whnf
    exact ⟨0, by omega, rfl, rfl⟩
  rintro τ ⟨i, hi, ha, rfl⟩
  conv => whnf
  refine Branch.of (fun h1 => ?_) (fun h1 => ?_) <;> rw [h1] <;> conv => whnf
  · simp only [decide_eq_true_eq] at h1
    have il : i < l.length := by omega
    repeat (refine And.intro (by first | omega) ?_; conv => whnf)
    refine ⟨_, atS il, ?_⟩
    conv => whnf
    refine (cw l[i] (List.getElem_mem il)).mono fun r st e => ?_
    obtain ⟨rfl, rfl⟩ := e
    conv => whnf
    cases hp : p l[i] with
    | true =>
      conv => whnf
      rw [w64 (x := (i : Int) + 1) (by omega) (by omega)]
      refine ⟨⟨i + 1, by omega, ?_, rfl⟩, ?_⟩
      · rw [List.take_succ_eq_append_getElem il, List.all_append, ha]
        simp [hp]
      · show l.length - ((i : Int) + 1).toNat < l.length - (i : Int).toNat
        omega
    | false =>
      conv => whnf
      refine ⟨false, [], ?_⟩
      conv => whnf
      refine ⟨⟨_, rfl, ?_⟩, rfl⟩
      have : l.all p = false := by
        rw [List.all_eq_false]
        exact ⟨l[i], List.getElem_mem il, by simp [hp]⟩
      rw [this]
      simp
  · simp only [decide_eq_false_iff_not] at h1
    rw [List.take_of_length_le (by omega)] at ha
    refine ⟨false, [], ?_⟩
    conv => whnf
    refine ⟨⟨_, rfl, ?_⟩, rfl⟩
    rw [ha]
    rfl
theorem c_containsS (a : At) (l : List Sg) (p : Sg → Bool)
    (ci : FnOK Tryd.prog D 165 [(AV.sl (.nd [.lf, .ar 32 .lf]) (sigsA (l)) .ro), .fn 133 [.pt 0 []]] [.st [(AV.st [.sc (.int .i64 (a).by_), .sc (.int .i64 (a).k), .sc (.int .i64 (a).v), .sc (.int .i64 (a).ph), .ar 32 .lf (by8 (a).h), .sc (.int .i64 (a).pv), .ar 32 .lf (by8 (a).pg), .ar 32 .lf (by8 (a).tag)]), (AV.sl (.nd [.lf, .ar 32 .lf]) (sigsA (l)) .ro)]] (fun r st => (∃ k : Int, r = (AV.sc (.int .i64 (k))) ∧ decide (k ≥ 0) = !(l.all p)) ∧ st = [.st [(AV.st [.sc (.int .i64 (a).by_), .sc (.int .i64 (a).k), .sc (.int .i64 (a).v), .sc (.int .i64 (a).ph), .ar 32 .lf (by8 (a).h), .sc (.int .i64 (a).pv), .ar 32 .lf (by8 (a).pg), .ar 32 .lf (by8 (a).tag)]), (AV.sl (.nd [.lf, .ar 32 .lf]) (sigsA (l)) .ro)]])) :
    FnOK Tryd.prog D 132 [(AV.sl (.nd [.lf, .ar 32 .lf]) (sigsA (l)) .ro), .fn 133 [.pt 0 []]] [.st [(AV.st [.sc (.int .i64 (a).by_), .sc (.int .i64 (a).k), .sc (.int .i64 (a).v), .sc (.int .i64 (a).ph), .ar 32 .lf (by8 (a).h), .sc (.int .i64 (a).pv), .ar 32 .lf (by8 (a).pg), .ar 32 .lf (by8 (a).tag)]), (AV.sl (.nd [.lf, .ar 32 .lf]) (sigsA (l)) .ro)]] (fun r st => r = (AV.sc (.bool (!(l.all p)))) ∧ st = [.st [(AV.st [.sc (.int .i64 (a).by_), .sc (.int .i64 (a).k), .sc (.int .i64 (a).v), .sc (.int .i64 (a).ph), .ar 32 .lf (by8 (a).h), .sc (.int .i64 (a).pv), .ar 32 .lf (by8 (a).pg), .ar 32 .lf (by8 (a).tag)]), (AV.sl (.nd [.lf, .ar 32 .lf]) (sigsA (l)) .ro)]]) := by
  refine fnok_of_W hmix tabOK Tryd.func132 rfl rfl (Nat.le_of_ble_eq_true rfl) ?_
  conv => whnf
  refine ci.mono fun r st e => ?_
  obtain ⟨⟨k, rfl, hk⟩, rfl⟩ := e
  conv => whnf
  refine ⟨false, [], ?_⟩
  conv => whnf
  rw [hk]
  exact ⟨rfl, rfl⟩
def bareA (a : At) : Bool := decide (a.by_ = 0) && (a.tag == z32)
def rightC (n : Int) (a : At) (l : List Sg) : Bool := decide (quo n ≠ 0 ∧ (l.length : Int) = quo n) && rises 0 n l && bareA a && l.all fun s => rightA (withA a s)
theorem c_cright_aux (n q : Int) (a : At) (l : List Sg) (p : Sg → Bool) (ri : Bool) (ht : a.tag.length = 32)
    (cq : FnOK Tryd.prog D 91 [(AV.sc (.int .i64 (n)))] [] (fun r st => r = (AV.sc (.int .i64 (q))) ∧ st = []))
    (cr : FnOK Tryd.prog D 131 [(AV.sl (.nd [.lf, .ar 32 .lf]) (sigsA (l)) .ro), (AV.sc (.int .i64 (n)))] [] (fun r st => r = (AV.sc (.bool (ri))) ∧ st = []))
    (cc : FnOK Tryd.prog D 132 [(AV.sl (.nd [.lf, .ar 32 .lf]) (sigsA (l)) .ro), .fn 133 [.pt 0 []]] [.st [(AV.st [.sc (.int .i64 (a).by_), .sc (.int .i64 (a).k), .sc (.int .i64 (a).v), .sc (.int .i64 (a).ph), .ar 32 .lf (by8 (a).h), .sc (.int .i64 (a).pv), .ar 32 .lf (by8 (a).pg), .ar 32 .lf (by8 (a).tag)]), (AV.sl (.nd [.lf, .ar 32 .lf]) (sigsA (l)) .ro)]] (fun r st => r = (AV.sc (.bool (!(l.all p)))) ∧ st = [.st [(AV.st [.sc (.int .i64 (a).by_), .sc (.int .i64 (a).k), .sc (.int .i64 (a).v), .sc (.int .i64 (a).ph), .ar 32 .lf (by8 (a).h), .sc (.int .i64 (a).pv), .ar 32 .lf (by8 (a).pg), .ar 32 .lf (by8 (a).tag)]), (AV.sl (.nd [.lf, .ar 32 .lf]) (sigsA (l)) .ro)]])) :
    FnOK Tryd.prog D 89 [(AV.sc (.int .i64 (n))), .st [(AV.st [.sc (.int .i64 (a).by_), .sc (.int .i64 (a).k), .sc (.int .i64 (a).v), .sc (.int .i64 (a).ph), .ar 32 .lf (by8 (a).h), .sc (.int .i64 (a).pv), .ar 32 .lf (by8 (a).pg), .ar 32 .lf (by8 (a).tag)]), (AV.sl (.nd [.lf, .ar 32 .lf]) (sigsA (l)) .ro)]] [] (fun r st => r = (AV.sc (.bool (decide (q ≠ 0 ∧ (l.length : Int) = q) && ri && bareA a && l.all p))) ∧ st = []) := by
  have hll := lenS l
  refine fnok_of_W hmix tabOK Tryd.func89 rfl rfl (Nat.le_of_ble_eq_true rfl) ?_
  conv => whnf
  refine (cq).mono fun r st e => ?_
  obtain ⟨rfl, rfl⟩ := e
  conv => whnf
  unfold bareA
  repeat' (first
    | (refine (cr).mono fun r st e => ?_
       obtain ⟨rfl, rfl⟩ := e
       conv => whnf)
    | (refine (cc).mono fun r st e => ?_
       obtain ⟨rfl, rfl⟩ := e
       conv => whnf)
    | (refine ⟨a.tag, z32, rfl, rfl, ?_⟩
       conv => whnf)
    | (refine And.intro (by omega) ?_
       conv => whnf)
    | (refine Branch.of (fun h => ?_) (fun h => ?_) <;> (rw [h]; conv => whnf)))
  all_goals refine ⟨false, [], ?_⟩
  all_goals conv => whnf
  all_goals refine ⟨?_, rfl⟩
  all_goals congr 2
  all_goals (try simp_all)
  all_goals first | done | omega | (intros; omega) | (rw [Bool.eq_iff_iff]; simp only [Bool.and_eq_true, Bool.or_eq_true, Bool.not_eq_true', decide_eq_true_eq, decide_eq_false_iff_not, beq_iff_eq]; omega)
theorem c_cright (n : Int) (a : At) (l : List Sg) (hl : l.length < 4294967296) (hw : a.wf) (hs : sigOK l) : FnOK Tryd.prog D 89 [(AV.sc (.int .i64 (n))), .st [(AV.st [.sc (.int .i64 (a).by_), .sc (.int .i64 (a).k), .sc (.int .i64 (a).v), .sc (.int .i64 (a).ph), .ar 32 .lf (by8 (a).h), .sc (.int .i64 (a).pv), .ar 32 .lf (by8 (a).pg), .ar 32 .lf (by8 (a).tag)]), (AV.sl (.nd [.lf, .ar 32 .lf]) (sigsA (l)) .ro)]] [] (fun r st => r = (AV.sc (.bool (rightC n a l))) ∧ st = []) := by
  refine c_cright_aux n (quo n) a l (fun s => rightA (withA a s)) _ hw.2.2 (c_quorum n) (c_rises l n hl) (c_containsS a l _ (c_indexS a l _ hl fun s hm => ?_))
  exact c_wrong_aux a l s _ (c_aright (withA a s) ⟨hw.1, hw.2.1, hs s hm⟩)
end Go.WL.T7
