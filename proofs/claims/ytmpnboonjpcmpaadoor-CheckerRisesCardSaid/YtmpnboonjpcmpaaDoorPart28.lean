/- Accumulations: whether one is right. No condition. -/
import Derived.Test.YtmpnboonjpcmpaaDoorPart27
set_option linter.unusedVariables false
set_option linter.unusedSimpArgs false
namespace Go.WL.T7
open Go.WL Go.Proofs
set_option maxRecDepth 20000
set_option maxHeartbeats 8000000
theorem mayAc_facts {a : Ac} (h : mayAc a = true) : isNode a.by_ = true ∧ (1 ≤ a.v ∧ a.v ≤ 1099511627776) ∧ (0 ≤ a.pv ∧ a.pv < a.v) ∧ 1 ≤ a.fr.length ∧ a.fr.length ≤ 21 ∧ ∀ n ∈ a.fr, 0 < n ∧ n ≤ 21 := by
  unfold mayAc at h
  rw [restA_eq] at h
  simp only [Bool.and_eq_true, decide_eq_true_eq] at h
  obtain ⟨h0, ⟨⟨h1, h2⟩, h3⟩, h4⟩ := h
  have := risesI_len a.fr 0 h0 (by omega)
  exact ⟨h1, h2, h3, h4, by omega, risesI_mem a.fr 0 h0 (by omega)⟩
def accOf (a : Ac) : List UInt8 := accB a.v.toNat a.pv.toNat a.pg a.fr
theorem accOf_len {a : Ac} (hw : a.wf) (hm : mayAc a = true) : (accOf a).length ≤ 200 := by
  obtain ⟨h1, h2, h3, h4, h5, h6⟩ := mayAc_facts hm
  have l1 := len6 a.v.toNat (by omega)
  have l2 := len6 a.pv.toNat (by omega)
  have l3 := len6 a.fr.length (by omega)
  have l4 := frB_len a.fr h6
  unfold accOf accB
  simp only [List.length_append, hw.1]
  omega
theorem c_actaggedA (a : Ac) (hw : a.wf) (hm : mayAc a = true) : FnOK Tryd.prog D 174 [.sl .lf [] .ex, (AV.st [.sc (.int .i64 (a).by_), .sc (.int .i64 (a).v), .sc (.int .i64 (a).pv), .ar 32 .lf (by8 (a).pg), .sl .lf (ints .i64 (a).fr) .ro, .ar 32 .lf (by8 (a).tag)])] [] (fun r st => r = (AV.sl .lf (by8 (accOf a)) (.own 0)) ∧ st = []) := by
  obtain ⟨h1, h2, h3, h4, h5, h6⟩ := mayAc_facts hm
  obtain ⟨y, v, pv, pg, fr, tag⟩ := a
  simp only at h1 h2 h3 h4 h5 h6
  obtain ⟨v, rfl⟩ := Int.eq_ofNat_of_zero_le (show 0 ≤ v by omega)
  obtain ⟨pv, rfl⟩ := Int.eq_ofNat_of_zero_le (show 0 ≤ pv by omega)
  exact c_actagged y v pv pg tag fr (by omega) (by omega) hw.1 h5 h6
def lastI (l : List Int) : Int := match l.getLast? with
  | some n => n
  | none => 0
theorem lastI_at {l : List Int} (h : 0 < l.length) : (ints .i64 l)[((l.length : Int) - 1).toNat]? = some (AV.sc (.int .i64 (lastI l))) := by
  have h1 : l.length - 1 < l.length := by omega
  have := atI h1
  rw [show (((l.length - 1 : Nat) : Int)) = (l.length : Int) - 1 by omega] at this
  rw [this]
  unfold lastI
  rw [List.getLast?_eq_getElem?, List.getElem?_eq_getElem h1]
theorem lastI_q {l : List Int} {q : Int} (h : (l.length : Int) = q) (h0 : 0 < q) : (ints .i64 l)[(q - 1).toNat]? = some (AV.sc (.int .i64 (lastI l))) := by
  subst h
  exact lastI_at (by omega)
def rightAc (n : Int) (a : Ac) : Bool := decide (0 < quo n) && mayAc a && decide (a.by_ ≤ n) && decide ((a.fr.length : Int) = quo n) && decide (lastI a.fr ≤ n) && (a.tag == tagB a.by_ 2 (accOf a))
theorem c_acright_aux (n q : Int) (a : Ac) (m b R : Bool) (hR : R = (decide (0 < q) && m && decide (a.by_ ≤ n) && decide ((a.fr.length : Int) = q) && decide (lastI a.fr ≤ n) && b)) (T : List UInt8) (hl : a.fr.length < 4294967296) (hm1 : m = true → 1 ≤ a.fr.length)
    (cq : FnOK Tryd.prog D 91 [(AV.sc (.int .i64 (n)))] [] (fun r st => r = (AV.sc (.int .i64 (q))) ∧ st = []))
    (cm : FnOK Tryd.prog D 173 [(AV.st [.sc (.int .i64 (a).by_), .sc (.int .i64 (a).v), .sc (.int .i64 (a).pv), .ar 32 .lf (by8 (a).pg), .sl .lf (ints .i64 (a).fr) .ro, .ar 32 .lf (by8 (a).tag)])] [] (fun r st => r = (AV.sc (.bool (m))) ∧ st = []))
    (ct : m = true → FnOK Tryd.prog D 174 [.sl .lf [] .ex, (AV.st [.sc (.int .i64 (a).by_), .sc (.int .i64 (a).v), .sc (.int .i64 (a).pv), .ar 32 .lf (by8 (a).pg), .sl .lf (ints .i64 (a).fr) .ro, .ar 32 .lf (by8 (a).tag)])] [] (fun r st => r = (AV.sl .lf (by8 (T)) (.own 0)) ∧ st = []))
    (cc : m = true → FnOK Tryd.prog D 167 [(AV.sc (.int .i64 (a.by_))), (AV.sc (.int .u8 (2))), .ar 32 .lf (by8 a.tag), .sl .lf [(AV.sl .lf (by8 (T)) .ro)] .ex] [] (fun r st => r = (AV.sc (.bool (b))) ∧ st = [])) :
    FnOK Tryd.prog D 145 [(AV.sc (.int .i64 (n))), (AV.st [.sc (.int .i64 (a).by_), .sc (.int .i64 (a).v), .sc (.int .i64 (a).pv), .ar 32 .lf (by8 (a).pg), .sl .lf (ints .i64 (a).fr) .ro, .ar 32 .lf (by8 (a).tag)])] [] (fun r st => r = (AV.sc (.bool (R))) ∧ st = []) := by
  have hll := lenI a.fr
  refine fnok_of_W hmix tabOK Tryd.func145 rfl rfl (Nat.le_of_ble_eq_true rfl) ?_
  conv => whnf
  refine (cq).mono fun r st e => ?_
  obtain ⟨rfl, rfl⟩ := e
  conv => whnf
  refine ⟨tabF145R2, by decide +kernel, ?_⟩
  conv => whnf
  refine Branch.of (fun h1 => ?_) (fun h1 => ?_) <;> rw [h1] <;> conv => whnf
  rotate_left
  · refine ⟨false, [], ?_⟩
    conv => whnf
    refine ⟨?_, rfl⟩
    rw [hR, show decide (0 < q) = false from h1]
    rfl
  have h1' : 0 < q := by simpa using h1
  refine ⟨_, _, cm, ?_⟩
  conv => whnf
  cases m with
  | false =>
    conv => whnf
    refine ⟨false, [], ?_⟩
    conv => whnf
    refine ⟨?_, rfl⟩
    rw [hR]
    simp
  | true =>
    have hm1 := hm1 rfl
    have ct := ct rfl
    have cc := cc rfl
    conv => whnf
    refine Branch.of (fun h2 => ?_) (fun h2 => ?_) <;> rw [h2] <;> conv => whnf
    rotate_left
    · refine ⟨false, [], ?_⟩
      conv => whnf
      refine ⟨?_, rfl⟩
      rw [hR, h2]
      simp
    rw [hll]
    by_cases h3 : (a.fr.length : Int) = q
    rotate_left
    · rw [beq_eq_false_iff_ne.2 h3]
      conv => whnf
      refine ⟨false, [], ?_⟩
      conv => whnf
      refine ⟨?_, rfl⟩
      rw [hR, decide_eq_false h3]
      simp
    rw [beq_iff_eq.2 h3]
    conv => whnf
    rw [w64 (x := q - 1) (by omega) (by omega)]
    have hat := lastI_q h3 h1'
    repeat (refine And.intro (by first | omega) ?_; conv => whnf)
    refine ⟨_, hat, ?_⟩
    conv => whnf
    refine Branch.of (fun h4 => ?_) (fun h4 => ?_) <;> rw [h4] <;> conv => whnf
    rotate_left
    · refine ⟨false, [], ?_⟩
      conv => whnf
      refine ⟨?_, rfl⟩
      rw [hR, h4]
      simp
    refine ⟨_, _, ct, ?_⟩
    conv => whnf
    refine ⟨_, _, cc, ?_⟩
    conv => whnf
    refine ⟨false, [], ?_⟩
    conv => whnf
    refine ⟨?_, rfl⟩
    rw [hR, show decide (0 < q) = true from h1, h2, h4, decide_eq_true h3]
    rfl
theorem c_acright (n : Int) (a : Ac) (hl : a.fr.length < 4294967296) (hw : a.wf) : FnOK Tryd.prog D 145 [(AV.sc (.int .i64 (n))), (AV.st [.sc (.int .i64 (a).by_), .sc (.int .i64 (a).v), .sc (.int .i64 (a).pv), .ar 32 .lf (by8 (a).pg), .sl .lf (ints .i64 (a).fr) .ro, .ar 32 .lf (by8 (a).tag)])] [] (fun r st => r = (AV.sc (.bool (rightAc n a))) ∧ st = []) := by
  unfold rightAc
  refine c_acright_aux n (quo n) a (mayAc a) _ _ rfl (accOf a) hl (fun hm => (mayAc_facts hm).2.2.2.1) (c_quorum n) (c_acmay a hl) (fun hm => c_actaggedA a hw hm) (fun hm => ?_)
  obtain ⟨h1, _⟩ := mayAc_facts hm
  have := accOf_len hw hm
  exact c_check a.by_ 2 a.tag [accOf a] _ hw.2 (by simp) (by simp; omega) (fun _ => by simp) (fun h => by rw [h1] at h; simp at h) (.inl rfl) (Weaks.refl _)
end Go.WL.T7
