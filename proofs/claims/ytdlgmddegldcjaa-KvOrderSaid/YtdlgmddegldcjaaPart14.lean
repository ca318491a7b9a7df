/- KvOthers, KvOrder. No condition. -/
import Derived.Test.YtdlgmddegldcjaaPart13
import Derived.Test.YtdlgmddegldcjaaWordsD
set_option linter.unusedVariables false
set_option linter.unusedSimpArgs false
namespace Go.WL.T5
open Go.WL Go.Proofs
set_option maxRecDepth 20000
set_option maxHeartbeats 8000000
theorem c_klight0 (k v : List UInt8) : FnOK Try.prog D 41 [.sl (.nd [.lf, .lf]) [] .ex, (AV.sc (.string (strB (k)))), (AV.sc (.string (strB (v))))] [] (fun r st => (r = (AV.sc (.bool (false))) ∨ (r = (AV.sc (.bool (true))) ∧ kLight [] k v)) ∧ st = []) :=
  (c_klight [] k v).weak (.cons (weakPrs []) (Weaks.refl _))
theorem neq_strB (a b : List UInt8) : (!((strB a).toList == (strB b).toList)) = !decide (a = b) := by
  rw [beq_strB]
  congr 1
  rw [Bool.eq_iff_iff]
  simp
theorem c_kvothers_aux (l : List Pr) (p q : Pr) (A B : List Pr × Int) (g W Y : List UInt8 × Bool)
    (cw : FnOK Try.prog D 42 [] [] (fun r st => r = (AV.sc (.bool (true))) ∧ st = []))
    (c1 : kLight l p.key p.val → FnOK Try.prog D 43 [(AV.sl (.nd [.lf, .lf]) (prA (l)) .ro), (AV.sc (.string (strB (p.key)))), (AV.sc (.string (strB (p.val))))] [] (fun r st => r = .tup [(AV.sl (.nd [.lf, .lf]) (prA (A.1)) .ro), (AV.sc (.int .i64 (A.2)))] ∧ st = []))
    (c2 : kLight l p.key p.val → FnOK Try.prog D 45 [(AV.sl (.nd [.lf, .lf]) (prA (l)) .ro), (AV.sc (.string (strB (p.key))))] [] (fun r st => r = .tup [(AV.sl (.nd [.lf, .lf]) (prA (B.1)) .ro), (AV.sc (.int .i64 (B.2)))] ∧ st = []))
    (c3 : kLight l p.key p.val → FnOK Try.prog D 48 [(AV.sl (.nd [.lf, .lf]) (prA (l)) .ro), (AV.sc (.string (strB (q.key))))] [] (fun r st => r = .tup [(AV.sc (.string (strB (g.1)))), (AV.sc (.bool (g.2)))] ∧ st = []))
    (c4 : kLight l p.key p.val → FnOK Try.prog D 48 [(AV.sl (.nd [.lf, .lf]) (prA (A.1)) .ro), (AV.sc (.string (strB (q.key))))] [] (fun r st => r = .tup [(AV.sc (.string (strB (W.1)))), (AV.sc (.bool (W.2)))] ∧ st = []))
    (c5 : kLight l p.key p.val → A.2 = 0 → FnOK Try.prog D 48 [(AV.sl (.nd [.lf, .lf]) (prA (A.1)) .ro), (AV.sc (.string (strB (p.key))))] [] (fun r st => r = .tup [(AV.sc (.string (strB (p.val)))), (AV.sc (.bool (true)))] ∧ st = []))
    (c6 : kLight l p.key p.val → FnOK Try.prog D 48 [(AV.sl (.nd [.lf, .lf]) (prA (B.1)) .ro), (AV.sc (.string (strB (q.key))))] [] (fun r st => r = .tup [(AV.sc (.string (strB (Y.1)))), (AV.sc (.bool (Y.2)))] ∧ st = []))
    (c7 : kLight l p.key p.val → B.2 = 0 → FnOK Try.prog D 48 [(AV.sl (.nd [.lf, .lf]) (prA (B.1)) .ro), (AV.sc (.string (strB (p.key))))] [] (fun r st => r = .tup [(AV.sc (.string (strB ([])))), (AV.sc (.bool (false)))] ∧ st = []))
    (hW : A.2 = 0 → p.key ≠ q.key → W = g) (hY : B.2 = 0 → p.key ≠ q.key → Y = g) :
    FnOK Try.prog D 11 [(AV.sl (.nd [.lf, .lf]) (prA (l)) .ro), .ar 2 (.nd [.lf, .lf]) [(AV.st [.sc (.string (strB (p).key)), .sc (.string (strB (p).val))]), (AV.st [.sc (.string (strB (q).key)), .sc (.string (strB (q).val))])]] [] (fun r _ => r = (AV.sc (.bool (true)))) := by
  refine fnok_of_W hmix tabOK Try.func11 rfl rfl (Nat.le_of_ble_eq_true rfl) ?_
  conv => whnf
  repeat (first | (refine And.intro (by omega) ?_; conv => whnf) | (refine ⟨_, rfl, ?_⟩; conv => whnf))
  refine (c_klight l p.key p.val).mono fun r st e => ?_
  obtain ⟨rfl | ⟨rfl, hlight⟩, rfl⟩ := e
  · conv => whnf
    refine (cw).mono fun r st e => ?_
    obtain ⟨rfl, rfl⟩ := e
    conv => whnf
    refine ⟨false, [], ?_⟩
    conv => whnf
  have c1 := c1 hlight
  have c2 := c2 hlight
  have c3 := c3 hlight
  have c4 := c4 hlight
  have c5 := c5 hlight
  have c6 := c6 hlight
  have c7 := c7 hlight
  clear hlight
  conv => whnf
  repeat (first | (refine And.intro (by omega) ?_; conv => whnf) | (refine ⟨_, rfl, ?_⟩; conv => whnf))
  refine (c_klight0 q.key []).mono fun r st e => ?_
  obtain ⟨rfl | ⟨rfl, _⟩, rfl⟩ := e
  · conv => whnf
    refine (cw).mono fun r st e => ?_
    obtain ⟨rfl, rfl⟩ := e
    conv => whnf
    refine ⟨false, [], ?_⟩
    conv => whnf
  conv => whnf
  repeat (first | (refine And.intro (by omega) ?_; conv => whnf) | (refine ⟨_, rfl, ?_⟩; conv => whnf))
  refine (c1).mono fun r st e => ?_
  obtain ⟨rfl, rfl⟩ := e
  conv => whnf
  repeat (first | (refine And.intro (by omega) ?_; conv => whnf) | (refine ⟨_, rfl, ?_⟩; conv => whnf))
  refine (c2).mono fun r st e => ?_
  obtain ⟨rfl, rfl⟩ := e
  conv => whnf
  repeat (first | (refine And.intro (by omega) ?_; conv => whnf) | (refine ⟨_, rfl, ?_⟩; conv => whnf))
  refine (c3).mono fun r st e => ?_
  obtain ⟨rfl, rfl⟩ := e
  conv => whnf
  cases hA : (A.2 == 0)
  · conv => whnf
    clear hW c4 c5
    cases hB : (B.2 == 0)
    · conv => whnf
      refine (cw).mono fun r st e => ?_
      obtain ⟨rfl, rfl⟩ := e
      conv => whnf
      refine ⟨false, [], ?_⟩
      conv => whnf
    · have hB0 : B.2 = 0 := by simpa using hB
      have c7 := c7 hB0
      have hY := hY hB0
      conv => whnf
      repeat (first | (refine And.intro (by omega) ?_; conv => whnf) | (refine ⟨_, rfl, ?_⟩; conv => whnf))
      refine (c6).mono fun r st e => ?_
      obtain ⟨rfl, rfl⟩ := e
      conv => whnf
      repeat (first | (refine And.intro (by omega) ?_; conv => whnf) | (refine ⟨_, rfl, ?_⟩; conv => whnf))
      refine (c7).mono fun r st e => ?_
      obtain ⟨rfl, rfl⟩ := e
      conv => whnf
      repeat (first | (refine And.intro (by omega) ?_; conv => whnf) | (refine ⟨_, rfl, ?_⟩; conv => whnf))
      rw [neq_strB]
      by_cases hm : p.key = q.key
      · rw [decide_eq_true hm]
        conv => whnf
        refine (cw).mono fun r st e => ?_
        obtain ⟨rfl, rfl⟩ := e
        conv => whnf
        refine ⟨false, [], ?_⟩
        conv => whnf
      · rw [decide_eq_false hm]
        have e2 := hY hm
        rw [e2]
        conv => whnf
        rw [show (!((strB g.1).toList == (strB g.1).toList)) = false by simp]
        conv => whnf
        rw [show (!(g.2 == g.2)) = false by simp]
        conv => whnf
        refine (cw).mono fun r st e => ?_
        obtain ⟨rfl, rfl⟩ := e
        conv => whnf
        refine ⟨false, [], ?_⟩
        conv => whnf
  · have hA0 : A.2 = 0 := by simpa using hA
    have c5 := c5 hA0
    have hW := hW hA0
    conv => whnf
    repeat (first | (refine And.intro (by omega) ?_; conv => whnf) | (refine ⟨_, rfl, ?_⟩; conv => whnf))
    refine (c4).mono fun r st e => ?_
    obtain ⟨rfl, rfl⟩ := e
    conv => whnf
    repeat (first | (refine And.intro (by omega) ?_; conv => whnf) | (refine ⟨_, rfl, ?_⟩; conv => whnf))
    refine (c5).mono fun r st e => ?_
    obtain ⟨rfl, rfl⟩ := e
    conv => whnf
    repeat (first | (refine And.intro (by omega) ?_; conv => whnf) | (refine ⟨_, rfl, ?_⟩; conv => whnf))
    rw [show (!((strB p.val).toList == (strB p.val).toList)) = false by simp]
    conv => whnf
    repeat (first | (refine And.intro (by omega) ?_; conv => whnf) | (refine ⟨_, rfl, ?_⟩; conv => whnf))
    rw [neq_strB]
    by_cases hn : p.key = q.key
    · rw [decide_eq_true hn]
      conv => whnf
      cases hB : (B.2 == 0)
      · conv => whnf
        refine (cw).mono fun r st e => ?_
        obtain ⟨rfl, rfl⟩ := e
        conv => whnf
        refine ⟨false, [], ?_⟩
        conv => whnf
      · have hB0 : B.2 = 0 := by simpa using hB
        have c7 := c7 hB0
        have hY := hY hB0
        conv => whnf
        repeat (first | (refine And.intro (by omega) ?_; conv => whnf) | (refine ⟨_, rfl, ?_⟩; conv => whnf))
        refine (c6).mono fun r st e => ?_
        obtain ⟨rfl, rfl⟩ := e
        conv => whnf
        repeat (first | (refine And.intro (by omega) ?_; conv => whnf) | (refine ⟨_, rfl, ?_⟩; conv => whnf))
        refine (c7).mono fun r st e => ?_
        obtain ⟨rfl, rfl⟩ := e
        conv => whnf
        repeat (first | (refine And.intro (by omega) ?_; conv => whnf) | (refine ⟨_, rfl, ?_⟩; conv => whnf))
        rw [neq_strB]
        by_cases hm : p.key = q.key
        · rw [decide_eq_true hm]
          conv => whnf
          refine (cw).mono fun r st e => ?_
          obtain ⟨rfl, rfl⟩ := e
          conv => whnf
          refine ⟨false, [], ?_⟩
          conv => whnf
        · rw [decide_eq_false hm]
          have e2 := hY hm
          rw [e2]
          conv => whnf
          rw [show (!((strB g.1).toList == (strB g.1).toList)) = false by simp]
          conv => whnf
          rw [show (!(g.2 == g.2)) = false by simp]
          conv => whnf
          refine (cw).mono fun r st e => ?_
          obtain ⟨rfl, rfl⟩ := e
          conv => whnf
          refine ⟨false, [], ?_⟩
          conv => whnf
    · rw [decide_eq_false hn]
      have e := hW hn
      rw [e]
      conv => whnf
      rw [show (!((strB g.1).toList == (strB g.1).toList)) = false by simp]
      conv => whnf
      rw [show (!(g.2 == g.2)) = false by simp]
      conv => whnf
      cases hB : (B.2 == 0)
      · conv => whnf
        refine (cw).mono fun r st e => ?_
        obtain ⟨rfl, rfl⟩ := e
        conv => whnf
        refine ⟨false, [], ?_⟩
        conv => whnf
      · have hB0 : B.2 = 0 := by simpa using hB
        have c7 := c7 hB0
        have hY := hY hB0
        conv => whnf
        repeat (first | (refine And.intro (by omega) ?_; conv => whnf) | (refine ⟨_, rfl, ?_⟩; conv => whnf))
        refine (c6).mono fun r st e => ?_
        obtain ⟨rfl, rfl⟩ := e
        conv => whnf
        repeat (first | (refine And.intro (by omega) ?_; conv => whnf) | (refine ⟨_, rfl, ?_⟩; conv => whnf))
        refine (c7).mono fun r st e => ?_
        obtain ⟨rfl, rfl⟩ := e
        conv => whnf
        repeat (first | (refine And.intro (by omega) ?_; conv => whnf) | (refine ⟨_, rfl, ?_⟩; conv => whnf))
        rw [neq_strB]
        by_cases hm : p.key = q.key
        · rw [decide_eq_true hm]
          conv => whnf
          refine (cw).mono fun r st e => ?_
          obtain ⟨rfl, rfl⟩ := e
          conv => whnf
          refine ⟨false, [], ?_⟩
          conv => whnf
        · rw [decide_eq_false hm]
          have e2 := hY hm
          rw [e2]
          conv => whnf
          rw [show (!((strB g.1).toList == (strB g.1).toList)) = false by simp]
          conv => whnf
          rw [show (!(g.2 == g.2)) = false by simp]
          conv => whnf
          refine (cw).mono fun r st e => ?_
          obtain ⟨rfl, rfl⟩ := e
          conv => whnf
          refine ⟨false, [], ?_⟩
          conv => whnf
theorem c_kvothers (l : List Pr) (p q : Pr) : FnOK Try.prog D 11 [(AV.sl (.nd [.lf, .lf]) (prA (l)) .ro), .ar 2 (.nd [.lf, .lf]) [(AV.st [.sc (.string (strB (p).key)), .sc (.string (strB (p).val))]), (AV.st [.sc (.string (strB (q).key)), .sc (.string (strB (q).val))])]] [] (fun r _ => r = (AV.sc (.bool (true)))) := by
  have hp := kput_len l p.key p.val
  have hd := kdrop_len l p.key
  refine c_kvothers_aux l p q (kvPut l p.key p.val) (kvDrop l p.key) (kvGet l q.key) (kvGet (kvPut l p.key p.val).1 q.key) (kvGet (kvDrop l p.key).1 q.key) c_awake23 (fun h => c_kput l _ _ (by have := h.1; omega)) (fun h => c_kdrop l _ (by have := h.1; omega)) (fun h => c_kget l _ (by have := h.1; omega))
    (fun h => c_kget _ _ (by have := h.1; omega)) (fun h he => ?_) (fun h => c_kget _ _ (by have := h.1; omega)) (fun h he => ?_) (fun he hn => by rw [get_kput he, if_neg hn]) (fun he hn => by rw [get_kdrop he, if_neg hn])
  · have := c_kget (kvPut l p.key p.val).1 p.key (by have := h.1; omega)
    rwa [get_kput he, if_pos rfl] at this
  · have := c_kget (kvDrop l p.key).1 p.key (by have := h.1; omega)
    rwa [get_kdrop he, if_pos rfl] at this
theorem c_kvorder_aux (l : List Pr) (p q : Pr) (A B C : List Pr × Int)
    (cw : FnOK Try.prog D 42 [] [] (fun r st => r = (AV.sc (.bool (true))) ∧ st = []))
    (c1 : kLight l p.key p.val → FnOK Try.prog D 43 [(AV.sl (.nd [.lf, .lf]) (prA (l)) .ro), (AV.sc (.string (strB (p.key)))), (AV.sc (.string (strB (p.val))))] [] (fun r st => r = .tup [(AV.sl (.nd [.lf, .lf]) (prA (A.1)) .ro), (AV.sc (.int .i64 (A.2)))] ∧ st = []))
    (c2 : kLight l p.key p.val → FnOK Try.prog D 43 [(AV.sl (.nd [.lf, .lf]) (prA (l)) .ro), (AV.sc (.string (strB (q.key)))), (AV.sc (.string (strB (q.val))))] [] (fun r st => r = .tup [(AV.sl (.nd [.lf, .lf]) (prA (B.1)) .ro), (AV.sc (.int .i64 (B.2)))] ∧ st = []))
    (c3 : kLight l p.key p.val → p.key ≠ q.key → A.2 = 0 → B.2 = 0 → FnOK Try.prog D 43 [(AV.sl (.nd [.lf, .lf]) (prA (A.1)) .ro), (AV.sc (.string (strB (q.key)))), (AV.sc (.string (strB (q.val))))] [] (fun r st => r = .tup [(AV.sl (.nd [.lf, .lf]) (prA (C.1)) .ro), (AV.sc (.int .i64 (C.2)))] ∧ st = []))
    (c4 : kLight l p.key p.val → p.key ≠ q.key → A.2 = 0 → B.2 = 0 → FnOK Try.prog D 43 [(AV.sl (.nd [.lf, .lf]) (prA (B.1)) .ro), (AV.sc (.string (strB (p.key)))), (AV.sc (.string (strB (p.val))))] [] (fun r st => r = .tup [(AV.sl (.nd [.lf, .lf]) (prA (C.1)) .ro), (AV.sc (.int .i64 (C.2)))] ∧ st = []))
    (c5 : kLight l p.key p.val → FnOK Try.prog D 44 [(AV.sl (.nd [.lf, .lf]) (prA (C.1)) .ro), (AV.sl (.nd [.lf, .lf]) (prA (C.1)) .ro)] [] (fun r st => r = (AV.sc (.bool (true))) ∧ st = []))
    (hC : p.key ≠ q.key → A.2 = 0 → B.2 = 0 → C.2 = 0 ∨ l.length = 99) :
    FnOK Try.prog D 9 [(AV.sl (.nd [.lf, .lf]) (prA (l)) .ro), .ar 2 (.nd [.lf, .lf]) [(AV.st [.sc (.string (strB (p).key)), .sc (.string (strB (p).val))]), (AV.st [.sc (.string (strB (q).key)), .sc (.string (strB (q).val))])]] [] (fun r _ => r = (AV.sc (.bool (true)))) := by
  refine fnok_of_W hmix tabOK Try.func9 rfl rfl (Nat.le_of_ble_eq_true rfl) ?_
  conv => whnf
  repeat (first | (refine And.intro (by omega) ?_; conv => whnf) | (refine ⟨_, rfl, ?_⟩; conv => whnf))
  refine (c_klight l p.key p.val).mono fun r st e => ?_
  obtain ⟨rfl | ⟨rfl, hlight⟩, rfl⟩ := e
  · conv => whnf
    refine (cw).mono fun r st e => ?_
    obtain ⟨rfl, rfl⟩ := e
    conv => whnf
    refine ⟨false, [], ?_⟩
    conv => whnf
  have c1 := c1 hlight
  have c2 := c2 hlight
  have c3 := c3 hlight
  have c4 := c4 hlight
  have c5 := c5 hlight
  clear hlight
  conv => whnf
  repeat (first | (refine And.intro (by omega) ?_; conv => whnf) | (refine ⟨_, rfl, ?_⟩; conv => whnf))
  refine (c_klight0 q.key q.val).mono fun r st e => ?_
  obtain ⟨rfl | ⟨rfl, _⟩, rfl⟩ := e
  · conv => whnf
    refine (cw).mono fun r st e => ?_
    obtain ⟨rfl, rfl⟩ := e
    conv => whnf
    refine ⟨false, [], ?_⟩
    conv => whnf
  conv => whnf
  repeat (first | (refine And.intro (by omega) ?_; conv => whnf) | (refine ⟨_, rfl, ?_⟩; conv => whnf))
  rw [beq_strB]
  cases hn : (p.key == q.key)
  rotate_left
  · conv => whnf
    refine (cw).mono fun r st e => ?_
    obtain ⟨rfl, rfl⟩ := e
    conv => whnf
    refine ⟨false, [], ?_⟩
    conv => whnf
  have hn : p.key ≠ q.key := by simpa using hn
  have c3 := c3 hn
  have c4 := c4 hn
  have hC := hC hn
  conv => whnf
  repeat (first | (refine And.intro (by omega) ?_; conv => whnf) | (refine ⟨_, rfl, ?_⟩; conv => whnf))
  refine (c1).mono fun r st e => ?_
  obtain ⟨rfl, rfl⟩ := e
  conv => whnf
  repeat (first | (refine And.intro (by omega) ?_; conv => whnf) | (refine ⟨_, rfl, ?_⟩; conv => whnf))
  refine (c2).mono fun r st e => ?_
  obtain ⟨rfl, rfl⟩ := e
  conv => whnf
  cases hA : (A.2 != 0)
  rotate_left
  · conv => whnf
    refine (cw).mono fun r st e => ?_
    obtain ⟨rfl, rfl⟩ := e
    conv => whnf
    refine ⟨false, [], ?_⟩
    conv => whnf
  have hA : A.2 = 0 := by simpa using hA
  conv => whnf
  cases hB : (B.2 != 0)
  rotate_left
  · conv => whnf
    refine (cw).mono fun r st e => ?_
    obtain ⟨rfl, rfl⟩ := e
    conv => whnf
    refine ⟨false, [], ?_⟩
    conv => whnf
  have hB : B.2 = 0 := by simpa using hB
  have c3 := c3 hA hB
  have c4 := c4 hA hB
  have hC := hC hA hB
  conv => whnf
  repeat (first | (refine And.intro (by omega) ?_; conv => whnf) | (refine ⟨_, rfl, ?_⟩; conv => whnf))
  refine (c3).mono fun r st e => ?_
  obtain ⟨rfl, rfl⟩ := e
  conv => whnf
  repeat (first | (refine And.intro (by omega) ?_; conv => whnf) | (refine ⟨_, rfl, ?_⟩; conv => whnf))
  refine (c4).mono fun r st e => ?_
  obtain ⟨rfl, rfl⟩ := e
  conv => whnf
  rw [show (C.2 == C.2) = true by simp]
  conv => whnf
  refine (c5).mono fun r st e => ?_
  obtain ⟨rfl, rfl⟩ := e
  conv => whnf
  cases h0 : (C.2 == 0)
  · have h99 : l.length = 99 := hC.resolve_left (by simpa using h0)
    conv => whnf
    rw [lenPr, show ((l.length : Int) == 99) = true by simp; omega]
    conv => whnf
    refine (cw).mono fun r st e => ?_
    obtain ⟨rfl, rfl⟩ := e
    conv => whnf
    refine ⟨false, [], ?_⟩
    conv => whnf
  · conv => whnf
    refine (cw).mono fun r st e => ?_
    obtain ⟨rfl, rfl⟩ := e
    conv => whnf
    refine ⟨false, [], ?_⟩
    conv => whnf
theorem c_kvorder (l : List Pr) (p q : Pr) : FnOK Try.prog D 9 [(AV.sl (.nd [.lf, .lf]) (prA (l)) .ro), .ar 2 (.nd [.lf, .lf]) [(AV.st [.sc (.string (strB (p).key)), .sc (.string (strB (p).val))]), (AV.st [.sc (.string (strB (q).key)), .sc (.string (strB (q).val))])]] [] (fun r _ => r = (AV.sc (.bool (true)))) := by
  have hp := kput_len l p.key p.val
  have hq := kput_len l q.key q.val
  have hr := kput_len (kvPut l p.key p.val).1 q.key q.val
  refine c_kvorder_aux l p q (kvPut l p.key p.val) (kvPut l q.key q.val) (kvPut (kvPut l p.key p.val).1 q.key q.val) c_awake23 (fun h => c_kput l _ _ (by have := h.1; omega)) (fun h => c_kput l _ _ (by have := h.1; omega))
    (fun h _ _ _ => c_kput _ _ _ (by have := h.1; omega)) (fun h hn hA hB => ?_) (fun h => ?_) (fun hn hA hB => (kput_order hn hA hB).2)
  · rw [(kput_order hn hA hB).1]
    exact c_kput _ _ _ (by have := h.1; omega)
  · have := c_ksame (kvPut (kvPut l p.key p.val).1 q.key q.val).1 (kvPut (kvPut l p.key p.val).1 q.key q.val).1 (by have := h.1; omega)
    rwa [decide_eq_true rfl] at this
theorem pr_of {v : AV} (h : OfTy (.st [.str, .str]) v) : ∃ x : Pr, v = (AV.st [.sc (.string (strB (x).key)), .sc (.string (strB (x).val))]) := by
  obtain ⟨_, rfl, y0, _, rfl, ⟨a, rfl, _⟩, y1, _, rfl, ⟨b, rfl, _⟩, rfl⟩ := h
  exact ⟨⟨a.data.toList, b.data.toList⟩, by rw [← strB_of, ← strB_of]⟩
theorem prs_map : ∀ xs : List AV, (∀ x ∈ xs, OfTy (.st [.str, .str]) x) → ∃ l : List Pr, xs = prA l
  | [], _ => ⟨[], rfl⟩
  | x :: xs, h => by
    obtain ⟨l, e⟩ := prs_map xs fun y hy => h y (List.mem_cons_of_mem _ hy)
    obtain ⟨a, e2⟩ := pr_of (h x (by simp))
    exact ⟨a :: l, by rw [e, e2]; rfl⟩
theorem pair_of {v : AV} (h : OfTy (.ar 2 (.nd [.lf, .lf]) (.st [.str, .str])) v) : ∃ p q : Pr, v = .ar 2 (.nd [.lf, .lf]) [(AV.st [.sc (.string (strB (p).key)), .sc (.string (strB (p).val))]), (AV.st [.sc (.string (strB (q).key)), .sc (.string (strB (q).val))])] := by
  obtain ⟨xs, rfl, h1, h2⟩ := h
  obtain ⟨l, rfl⟩ := prs_map xs h2
  rw [lenPr] at h1
  match l, h1 with
  | [p, q], _ => exact ⟨p, q, rfl⟩
end Go.WL.T5
