/- TxPuts. No condition. -/
import Derived.Test.YtcmdkiejkheahaaDoorPart24
set_option linter.unusedVariables false
set_option linter.unusedSimpArgs false
namespace Go.WL.T6d
open Go.WL Go.Proofs
set_option maxRecDepth 20000
set_option maxHeartbeats 8000000
theorem up_num (n : Nat) (rest : List UInt8) (top : Int) (h : (n : Int) ≤ top) (hn : n < 18446744073709551616) : up (num n ++ rest, false) top = (n, (rest, false)) := by
  unfold up rupto
  simp only [rnum_num n rest hn]
  rw [if_neg (by simp; omega)]
theorem tex_text (t rest : List UInt8) (h : t.length ≤ 65536) : tex (num t.length ++ (t ++ rest), false) = (t, (rest, false)) := by
  unfold tex
  simp only [rtext_text t rest h]
theorem may_kinds {t : Tx} (h : mayT t = true) : (t.k = 1 ∧ t.key = [] ∧ t.val = []) ∨ (t.k = 2 ∧ t.to = 0 ∧ t.am = 0) ∨ (t.k = 3 ∧ t.to = 0 ∧ t.am = 0 ∧ t.val = []) := by
  rw [mayT_eq] at h
  simp only [Bool.and_eq_true, decide_eq_true_eq] at h
  obtain ⟨_, h3⟩ := h
  split at h3
  · rename_i e
    simp only [Bool.and_eq_true, decide_eq_true_eq, beq_iff_eq] at h3
    exact .inl ⟨e, h3.1.2, h3.2⟩
  · split at h3
    · rename_i e
      simp only [Bool.and_eq_true, decide_eq_true_eq, beq_iff_eq] at h3
      exact .inr (.inl ⟨e, h3.1.1.1, h3.1.1.2⟩)
    · split at h3
      · rename_i e
        simp only [Bool.and_eq_true, decide_eq_true_eq, beq_iff_eq] at h3
        exact .inr (.inr ⟨e, h3.1.1.1, h3.1.1.2, h3.2⟩)
      · cases h3
theorem read_put {t : Tx} (h : mayT t = true) (more : List UInt8) : rawF (txB t ++ more, false) = (t, (more, false)) := by
  obtain ⟨h1, h2, h3, h4, h5, h6, h7⟩ := may_facts h
  have hk := may_kinds h
  obtain ⟨f, n, k, to, am, key, val⟩ := t
  simp only at h1 h2 h3 h4 h5 h6 h7 hk
  obtain ⟨f, rfl⟩ := Int.eq_ofNat_of_zero_le (show 0 ≤ f by omega)
  obtain ⟨n, rfl⟩ := Int.eq_ofNat_of_zero_le (show 0 ≤ n by omega)
  obtain ⟨k, rfl⟩ := Int.eq_ofNat_of_zero_le (show 0 ≤ k by omega)
  obtain ⟨to, rfl⟩ := Int.eq_ofNat_of_zero_le (show 0 ≤ to by omega)
  obtain ⟨am, rfl⟩ := Int.eq_ofNat_of_zero_le (show 0 ≤ am by omega)
  unfold rawF txB
  simp only [Int.toNat_natCast, List.append_assoc]
  rw [up_num f _ 40 (by omega) (by omega)]
  simp only
  rw [up_num n _ 1099511627776 (by omega) (by omega)]
  simp only
  rw [up_num k _ 3 (by omega) (by omega)]
  simp only
  rcases hk with ⟨e, e1, e2⟩ | ⟨e, e1, e2⟩ | ⟨e, e1, e2, e3⟩
  · obtain rfl : k = 1 := by omega
    subst e1 e2
    simp only [if_true]
    rw [if_pos (by rfl), List.append_assoc, up_num to _ 40 (by omega) (by omega)]
    simp only
    rw [up_num am _ 1099511627776 (by omega) (by omega)]
  · obtain rfl : k = 2 := by omega
    obtain rfl : to = 0 := by omega
    obtain rfl : am = 0 := by omega
    rw [if_neg (by decide), if_pos rfl, if_neg (by decide), if_pos (by rfl)]
    simp only [List.append_assoc]
    rw [tex_text key _ (by omega)]
    simp only
    rw [tex_text val _ (by omega)]
    rfl
  · obtain rfl : k = 3 := by omega
    obtain rfl : to = 0 := by omega
    obtain rfl : am = 0 := by omega
    subst e3
    rw [if_neg (by decide), if_neg (by decide), if_pos rfl, if_neg (by decide), if_neg (by decide)]
    simp only [List.append_assoc]
    rw [tex_text key _ (by omega)]
    rfl
theorem c_txlight (t : Tx) : FnOK Tryd.prog D 11 [(AV.st [.sc (.int .i64 (t).f), .sc (.int .i64 (t).n), .sc (.int .i64 (t).k), .sc (.int .i64 (t).to), .sc (.int .i64 (t).am), .sc (.string (strB (t).key)), .sc (.string (strB (t).val))])] [] (fun r st => r = (AV.sc (.bool (decide (t.key.length ≤ 100 ∧ t.val.length ≤ 400)))) ∧ st = []) := by
  have hkk := strB_size t.key
  have hvv := strB_size t.val
  refine fnok_of_W hmix tabOK Tryd.func11 rfl rfl (Nat.le_of_ble_eq_true rfl) ?_
  conv => whnf
  repeat' (first
    | (refine And.intro (by omega) ?_
       conv => whnf)
    | (refine Branch.of (fun h => ?_) (fun h => ?_) <;> (rw [h]; conv => whnf)))
  all_goals refine ⟨false, [], ?_⟩
  all_goals conv => whnf
  all_goals refine ⟨?_, rfl⟩
  all_goals congr 2
  all_goals (try simp_all)
  all_goals first | done | omega | (intros; omega) | (rw [Bool.eq_iff_iff]; simp only [Bool.and_eq_true, Bool.or_eq_true, Bool.not_eq_true', decide_eq_true_eq, decide_eq_false_iff_not, beq_iff_eq]; omega)
theorem c_txputs_no (t : Tx) (ahead more I : List UInt8) (hI : I.length = 32) (hm : mayT t = false)
    (ca : FnOK Tryd.prog D 12 [] [] (fun r st => r = (AV.sc (.bool (true))) ∧ st = []))
    (ci : t.key.length ≤ 100 → FnOK Tryd.prog D 16 [(AV.st [.sc (.int .i64 (t).f), .sc (.int .i64 (t).n), .sc (.int .i64 (t).k), .sc (.int .i64 (t).to), .sc (.int .i64 (t).am), .sc (.string (strB (t).key)), .sc (.string (strB (t).val))])] [] (fun r st => r = .ar 32 .lf (by8 I) ∧ st = []))
    (ciR : t.key.length ≤ 100 → FnOK Tryd.prog D 17 [(AV.st [.sc (.int .i64 (t).f), .sc (.int .i64 (t).n), .sc (.int .i64 (t).k), .sc (.int .i64 (t).to), .sc (.int .i64 (t).am), .sc (.string (strB (t).key)), .sc (.string (strB (t).val))])] [] (fun r st => r = .ar 32 .lf (by8 I) ∧ st = [])) :
    FnOK Tryd.prog D 3 [(AV.st [.sc (.int .i64 (t).f), .sc (.int .i64 (t).n), .sc (.int .i64 (t).k), .sc (.int .i64 (t).to), .sc (.int .i64 (t).am), .sc (.string (strB (t).key)), .sc (.string (strB (t).val))]), (AV.sl .lf (by8 (ahead)) .ro), (AV.sl .lf (by8 (more)) .ro)] [] (fun r _ => r = (AV.sc (.bool (true)))) := by
  have hla := len8 ahead
  have hlm := len8 more
  refine fnok_of_W hmix tabOK Tryd.func3 rfl rfl (Nat.le_of_ble_eq_true rfl) ?_
  conv => whnf
  refine (c_txlight t).mono fun r st e => ?_
  obtain ⟨rfl, rfl⟩ := e
  conv => whnf
  refine Branch.of (fun h0 => ?_) (fun h0 => ?_) <;> rw [h0] <;> conv => whnf
  · refine (ca).mono fun r st e => ?_
    obtain ⟨rfl, rfl⟩ := e
    conv => whnf
    refine ⟨false, [], ?_⟩
    conv => whnf
  simp only [Bool.not_eq_false', decide_eq_true_eq] at h0
  rw [hla]
  refine Branch.of (fun h1 => ?_) (fun h1 => ?_) <;> rw [h1] <;> conv => whnf
  · refine (ca).mono fun r st e => ?_
    obtain ⟨rfl, rfl⟩ := e
    conv => whnf
    refine ⟨false, [], ?_⟩
    conv => whnf
  rw [hlm]
  refine Branch.of (fun h2 => ?_) (fun h2 => ?_) <;> rw [h2] <;> conv => whnf
  · refine (ca).mono fun r st e => ?_
    obtain ⟨rfl, rfl⟩ := e
    conv => whnf
    refine ⟨false, [], ?_⟩
    conv => whnf
  simp only [gt_iff_lt, decide_eq_false_iff_not] at h1 h2
  have hk : t.key.length < 4294967296 := by omega
  have cm := c_mayR t hk
  have ck := c_txcheck t hk
  have cp := c_txput ahead t (by omega) hk (m := .ro) (.inr rfl)
  rw [hm] at cm ck cp
  refine (cm).mono fun r st e => ?_
  obtain ⟨rfl, rfl⟩ := e
  conv => whnf
  refine (cp).mono fun r st e => ?_
  obtain ⟨rfl, rfl⟩ := e
  conv => whnf
  refine ⟨tabF3R5, by decide +kernel, ?_⟩
  conv => whnf
  refine ⟨_, _, ck, ?_⟩
  conv => whnf
  refine ⟨_, _, ck, ?_⟩
  conv => whnf
  refine ⟨_, _, ci h0.1, ?_⟩
  conv => whnf
  refine ⟨_, _, ciR h0.1, ?_⟩
  conv => whnf
  refine ⟨I, I, rfl, rfl, ?_⟩
  conv => whnf
  rw [beq_self_eq_true]
  conv => whnf
  refine (c_same ahead ahead (by omega) (.inr rfl) (.inr rfl)).mono fun r st e => ?_
  obtain ⟨rfl, rfl⟩ := e
  conv => whnf
  rw [beq_self_eq_true]
  conv => whnf
  refine (ca).mono fun r st e => ?_
  obtain ⟨rfl, rfl⟩ := e
  conv => whnf
  refine ⟨false, [], ?_⟩
  conv => whnf
theorem c_txputs_yes (t : Tx) (ahead more I P : List UInt8) (hI : I.length = 32) (hm : mayT t = true) (hP : P.length ≤ 300)
    (ca : FnOK Tryd.prog D 12 [] [] (fun r st => r = (AV.sc (.bool (true))) ∧ st = []))
    (ci : t.key.length ≤ 100 → FnOK Tryd.prog D 16 [(AV.st [.sc (.int .i64 (t).f), .sc (.int .i64 (t).n), .sc (.int .i64 (t).k), .sc (.int .i64 (t).to), .sc (.int .i64 (t).am), .sc (.string (strB (t).key)), .sc (.string (strB (t).val))])] [] (fun r st => r = .ar 32 .lf (by8 I) ∧ st = []))
    (ciR : t.key.length ≤ 100 → FnOK Tryd.prog D 17 [(AV.st [.sc (.int .i64 (t).f), .sc (.int .i64 (t).n), .sc (.int .i64 (t).k), .sc (.int .i64 (t).to), .sc (.int .i64 (t).am), .sc (.string (strB (t).key)), .sc (.string (strB (t).val))])] [] (fun r st => r = .ar 32 .lf (by8 I) ∧ st = []))
    (cb : FnOK Tryd.prog D 19 [(AV.st [.sc (.int .i64 (t).f), .sc (.int .i64 (t).n), .sc (.int .i64 (t).k), .sc (.int .i64 (t).to), .sc (.int .i64 (t).am), .sc (.string (strB (t).key)), .sc (.string (strB (t).val))])] [] (fun r st => r = (AV.sl .lf (by8 (P)) (.own 0)) ∧ st = []))
    (cp : ahead.length ≤ 200 → FnOK Tryd.prog D 14 [(AV.sl .lf (by8 (ahead)) .ro), (AV.st [.sc (.int .i64 (t).f), .sc (.int .i64 (t).n), .sc (.int .i64 (t).k), .sc (.int .i64 (t).to), .sc (.int .i64 (t).am), .sc (.string (strB (t).key)), .sc (.string (strB (t).val))])] [] (fun r st => r = (AV.sl .lf (by8 (ahead ++ P)) (.own 0)) ∧ st = []))
    (cr : more.length ≤ 200 → FnOK Tryd.prog D 21 [.pt 0 []] [.st [(AV.sl .lf (by8 (P ++ more)) .ro), (AV.sc (.bool (false)))]] (fun r st => r = .tup [(AV.st [.sc (.int .i64 (t).f), .sc (.int .i64 (t).n), .sc (.int .i64 (t).k), .sc (.int .i64 (t).to), .sc (.int .i64 (t).am), .sc (.string (strB (t).key)), .sc (.string (strB (t).val))]), (AV.sc (.bool (true)))] ∧ st = [.st [(AV.sl .lf (by8 (more)) .ro), (AV.sc (.bool (false)))]])) :
    FnOK Tryd.prog D 3 [(AV.st [.sc (.int .i64 (t).f), .sc (.int .i64 (t).n), .sc (.int .i64 (t).k), .sc (.int .i64 (t).to), .sc (.int .i64 (t).am), .sc (.string (strB (t).key)), .sc (.string (strB (t).val))]), (AV.sl .lf (by8 (ahead)) .ro), (AV.sl .lf (by8 (more)) .ro)] [] (fun r _ => r = (AV.sc (.bool (true)))) := by
  have hla := len8 ahead
  have hlm := len8 more
  have hlp := len8 P
  refine fnok_of_W hmix tabOK Tryd.func3 rfl rfl (Nat.le_of_ble_eq_true rfl) ?_
  conv => whnf
  refine (c_txlight t).mono fun r st e => ?_
  obtain ⟨rfl, rfl⟩ := e
  conv => whnf
  refine Branch.of (fun h0 => ?_) (fun h0 => ?_) <;> rw [h0] <;> conv => whnf
  · refine (ca).mono fun r st e => ?_
    obtain ⟨rfl, rfl⟩ := e
    conv => whnf
    refine ⟨false, [], ?_⟩
    conv => whnf
  simp only [Bool.not_eq_false', decide_eq_true_eq] at h0
  rw [hla]
  refine Branch.of (fun h1 => ?_) (fun h1 => ?_) <;> rw [h1] <;> conv => whnf
  · refine (ca).mono fun r st e => ?_
    obtain ⟨rfl, rfl⟩ := e
    conv => whnf
    refine ⟨false, [], ?_⟩
    conv => whnf
  rw [hlm]
  refine Branch.of (fun h2 => ?_) (fun h2 => ?_) <;> rw [h2] <;> conv => whnf
  · refine (ca).mono fun r st e => ?_
    obtain ⟨rfl, rfl⟩ := e
    conv => whnf
    refine ⟨false, [], ?_⟩
    conv => whnf
  simp only [gt_iff_lt, decide_eq_false_iff_not] at h1 h2
  have hk : t.key.length < 4294967296 := by omega
  have cm := c_mayR t hk
  have ck := c_txcheck t hk
  rw [hm] at cm ck
  refine (cm).mono fun r st e => ?_
  obtain ⟨rfl, rfl⟩ := e
  conv => whnf
  refine (cp (by omega)).mono fun r st e => ?_
  obtain ⟨rfl, rfl⟩ := e
  conv => whnf
  refine ⟨tabF3R5, by decide +kernel, ?_⟩
  conv => whnf
  refine ⟨_, _, ck, ?_⟩
  conv => whnf
  refine ⟨_, _, ck, ?_⟩
  conv => whnf
  refine ⟨_, _, ci h0.1, ?_⟩
  conv => whnf
  refine ⟨_, _, ciR h0.1, ?_⟩
  conv => whnf
  refine ⟨I, I, rfl, rfl, ?_⟩
  conv => whnf
  rw [beq_self_eq_true]
  conv => whnf
  refine (cb).mono fun r st e => ?_
  obtain ⟨rfl, rfl⟩ := e
  conv => whnf
  refine And.intro (by rw [hlp]; show 0 + _ < _; omega) ?_
  conv => whnf
  refine And.intro (by rw [List.length_append, hlp, hlm]; show 0 + _ + _ < _; omega) ?_
  conv => whnf
  rw [List.replicate_zero, List.nil_append, by8_ap]
  refine (c_read0 (P ++ more) (by rw [List.length_append]; omega)).mono fun r st e => ?_
  obtain ⟨rfl, rfl⟩ := e
  conv => whnf
  refine (cr (by omega)).mono fun r st e => ?_
  obtain ⟨rfl, rfl⟩ := e
  conv => whnf
  refine And.intro (by rw [hla]; show 0 + _ < _; omega) ?_
  conv => whnf
  refine And.intro (by rw [List.length_append, hlp, hla]; show 0 + _ + _ < _; omega) ?_
  conv => whnf
  rw [List.replicate_zero, List.nil_append, by8_ap]
  refine (c_same (ahead ++ P) (ahead ++ P) (by rw [List.length_append]; omega) (.inr rfl) (.inr rfl)).mono fun r st e => ?_
  obtain ⟨rfl, rfl⟩ := e
  conv => whnf
  rw [beq_self_eq_true]
  conv => whnf
  refine Branch.of (fun hh => ?_) (fun hh => ?_)
  rotate_left
  · exfalso; simp only [gt_iff_lt, ge_iff_le, decide_eq_true_eq, decide_eq_false_iff_not, beq_iff_eq, beq_eq_false_iff_ne, bne_iff_ne, bne_eq_false_iff_eq, ne_eq, beq_self_eq_true, Bool.and_self, Bool.and_true, Bool.true_eq_false] at hh; first | done | omega | (simp at hh; done)
  try rw [hh]
  clear hh
  conv => whnf
  refine (c_left more false).mono fun r st e => ?_
  obtain ⟨rfl, rfl⟩ := e
  conv => whnf
  rw [hlm, beq_self_eq_true]
  conv => whnf
  refine (ca).mono fun r st e => ?_
  obtain ⟨rfl, rfl⟩ := e
  conv => whnf
  refine ⟨false, [], ?_⟩
  conv => whnf
theorem c_txputs (t : Tx) (ahead more : List UInt8) : FnOK Tryd.prog D 3 [(AV.st [.sc (.int .i64 (t).f), .sc (.int .i64 (t).n), .sc (.int .i64 (t).k), .sc (.int .i64 (t).to), .sc (.int .i64 (t).am), .sc (.string (strB (t).key)), .sc (.string (strB (t).val))]), (AV.sl .lf (by8 (ahead)) .ro), (AV.sl .lf (by8 (more)) .ro)] [] (fun r _ => r = (AV.sc (.bool (true)))) := by
  cases h : mayT t
  · exact c_txputs_no t ahead more (txId t) (txId_len t) h c_awake6 (fun hk => c_txid t (by omega)) (fun hk => c_txidR t (by omega))
  · have hP := txB_len h
    have hk := (may_facts h).2.2.2.1
    refine c_txputs_yes t ahead more (txId t) (txB t) (txId_len t) h hP c_awake6 (fun hk => c_txid t (by omega)) (fun hk => c_txidR t (by omega)) (c_txbytesR t h) (fun ha => ?_) (fun hm => ?_)
    · have := c_txput ahead t (by omega) (by omega) (m := .ro) (.inr rfl)
      rw [h, if_pos rfl] at this
      exact this
    · have e := read_put h more
      have ok : readOK (txB t ++ more, false) = true := by unfold readOK; rw [e, h]; rfl
      have o : outT (txB t ++ more, false) = t := by unfold outT; rw [ok, if_pos rfl, e]
      have := c_txread (txB t ++ more, false) (by show (txB t ++ more).length < _; rw [List.length_append]; omega)
      rw [ok, o, e] at this
      exact this
end Go.WL.T6d
