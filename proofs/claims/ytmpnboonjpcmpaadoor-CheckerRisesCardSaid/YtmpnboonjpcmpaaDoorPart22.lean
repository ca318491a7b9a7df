/- TxPuts. No condition. -/
import Derived.Test.YtmpnboonjpcmpaaDoorPart21
import Derived.Test.YtmpnboonjpcmpaaDoorPart12
set_option linter.unusedVariables false
set_option linter.unusedSimpArgs false
namespace Go.WL.T7
open Go.WL Go.Proofs
set_option maxRecDepth 20000
set_option maxHeartbeats 8000000
theorem c_reftextm (t : List UInt8) (ht : t.length < 4000000000) {m : Mark} (h : m = .ex ∨ m = .ro) : FnOK Tryd.prog D 118 [.sl .lf (by8 t) m] [] (fun r st => r = (AV.sl .lf (by8 (num t.length ++ t)) (.own 0)) ∧ st = []) := (c_reftext0 t ht).weak (.cons (.sl h (Weaks.refl _)) .nil)
theorem len6 (n : Nat) (h : n ≤ 1099511627776) : (num n).length ≤ 6 := by
  have e : (128 : Nat) ^ 6 = 4398046511104 := by decide
  exact num_len 6 n (by omega) (by decide)
theorem txB1 (f n to am : Nat) (key val : List UInt8) : txB ⟨f, n, (1 : Nat), to, am, key, val⟩ = num f ++ num n ++ num 1 ++ (num to ++ num am) := by
  unfold txB
  simp
theorem txB2 (f n to am : Nat) (key val : List UInt8) : txB ⟨f, n, (2 : Nat), to, am, key, val⟩ = num f ++ num n ++ num 2 ++ (num key.length ++ key ++ (num val.length ++ val)) := by
  unfold txB
  simp
theorem txB3 (f n to am : Nat) (key val : List UInt8) : txB ⟨f, n, (3 : Nat), to, am, key, val⟩ = num f ++ num n ++ num 3 ++ (num key.length ++ key) := by
  unfold txB
  simp
theorem c_txbytesR_aux (f n k to am : Nat) (key val : List UInt8) (hf : f ≤ 40) (hn : n ≤ 1099511627776) (hk3 : 1 ≤ k ∧ k ≤ 3) (hto : to ≤ 40) (ham : am ≤ 1099511627776) (hkl : key.length ≤ 16) (hvl : val.length ≤ 200) :
    FnOK Tryd.prog D 130 [.st [(AV.sc (.int .i64 ((f : Int)))), (AV.sc (.int .i64 ((n : Int)))), (AV.sc (.int .i64 ((k : Int)))), (AV.sc (.int .i64 ((to : Int)))), (AV.sc (.int .i64 ((am : Int)))), (AV.sc (.string (strB (key)))), (AV.sc (.string (strB (val))))]] [] (fun r st => r = (AV.sl .lf (by8 (txB ⟨f, n, k, to, am, key, val⟩)) (.own 0)) ∧ st = []) := by
  have low : ∀ m : Nat, m ≤ 1099511627776 → IntKind.u64.wrap (m : Int) = (m : Int) := fun m h => wu64 (by omega) (by omega)
  have l1 := len6 f (by omega)
  have l2 := len6 n hn
  have l4 := len6 to (by omega)
  have l5 := len6 am ham
  have l6 := len6 key.length (by omega)
  have l7 := len6 val.length (by omega)
  have k8 : IntKind.u8.wrap (k : Int) = ((UInt8.ofNat k).toNat : Int) := by
    rw [UInt8.toNat_ofNat', wu8 (by omega) (by omega)]
    omega
  have kn : num k = [UInt8.ofNat k] := num_low (by omega)
  refine fnok_of_W hmix tabOK Tryd.func130 rfl rfl (Nat.le_of_ble_eq_true rfl) ?_
  conv => whnf
  refine ⟨tabF130R1, by decide +kernel, ?_⟩
  conv => whnf
  rw [low f (by omega)]
  refine ⟨_, _, c_refnum f (by omega), ?_⟩
  conv => whnf
  rw [low n hn]
  refine ⟨_, _, c_refnum n (by omega), ?_⟩
  conv => whnf
  refine And.intro (by rw [len8, len8]; omega) ?_
  conv => whnf
  rw [k8]
  refine And.intro (by rw [List.length_append, len8, len8]; show _ + 1 < _; omega) ?_
  conv => whnf
  rw [by8_ap, snocU]
  have hk4 : k = 1 ∨ k = 2 ∨ k = 3 := by omega
  rcases hk4 with rfl | rfl | rfl
  · conv => whnf
    refine ⟨tabF130R4, by decide +kernel, ?_⟩
    conv => whnf
    rw [low to (by omega)]
    refine ⟨_, _, c_refnum to (by omega), ?_⟩
    conv => whnf
    refine And.intro (by rw [len8, len8, List.length_append, List.length_append]; show _ + 1 + _ < _; omega) ?_
    conv => whnf
    rw [low am ham]
    refine ⟨_, _, c_refnum am (by omega), ?_⟩
    conv => whnf
    refine And.intro (by rw [List.length_append, len8, len8, len8, List.length_append, List.length_append]; show _ + 1 + _ + _ < _; omega) ?_
    conv => whnf
    rw [by8_ap, by8_ap]
    refine ⟨false, [], ?_⟩
    conv => whnf
    refine ⟨?_, rfl⟩
    rw [txB1, kn]
    simp only [List.append_assoc]
  · conv => whnf
    refine And.intro (by rw [strB_size]; omega) ?_
    conv => whnf
    rw [bytes_strB]
    refine (c_reftextm key (by omega) (.inr rfl)).mono fun r st e => ?_
    obtain ⟨rfl, rfl⟩ := e
    conv => whnf
    refine And.intro (by rw [len8, len8, List.length_append, List.length_append, List.length_append]; show _ + 1 + _ < _; omega) ?_
    conv => whnf
    rw [by8_ap]
    refine And.intro (by rw [strB_size]; omega) ?_
    conv => whnf
    rw [bytes_strB]
    refine (c_reftextm val (by omega) (.inr rfl)).mono fun r st e => ?_
    obtain ⟨rfl, rfl⟩ := e
    conv => whnf
    refine And.intro (by rw [len8, len8, List.length_append, List.length_append, List.length_append, List.length_append, List.length_append]; show _ + 1 + _ + _ < _; omega) ?_
    conv => whnf
    rw [by8_ap]
    refine ⟨false, [], ?_⟩
    conv => whnf
    refine ⟨?_, rfl⟩
    rw [txB2, kn]
    simp only [List.append_assoc]
  · conv => whnf
    refine And.intro (by rw [strB_size]; omega) ?_
    conv => whnf
    rw [bytes_strB]
    refine (c_reftextm key (by omega) (.inr rfl)).mono fun r st e => ?_
    obtain ⟨rfl, rfl⟩ := e
    conv => whnf
    refine And.intro (by rw [len8, len8, List.length_append, List.length_append, List.length_append]; show _ + 1 + _ < _; omega) ?_
    conv => whnf
    rw [by8_ap]
    refine ⟨false, [], ?_⟩
    conv => whnf
    refine ⟨?_, rfl⟩
    rw [txB3, kn]
theorem c_txbytesR (t : Tx) (h : mayT t = true) : FnOK Tryd.prog D 130 [(AV.st [.sc (.int .i64 (t).f), .sc (.int .i64 (t).n), .sc (.int .i64 (t).k), .sc (.int .i64 (t).to), .sc (.int .i64 (t).am), .sc (.string (strB (t).key)), .sc (.string (strB (t).val))])] [] (fun r st => r = (AV.sl .lf (by8 (txB t)) (.own 0)) ∧ st = []) := by
  obtain ⟨h1, h2, h3, h4, h5, h6, h7⟩ := may_facts h
  have := c_txbytesR_aux t.f.toNat t.n.toNat t.k.toNat t.to.toNat t.am.toNat t.key t.val (by omega) (by omega) (by omega) (by omega) (by omega) h4 h5
  rw [Int.toNat_of_nonneg (by omega), Int.toNat_of_nonneg (by omega), Int.toNat_of_nonneg (by omega), Int.toNat_of_nonneg (by omega), Int.toNat_of_nonneg (by omega)] at this
  exact this
theorem txB_len {t : Tx} (h : mayT t = true) : (txB t).length ≤ 300 := by
  obtain ⟨h1, h2, h3, h4, h5, h6, h7⟩ := may_facts h
  have l1 := len6 t.f.toNat (by omega)
  have l2 := len6 t.n.toNat (by omega)
  have l3 := len6 t.k.toNat (by omega)
  have l4 := len6 t.to.toNat (by omega)
  have l5 := len6 t.am.toNat (by omega)
  have l6 := len6 t.key.length (by omega)
  have l7 := len6 t.val.length (by omega)
  unfold txB
  split
  · simp only [List.length_append]; omega
  · split
    · simp only [List.length_append]; omega
    · simp only [List.length_append]; omega
/-- A transaction's id. -/
def txId (t : Tx) : List UInt8 := if mayT t = true then shaB (txB t) else z32
theorem txId_len (t : Tx) : (txId t).length = 32 := by
  unfold txId
  split
  · exact shaB_len _
  · rfl
end Go.WL.T7
namespace Go.WL.T7
open Go.WL Go.Proofs
set_option maxRecDepth 20000
set_option maxHeartbeats 8000000
theorem up_num (n : Nat) (rest : List UInt8) (top : Int) (h : (n : Int) ≤ top) (hn : n < 18446744073709551616) : up (num n ++ rest, false) top = (n, (rest, false)) := by
  unfold up rupto
  simp only [rnum_num n rest hn]
  rw [if_neg (by simp; omega)]
theorem tex_text (t rest : List UInt8) (h : t.length ≤ 65536) : tex (num t.length ++ (t ++ rest), false) = (t, (rest, false)) := by
  unfold tex
  simp only [rtext_text t rest h]
theorem may_kinds {t : Tx} (h : mayT t = true) : (t.k = 1 ∧ t.key = [] ∧ t.val = []) ∨ (t.k = 2 ∧ t.to = 0 ∧ t.am = 0) ∨ (t.k = 3 ∧ t.to = 0 ∧ t.am = 0 ∧ t.val = []) := by
  rw [mayT_eq] at h
  simp only [Bool.and_eq_true, decide_eq_true_eq] at h
  obtain ⟨_, h3⟩ := h
  split at h3
  · rename_i e
    simp only [Bool.and_eq_true, decide_eq_true_eq, beq_iff_eq] at h3
    exact .inl ⟨e, h3.1.2, h3.2⟩
  · split at h3
    · rename_i e
      simp only [Bool.and_eq_true, decide_eq_true_eq, beq_iff_eq] at h3
      exact .inr (.inl ⟨e, h3.1.1.1, h3.1.1.2⟩)
    · split at h3
      · rename_i e
        simp only [Bool.and_eq_true, decide_eq_true_eq, beq_iff_eq] at h3
        exact .inr (.inr ⟨e, h3.1.1.1, h3.1.1.2, h3.2⟩)
      · cases h3
theorem read_put {t : Tx} (h : mayT t = true) (more : List UInt8) : rawF (txB t ++ more, false) = (t, (more, false)) := by
  obtain ⟨h1, h2, h3, h4, h5, h6, h7⟩ := may_facts h
  have hk := may_kinds h
  obtain ⟨f, n, k, to, am, key, val⟩ := t
  simp only at h1 h2 h3 h4 h5 h6 h7 hk
  obtain ⟨f, rfl⟩ := Int.eq_ofNat_of_zero_le (show 0 ≤ f by omega)
  obtain ⟨n, rfl⟩ := Int.eq_ofNat_of_zero_le (show 0 ≤ n by omega)
  obtain ⟨k, rfl⟩ := Int.eq_ofNat_of_zero_le (show 0 ≤ k by omega)
  obtain ⟨to, rfl⟩ := Int.eq_ofNat_of_zero_le (show 0 ≤ to by omega)
  obtain ⟨am, rfl⟩ := Int.eq_ofNat_of_zero_le (show 0 ≤ am by omega)
  unfold rawF txB
  simp only [Int.toNat_natCast, List.append_assoc]
  rw [up_num f _ 40 (by omega) (by omega)]
  simp only
  rw [up_num n _ 1099511627776 (by omega) (by omega)]
  simp only
  rw [up_num k _ 3 (by omega) (by omega)]
  simp only
  rcases hk with ⟨e, e1, e2⟩ | ⟨e, e1, e2⟩ | ⟨e, e1, e2, e3⟩
  · obtain rfl : k = 1 := by omega
    subst e1 e2
    simp only [if_true]
    rw [if_pos (by rfl), List.append_assoc, up_num to _ 40 (by omega) (by omega)]
    simp only
    rw [up_num am _ 1099511627776 (by omega) (by omega)]
  · obtain rfl : k = 2 := by omega
    obtain rfl : to = 0 := by omega
    obtain rfl : am = 0 := by omega
    rw [if_neg (by decide), if_pos rfl, if_neg (by decide), if_pos (by rfl)]
    simp only [List.append_assoc]
    rw [tex_text key _ (by omega)]
    simp only
    rw [tex_text val _ (by omega)]
    rfl
  · obtain rfl : k = 3 := by omega
    obtain rfl : to = 0 := by omega
    obtain rfl : am = 0 := by omega
    subst e3
    rw [if_neg (by decide), if_neg (by decide), if_pos rfl, if_neg (by decide), if_neg (by decide)]
    simp only [List.append_assoc]
    rw [tex_text key _ (by omega)]
    rfl
theorem c_txlight (t : Tx) : FnOK Tryd.prog D 58 [(AV.st [.sc (.int .i64 (t).f), .sc (.int .i64 (t).n), .sc (.int .i64 (t).k), .sc (.int .i64 (t).to), .sc (.int .i64 (t).am), .sc (.string (strB (t).key)), .sc (.string (strB (t).val))])] [] (fun r st => r = (AV.sc (.bool (decide (t.key.length ≤ 100 ∧ t.val.length ≤ 400)))) ∧ st = []) := by
  have hkk := strB_size t.key
  have hvv := strB_size t.val
  refine fnok_of_W hmix tabOK Tryd.func58 rfl rfl (Nat.le_of_ble_eq_true rfl) ?_
  conv => whnf
  repeat' (first
    | (refine And.intro (by omega) ?_
       conv => whnf)
    | (refine Branch.of (fun h => ?_) (fun h => ?_) <;> (rw [h]; conv => whnf)))
  all_goals refine ⟨false, [], ?_⟩
  all_goals conv => whnf
  all_goals refine ⟨?_, rfl⟩
  all_goals congr 2
  all_goals (try simp_all)
  all_goals first | done | omega | (intros; omega) | (rw [Bool.eq_iff_iff]; simp only [Bool.and_eq_true, Bool.or_eq_true, Bool.not_eq_true', decide_eq_true_eq, decide_eq_false_iff_not, beq_iff_eq]; omega)
end Go.WL.T7
