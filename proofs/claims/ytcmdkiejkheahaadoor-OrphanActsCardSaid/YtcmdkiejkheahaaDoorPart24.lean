/- A transaction's bytes by the reference; ids. No condition. -/
import Derived.Test.YtcmdkiejkheahaaDoorPart16
import Derived.Test.YtcmdkiejkheahaaDoorPart23
set_option linter.unusedVariables false
set_option linter.unusedSimpArgs false
namespace Go.WL.T6d
open Go.WL Go.Proofs
set_option maxRecDepth 20000
set_option maxHeartbeats 8000000
theorem c_reftextm (t : List UInt8) (ht : t.length < 4000000000) {m : Mark} (h : m = .ex ∨ m = .ro) : FnOK Tryd.prog D 75 [.sl .lf (by8 t) m] [] (fun r st => r = (AV.sl .lf (by8 (num t.length ++ t)) (.own 0)) ∧ st = []) := (c_reftext0 t ht).weak (.cons (.sl h (Weaks.refl _)) .nil)
theorem len6 (n : Nat) (h : n ≤ 1099511627776) : (num n).length ≤ 6 := by
  have e : (128 : Nat) ^ 6 = 4398046511104 := by decide
  exact num_len 6 n (by omega) (by decide)
theorem txB1 (f n to am : Nat) (key val : List UInt8) : txB ⟨f, n, (1 : Nat), to, am, key, val⟩ = num f ++ num n ++ num 1 ++ (num to ++ num am) := by
  unfold txB
  simp
theorem txB2 (f n to am : Nat) (key val : List UInt8) : txB ⟨f, n, (2 : Nat), to, am, key, val⟩ = num f ++ num n ++ num 2 ++ (num key.length ++ key ++ (num val.length ++ val)) := by
  unfold txB
  simp
theorem txB3 (f n to am : Nat) (key val : List UInt8) : txB ⟨f, n, (3 : Nat), to, am, key, val⟩ = num f ++ num n ++ num 3 ++ (num key.length ++ key) := by
  unfold txB
  simp
theorem c_txbytesR_aux (f n k to am : Nat) (key val : List UInt8) (hf : f ≤ 40) (hn : n ≤ 1099511627776) (hk3 : 1 ≤ k ∧ k ≤ 3) (hto : to ≤ 40) (ham : am ≤ 1099511627776) (hkl : key.length ≤ 16) (hvl : val.length ≤ 200) :
    FnOK Tryd.prog D 19 [.st [(AV.sc (.int .i64 ((f : Int)))), (AV.sc (.int .i64 ((n : Int)))), (AV.sc (.int .i64 ((k : Int)))), (AV.sc (.int .i64 ((to : Int)))), (AV.sc (.int .i64 ((am : Int)))), (AV.sc (.string (strB (key)))), (AV.sc (.string (strB (val))))]] [] (fun r st => r = (AV.sl .lf (by8 (txB ⟨f, n, k, to, am, key, val⟩)) (.own 0)) ∧ st = []) := by
  have low : ∀ m : Nat, m ≤ 1099511627776 → IntKind.u64.wrap (m : Int) = (m : Int) := fun m h => wu64 (by omega) (by omega)
  have l1 := len6 f (by omega)
  have l2 := len6 n hn
  have l4 := len6 to (by omega)
  have l5 := len6 am ham
  have l6 := len6 key.length (by omega)
  have l7 := len6 val.length (by omega)
  have k8 : IntKind.u8.wrap (k : Int) = ((UInt8.ofNat k).toNat : Int) := by
    rw [UInt8.toNat_ofNat', wu8 (by omega) (by omega)]
    omega
  have kn : num k = [UInt8.ofNat k] := num_low (by omega)
  refine fnok_of_W hmix tabOK Tryd.func19 rfl rfl (Nat.le_of_ble_eq_true rfl) ?_
  conv => whnf
  refine ⟨tabF19R1, by decide +kernel, ?_⟩
  conv => whnf
  rw [low f (by omega)]
  refine ⟨_, _, c_refnum f (by omega), ?_⟩
  conv => whnf
  rw [low n hn]
  refine ⟨_, _, c_refnum n (by omega), ?_⟩
  conv => whnf
  refine And.intro (by rw [len8, len8]; omega) ?_
  conv => whnf
  rw [k8]
  refine And.intro (by rw [List.length_append, len8, len8]; show _ + 1 < _; omega) ?_
  conv => whnf
  rw [by8_ap, snocU]
  have hk4 : k = 1 ∨ k = 2 ∨ k = 3 := by omega
  rcases hk4 with rfl | rfl | rfl
  · conv => whnf
    refine ⟨tabF19R4, by decide +kernel, ?_⟩
    conv => whnf
    rw [low to (by omega)]
    refine ⟨_, _, c_refnum to (by omega), ?_⟩
    conv => whnf
    refine And.intro (by rw [len8, len8, List.length_append, List.length_append]; show _ + 1 + _ < _; omega) ?_
    conv => whnf
    rw [low am ham]
    refine ⟨_, _, c_refnum am (by omega), ?_⟩
    conv => whnf
    refine And.intro (by rw [List.length_append, len8, len8, len8, List.length_append, List.length_append]; show _ + 1 + _ + _ < _; omega) ?_
    conv => whnf
    rw [by8_ap, by8_ap]
    refine ⟨false, [], ?_⟩
    conv => whnf
    refine ⟨?_, rfl⟩
    rw [txB1, kn]
    simp only [List.append_assoc]
  · conv => whnf
    refine And.intro (by rw [strB_size]; omega) ?_
    conv => whnf
    rw [bytes_strB]
    refine (c_reftextm key (by omega) (.inr rfl)).mono fun r st e => ?_
    obtain ⟨rfl, rfl⟩ := e
    conv => whnf
    refine And.intro (by rw [len8, len8, List.length_append, List.length_append, List.length_append]; show _ + 1 + _ < _; omega) ?_
    conv => whnf
    rw [by8_ap]
    refine And.intro (by rw [strB_size]; omega) ?_
    conv => whnf
    rw [bytes_strB]
    refine (c_reftextm val (by omega) (.inr rfl)).mono fun r st e => ?_
    obtain ⟨rfl, rfl⟩ := e
    conv => whnf
    refine And.intro (by rw [len8, len8, List.length_append, List.length_append, List.length_append, List.length_append, List.length_append]; show _ + 1 + _ + _ < _; omega) ?_
    conv => whnf
    rw [by8_ap]
    refine ⟨false, [], ?_⟩
    conv => whnf
    refine ⟨?_, rfl⟩
    rw [txB2, kn]
    simp only [List.append_assoc]
  · conv => whnf
    refine And.intro (by rw [strB_size]; omega) ?_
    conv => whnf
    rw [bytes_strB]
    refine (c_reftextm key (by omega) (.inr rfl)).mono fun r st e => ?_
    obtain ⟨rfl, rfl⟩ := e
    conv => whnf
    refine And.intro (by rw [len8, len8, List.length_append, List.length_append, List.length_append]; show _ + 1 + _ < _; omega) ?_
    conv => whnf
    rw [by8_ap]
    refine ⟨false, [], ?_⟩
    conv => whnf
    refine ⟨?_, rfl⟩
    rw [txB3, kn]
theorem c_txbytesR (t : Tx) (h : mayT t = true) : FnOK Tryd.prog D 19 [(AV.st [.sc (.int .i64 (t).f), .sc (.int .i64 (t).n), .sc (.int .i64 (t).k), .sc (.int .i64 (t).to), .sc (.int .i64 (t).am), .sc (.string (strB (t).key)), .sc (.string (strB (t).val))])] [] (fun r st => r = (AV.sl .lf (by8 (txB t)) (.own 0)) ∧ st = []) := by
  obtain ⟨h1, h2, h3, h4, h5, h6, h7⟩ := may_facts h
  have := c_txbytesR_aux t.f.toNat t.n.toNat t.k.toNat t.to.toNat t.am.toNat t.key t.val (by omega) (by omega) (by omega) (by omega) (by omega) h4 h5
  rw [Int.toNat_of_nonneg (by omega), Int.toNat_of_nonneg (by omega), Int.toNat_of_nonneg (by omega), Int.toNat_of_nonneg (by omega), Int.toNat_of_nonneg (by omega)] at this
  exact this
theorem txB_len {t : Tx} (h : mayT t = true) : (txB t).length ≤ 300 := by
  obtain ⟨h1, h2, h3, h4, h5, h6, h7⟩ := may_facts h
  have l1 := len6 t.f.toNat (by omega)
  have l2 := len6 t.n.toNat (by omega)
  have l3 := len6 t.k.toNat (by omega)
  have l4 := len6 t.to.toNat (by omega)
  have l5 := len6 t.am.toNat (by omega)
  have l6 := len6 t.key.length (by omega)
  have l7 := len6 t.val.length (by omega)
  unfold txB
  split
  · simp only [List.length_append]; omega
  · split
    · simp only [List.length_append]; omega
    · simp only [List.length_append]; omega
/-- A transaction's id. -/
def txId (t : Tx) : List UInt8 := if mayT t = true then shaB (txB t) else z32
theorem txId_len (t : Tx) : (txId t).length = 32 := by
  unfold txId
  split
  · exact shaB_len _
  · rfl
theorem c_txid_aux (t : Tx) (P R : List UInt8) (m : Bool) (hm : mayT t = m) (hk : t.key.length < 4294967296) (hz : m = false → by8 R = List.replicate 32 (AV.sc (.int .u8 (0))))
    (cp : m = true → FnOK Tryd.prog D 14 [.sl .lf [] .ex, (AV.st [.sc (.int .i64 (t).f), .sc (.int .i64 (t).n), .sc (.int .i64 (t).k), .sc (.int .i64 (t).to), .sc (.int .i64 (t).am), .sc (.string (strB (t).key)), .sc (.string (strB (t).val))])] [] (fun r st => r = (AV.sl .lf (by8 (P)) (.own 0)) ∧ st = []))
    (cs : m = true → FnOK Tryd.prog D 72 [.sl .lf [(AV.sl .lf (by8 (P)) .ro)] .ex] [] (fun r st => r = .ar 32 .lf (by8 R) ∧ st = [])) :
    FnOK Tryd.prog D 16 [(AV.st [.sc (.int .i64 (t).f), .sc (.int .i64 (t).n), .sc (.int .i64 (t).k), .sc (.int .i64 (t).to), .sc (.int .i64 (t).am), .sc (.string (strB (t).key)), .sc (.string (strB (t).val))])] [] (fun r st => r = .ar 32 .lf (by8 R) ∧ st = []) := by
  have ck := c_txcheck t hk
  rw [hm] at ck
  refine fnok_of_W hmix tabOK Tryd.func16 rfl rfl (Nat.le_of_ble_eq_true rfl) ?_
  conv => whnf
  cases m
  · refine (ck).mono fun r st e => ?_
    obtain ⟨rfl, rfl⟩ := e
    conv => whnf
    rw [hz rfl]
    refine ⟨false, [], ?_⟩
    conv => whnf
    exact ⟨rfl, rfl⟩
  · refine (ck).mono fun r st e => ?_
    obtain ⟨rfl, rfl⟩ := e
    conv => whnf
    refine (cp rfl).mono fun r st e => ?_
    obtain ⟨rfl, rfl⟩ := e
    conv => whnf
    refine (cs rfl).mono fun r st e => ?_
    obtain ⟨rfl, rfl⟩ := e
    conv => whnf
    refine ⟨false, [], ?_⟩
    conv => whnf
    exact ⟨rfl, rfl⟩
theorem c_txidR_aux (t : Tx) (P R : List UInt8) (m : Bool) (hm : mayT t = m) (hk : t.key.length < 4294967296) (hz : m = false → by8 R = List.replicate 32 (AV.sc (.int .u8 (0))))
    (cp : m = true → FnOK Tryd.prog D 19 [(AV.st [.sc (.int .i64 (t).f), .sc (.int .i64 (t).n), .sc (.int .i64 (t).k), .sc (.int .i64 (t).to), .sc (.int .i64 (t).am), .sc (.string (strB (t).key)), .sc (.string (strB (t).val))])] [] (fun r st => r = (AV.sl .lf (by8 (P)) (.own 0)) ∧ st = []))
    (cs : m = true → FnOK Tryd.prog D 73 [(AV.sl .lf (by8 (P)) .ro)] [] (fun r st => r = .ar 32 .lf (by8 R) ∧ st = [])) :
    FnOK Tryd.prog D 17 [(AV.st [.sc (.int .i64 (t).f), .sc (.int .i64 (t).n), .sc (.int .i64 (t).k), .sc (.int .i64 (t).to), .sc (.int .i64 (t).am), .sc (.string (strB (t).key)), .sc (.string (strB (t).val))])] [] (fun r st => r = .ar 32 .lf (by8 R) ∧ st = []) := by
  have ck := c_mayR t hk
  rw [hm] at ck
  refine fnok_of_W hmix tabOK Tryd.func17 rfl rfl (Nat.le_of_ble_eq_true rfl) ?_
  conv => whnf
  cases m
  · refine (ck).mono fun r st e => ?_
    obtain ⟨rfl, rfl⟩ := e
    conv => whnf
    rw [hz rfl]
    refine ⟨false, [], ?_⟩
    conv => whnf
    exact ⟨rfl, rfl⟩
  · refine (ck).mono fun r st e => ?_
    obtain ⟨rfl, rfl⟩ := e
    conv => whnf
    refine (cp rfl).mono fun r st e => ?_
    obtain ⟨rfl, rfl⟩ := e
    conv => whnf
    refine (cs rfl).mono fun r st e => ?_
    obtain ⟨rfl, rfl⟩ := e
    conv => whnf
    refine ⟨false, [], ?_⟩
    conv => whnf
    exact ⟨rfl, rfl⟩
theorem c_txid (t : Tx) (hk : t.key.length < 4294967296) : FnOK Tryd.prog D 16 [(AV.st [.sc (.int .i64 (t).f), .sc (.int .i64 (t).n), .sc (.int .i64 (t).k), .sc (.int .i64 (t).to), .sc (.int .i64 (t).am), .sc (.string (strB (t).key)), .sc (.string (strB (t).val))])] [] (fun r st => r = .ar 32 .lf (by8 (txId t)) ∧ st = []) := by
  refine c_txid_aux t (txB t) (txId t) (mayT t) rfl hk (fun h => ?_) (fun h => ?_) (fun h => ?_)
  · unfold txId
    rw [h]
    exact z32_is
  · have := c_txput [] t (by decide) hk (m := .ex) (.inl rfl)
    rw [h, if_pos rfl, List.nil_append] at this
    exact this
  · have hl := txB_len h
    have := c_sha [txB t] (by simp) (by simp; omega) (m := .ex) (.inl rfl) (Weaks.refl _)
    unfold txId
    rw [h, if_pos rfl]
    rw [show [txB t].flatten = txB t by simp] at this
    exact this
theorem c_txidR (t : Tx) (hk : t.key.length < 4294967296) : FnOK Tryd.prog D 17 [(AV.st [.sc (.int .i64 (t).f), .sc (.int .i64 (t).n), .sc (.int .i64 (t).k), .sc (.int .i64 (t).to), .sc (.int .i64 (t).am), .sc (.string (strB (t).key)), .sc (.string (strB (t).val))])] [] (fun r st => r = .ar 32 .lf (by8 (txId t)) ∧ st = []) := by
  refine c_txidR_aux t (txB t) (txId t) (mayT t) rfl hk (fun h => ?_) (fun h => c_txbytesR t h) (fun h => ?_)
  · unfold txId
    rw [h]
    exact z32_is
  · have hl := txB_len h
    unfold txId
    rw [h, if_pos rfl]
    exact c_refsha (txB t) (by omega)
end Go.WL.T6d
