/- A block's bytes by the reference; hashes; copies. No condition. -/
import Derived.Test.YtcmdkiejkheahaaDoorPart28
set_option linter.unusedVariables false
set_option linter.unusedSimpArgs false
namespace Go.WL.T6d
open Go.WL Go.Proofs
set_option maxRecDepth 20000
set_option maxHeartbeats 8000000
theorem c_bytes7 (h : List UInt8) (hl : h.length = 32) : FnOK Tryd.prog D 91 [.ar 32 .lf (by8 h)] [] (fun r st => r = (AV.sl .lf (by8 (h)) (.own 0)) ∧ st = []) := by
  refine fnok_of_W hmix tabOK Tryd.func91 rfl rfl (Nat.le_of_ble_eq_true rfl) ?_
  conv => whnf
  refine ⟨true, [1, 3, 4], fun τ => ∃ j : Nat, j ≤ 32 ∧ τ = ⟨17, [(1, .pt 0 []), (3, (AV.sl .lf (by8 (h.take j)) (.own 0))), (4, (AV.sc (.int .i64 ((j : Int)))))], ⟨[(.ar 32 .lf (by8 h), false)], [0], 1⟩⟩, fun τ => 32 - (slotI τ 4).toNat, ?_, ?_⟩
  · conv => whnf
    exact ⟨0, by omega, rfl⟩
  rintro τ ⟨j, hj, rfl⟩
  conv => whnf
  refine Branch.of (fun h1 => ?_) (fun h1 => ?_) <;> rw [h1] <;> conv => whnf
  · simp only [decide_eq_true_eq] at h1
    have hjl : j < h.length := by omega
    repeat (refine And.intro (by first | omega) ?_; conv => whnf)
    rw [Int.toNat_natCast]
    refine ⟨_, at8n hjl, ?_⟩
    conv => whnf
    refine And.intro (by rw [len8, List.length_take]; show _ + 1 < _; omega) ?_
    conv => whnf
    rw [snocU, show h.take j ++ [h[j]] = h.take (j + 1) from (List.take_succ_eq_append_getElem hjl).symm, w64 (x := (j : Int) + 1) (by omega) (by omega)]
    refine ⟨⟨j + 1, by omega, rfl⟩, ?_⟩
    show 32 - ((j : Int) + 1).toNat < 32 - (j : Int).toNat
    omega
  · simp only [decide_eq_false_iff_not] at h1
    have e : j = 32 := by omega
    subst e
    rw [List.take_of_length_le (by omega)]
    refine ⟨false, [], ?_⟩
    conv => whnf
    exact ⟨rfl, rfl⟩
theorem c_bputR_aux (p : List UInt8) (v h y : Nat) (txs : List Tx) (hp : p.length = 32) (hv : v ≤ 1099511627776) (hh : h ≤ 1099511627776) (hy : y ≤ 21) (hn : txs.length ≤ 8) (hall : txs.all mayT = true) :
    FnOK Tryd.prog D 35 [.st [.ar 32 .lf (by8 p), (AV.sc (.int .i64 ((v : Int)))), (AV.sc (.int .i64 ((h : Int)))), (AV.sc (.int .i64 ((y : Int)))), (AV.sl (.nd [.lf, .lf, .lf, .lf, .lf, .lf, .lf]) (txsA (txs)) .ro)]] [] (fun r st => r = (AV.sl .lf (by8 (pb p v h y txs.length 4 ++ txsB txs)) (.own 0)) ∧ st = []) := by
  have hll := lenT txs
  have low : ∀ m : Nat, m ≤ 1099511627776 → IntKind.u64.wrap (m : Int) = (m : Int) := fun m h => wu64 (by omega) (by omega)
  have hpl := pb_len p v h y txs.length hp hv hh hy hn
  have low8 : ∀ m : Nat, m ≤ 21 → IntKind.u8.wrap (m : Int) = ((UInt8.ofNat m).toNat : Int) := by
    intro m hm
    rw [UInt8.toNat_ofNat', wu8 (by omega) (by omega)]
    omega
  have l1 := hpl 1
  have l2 := hpl 2
  have l4 := hpl 4
  have e4 : pb p v h y txs.length 2 ++ [UInt8.ofNat y, UInt8.ofNat txs.length] = pb p v h y txs.length 4 := by
    simp only [pb]
    rw [num_low (n := y) (by omega), num_low (n := txs.length) (by omega), List.append_assoc (p ++ num v ++ num h)]
    rfl
  refine fnok_of_W hmix tabOK Tryd.func35 rfl rfl (Nat.le_of_ble_eq_true rfl) ?_
  conv => whnf
  refine ⟨tabF35R1, by decide +kernel, ?_⟩
  conv => whnf
  refine ⟨_, _, c_bytes7 p hp, ?_⟩
  conv => whnf
  rw [low v hv]
  refine ⟨_, _, c_refnum v (by omega), ?_⟩
  conv => whnf
  refine And.intro (by rw [len8, len8, hp]; have := len6 v hv; omega) ?_
  conv => whnf
  rw [by8_ap, show p ++ num v = pb p v h y txs.length 1 from rfl]
  rw [low h hh]
  refine (c_refnum h (by omega)).mono fun r st e => ?_
  obtain ⟨rfl, rfl⟩ := e
  conv => whnf
  refine And.intro (by rw [len8, len8]; have := len6 h hh; omega) ?_
  conv => whnf
  rw [by8_ap, show pb p v h y txs.length 1 ++ num h = pb p v h y txs.length 2 from rfl]
  rw [hll, low8 y hy, low8 txs.length (by omega)]
  refine And.intro (by rw [len8]; show _ + 2 < _; omega) ?_
  conv => whnf
  rw [show by8 (pb p v h y txs.length 2) ++ [(AV.sc (.int .u8 (((UInt8.ofNat y).toNat : Int)))), (AV.sc (.int .u8 (((UInt8.ofNat txs.length).toNat : Int))))] = by8 (pb p v h y txs.length 2 ++ [UInt8.ofNat y, UInt8.ofNat txs.length]) by simp [by8], e4]
  generalize pb p v h y txs.length 4 = c at l4
  refine ⟨false, [1, 3, 4], fun τ => ∃ (i : Nat) (d : List UInt8), i ≤ txs.length ∧ d = c ++ txsB (txs.take i) ∧ τ = ⟨45, [(1, .pt 0 []), (3, (AV.sl .lf (by8 (d)) (.own 0))), (4, (AV.sc (.int .i64 ((i : Int)))))], ⟨[(.st [.ar 32 .lf (by8 p), (AV.sc (.int .i64 ((v : Int)))), (AV.sc (.int .i64 ((h : Int)))), (AV.sc (.int .i64 ((y : Int)))), (AV.sl (.nd [.lf, .lf, .lf, .lf, .lf, .lf, .lf]) (txsA (txs)) .ro)], false)], [0], 1⟩⟩, fun τ => txs.length - (slotI τ 4).toNat, ?_, ?_⟩
  · conv => whnf
    exact ⟨0, _, by omega, (List.append_nil c).symm, rfl⟩
  rintro τ ⟨i, d, hi, hd, rfl⟩
  have hdl : d.length ≤ 56 + 300 * 8 := by
    have := txsB_len (txs.take i) (take_mayT hall i)
    rw [hd, List.length_append]
    rw [List.length_take] at this
    omega
  conv => whnf
  rw [hll]
  refine Branch.of (fun h2 => ?_) (fun h2 => ?_) <;> rw [h2] <;> conv => whnf
  · simp only [decide_eq_true_eq] at h2
    have il : i < txs.length := by omega
    have hm : mayT txs[i] = true := List.all_eq_true.1 hall _ (List.getElem_mem il)
    have hbl := txB_len hm
    repeat (refine And.intro (by first | omega) ?_; conv => whnf)
    refine ⟨_, atT il, ?_⟩
    conv => whnf
    refine (c_txbytesR txs[i] hm).mono fun r st e => ?_
    obtain ⟨rfl, rfl⟩ := e
    conv => whnf
    refine And.intro (by rw [len8, len8]; omega) ?_
    conv => whnf
    rw [by8_ap, w64 (x := (i : Int) + 1) (by omega) (by omega)]
    refine ⟨⟨i + 1, _, by omega, ?_, rfl⟩, ?_⟩
    · rw [hd, txsB_snoc il, List.append_assoc]
    · show txs.length - ((i : Int) + 1).toNat < txs.length - (i : Int).toNat
      omega
  · simp only [decide_eq_false_iff_not] at h2
    rw [List.take_of_length_le (by omega)] at hd
    refine ⟨false, [], ?_⟩
    conv => whnf
    refine ⟨?_, rfl⟩
    rw [hd]
theorem c_bputR (b : Bl) (h : mayB b = true) (hp : b.p.length = 32) : FnOK Tryd.prog D 35 [(AV.st [.ar 32 .lf (by8 (b).p), .sc (.int .i64 (b).v), .sc (.int .i64 (b).h), .sc (.int .i64 (b).by_), .sl (.nd [.lf, .lf, .lf, .lf, .lf, .lf, .lf]) (txsA (b).txs) .ro])] [] (fun r st => r = (AV.sl .lf (by8 (blB b)) (.own 0)) ∧ st = []) := by
  obtain ⟨h1, h2, h3, h4, h5⟩ := mayB_facts h
  obtain ⟨p, v, hh, y, txs⟩ := b
  simp only at h1 h2 h3 h4 h5 hp
  obtain ⟨v, rfl⟩ := Int.eq_ofNat_of_zero_le h1.1
  obtain ⟨hh, rfl⟩ := Int.eq_ofNat_of_zero_le h2.1
  obtain ⟨y, rfl⟩ := Int.eq_ofNat_of_zero_le h3.1
  exact c_bputR_aux p v hh y txs hp (by omega) (by omega) (by omega) h4 h5
theorem blB_len {b : Bl} (h : mayB b = true) (hp : b.p.length = 32) : (blB b).length ≤ 2500 := by
  obtain ⟨h1, h2, h3, h4, h5⟩ := mayB_facts h
  have := pb_len b.p b.v.toNat b.h.toNat b.by_.toNat b.txs.length hp (by omega) (by omega) (by omega) h4 4
  have := txsB_len b.txs h5
  have e : blB b = pb b.p b.v.toNat b.h.toNat b.by_.toNat b.txs.length 4 ++ txsB b.txs := rfl
  rw [e, List.length_append]
  omega
/-- A block's hash. -/
def blH (b : Bl) : List UInt8 := if mayB b = true ∧ b ≠ b0 then shaB ([98, 108, 111, 99, 107] ++ blB b) else z32
theorem blH_len (b : Bl) : (blH b).length = 32 := by
  unfold blH
  split
  · exact shaB_len _
  · rfl
theorem c_bhash_aux (b : Bl) (P R : List UInt8) (e : Int) (hl : b.txs.length < 4294967296) (X : AV) (hX : e = 0 → X = (AV.sl .lf (by8 (P)) (.own 0))) (hX2 : e ≠ 0 → X = .sl .lf [] (.own 0))
    (hz : e ≠ 0 ∨ b = b0 → by8 R = List.replicate 32 (AV.sc (.int .u8 (0))))
    (cp : FnOK Tryd.prog D 27 [(AV.st [.ar 32 .lf (by8 (b).p), .sc (.int .i64 (b).v), .sc (.int .i64 (b).h), .sc (.int .i64 (b).by_), .sl (.nd [.lf, .lf, .lf, .lf, .lf, .lf, .lf]) (txsA (b).txs) .ro])] [] (fun r st => r = .tup [X, (AV.sc (.int .i64 (e)))] ∧ st = []))
    (cs : e = 0 → b ≠ b0 → FnOK Tryd.prog D 72 [.sl .lf [.sl .lf [(AV.sc (.int .u8 (98))), (AV.sc (.int .u8 (108))), (AV.sc (.int .u8 (111))), (AV.sc (.int .u8 (99))), (AV.sc (.int .u8 (107)))] .ro, (AV.sl .lf (by8 (P)) .ro)] .ex] [] (fun r st => r = .ar 32 .lf (by8 R) ∧ st = [])) :
    FnOK Tryd.prog D 31 [(AV.st [.ar 32 .lf (by8 (b).p), .sc (.int .i64 (b).v), .sc (.int .i64 (b).h), .sc (.int .i64 (b).by_), .sl (.nd [.lf, .lf, .lf, .lf, .lf, .lf, .lf]) (txsA (b).txs) .ro])] [] (fun r st => r = .ar 32 .lf (by8 R) ∧ st = []) := by
  by_cases he : e = 0
  · rw [hX he] at cp
    subst he
    refine fnok_of_W hmix tabOK Tryd.func31 rfl rfl (Nat.le_of_ble_eq_true rfl) ?_
    conv => whnf
    refine (cp).mono fun r st e => ?_
    obtain ⟨rfl, rfl⟩ := e
    conv => whnf
    refine ⟨tabF31R2, by decide +kernel, ?_⟩
    conv => whnf
    refine ⟨_, _, c_first, ?_⟩
    conv => whnf
    refine ⟨_, _, c_bsame0 b hl, ?_⟩
    conv => whnf
    cases h0 : decide (b = b0)
    · conv => whnf
      refine (cs rfl (by simpa using h0)).mono fun r st e => ?_
      obtain ⟨rfl, rfl⟩ := e
      conv => whnf
      refine ⟨false, [], ?_⟩
      conv => whnf
      exact ⟨rfl, rfl⟩
    · conv => whnf
      rw [hz (.inr (by simpa using h0))]
      refine ⟨false, [], ?_⟩
      conv => whnf
      exact ⟨rfl, rfl⟩
  · rw [hX2 he] at cp
    have hne : (e != 0) = true := by simpa using he
    refine fnok_of_W hmix tabOK Tryd.func31 rfl rfl (Nat.le_of_ble_eq_true rfl) ?_
    conv => whnf
    refine (cp).mono fun r st e => ?_
    obtain ⟨rfl, rfl⟩ := e
    conv => whnf
    refine ⟨tabF31R2, by decide +kernel, ?_⟩
    conv => whnf
    rw [hne]
    conv => whnf
    rw [hz (.inl he)]
    refine ⟨false, [], ?_⟩
    conv => whnf
    exact ⟨rfl, rfl⟩
theorem c_bhash (b : Bl) (hl : b.txs.length < 4294967296) (hk : shortK b.txs) (hp : b.p.length = 32) : FnOK Tryd.prog D 31 [(AV.st [.ar 32 .lf (by8 (b).p), .sc (.int .i64 (b).v), .sc (.int .i64 (b).h), .sc (.int .i64 (b).by_), .sl (.nd [.lf, .lf, .lf, .lf, .lf, .lf, .lf]) (txsA (b).txs) .ro])] [] (fun r st => r = .ar 32 .lf (by8 (blH b)) ∧ st = []) := by
  refine c_bhash_aux b (blB b) (blH b) _ hl _ (fun h => ?_) (fun h => ?_) (fun h => ?_) (c_bput b hl hk hp) (fun h0 h1 => ?_)
  · have : mayB b = true := by
      cases hm : mayB b
      · rw [hm] at h; simp at h
      · rfl
    rw [if_pos this]
  · have : mayB b = false := by
      cases hm : mayB b
      · rfl
      · rw [hm] at h; simp at h
    rw [this]; rfl
  · unfold blH
    rw [if_neg]
    · exact z32_is
    · intro ⟨h1, h2⟩
      rcases h with h | h
      · rw [h1] at h; simp at h
      · exact h2 h
  · have hm : mayB b = true := by
      cases hm : mayB b
      · rw [hm] at h0; simp at h0
      · rfl
    have hb := blB_len hm hp
    have := c_sha [[98, 108, 111, 99, 107], blB b] (by simp) (by simp; omega) (m := .ex) (.inl rfl) (Weaks.refl _)
    rw [show [[98, 108, 111, 99, 107], blB b].flatten = [98, 108, 111, 99, 107] ++ blB b by simp] at this
    unfold blH
    rw [if_pos ⟨hm, h1⟩]
    exact this
end Go.WL.T6d
