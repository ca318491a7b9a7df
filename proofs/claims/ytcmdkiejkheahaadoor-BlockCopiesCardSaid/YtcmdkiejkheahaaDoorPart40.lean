/- Copies of blocks, with memory of their own. No condition. -/
import Derived.Test.YtcmdkiejkheahaaDoorPart39
set_option linter.unusedVariables false
set_option linter.unusedSimpArgs false
namespace Go.WL.T6d
open Go.WL Go.Proofs
set_option maxRecDepth 20000
set_option maxHeartbeats 8000000
theorem c_cloneB (l : List Tx) (hl : l.length < 4294967296) (h0 : l ≠ []) : FnOK Tryd.prog D 90 [(AV.sl (.nd [.lf, .lf, .lf, .lf, .lf, .lf, .lf]) (txsA (l)) .ro)] [] (fun r st => ∃ (cap : Nat) (J : List AV), l.length ≤ cap ∧ J.length = cap - l.length ∧ r = .bs 0 [] (.nd [.lf, .lf, .lf, .lf, .lf, .lf, .lf]) 0 l.length cap ∧ st = [.ar cap (.nd [.lf, .lf, .lf, .lf, .lf, .lf, .lf]) (txsA l ++ J)]) := by
  have hll := lenT l
  have hp : 0 < l.length := List.length_pos_iff.2 h0
  refine fnok_of_Ws [7] hmix tabOK Tryd.func90 rfl rfl (Nat.le_of_ble_eq_true rfl) ?_
  conv => whnf
  intro b hb
  cases b
  · conv => whnf
    refine Branch.yes (by rw [hll]; simpa [Nat.blt_eq] using hp) ?_
    refine ⟨by rw [hll]; simp; omega, fun cap hc => ?_⟩
    rw [hll] at hc
    conv => whnf
    refine ⟨false, [0], ?_⟩
    conv => whnf
    refine ⟨cap, _, ?_, ?_, ?_, rfl⟩
    · simp at hc; omega
    · rw [List.length_replicate, hll]; simp
    · rw [hll]; simp
  · exfalso
    have : txsA l ≠ [] := fun e => by rw [e] at hll; simp at hll; omega
    exact absurd (hb this) (by decide)
theorem c_bcopyB (b : Bl) (hl : b.txs.length < 4294967296) (h0 : b.txs ≠ []) : FnOK Tryd.prog D 34 [(AV.st [.ar 32 .lf (by8 (b).p), .sc (.int .i64 (b).v), .sc (.int .i64 (b).h), .sc (.int .i64 (b).by_), .sl (.nd [.lf, .lf, .lf, .lf, .lf, .lf, .lf]) (txsA (b).txs) .ro])] [] (fun r st => ∃ (cap : Nat) (J : List AV), b.txs.length ≤ cap ∧ J.length = cap - b.txs.length ∧ r = .st [.ar 32 .lf (by8 b.p), (AV.sc (.int .i64 (b.v))), (AV.sc (.int .i64 (b.h))), (AV.sc (.int .i64 (b.by_))), .bs 0 [] (.nd [.lf, .lf, .lf, .lf, .lf, .lf, .lf]) 0 b.txs.length cap] ∧ st = [.ar cap (.nd [.lf, .lf, .lf, .lf, .lf, .lf, .lf]) (txsA b.txs ++ J)]) := by
  refine fnok_of_W hmix tabOK Tryd.func34 rfl rfl (Nat.le_of_ble_eq_true rfl) ?_
  conv => whnf
  refine (c_cloneB b.txs hl h0).mono fun r st e => ?_
  obtain ⟨cap, J, h1, h2, rfl, rfl⟩ := e
  conv => whnf
  refine ⟨false, [2], ?_⟩
  conv => whnf
  exact ⟨cap, J, h1, h2, rfl, rfl⟩
theorem c_equalB (l m : List Tx) (L : List AV) (cap : Nat) (hl : l.length < 4294967296) (hL : L.length = cap) (hm : m.length ≤ cap) (hLm : ∀ (i : Nat) (h : i < m.length), L[i]? = some (AV.st [.sc (.int .i64 (m[i]).f), .sc (.int .i64 (m[i]).n), .sc (.int .i64 (m[i]).k), .sc (.int .i64 (m[i]).to), .sc (.int .i64 (m[i]).am), .sc (.string (strB (m[i]).key)), .sc (.string (strB (m[i]).val))])) : FnOK Tryd.prog D 89 [(AV.sl (.nd [.lf, .lf, .lf, .lf, .lf, .lf, .lf]) (txsA (l)) .ro), .bs 0 [] (.nd [.lf, .lf, .lf, .lf, .lf, .lf, .lf]) 0 m.length cap] [.ar cap (.nd [.lf, .lf, .lf, .lf, .lf, .lf, .lf]) L] (fun r st => r = (AV.sc (.bool (decide (l = m)))) ∧ st = [.ar cap (.nd [.lf, .lf, .lf, .lf, .lf, .lf, .lf]) L]) := by
  have hll := lenT l
  refine fnok_of_W hmix tabOK Tryd.func89 rfl rfl (Nat.le_of_ble_eq_true rfl) ?_
  conv => whnf
  rw [hll]
  refine Branch.of (fun h1 => ?_) (fun h1 => ?_) <;> rw [h1] <;> conv => whnf
  · simp only [bne_iff_ne, ne_eq] at h1
    refine ⟨false, [], ?_⟩
    conv => whnf
    refine ⟨?_, rfl⟩
    rw [decide_eq_false (fun e : l = m => h1 (by rw [e]))]
  simp only [bne_eq_false_iff_eq] at h1
  rw [hll]
  refine ⟨false, [0, 1, 12, 13], fun τ => ∃ i : Nat, i ≤ l.length ∧ l.take i = m.take i ∧ τ = ⟨26, [(0, (AV.sl (.nd [.lf, .lf, .lf, .lf, .lf, .lf, .lf]) (txsA (l)) .ro)), (1, .bs 0 [] (.nd [.lf, .lf, .lf, .lf, .lf, .lf, .lf]) 0 m.length cap), (12, (AV.sc (.int .i64 ((l.length : Int))))), (13, (AV.sc (.int .i64 ((i : Int)))))], ⟨[(.ar cap (.nd [.lf, .lf, .lf, .lf, .lf, .lf, .lf]) L, false)], [], 0⟩⟩, fun τ => l.length - (slotI τ 13).toNat, ?_, ?_⟩
  · conv => whnf
    exact ⟨0, by omega, rfl, rfl⟩
  rintro τ ⟨i, hi, ht, rfl⟩
  conv => whnf
  refine Branch.of (fun h2 => ?_) (fun h2 => ?_) <;> rw [h2] <;> conv => whnf
  · simp only [decide_eq_true_eq] at h2
    have il : i < l.length := by omega
    have im : i < m.length := by omega
    have hx := hLm i im
    refine ⟨tabF89R6, by decide +kernel, ?_⟩
    conv => whnf
    repeat (refine And.intro (by first | omega) ?_; conv => whnf)
    refine ⟨_, atT il, ?_⟩
    conv => whnf
    repeat (refine And.intro (by first | omega) ?_; conv => whnf)
    first
      | (refine ⟨_, hx, ?_⟩; conv => whnf)
      | (refine ⟨_, show L[0 + (i : Int).toNat]? = _ by rw [Nat.zero_add, Int.toNat_natCast]; exact hx, ?_⟩; conv => whnf)
    rw [tx_eq]
    refine Branch.of (fun h3 => ?_) (fun h3 => ?_) <;> rw [h3] <;> conv => whnf
    · simp only [Bool.not_eq_true', decide_eq_false_iff_not] at h3
      refine ⟨false, [], ?_⟩
      conv => whnf
      refine ⟨?_, rfl⟩
      rw [decide_eq_false]
      intro e
      subst e
      exact h3 rfl
    · simp only [Bool.not_eq_false', decide_eq_true_eq] at h3
      rw [w64 (x := (i : Int) + 1) (by omega) (by omega)]
      refine ⟨⟨i + 1, by omega, take_eq il im ht h3, rfl⟩, ?_⟩
      show l.length - ((i : Int) + 1).toNat < l.length - (i : Int).toNat
      omega
  · simp only [decide_eq_false_iff_not] at h2
    rw [List.take_of_length_le (by omega), List.take_of_length_le (by omega)] at ht
    refine ⟨false, [], ?_⟩
    conv => whnf
    refine ⟨?_, rfl⟩
    rw [decide_eq_true ht]
theorem c_bsameB (a b : Bl) (L : List AV) (cap : Nat) (hl : a.txs.length < 4294967296) (hL : L.length = cap) (hm : b.txs.length ≤ cap) (hLm : ∀ (i : Nat) (h : i < b.txs.length), L[i]? = some (AV.st [.sc (.int .i64 (b.txs[i]).f), .sc (.int .i64 (b.txs[i]).n), .sc (.int .i64 (b.txs[i]).k), .sc (.int .i64 (b.txs[i]).to), .sc (.int .i64 (b.txs[i]).am), .sc (.string (strB (b.txs[i]).key)), .sc (.string (strB (b.txs[i]).val))])) : FnOK Tryd.prog D 33 [(AV.st [.ar 32 .lf (by8 (a).p), .sc (.int .i64 (a).v), .sc (.int .i64 (a).h), .sc (.int .i64 (a).by_), .sl (.nd [.lf, .lf, .lf, .lf, .lf, .lf, .lf]) (txsA (a).txs) .ro]), .st [.ar 32 .lf (by8 b.p), (AV.sc (.int .i64 (b.v))), (AV.sc (.int .i64 (b.h))), (AV.sc (.int .i64 (b.by_))), .bs 0 [] (.nd [.lf, .lf, .lf, .lf, .lf, .lf, .lf]) 0 b.txs.length cap]] [.ar cap (.nd [.lf, .lf, .lf, .lf, .lf, .lf, .lf]) L] (fun r st => r = (AV.sc (.bool (decide (a = b)))) ∧ st = [.ar cap (.nd [.lf, .lf, .lf, .lf, .lf, .lf, .lf]) L]) := by
  have e := bl_eq a b
  have ce := c_equalB a.txs b.txs L cap hl hL hm hLm
  refine fnok_of_Ws [36] hmix tabOK Tryd.func33 rfl rfl (Nat.le_of_ble_eq_true rfl) ?_
  conv => whnf
  refine ⟨a.p, b.p, rfl, rfl, ?_⟩
  conv => whnf
  repeat' (first
    | (refine (ce).mono fun r st e => ?_
       obtain ⟨rfl, rfl⟩ := e
       conv => whnf)
    | (refine And.intro (by omega) ?_
       conv => whnf)
    | (refine Branch.of (fun h => ?_) (fun h => ?_) <;> (rw [h]; conv => whnf)))
  all_goals refine ⟨false, [], ?_⟩
  all_goals conv => whnf
  all_goals refine ⟨?_, rfl⟩
  all_goals congr 2
  all_goals simp_all
def nonce (t : Tx) : Tx := ⟨t.f, -7, t.k, t.to, t.am, t.key, t.val⟩
def badB (b : Bl) (k : Nat) (h : k < b.txs.length) : Bl := ⟨b.p, b.v, b.h, b.by_, b.txs.set k (nonce b.txs[k])⟩
theorem bad_ne {b : Bl} {k : Nat} {h : k < b.txs.length} (hn : b.txs[k].n ≠ -7) : b ≠ badB b k h := by
  intro e
  have : b.txs = b.txs.set k (nonce b.txs[k]) := congrArg Bl.txs e
  have h2 : b.txs[k] = (b.txs.set k (nonce b.txs[k]))[k]'(by simpa using h) := by
    congr 1
  rw [List.getElem_set_self] at h2
  exact hn (by rw [h2]; rfl)
theorem c_bcopyL (b : Bl) (hl : b.txs.length < 4294967296) (h0 : b.txs ≠ []) : FnOK Tryd.prog D 34 [(AV.st [.ar 32 .lf (by8 (b).p), .sc (.int .i64 (b).v), .sc (.int .i64 (b).h), .sc (.int .i64 (b).by_), .sl (.nd [.lf, .lf, .lf, .lf, .lf, .lf, .lf]) (txsA (b).txs) .ro])] [] (fun r st => ∃ (cap : Nat) (L : List AV), b.txs.length ≤ cap ∧ L.length = cap ∧ (∀ (i : Nat) (h : i < b.txs.length), L[i]? = some (AV.st [.sc (.int .i64 (b.txs[i]).f), .sc (.int .i64 (b.txs[i]).n), .sc (.int .i64 (b.txs[i]).k), .sc (.int .i64 (b.txs[i]).to), .sc (.int .i64 (b.txs[i]).am), .sc (.string (strB (b.txs[i]).key)), .sc (.string (strB (b.txs[i]).val))])) ∧ r = .st [.ar 32 .lf (by8 b.p), (AV.sc (.int .i64 (b.v))), (AV.sc (.int .i64 (b.h))), (AV.sc (.int .i64 (b.by_))), .bs 0 [] (.nd [.lf, .lf, .lf, .lf, .lf, .lf, .lf]) 0 b.txs.length cap] ∧ st = [.ar cap (.nd [.lf, .lf, .lf, .lf, .lf, .lf, .lf]) L]) := by
  refine (c_bcopyB b hl h0).mono fun r st e => ?_
  obtain ⟨cap, J, h1, h2, rfl, rfl⟩ := e
  refine ⟨cap, _, h1, ?_, fun i h => ?_, rfl, rfl⟩
  · rw [List.length_append, lenT]; omega
  · rw [List.getElem?_append_left (by rw [lenT]; exact h)]
    simp [txsA, h]
theorem c_blockcopies_aux (a b : Bl) (x : UInt8) (H : List UInt8) (hn : a.txs ≠ [])
    (cw : FnOK Tryd.prog D 23 [] [] (fun r st => r = (AV.sc (.bool (true))) ∧ st = []))
    (ch : lightB a → FnOK Tryd.prog D 31 [(AV.st [.ar 32 .lf (by8 (a).p), .sc (.int .i64 (a).v), .sc (.int .i64 (a).h), .sc (.int .i64 (a).by_), .sl (.nd [.lf, .lf, .lf, .lf, .lf, .lf, .lf]) (txsA (a).txs) .ro])] [] (fun r st => r = .ar 32 .lf (by8 H) ∧ st = []))
    (cg : lightB a → FnOK Tryd.prog D 32 [(AV.st [.ar 32 .lf (by8 (a).p), .sc (.int .i64 (a).v), .sc (.int .i64 (a).h), .sc (.int .i64 (a).by_), .sl (.nd [.lf, .lf, .lf, .lf, .lf, .lf, .lf]) (txsA (a).txs) .ro])] [] (fun r st => r = .ar 32 .lf (by8 H) ∧ st = [])) :
    FnOK Tryd.prog D 6 [(AV.st [.ar 32 .lf (by8 (a).p), .sc (.int .i64 (a).v), .sc (.int .i64 (a).h), .sc (.int .i64 (a).by_), .sl (.nd [.lf, .lf, .lf, .lf, .lf, .lf, .lf]) (txsA (a).txs) .ro]), (AV.st [.ar 32 .lf (by8 (b).p), .sc (.int .i64 (b).v), .sc (.int .i64 (b).h), .sc (.int .i64 (b).by_), .sl (.nd [.lf, .lf, .lf, .lf, .lf, .lf, .lf]) (txsA (b).txs) .ro]), (AV.sc (.int .u8 ((x.toNat : Int))))] [] (fun r _ => r = (AV.sc (.bool (true)))) := by
  have hll := lenT a.txs
  have hp : 0 < a.txs.length := List.length_pos_iff.2 hn
  refine fnok_of_W hmix tabOK Tryd.func6 rfl rfl (Nat.le_of_ble_eq_true rfl) ?_
  conv => whnf
  refine (c_blight a).mono fun r st e => ?_
  obtain ⟨rfl | ⟨rfl, ha⟩, rfl⟩ := e
  · conv => whnf
    refine (cw).mono fun r st e => ?_
    obtain ⟨rfl, rfl⟩ := e
    conv => whnf
    refine ⟨false, [], ?_⟩
    conv => whnf
  conv => whnf
  refine (c_blight b).mono fun r st e => ?_
  obtain ⟨rfl | ⟨rfl, hb⟩, rfl⟩ := e
  · conv => whnf
    refine (cw).mono fun r st e => ?_
    obtain ⟨rfl, rfl⟩ := e
    conv => whnf
    refine ⟨false, [], ?_⟩
    conv => whnf
  have ch := ch ha
  have cg := cg ha
  have hla : a.txs.length < 4294967296 := by have := ha.1; omega
  have hlb : b.txs.length < 4294967296 := by have := hb.1; omega
  conv => whnf
  refine (c_bcopyL a hla hn).mono fun r st e => ?_
  obtain ⟨cap, L, h1, h2, h3, rfl, rfl⟩ := e
  conv => whnf
  refine (cg).mono fun r st e => ?_
  obtain ⟨rfl, rfl⟩ := e
  conv => whnf
  refine ⟨tabF6R5, by decide +kernel, ?_⟩
  conv => whnf
  refine ⟨_, _, c_bsameB a a L cap hla h2 h1 h3, ?_⟩
  conv => whnf
  rw [decide_eq_true rfl]
  conv => whnf
  refine ⟨_, _, c_bsame a b hla, ?_⟩
  conv => whnf
  refine ⟨_, _, c_bsame b a hlb, ?_⟩
  conv => whnf
  rw [show decide (b = a) = decide (a = b) by congr 1; exact propext eq_comm]
  refine Branch.of (fun h4 => ?_) (fun h4 => ?_) <;> rw [h4] <;> conv => whnf
  · simp at h4
  clear h4
  refine Branch.of (fun h5 => ?_) (fun h5 => ?_) <;> rw [h5] <;> conv => whnf
  rotate_left
  · simp only [gt_iff_lt, decide_eq_false_iff_not] at h5; omega
  clear h5
  refine ⟨tabF6R8, by decide +kernel, ?_⟩
  conv => whnf
  have hx := x.toNat_lt
  rw [w64 (x := (x.toNat : Int)) (by omega) (by omega)]
  have hk : x.toNat % a.txs.length < a.txs.length := Nat.mod_lt _ hp
  have ht : Int.tmod (x.toNat : Int) (a.txs.length : Int) = ((x.toNat % a.txs.length : Nat) : Int) := by
    rw [Int.tmod_eq_emod_of_nonneg (by omega)]; rfl
  generalize x.toNat % a.txs.length = k at hk ht
  refine ⟨by omega, ?_⟩
  conv => whnf
  rw [ht]
  try rw [w64 (x := (k : Int)) (by omega) (by omega)]
  repeat (refine And.intro (by first | omega) ?_; conv => whnf)
  refine ⟨_, show L[0 + ((k : Nat) : Int).toNat]? = some _ by rw [Nat.zero_add, Int.toNat_natCast]; exact h3 k hk, ?_⟩
  conv => whnf
  have h6 : ∀ (i : Nat) (h : i < (badB a k hk).txs.length), (L.set (0 + ((k : Nat) : Int).toNat) (AV.st [.sc (.int .i64 (nonce a.txs[k]).f), .sc (.int .i64 (nonce a.txs[k]).n), .sc (.int .i64 (nonce a.txs[k]).k), .sc (.int .i64 (nonce a.txs[k]).to), .sc (.int .i64 (nonce a.txs[k]).am), .sc (.string (strB (nonce a.txs[k]).key)), .sc (.string (strB (nonce a.txs[k]).val))]))[i]? = some (AV.st [.sc (.int .i64 ((badB a k hk).txs[i]).f), .sc (.int .i64 ((badB a k hk).txs[i]).n), .sc (.int .i64 ((badB a k hk).txs[i]).k), .sc (.int .i64 ((badB a k hk).txs[i]).to), .sc (.int .i64 ((badB a k hk).txs[i]).am), .sc (.string (strB ((badB a k hk).txs[i]).key)), .sc (.string (strB ((badB a k hk).txs[i]).val))]) := by
    intro i h
    have hi : i < a.txs.length := by simpa [badB] using h
    rw [Nat.zero_add, Int.toNat_natCast, List.getElem?_set]
    by_cases e : k = i
    · subst e
      rw [if_pos rfl, if_pos (by omega)]
      simp [badB]
    · rw [if_neg e, h3 i hi]
      simp [badB, List.getElem_set, e]
  have h7 : (L.set (0 + ((k : Nat) : Int).toNat) (AV.st [.sc (.int .i64 (nonce a.txs[k]).f), .sc (.int .i64 (nonce a.txs[k]).n), .sc (.int .i64 (nonce a.txs[k]).k), .sc (.int .i64 (nonce a.txs[k]).to), .sc (.int .i64 (nonce a.txs[k]).am), .sc (.string (strB (nonce a.txs[k]).key)), .sc (.string (strB (nonce a.txs[k]).val))])).length = cap := by rw [List.length_set, h2]
  have h8 : (badB a k hk).txs.length = a.txs.length := by simp [badB]
  obtain ⟨L2, hL2⟩ : ∃ L2, L2 = L.set (0 + ((k : Nat) : Int).toNat) (AV.st [.sc (.int .i64 (nonce a.txs[k]).f), .sc (.int .i64 (nonce a.txs[k]).n), .sc (.int .i64 (nonce a.txs[k]).k), .sc (.int .i64 (nonce a.txs[k]).to), .sc (.int .i64 (nonce a.txs[k]).am), .sc (.string (strB (nonce a.txs[k]).key)), .sc (.string (strB (nonce a.txs[k]).val))]) := ⟨_, rfl⟩
  rw [← hL2] at h6 h7
  subst hL2
  have hs := c_bsameB a (badB a k hk) _ cap hla h7 (by rw [h8]; exact h1) h6
  rw [h8] at hs
  conv => whnf
  refine ⟨tabF6R9, by decide +kernel, ?_⟩
  conv => whnf
  refine ⟨_, _, ch, ?_⟩
  conv => whnf
  refine ⟨H, H, rfl, rfl, ?_⟩
  conv => whnf
  rw [beq_self_eq_true]
  conv => whnf
  rw [hll]
  refine Branch.of (fun hh => ?_) (fun hh => ?_)
  · exfalso; simp only [gt_iff_lt, ge_iff_le, decide_eq_true_eq, decide_eq_false_iff_not, beq_iff_eq, beq_eq_false_iff_ne, bne_iff_ne, bne_eq_false_iff_eq, ne_eq] at hh; first | done | omega | (simp at hh; done)
  try rw [hh]
  clear hh
  conv => whnf
  rw [w64 (x := (x.toNat : Int)) (by omega) (by omega)]
  refine ⟨by omega, ?_⟩
  conv => whnf
  rw [hll, ht]
  repeat (refine And.intro (by first | omega) ?_; conv => whnf)
  refine ⟨_, atT hk, ?_⟩
  conv => whnf
  refine Branch.of (fun h9 => ?_) (fun h9 => ?_) <;> rw [h9] <;> conv => whnf
  · refine ⟨_, _, cw, ?_⟩
    conv => whnf
    refine ⟨false, [], ?_⟩
    conv => whnf
  · refine ⟨_, _, hs, ?_⟩
    conv => whnf
    rw [decide_eq_false (bad_ne (by simpa using h9))]
    conv => whnf
    refine ⟨_, _, cw, ?_⟩
    conv => whnf
    refine ⟨false, [], ?_⟩
    conv => whnf
theorem c_blockcopies0_aux (a b : Bl) (x : UInt8) (H : List UInt8) (hn : a.txs = [])
    (cw : FnOK Tryd.prog D 23 [] [] (fun r st => r = (AV.sc (.bool (true))) ∧ st = []))
    (cc : lightB a → FnOK Tryd.prog D 34 [(AV.st [.ar 32 .lf (by8 (a).p), .sc (.int .i64 (a).v), .sc (.int .i64 (a).h), .sc (.int .i64 (a).by_), .sl (.nd [.lf, .lf, .lf, .lf, .lf, .lf, .lf]) (txsA (a).txs) .ro])] [] (fun r st => r = (AV.st [.ar 32 .lf (by8 (a).p), .sc (.int .i64 (a).v), .sc (.int .i64 (a).h), .sc (.int .i64 (a).by_), .sl (.nd [.lf, .lf, .lf, .lf, .lf, .lf, .lf]) (txsA (a).txs) .ro]) ∧ st = []))
    (ch : lightB a → FnOK Tryd.prog D 31 [(AV.st [.ar 32 .lf (by8 (a).p), .sc (.int .i64 (a).v), .sc (.int .i64 (a).h), .sc (.int .i64 (a).by_), .sl (.nd [.lf, .lf, .lf, .lf, .lf, .lf, .lf]) (txsA (a).txs) .ro])] [] (fun r st => r = .ar 32 .lf (by8 H) ∧ st = []))
    (cg : lightB a → FnOK Tryd.prog D 32 [(AV.st [.ar 32 .lf (by8 (a).p), .sc (.int .i64 (a).v), .sc (.int .i64 (a).h), .sc (.int .i64 (a).by_), .sl (.nd [.lf, .lf, .lf, .lf, .lf, .lf, .lf]) (txsA (a).txs) .ro])] [] (fun r st => r = .ar 32 .lf (by8 H) ∧ st = [])) :
    FnOK Tryd.prog D 6 [(AV.st [.ar 32 .lf (by8 (a).p), .sc (.int .i64 (a).v), .sc (.int .i64 (a).h), .sc (.int .i64 (a).by_), .sl (.nd [.lf, .lf, .lf, .lf, .lf, .lf, .lf]) (txsA (a).txs) .ro]), (AV.st [.ar 32 .lf (by8 (b).p), .sc (.int .i64 (b).v), .sc (.int .i64 (b).h), .sc (.int .i64 (b).by_), .sl (.nd [.lf, .lf, .lf, .lf, .lf, .lf, .lf]) (txsA (b).txs) .ro]), (AV.sc (.int .u8 ((x.toNat : Int))))] [] (fun r _ => r = (AV.sc (.bool (true)))) := by
  have hll : (txsA a.txs).length = 0 := by rw [hn]; rfl
  refine fnok_of_W hmix tabOK Tryd.func6 rfl rfl (Nat.le_of_ble_eq_true rfl) ?_
  conv => whnf
  refine (c_blight a).mono fun r st e => ?_
  obtain ⟨rfl | ⟨rfl, ha⟩, rfl⟩ := e
  · conv => whnf
    refine (cw).mono fun r st e => ?_
    obtain ⟨rfl, rfl⟩ := e
    conv => whnf
    refine ⟨false, [], ?_⟩
    conv => whnf
  conv => whnf
  refine (c_blight b).mono fun r st e => ?_
  obtain ⟨rfl | ⟨rfl, hb⟩, rfl⟩ := e
  · conv => whnf
    refine (cw).mono fun r st e => ?_
    obtain ⟨rfl, rfl⟩ := e
    conv => whnf
    refine ⟨false, [], ?_⟩
    conv => whnf
  have ch := ch ha
  have cg := cg ha
  have cc := cc ha
  have hla : a.txs.length < 4294967296 := by have := ha.1; omega
  have hlb : b.txs.length < 4294967296 := by have := hb.1; omega
  conv => whnf
  refine (cc).mono fun r st e => ?_
  obtain ⟨rfl, rfl⟩ := e
  conv => whnf
  refine (cg).mono fun r st e => ?_
  obtain ⟨rfl, rfl⟩ := e
  conv => whnf
  refine ⟨tabF6R5, by decide +kernel, ?_⟩
  conv => whnf
  refine ⟨_, _, c_bsame a a hla, ?_⟩
  conv => whnf
  rw [decide_eq_true rfl]
  conv => whnf
  refine ⟨_, _, c_bsame a b hla, ?_⟩
  conv => whnf
  refine ⟨_, _, c_bsame b a hlb, ?_⟩
  conv => whnf
  rw [show decide (b = a) = decide (a = b) by congr 1; exact propext eq_comm]
  refine Branch.of (fun h4 => ?_) (fun h4 => ?_) <;> rw [h4] <;> conv => whnf
  · simp at h4
  clear h4
  rw [hll]
  conv => whnf
  refine ⟨tabF6R9, by decide +kernel, ?_⟩
  conv => whnf
  refine ⟨_, _, ch, ?_⟩
  conv => whnf
  refine ⟨H, H, rfl, rfl, ?_⟩
  conv => whnf
  rw [beq_self_eq_true]
  conv => whnf
  rw [hll]
  conv => whnf
  refine ⟨_, _, cw, ?_⟩
  conv => whnf
  refine ⟨false, [], ?_⟩
  conv => whnf
theorem c_blockcopies (a b : Bl) (x : UInt8) (hp : a.p.length = 32) :
    FnOK Tryd.prog D 6 [(AV.st [.ar 32 .lf (by8 (a).p), .sc (.int .i64 (a).v), .sc (.int .i64 (a).h), .sc (.int .i64 (a).by_), .sl (.nd [.lf, .lf, .lf, .lf, .lf, .lf, .lf]) (txsA (a).txs) .ro]), (AV.st [.ar 32 .lf (by8 (b).p), .sc (.int .i64 (b).v), .sc (.int .i64 (b).h), .sc (.int .i64 (b).by_), .sl (.nd [.lf, .lf, .lf, .lf, .lf, .lf, .lf]) (txsA (b).txs) .ro]), (AV.sc (.int .u8 ((x.toNat : Int))))] [] (fun r _ => r = (AV.sc (.bool (true)))) := by
  have hs : lightB a → shortK a.txs := fun h t ht => by have := (h.2 t ht).1; omega
  have hl : lightB a → a.txs.length < 4294967296 := fun h => by have := h.1; omega
  by_cases hn : a.txs = []
  · exact c_blockcopies0_aux a b x (blH a) hn c_awake7 (fun h => c_bcopy a (hl h)) (fun h => c_bhash a (hl h) (hs h) hp) (fun h => c_bhashR a (hl h) (hs h) hp)
  · exact c_blockcopies_aux a b x (blH a) hn c_awake7 (fun h => c_bhash a (hl h) (hs h) hp) (fun h => c_bhashR a (hl h) (hs h) hp)
end Go.WL.T6d
