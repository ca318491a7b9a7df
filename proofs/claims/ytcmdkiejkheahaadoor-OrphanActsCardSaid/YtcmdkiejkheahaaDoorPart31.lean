/- Which block bytes are, by the reference. No condition. -/
import Derived.Test.YtcmdkiejkheahaaDoorPart30
set_option linter.unusedVariables false
set_option linter.unusedSimpArgs false
namespace Go.WL.T6d
open Go.WL Go.Proofs
set_option maxRecDepth 20000
set_option maxHeartbeats 8000000
def hshR (B : List UInt8) (s : PS) : List UInt8 × PS := ((fhash B s.1 s.2).1, (fhash B s.1 s.2).2.1, (fhash B s.1 s.2).2.2)
theorem hsh_rs (B : List UInt8) (s : PS) : hsh (rs B s) = ((hshR B s).1, rs B (hshR B s).2) := by
  unfold hsh hshR rs
  rw [fhash_rhash]
theorem c_hshR (B : List UInt8) (s : PS) (hB : B.length < 1000000000) (hs : s.1 ≤ B.length) : FnOK Tryd.prog D 82 [.st [(AV.sl .lf (by8 (B)) .ro), (AV.sc (.int .i64 ((s.1 : Int)))), (AV.sc (.bool (s.2)))]] [] (fun r st => r = .tup [.st [(AV.sl .lf (by8 (B)) .ro), (AV.sc (.int .i64 (((hshR B s).2.1 : Int)))), (AV.sc (.bool ((hshR B s).2.2)))], .ar 32 .lf (by8 (hshR B s).1)] ∧ st = []) := c_readhash B s.1 s.2 (by omega) hs
def rdTxsR (B : List UInt8) : Nat → PS → Option (List Tx × PS)
  | 0, s => some ([], s)
  | n + 1, s => if readOK (rs B s) = true then (rdTxsR B n (rawR B s).2).map fun x => ((rawR B s).1 :: x.1, x.2) else none
theorem rdTxs_rs (B : List UInt8) : ∀ (n : Nat) (s : PS), rdTxs n (rs B s) = (rdTxsR B n s).map fun x => (x.1, rs B x.2)
  | 0, s => rfl
  | n + 1, s => by
    unfold rdTxs rdTxsR
    by_cases h : readOK (rs B s) = true
    · rw [if_pos h, if_pos h, raw_rs]
      simp only
      rw [rdTxs_rs B n]
      cases rdTxsR B n (rawR B s).2 <;> rfl
    · rw [if_neg h, if_neg h]
      rfl
theorem c_bgetR_aux (T : List UInt8) (s1 s2 s3 s4 s5 : PS) (p : List UInt8) (v h y n : Nat) (hT : T.length < 100000000) (hs : s5.1 ≤ T.length) (hn : n ≤ 8) (hp : p.length = 32) (G : Bl) (ok : Bool)
    (ch : FnOK Tryd.prog D 82 [.st [(AV.sl .lf (by8 (T)) .ro), (AV.sc (.int .i64 (0))), (AV.sc (.bool (false)))]] [] (fun r st => r = .tup [.st [(AV.sl .lf (by8 (T)) .ro), (AV.sc (.int .i64 ((s1.1 : Int)))), (AV.sc (.bool (s1.2)))], .ar 32 .lf (by8 p)] ∧ st = []))
    (c1 : FnOK Tryd.prog D 83 [.st [(AV.sl .lf (by8 (T)) .ro), (AV.sc (.int .i64 ((s1.1 : Int)))), (AV.sc (.bool (s1.2)))], (AV.sc (.int .i64 (1099511627776)))] [] (fun r st => r = .tup [.st [(AV.sl .lf (by8 (T)) .ro), (AV.sc (.int .i64 ((s2.1 : Int)))), (AV.sc (.bool (s2.2)))], (AV.sc (.int .i64 ((v : Int))))] ∧ st = []))
    (c2 : FnOK Tryd.prog D 83 [.st [(AV.sl .lf (by8 (T)) .ro), (AV.sc (.int .i64 ((s2.1 : Int)))), (AV.sc (.bool (s2.2)))], (AV.sc (.int .i64 (1099511627776)))] [] (fun r st => r = .tup [.st [(AV.sl .lf (by8 (T)) .ro), (AV.sc (.int .i64 ((s3.1 : Int)))), (AV.sc (.bool (s3.2)))], (AV.sc (.int .i64 ((h : Int))))] ∧ st = []))
    (c3 : FnOK Tryd.prog D 83 [.st [(AV.sl .lf (by8 (T)) .ro), (AV.sc (.int .i64 ((s3.1 : Int)))), (AV.sc (.bool (s3.2)))], (AV.sc (.int .i64 (21)))] [] (fun r st => r = .tup [.st [(AV.sl .lf (by8 (T)) .ro), (AV.sc (.int .i64 ((s4.1 : Int)))), (AV.sc (.bool (s4.2)))], (AV.sc (.int .i64 ((y : Int))))] ∧ st = []))
    (c4 : FnOK Tryd.prog D 83 [.st [(AV.sl .lf (by8 (T)) .ro), (AV.sc (.int .i64 ((s4.1 : Int)))), (AV.sc (.bool (s4.2)))], (AV.sc (.int .i64 (8)))] [] (fun r st => r = .tup [.st [(AV.sl .lf (by8 (T)) .ro), (AV.sc (.int .i64 ((s5.1 : Int)))), (AV.sc (.bool (s5.2)))], (AV.sc (.int .i64 ((n : Int))))] ∧ st = []))
    (hno : rdTxsR T n s5 = none → G = b0 ∧ ok = false)
    (hyes : ∀ l z, rdTxsR T n s5 = some (l, z) → shortK l ∧ l.length ≤ 8 ∧ ((z.2 = false ∧ mayB ⟨p, v, h, y, l⟩ = true ∧ blB ⟨p, v, h, y, l⟩ = T ∧ G = ⟨p, v, h, y, l⟩ ∧ ok = true) ∨ ((z.2 = true ∨ mayB ⟨p, v, h, y, l⟩ = false ∨ blB ⟨p, v, h, y, l⟩ ≠ T) ∧ G = b0 ∧ ok = false))) :
    FnOK Tryd.prog D 25 [(AV.sl .lf (by8 (T)) .ro)] [] (fun r st => ((ok = true ∧ r = .tup [(AV.st [.ar 32 .lf (by8 (G).p), .sc (.int .i64 (G).v), .sc (.int .i64 (G).h), .sc (.int .i64 (G).by_), .sl (.nd [.lf, .lf, .lf, .lf, .lf, .lf, .lf]) (txsA (G).txs) .ro]), (AV.sc (.bool (true)))]) ∨ (ok = false ∧ r = .tup [.st [.ar 32 .lf (List.replicate 32 (AV.sc (.int .u8 (0)))), (AV.sc (.int .i64 (0))), (AV.sc (.int .i64 (0))), (AV.sc (.int .i64 (0))), .sl (.nd [.lf, .lf, .lf, .lf, .lf, .lf, .lf]) [] .ex], (AV.sc (.bool (false)))])) ∧ st = []) := by
  refine fnok_of_W hmix tabOK Tryd.func25 rfl rfl (Nat.le_of_ble_eq_true rfl) ?_
  conv => whnf
  refine (ch).mono fun r st e => ?_
  obtain ⟨rfl, rfl⟩ := e
  conv => whnf
  refine (c1).mono fun r st e => ?_
  obtain ⟨rfl, rfl⟩ := e
  conv => whnf
  refine (c2).mono fun r st e => ?_
  obtain ⟨rfl, rfl⟩ := e
  conv => whnf
  refine (c3).mono fun r st e => ?_
  obtain ⟨rfl, rfl⟩ := e
  conv => whnf
  refine (c4).mono fun r st e => ?_
  obtain ⟨rfl, rfl⟩ := e
  conv => whnf
  refine ⟨true, [0, 2, 4, 5, 6, 7], fun τ => ∃ (i : Nat) (l : List Tx) (s : PS), i ≤ n ∧ l.length = i ∧ s.1 ≤ T.length ∧ rdTxsR T n s5 = (rdTxsR T (n - i) s).map (fun x => (l ++ x.1, x.2)) ∧ τ = ⟨80, [(0, (AV.sl .lf (by8 (T)) .ro)), (2, .pt 0 []), (4, .pt 1 []), (5, (AV.sc (.int .i64 ((n : Int))))), (6, .pt 2 []), (7, (AV.sc (.int .i64 ((i : Int)))))], ⟨[(.st [.ar 32 .lf (List.replicate 32 (AV.sc (.int .u8 (0)))), (AV.sc (.int .i64 (0))), (AV.sc (.int .i64 (0))), (AV.sc (.int .i64 (0))), .sl (.nd [.lf, .lf, .lf, .lf, .lf, .lf, .lf]) [] (.own 0)], false), (.st [.ar 32 .lf (by8 p), (AV.sc (.int .i64 ((v : Int)))), (AV.sc (.int .i64 ((h : Int)))), (AV.sc (.int .i64 ((y : Int)))), .sl (.nd [.lf, .lf, .lf, .lf, .lf, .lf, .lf]) (txsA l) (.own 1)], false), (.st [(AV.sl .lf (by8 (T)) .ro), (AV.sc (.int .i64 ((s.1 : Int)))), (AV.sc (.bool (s.2)))], false)], [0, 1], 2⟩⟩, fun τ => n - (slotI τ 7).toNat, ?_, ?_⟩
  · conv => whnf
    refine ⟨0, [], s5, by omega, rfl, hs, ?_, rfl⟩
    cases rdTxsR T n s5 <;> rfl
  rintro τ ⟨i, l, s, hi, hli, hsl, hrd, rfl⟩
  have hll := lenT l
  conv => whnf
  refine Branch.of (fun h1 => ?_) (fun h1 => ?_) <;> rw [h1] <;> conv => whnf
  · simp only [decide_eq_true_eq] at h1
    have hin : i < n := by omega
    obtain ⟨k, hk⟩ : ∃ k, n - i = k + 1 := ⟨n - i - 1, by omega⟩
    have e0 : rdTxsR T (n - i) s = if readOK (rs T s) = true then (rdTxsR T k (rawR T s).2).map fun x => ((rawR T s).1 :: x.1, x.2) else none := by rw [hk]; rfl
    refine (c_txreadR T s (by omega) hsl).mono fun r st e => ?_
    obtain ⟨rfl, rfl⟩ := e
    conv => whnf
    cases hok : readOK (rs T s)
    · rw [hok, if_neg (by simp)] at e0
      rw [e0] at hrd
      obtain ⟨rfl, rfl⟩ := hno hrd
      conv => whnf
      refine ⟨false, [], ?_⟩
      conv => whnf
      exact ⟨.inr ⟨rfl, rfl⟩, rfl⟩
    · rw [hok, if_pos rfl] at e0
      have eo : outT (rs T s) = (rawR T s).1 := by unfold outT; rw [hok, if_pos rfl, raw_rs]
      rw [eo]
      conv => whnf
      refine And.intro (by rw [hll]; show _ + 1 < _; omega) ?_
      conv => whnf
      rw [w64 (x := (i : Int) + 1) (by omega) (by omega)]
      refine ⟨⟨i + 1, l ++ [(rawR T s).1], (rawR T s).2, by omega, by simp [hli], rawR_at T s hsl, ?_, ?_⟩, ?_⟩
      · rw [hrd, e0, show n - (i + 1) = k by omega]
        cases rdTxsR T k (rawR T s).2 <;> simp
      · rw [show txsA (l ++ [(rawR T s).1]) = txsA l ++ [(AV.st [.sc (.int .i64 ((rawR T s).1).f), .sc (.int .i64 ((rawR T s).1).n), .sc (.int .i64 ((rawR T s).1).k), .sc (.int .i64 ((rawR T s).1).to), .sc (.int .i64 ((rawR T s).1).am), .sc (.string (strB ((rawR T s).1).key)), .sc (.string (strB ((rawR T s).1).val))])] by simp [txsA]]
        rfl
      · show n - ((i : Int) + 1).toNat < n - (i : Int).toNat
        omega
  simp only [decide_eq_false_iff_not] at h1
  obtain rfl : i = n := by omega
  rw [Nat.sub_self] at hrd
  obtain ⟨hsk, hl8, hcase⟩ := hyes l s (by rw [hrd]; simp [rdTxsR])
  have hlk : l.length < 4294967296 := by omega
  have cm := c_bmayR ⟨p, v, h, y, l⟩ hlk hsk
  cases hw : s.2
  rotate_left
  · have : G = b0 ∧ ok = false := by
      rcases hcase with ⟨h2, _⟩ | ⟨_, h3⟩
      · rw [hw] at h2; cases h2
      · exact h3
    obtain ⟨rfl, rfl⟩ := this
    conv => whnf
    refine ⟨false, [], ?_⟩
    conv => whnf
    exact ⟨.inr ⟨rfl, rfl⟩, rfl⟩
  cases hm : mayB ⟨p, v, h, y, l⟩
  · have : G = b0 ∧ ok = false := by
      rcases hcase with ⟨_, h2, _⟩ | ⟨_, h3⟩
      · rw [hm] at h2; cases h2
      · exact h3
    obtain ⟨rfl, rfl⟩ := this
    rw [hm] at cm
    conv => whnf
    refine (cm).mono fun r st e => ?_
    obtain ⟨rfl, rfl⟩ := e
    conv => whnf
    refine ⟨false, [], ?_⟩
    conv => whnf
    exact ⟨.inr ⟨rfl, rfl⟩, rfl⟩
  rw [hm] at cm
  have hbl := blB_len hm hp
  conv => whnf
  refine (cm).mono fun r st e => ?_
  obtain ⟨rfl, rfl⟩ := e
  conv => whnf
  refine (c_bputR ⟨p, v, h, y, l⟩ hm hp).mono fun r st e => ?_
  obtain ⟨rfl, rfl⟩ := e
  conv => whnf
  generalize blB ⟨p, v, h, y, l⟩ = P at *
  refine (c_same P T (by omega) (.inr rfl) (.inr rfl)).mono fun r st e => ?_
  obtain ⟨rfl, rfl⟩ := e
  conv => whnf
  cases he : P == T
  · have : G = b0 ∧ ok = false := by
      rcases hcase with ⟨_, _, h2, _⟩ | ⟨_, h3⟩
      · rw [h2, beq_self_eq_true] at he; cases he
      · exact h3
    obtain ⟨rfl, rfl⟩ := this
    conv => whnf
    refine ⟨false, [], ?_⟩
    conv => whnf
    exact ⟨.inr ⟨rfl, rfl⟩, rfl⟩
  · have : G = ⟨p, v, h, y, l⟩ ∧ ok = true := by
      rcases hcase with ⟨_, _, _, h3⟩ | ⟨h2, _⟩
      · exact h3
      · rcases h2 with h2 | h2 | h2
        · rw [hw] at h2; cases h2
        · rw [hm] at h2; cases h2
        · exact absurd (beq_iff_eq.1 he) h2
    obtain ⟨rfl, rfl⟩ := this
    conv => whnf
    refine ⟨false, [], ?_⟩
    conv => whnf
    exact ⟨.inl ⟨rfl, rfl⟩, rfl⟩
/-- What is read is what is put: all of it. -/
theorem rawB_back {T : List UInt8} {b : Bl} {z : RS} (h : rawB (T, false) = some (b, z)) (hz : z.2 = false) : T = blB b ++ z.1 ∧ b.p.length = 32 := by
  have e : rawB (T, false) = (rdTxs (up (up (up (up (hsh (T, false)).2 1099511627776).2 1099511627776).2 21).2 8).1 (up (up (up (up (hsh (T, false)).2 1099511627776).2 1099511627776).2 21).2 8).2).map fun x => (⟨(hsh (T, false)).1, (up (hsh (T, false)).2 1099511627776).1, (up (up (hsh (T, false)).2 1099511627776).2 1099511627776).1, (up (up (up (hsh (T, false)).2 1099511627776).2 1099511627776).2 21).1, x.1⟩, x.2) := rfl
  rw [e] at h
  obtain ⟨x, hx, ex⟩ := Option.map_eq_some_iff.1 h
  obtain ⟨rfl, rfl⟩ := Prod.mk.inj ex
  obtain ⟨f1, f2, f3, f4⟩ := rdTxs_facts _ _ x.1 x.2 hx
  have hw : (up (up (up (up (hsh (T, false)).2 1099511627776).2 1099511627776).2 21).2 8).2.2 = false := by
    rcases Nat.eq_zero_or_pos (up (up (up (up (hsh (T, false)).2 1099511627776).2 1099511627776).2 21).2 8).1 with h0 | h0
    · rw [h0] at hx
      have : some (([] : List Tx), (up (up (up (up (hsh (T, false)).2 1099511627776).2 1099511627776).2 21).2 8).2) = some x := hx
      have := congrArg Prod.snd (Option.some.inj this)
      simp only at this
      rw [this]
      exact hz
    · exact (f4 h0).1
  obtain ⟨a1, a2⟩ := up_back hw
  obtain ⟨b1, b2⟩ := up_back a1
  obtain ⟨d1, d2⟩ := up_back b1
  obtain ⟨e1, e2⟩ := up_back d1
  have hh : T = (hsh (T, false)).1 ++ (hsh (T, false)).2.1 := by
    unfold hsh rhash at e1 ⊢
    split at e1
    · simp at e1
    · rename_i c
      rw [if_neg c]
      exact (List.take_append_drop 32 T).symm
  refine ⟨?_, (hsh_len (T, false)).1⟩
  show T = (hsh (T, false)).1 ++ num _ ++ num _ ++ num _ ++ num x.1.length ++ txsB x.1 ++ x.2.1
  rw [f1]
  simp only [Int.toNat_natCast, List.append_assoc]
  rw [← f3, ← a2, ← b2, ← d2, ← e2]
  exact hh
theorem c_bgetR (T : List UInt8) (hT : T.length < 100000000) : FnOK Tryd.prog D 25 [(AV.sl .lf (by8 (T)) .ro)] [] (fun r st => (((getB T).2 = true ∧ r = .tup [(AV.st [.ar 32 .lf (by8 ((getB T).1).p), .sc (.int .i64 ((getB T).1).v), .sc (.int .i64 ((getB T).1).h), .sc (.int .i64 ((getB T).1).by_), .sl (.nd [.lf, .lf, .lf, .lf, .lf, .lf, .lf]) (txsA ((getB T).1).txs) .ro]), (AV.sc (.bool (true)))]) ∨ ((getB T).2 = false ∧ r = .tup [.st [.ar 32 .lf (List.replicate 32 (AV.sc (.int .u8 (0)))), (AV.sc (.int .i64 (0))), (AV.sc (.int .i64 (0))), (AV.sc (.int .i64 (0))), .sl (.nd [.lf, .lf, .lf, .lf, .lf, .lf, .lf]) [] .ex], (AV.sc (.bool (false)))])) ∧ st = []) := by
  have t0 : rs T (0, false) = (T, false) := rfl
  have a0 := hsh_rs T (0, false)
  rw [t0] at a0
  have u := fun (s : PS) (top : Int) => up_rs T s top
  have at0 : (hshR T (0, false)).2.1 ≤ T.length := fhash_at T 0 false (Nat.zero_le _)
  have at1 : (upR T (hshR T (0, false)).2 1099511627776).2.1 ≤ T.length := fupto_at T _ _ _ at0
  have at2 : (upR T (upR T (hshR T (0, false)).2 1099511627776).2 1099511627776).2.1 ≤ T.length := fupto_at T _ _ _ at1
  have at3 : (upR T (upR T (upR T (hshR T (0, false)).2 1099511627776).2 1099511627776).2 21).2.1 ≤ T.length := fupto_at T _ _ _ at2
  have at4 : (upR T (upR T (upR T (upR T (hshR T (0, false)).2 1099511627776).2 1099511627776).2 21).2 8).2.1 ≤ T.length := fupto_at T _ _ _ at3
  have n8 : (upR T (upR T (upR T (upR T (hshR T (0, false)).2 1099511627776).2 1099511627776).2 21).2 8).1 ≤ 8 := by
    have := fupto_le T (upR T (upR T (upR T (hshR T (0, false)).2 1099511627776).2 1099511627776).2 21).2.1 (upR T (upR T (upR T (hshR T (0, false)).2 1099511627776).2 1099511627776).2 21).2.2 8 (by decide)
    simp only [upR] at *
    omega
  have p32 : (hshR T (0, false)).1.length = 32 := by
    have := (hsh_len (T, false)).1
    rw [a0] at this
    exact this
  have e : rawB (T, false) = (rdTxsR T (upR T (upR T (upR T (upR T (hshR T (0, false)).2 1099511627776).2 1099511627776).2 21).2 8).1 (upR T (upR T (upR T (upR T (hshR T (0, false)).2 1099511627776).2 1099511627776).2 21).2 8).2).map fun x => (⟨(hshR T (0, false)).1, (upR T (hshR T (0, false)).2 1099511627776).1, (upR T (upR T (hshR T (0, false)).2 1099511627776).2 1099511627776).1, (upR T (upR T (upR T (hshR T (0, false)).2 1099511627776).2 1099511627776).2 21).1, x.1⟩, rs T x.2) := by
    unfold rawB
    simp only [a0, u, rdTxs_rs]
    cases rdTxsR T (upR T (upR T (upR T (upR T (hshR T (0, false)).2 1099511627776).2 1099511627776).2 21).2 8).1 (upR T (upR T (upR T (upR T (hshR T (0, false)).2 1099511627776).2 1099511627776).2 21).2 8).2 <;> rfl
  refine c_bgetR_aux T _ _ _ _ _ _ _ _ _ _ hT at4 n8 p32 (getB T).1 (getB T).2 (c_hshR T (0, false) (by omega) (Nat.zero_le _)) (c_upR T _ _ (by decide) (by omega) at0) (c_upR T _ _ (by decide) (by omega) at1) (c_upR T _ _ (by decide) (by omega) at2) (c_upR T _ _ (by decide) (by omega) at3) (fun h => ?_) (fun l z h => ?_)
  · rw [h] at e
    unfold getB
    rw [e]
    exact ⟨rfl, rfl⟩
  · rw [h] at e
    simp only [Option.map_some] at e
    have hr : rdTxs (upR T (upR T (upR T (upR T (hshR T (0, false)).2 1099511627776).2 1099511627776).2 21).2 8).1 (rs T (upR T (upR T (upR T (upR T (hshR T (0, false)).2 1099511627776).2 1099511627776).2 21).2 8).2) = some (l, rs T z) := by rw [rdTxs_rs, h]; rfl
    obtain ⟨f1, f2, f3, f4⟩ := rdTxs_facts _ _ l _ hr
    refine ⟨fun t ht => by have := (may_facts (f2 t ht)).2.2.2.1; omega, by omega, ?_⟩
    have back := fun hz => rawB_back e hz
    unfold getB
    rw [e]
    simp only
    generalize (⟨(hshR T (0, false)).1, (upR T (hshR T (0, false)).2 1099511627776).1, (upR T (upR T (hshR T (0, false)).2 1099511627776).2 1099511627776).1, (upR T (upR T (upR T (hshR T (0, false)).2 1099511627776).2 1099511627776).2 21).1, l⟩ : Bl) = b at *
    by_cases hz : z.2 = false
    · obtain ⟨bk, _⟩ := back hz
      by_cases hm : mayB b = true
      · by_cases he : blB b = T
        · refine .inl ⟨hz, hm, he, ?_⟩
          have h1 : (rs T z).1 = [] := by
            have h2 := congrArg List.length bk
            rw [List.length_append, he] at h2
            exact List.eq_nil_of_length_eq_zero (by omega)
          rw [if_pos ⟨hz, h1, hm⟩]
          exact ⟨rfl, rfl⟩
        · refine .inr ⟨.inr (.inr he), ?_⟩
          rw [if_neg]
          · exact ⟨rfl, rfl⟩
          · intro c
            rw [c.2.1, List.append_nil] at bk
            exact he bk.symm
      · refine .inr ⟨.inr (.inl (by simpa using hm)), ?_⟩
        rw [if_neg (fun c => hm c.2.2)]
        exact ⟨rfl, rfl⟩
    · refine .inr ⟨.inl (by simpa using hz), ?_⟩
      rw [if_neg (fun c => hz c.1)]
      exact ⟨rfl, rfl⟩
end Go.WL.T6d
