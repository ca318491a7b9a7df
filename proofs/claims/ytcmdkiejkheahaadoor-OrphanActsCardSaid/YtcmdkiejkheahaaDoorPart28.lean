/- A block's bytes. No condition. -/
import Derived.Test.YtcmdkiejkheahaaDoorPart27
set_option linter.unusedVariables false
set_option linter.unusedSimpArgs false
namespace Go.WL.T6d
open Go.WL Go.Proofs
set_option maxRecDepth 20000
set_option maxHeartbeats 8000000
def txsB (l : List Tx) : List UInt8 := l.flatMap txB
theorem txsB_len : ∀ l : List Tx, l.all mayT = true → (txsB l).length ≤ 300 * l.length
  | [], _ => by simp [txsB]
  | t :: l, h => by
    simp only [List.all_cons, Bool.and_eq_true] at h
    have h1 := txB_len h.1
    have h2 := txsB_len l h.2
    have e : txsB (t :: l) = txB t ++ txsB l := rfl
    rw [e, List.length_append, List.length_cons]
    omega
theorem txsB_snoc {l : List Tx} {i : Nat} (h : i < l.length) : txsB (l.take (i + 1)) = txsB (l.take i) ++ txB l[i] := by
  rw [List.take_succ_eq_append_getElem h, txsB, List.flatMap_append]
  simp [txsB]
theorem take_mayT {l : List Tx} (h : l.all mayT = true) (i : Nat) : (l.take i).all mayT = true := by
  rw [List.all_eq_true] at h ⊢
  exact fun t ht => h t (List.mem_of_mem_take ht)
def blB (b : Bl) : List UInt8 := b.p ++ num b.v.toNat ++ num b.h.toNat ++ num b.by_.toNat ++ num b.txs.length ++ txsB b.txs
theorem mayB_facts {b : Bl} (h : mayB b = true) : (0 ≤ b.v ∧ b.v ≤ 1099511627776) ∧ (0 ≤ b.h ∧ b.h ≤ 1099511627776) ∧ (0 ≤ b.by_ ∧ b.by_ ≤ 21) ∧ b.txs.length ≤ 8 ∧ b.txs.all mayT = true := by
  rw [mayB_eq] at h
  simp only [Bool.or_eq_true, Bool.and_eq_true, decide_eq_true_eq] at h
  rcases h with rfl | h
  · simp [b0]
  · obtain ⟨⟨⟨⟨h1, h2⟩, h3⟩, h4⟩, h5⟩ := h
    exact ⟨by omega, by omega, by omega, h4, h5⟩
def pb (p : List UInt8) (v h y n : Nat) : Nat → List UInt8
  | 0 => p
  | 1 => p ++ num v
  | 2 => p ++ num v ++ num h
  | 3 => p ++ num v ++ num h ++ num y
  | _ => p ++ num v ++ num h ++ num y ++ num n
theorem pb_len (p : List UInt8) (v h y n : Nat) (hp : p.length = 32) (hv : v ≤ 1099511627776) (hh : h ≤ 1099511627776) (hy : y ≤ 21) (hn : n ≤ 8) (i : Nat) : (pb p v h y n i).length ≤ 56 := by
  have l1 := len6 v hv
  have l2 := len6 h hh
  have l3 := len6 y (by omega)
  have l4 := len6 n (by omega)
  unfold pb
  split <;> (try simp only [List.length_append]) <;> omega
theorem c_bput_no (b : Bl) (hl : b.txs.length < 4294967296) (hk : shortK b.txs) (hm : mayB b = false) : FnOK Tryd.prog D 27 [(AV.st [.ar 32 .lf (by8 (b).p), .sc (.int .i64 (b).v), .sc (.int .i64 (b).h), .sc (.int .i64 (b).by_), .sl (.nd [.lf, .lf, .lf, .lf, .lf, .lf, .lf]) (txsA (b).txs) .ro])] [] (fun r st => r = .tup [.sl .lf [] (.own 0), (AV.sc (.int .i64 (1)))] ∧ st = []) := by
  have ck := c_bcheck b hl hk
  rw [hm] at ck
  refine fnok_of_W hmix tabOK Tryd.func27 rfl rfl (Nat.le_of_ble_eq_true rfl) ?_
  conv => whnf
  refine (ck).mono fun r st e => ?_
  obtain ⟨rfl, rfl⟩ := e
  conv => whnf
  refine ⟨true, [], ?_⟩
  conv => whnf
  exact ⟨rfl, rfl⟩
theorem c_bput_aux (p : List UInt8) (v h y : Nat) (txs : List Tx) (hp : p.length = 32) (hv : v ≤ 1099511627776) (hh : h ≤ 1099511627776) (hy : y ≤ 21) (hn : txs.length ≤ 8) (hall : txs.all mayT = true)
    (ck : FnOK Tryd.prog D 30 [.st [.ar 32 .lf (by8 p), (AV.sc (.int .i64 ((v : Int)))), (AV.sc (.int .i64 ((h : Int)))), (AV.sc (.int .i64 ((y : Int)))), (AV.sl (.nd [.lf, .lf, .lf, .lf, .lf, .lf, .lf]) (txsA (txs)) .ro)]] [] (fun r st => r = (AV.sc (.int .i64 (0))) ∧ st = [])) :
    FnOK Tryd.prog D 27 [.st [.ar 32 .lf (by8 p), (AV.sc (.int .i64 ((v : Int)))), (AV.sc (.int .i64 ((h : Int)))), (AV.sc (.int .i64 ((y : Int)))), (AV.sl (.nd [.lf, .lf, .lf, .lf, .lf, .lf, .lf]) (txsA (txs)) .ro)]] [] (fun r st => r = .tup [(AV.sl .lf (by8 (pb p v h y txs.length 4 ++ txsB txs)) (.own 0)), (AV.sc (.int .i64 (0)))] ∧ st = []) := by
  have hll := lenT txs
  have low : ∀ m : Nat, m ≤ 1099511627776 → IntKind.u64.wrap (m : Int) = (m : Int) := fun m h => wu64 (by omega) (by omega)
  have hpl := pb_len p v h y txs.length hp hv hh hy hn
  have ch := (c_hash0 [] p (by decide) hp).weak (args := [.sl .lf [] .ex, .ar 32 .lf (by8 p)]) (.cons (.sl (.inl rfl) .nil) (.cons (Weak.refl _) .nil))
  rw [List.nil_append] at ch
  refine fnok_of_W hmix tabOK Tryd.func27 rfl rfl (Nat.le_of_ble_eq_true rfl) ?_
  conv => whnf
  refine (ck).mono fun r st e => ?_
  obtain ⟨rfl, rfl⟩ := e
  conv => whnf
  refine (ch).mono fun r st e => ?_
  obtain ⟨rfl, rfl⟩ := e
  conv => whnf
  rw [hll]
  refine ⟨false, [1, 5, 27, 28, 29], fun τ => ∃ (i : Nat) (c : List UInt8), i ≤ 4 ∧ c = pb p v h y txs.length i ∧ τ = ⟨50, [(1, .pt 0 []), (5, (AV.sl .lf (by8 (c)) (.own 0))), (27, .sl .lf [(AV.sc (.int .i64 ((v : Int)))), (AV.sc (.int .i64 ((h : Int)))), (AV.sc (.int .i64 ((y : Int)))), (AV.sc (.int .i64 ((txs.length : Int))))] .ex), (28, (AV.sc (.int .i64 (4)))), (29, (AV.sc (.int .i64 ((i : Int)))))], ⟨[(.st [.ar 32 .lf (by8 p), (AV.sc (.int .i64 ((v : Int)))), (AV.sc (.int .i64 ((h : Int)))), (AV.sc (.int .i64 ((y : Int)))), (AV.sl (.nd [.lf, .lf, .lf, .lf, .lf, .lf, .lf]) (txsA (txs)) .ro)], false)], [0], 1⟩⟩, fun τ => 4 - (slotI τ 29).toNat, ?_, ?_⟩
  · conv => whnf
    exact ⟨0, _, by omega, rfl, rfl⟩
  rintro τ ⟨i, c, hi, hc, rfl⟩
  have hcl : c.length ≤ 56 := by rw [hc]; exact hpl i
  conv => whnf
  refine Branch.of (fun h1 => ?_) (fun h1 => ?_) <;> rw [h1] <;> conv => whnf
  · simp only [decide_eq_true_eq] at h1
    have hi4 : i = 0 ∨ i = 1 ∨ i = 2 ∨ i = 3 := by omega
    rcases hi4 with rfl | rfl | rfl | rfl
    · repeat (refine And.intro (by first | omega) ?_; conv => whnf)
      refine ⟨_, (show [(AV.sc (.int .i64 ((v : Int)))), (AV.sc (.int .i64 ((h : Int)))), (AV.sc (.int .i64 ((y : Int)))), (AV.sc (.int .i64 ((txs.length : Int))))][((0 : Nat) : Int).toNat]? = some (AV.sc (.int .i64 ((v : Int)))) from rfl), ?_⟩
      conv => whnf
      rw [low v hv]
      refine (c_num c v (by omega) (by omega) (.inr rfl)).mono fun r st e => ?_
      obtain ⟨rfl, rfl⟩ := e
      conv => whnf
      exact ⟨⟨1, _, by omega, by rw [hc]; rfl, rfl⟩, (by show (3 : Nat) < 4; decide)⟩
    · repeat (refine And.intro (by first | omega) ?_; conv => whnf)
      refine ⟨_, (show [(AV.sc (.int .i64 ((v : Int)))), (AV.sc (.int .i64 ((h : Int)))), (AV.sc (.int .i64 ((y : Int)))), (AV.sc (.int .i64 ((txs.length : Int))))][((1 : Nat) : Int).toNat]? = some (AV.sc (.int .i64 ((h : Int)))) from rfl), ?_⟩
      conv => whnf
      rw [low h hh]
      refine (c_num c h (by omega) (by omega) (.inr rfl)).mono fun r st e => ?_
      obtain ⟨rfl, rfl⟩ := e
      conv => whnf
      exact ⟨⟨2, _, by omega, by rw [hc]; rfl, rfl⟩, (by show (2 : Nat) < 3; decide)⟩
    · repeat (refine And.intro (by first | omega) ?_; conv => whnf)
      refine ⟨_, (show [(AV.sc (.int .i64 ((v : Int)))), (AV.sc (.int .i64 ((h : Int)))), (AV.sc (.int .i64 ((y : Int)))), (AV.sc (.int .i64 ((txs.length : Int))))][((2 : Nat) : Int).toNat]? = some (AV.sc (.int .i64 ((y : Int)))) from rfl), ?_⟩
      conv => whnf
      rw [low y (by omega)]
      refine (c_num c y (by omega) (by omega) (.inr rfl)).mono fun r st e => ?_
      obtain ⟨rfl, rfl⟩ := e
      conv => whnf
      exact ⟨⟨3, _, by omega, by rw [hc]; rfl, rfl⟩, (by show (1 : Nat) < 2; decide)⟩
    · repeat (refine And.intro (by first | omega) ?_; conv => whnf)
      refine ⟨_, (show [(AV.sc (.int .i64 ((v : Int)))), (AV.sc (.int .i64 ((h : Int)))), (AV.sc (.int .i64 ((y : Int)))), (AV.sc (.int .i64 ((txs.length : Int))))][((3 : Nat) : Int).toNat]? = some (AV.sc (.int .i64 ((txs.length : Int)))) from rfl), ?_⟩
      conv => whnf
      rw [low txs.length (by omega)]
      refine (c_num c txs.length (by omega) (by omega) (.inr rfl)).mono fun r st e => ?_
      obtain ⟨rfl, rfl⟩ := e
      conv => whnf
      exact ⟨⟨4, _, by omega, by rw [hc]; rfl, rfl⟩, (by show (0 : Nat) < 1; decide)⟩
  simp only [decide_eq_false_iff_not] at h1
  obtain rfl : i = 4 := by omega
  clear h1
  rw [hll]
  refine ⟨false, [1, 5, 39, 40, 41], fun τ => ∃ (i : Nat) (d : List UInt8), i ≤ txs.length ∧ d = c ++ txsB (txs.take i) ∧ τ = ⟨50, [(1, .pt 0 []), (5, (AV.sl .lf (by8 (d)) (.own 0))), (39, (AV.sl (.nd [.lf, .lf, .lf, .lf, .lf, .lf, .lf]) (txsA (txs)) .ro)), (40, (AV.sc (.int .i64 ((txs.length : Int))))), (41, (AV.sc (.int .i64 ((i : Int)))))], ⟨[(.st [.ar 32 .lf (by8 p), (AV.sc (.int .i64 ((v : Int)))), (AV.sc (.int .i64 ((h : Int)))), (AV.sc (.int .i64 ((y : Int)))), (AV.sl (.nd [.lf, .lf, .lf, .lf, .lf, .lf, .lf]) (txsA (txs)) .ro)], false)], [0], 1⟩⟩, fun τ => txs.length - (slotI τ 41).toNat, ?_, ?_⟩
  · conv => whnf
    exact ⟨0, _, by omega, (List.append_nil c).symm, rfl⟩
  rintro τ ⟨i, d, hi, hd, rfl⟩
  have hdl : d.length ≤ 56 + 300 * 8 := by
    have := txsB_len (txs.take i) (take_mayT hall i)
    rw [hd, List.length_append]
    rw [List.length_take] at this
    omega
  conv => whnf
  refine Branch.of (fun h2 => ?_) (fun h2 => ?_) <;> rw [h2] <;> conv => whnf
  · simp only [decide_eq_true_eq] at h2
    have il : i < txs.length := by omega
    have hm : mayT txs[i] = true := List.all_eq_true.1 hall _ (List.getElem_mem il)
    have cp := c_txput d txs[i] (by omega) (by have := (may_facts hm).2.2.2.1; omega) (m := .ro) (.inr rfl)
    rw [hm, if_pos rfl] at cp
    repeat (refine And.intro (by first | omega) ?_; conv => whnf)
    refine ⟨_, atT il, ?_⟩
    conv => whnf
    refine (cp).mono fun r st e => ?_
    obtain ⟨rfl, rfl⟩ := e
    conv => whnf
    rw [w64 (x := (i : Int) + 1) (by omega) (by omega)]
    refine ⟨⟨i + 1, _, by omega, ?_, rfl⟩, ?_⟩
    · rw [hd, txsB_snoc il, List.append_assoc]
    · show txs.length - ((i : Int) + 1).toNat < txs.length - (i : Int).toNat
      omega
  · simp only [decide_eq_false_iff_not] at h2
    rw [List.take_of_length_le (by omega)] at hd
    refine ⟨false, [], ?_⟩
    conv => whnf
    refine ⟨?_, rfl⟩
    rw [hd, hc]
theorem c_bput (b : Bl) (hl : b.txs.length < 4294967296) (hk : shortK b.txs) (hp : b.p.length = 32) : FnOK Tryd.prog D 27 [(AV.st [.ar 32 .lf (by8 (b).p), .sc (.int .i64 (b).v), .sc (.int .i64 (b).h), .sc (.int .i64 (b).by_), .sl (.nd [.lf, .lf, .lf, .lf, .lf, .lf, .lf]) (txsA (b).txs) .ro])] [] (fun r st => r = .tup [if mayB b = true then (AV.sl .lf (by8 (blB b)) (.own 0)) else .sl .lf [] (.own 0), (AV.sc (.int .i64 (if mayB b = true then 0 else 1)))] ∧ st = []) := by
  cases h : mayB b
  · exact c_bput_no b hl hk h
  · obtain ⟨h1, h2, h3, h4, h5⟩ := mayB_facts h
    have ck := c_bcheck b hl hk
    rw [h] at ck
    obtain ⟨p, v, hh, y, txs⟩ := b
    simp only at h1 h2 h3 h4 h5 hp
    obtain ⟨v, rfl⟩ := Int.eq_ofNat_of_zero_le h1.1
    obtain ⟨hh, rfl⟩ := Int.eq_ofNat_of_zero_le h2.1
    obtain ⟨y, rfl⟩ := Int.eq_ofNat_of_zero_le h3.1
    exact c_bput_aux p v hh y txs hp (by omega) (by omega) (by omega) h4 h5 ck
end Go.WL.T6d
