/- A block that is put is got; the reference's hash; copies; awake of the laws of blocks. No condition. -/
import Derived.Test.YtcmdkiejkheahaaDoorPart31
set_option linter.unusedVariables false
set_option linter.unusedSimpArgs false
namespace Go.WL.T6d
open Go.WL Go.Proofs
set_option maxRecDepth 20000
set_option maxHeartbeats 8000000
theorem rdTxs_put : ∀ l : List Tx, l.all mayT = true → rdTxs l.length (txsB l, false) = some (l, ([], false))
  | [], _ => rfl
  | t :: l, h => by
    simp only [List.all_cons, Bool.and_eq_true] at h
    have e : txsB (t :: l) = txB t ++ txsB l := rfl
    have r := read_put h.1 (txsB l)
    have ok : readOK (txB t ++ txsB l, false) = true := by unfold readOK; rw [r, h.1]; rfl
    rw [List.length_cons, e]
    unfold rdTxs
    rw [if_pos ok, r]
    simp only
    rw [rdTxs_put l h.2]
    rfl
theorem rawB_put {b : Bl} (h : mayB b = true) (hp : b.p.length = 32) : rawB (blB b, false) = some (b, ([], false)) := by
  obtain ⟨h1, h2, h3, h4, h5⟩ := mayB_facts h
  obtain ⟨p, v, hh, y, txs⟩ := b
  simp only at h1 h2 h3 h4 h5 hp
  obtain ⟨v, rfl⟩ := Int.eq_ofNat_of_zero_le h1.1
  obtain ⟨hh, rfl⟩ := Int.eq_ofNat_of_zero_le h2.1
  obtain ⟨y, rfl⟩ := Int.eq_ofNat_of_zero_le h3.1
  have e : blB ⟨p, v, hh, y, txs⟩ = p ++ (num v ++ (num hh ++ (num y ++ (num txs.length ++ txsB txs)))) := by
    unfold blB
    simp only [Int.toNat_natCast, List.append_assoc]
  have e1 : hsh (p ++ (num v ++ (num hh ++ (num y ++ (num txs.length ++ txsB txs)))), false) = (p, (num v ++ (num hh ++ (num y ++ (num txs.length ++ txsB txs))), false)) := by
    unfold hsh
    simp only [rhash_hash p _ hp]
  rw [e]
  unfold rawB
  simp only [e1]
  rw [up_num v _ _ (by omega) (by omega)]
  simp only
  rw [up_num hh _ _ (by omega) (by omega)]
  simp only
  rw [up_num y _ _ (by omega) (by omega)]
  simp only
  rw [up_num txs.length _ _ (by omega) (by omega)]
  simp only
  rw [rdTxs_put txs h5]
  rfl
theorem getB_put {b : Bl} (h : mayB b = true) (hp : b.p.length = 32) : getB (blB b) = (b, true) := by
  unfold getB
  rw [rawB_put h hp]
  simp [h]
theorem mayB_view {b : Bl} (h : mayB b = true) : b.v = 0 ↔ b = b0 := by
  constructor
  · intro hv
    rw [mayB_eq] at h
    simp only [Bool.or_eq_true, Bool.and_eq_true, decide_eq_true_eq] at h
    rcases h with h | h
    · exact h
    · omega
  · intro h
    rw [h]
    rfl
theorem c_bhashR_aux (b : Bl) (P R : List UInt8) (m : Bool) (hPl : P.length ≤ 2500) (hz : m = false ∨ b.v = 0 → by8 R = List.replicate 32 (AV.sc (.int .u8 (0))))
    (cm : FnOK Tryd.prog D 29 [(AV.st [.ar 32 .lf (by8 (b).p), .sc (.int .i64 (b).v), .sc (.int .i64 (b).h), .sc (.int .i64 (b).by_), .sl (.nd [.lf, .lf, .lf, .lf, .lf, .lf, .lf]) (txsA (b).txs) .ro])] [] (fun r st => r = (AV.sc (.bool (m))) ∧ st = []))
    (cp : m = true → FnOK Tryd.prog D 35 [(AV.st [.ar 32 .lf (by8 (b).p), .sc (.int .i64 (b).v), .sc (.int .i64 (b).h), .sc (.int .i64 (b).by_), .sl (.nd [.lf, .lf, .lf, .lf, .lf, .lf, .lf]) (txsA (b).txs) .ro])] [] (fun r st => r = (AV.sl .lf (by8 (P)) (.own 0)) ∧ st = []))
    (cs : m = true → b.v ≠ 0 → FnOK Tryd.prog D 73 [.sl .lf ([(AV.sc (.int .u8 (98))), (AV.sc (.int .u8 (108))), (AV.sc (.int .u8 (111))), (AV.sc (.int .u8 (99))), (AV.sc (.int .u8 (107)))] ++ by8 P) .ro] [] (fun r st => r = .ar 32 .lf (by8 R) ∧ st = [])) :
    FnOK Tryd.prog D 32 [(AV.st [.ar 32 .lf (by8 (b).p), .sc (.int .i64 (b).v), .sc (.int .i64 (b).h), .sc (.int .i64 (b).by_), .sl (.nd [.lf, .lf, .lf, .lf, .lf, .lf, .lf]) (txsA (b).txs) .ro])] [] (fun r st => r = .ar 32 .lf (by8 R) ∧ st = []) := by
  refine fnok_of_Ws [13] hmix tabOK Tryd.func32 rfl rfl (Nat.le_of_ble_eq_true rfl) ?_
  conv => whnf
  refine (cm).mono fun r st e => ?_
  obtain ⟨rfl, rfl⟩ := e
  conv => whnf
  cases m
  · conv => whnf
    rw [hz (.inl rfl)]
    refine ⟨false, [], ?_⟩
    conv => whnf
    exact ⟨rfl, rfl⟩
  · conv => whnf
    refine Branch.of (fun h1 => ?_) (fun h1 => ?_) <;> rw [h1] <;> conv => whnf
    · rw [hz (.inr (by simpa using h1))]
      refine ⟨false, [], ?_⟩
      conv => whnf
      exact ⟨rfl, rfl⟩
    · refine (cp rfl).mono fun r st e => ?_
      obtain ⟨rfl, rfl⟩ := e
      conv => whnf
      refine And.intro (by rw [len8]; show 5 + _ < _; omega) ?_
      conv => whnf
      refine (cs rfl (by simpa using h1)).mono fun r st e => ?_
      obtain ⟨rfl, rfl⟩ := e
      conv => whnf
      refine ⟨false, [], ?_⟩
      conv => whnf
      exact ⟨rfl, rfl⟩
theorem c_bhashR (b : Bl) (hl : b.txs.length < 4294967296) (hk : shortK b.txs) (hp : b.p.length = 32) : FnOK Tryd.prog D 32 [(AV.st [.ar 32 .lf (by8 (b).p), .sc (.int .i64 (b).v), .sc (.int .i64 (b).h), .sc (.int .i64 (b).by_), .sl (.nd [.lf, .lf, .lf, .lf, .lf, .lf, .lf]) (txsA (b).txs) .ro])] [] (fun r st => r = .ar 32 .lf (by8 (blH b)) ∧ st = []) := by
  cases hm : mayB b
  · have cm := c_bmayR b hl hk
    rw [hm] at cm
    refine c_bhashR_aux b [] (blH b) false (by decide) (fun _ => ?_) cm (fun h => by cases h) (fun h => by cases h)
    unfold blH
    rw [hm, if_neg (by simp)]
    exact z32_is
  · have cm := c_bmayR b hl hk
    rw [hm] at cm
    have hb := blB_len hm hp
    refine c_bhashR_aux b (blB b) (blH b) true hb (fun h => ?_) cm (fun _ => c_bputR b hm hp) (fun _ hv => ?_)
    · have : b = b0 := by
        rcases h with h | h
        · cases h
        · exact (mayB_view hm).1 h
      unfold blH
      rw [if_neg (fun c => c.2 this)]
      exact z32_is
    · have := c_refsha ([98, 108, 111, 99, 107] ++ blB b) (by simp; omega)
      unfold blH
      rw [if_pos ⟨hm, fun e => hv ((mayB_view hm).2 e)⟩]
      rw [show by8 ([98, 108, 111, 99, 107] ++ blB b) = [(AV.sc (.int .u8 (98))), (AV.sc (.int .u8 (108))), (AV.sc (.int .u8 (111))), (AV.sc (.int .u8 (99))), (AV.sc (.int .u8 (107)))] ++ by8 (blB b) by simp [by8]] at this
      exact this
theorem c_clonetx (l : List Tx) (hl : l.length < 4294967296) : FnOK Tryd.prog D 90 [(AV.sl (.nd [.lf, .lf, .lf, .lf, .lf, .lf, .lf]) (txsA (l)) .ro)] [] (fun r st => r = .sl (.nd [.lf, .lf, .lf, .lf, .lf, .lf, .lf]) (txsA l) (.own 0) ∧ st = []) := by
  have hll := lenT l
  refine fnok_of_W hmix tabOK Tryd.func90 rfl rfl (Nat.le_of_ble_eq_true rfl) ?_
  conv => whnf
  intro b hb
  cases b
  · conv => whnf
    refine And.intro (by rw [hll]; show 0 + _ < _; omega) ?_
    conv => whnf
    refine ⟨false, [], ?_⟩
    conv => whnf
    refine ⟨?_, rfl⟩
    rw [List.replicate_zero, List.nil_append]
  · have h0 : txsA l = [] := by
      cases h : txsA l with
      | nil => rfl
      | cons x xs => exact absurd (hb (by rw [h]; simp)) (by decide)
    conv => whnf
    rw [h0]
    refine ⟨true, [], ?_⟩
    conv => whnf
    exact ⟨rfl, rfl⟩
theorem c_bcopy (b : Bl) (hl : b.txs.length < 4294967296) : FnOK Tryd.prog D 34 [(AV.st [.ar 32 .lf (by8 (b).p), .sc (.int .i64 (b).v), .sc (.int .i64 (b).h), .sc (.int .i64 (b).by_), .sl (.nd [.lf, .lf, .lf, .lf, .lf, .lf, .lf]) (txsA (b).txs) .ro])] [] (fun r st => r = (AV.st [.ar 32 .lf (by8 (b).p), .sc (.int .i64 (b).v), .sc (.int .i64 (b).h), .sc (.int .i64 (b).by_), .sl (.nd [.lf, .lf, .lf, .lf, .lf, .lf, .lf]) (txsA (b).txs) .ro]) ∧ st = []) := by
  refine fnok_of_W hmix tabOK Tryd.func34 rfl rfl (Nat.le_of_ble_eq_true rfl) ?_
  conv => whnf
  refine (c_clonetx b.txs hl).mono fun r st e => ?_
  obtain ⟨rfl, rfl⟩ := e
  conv => whnf
  refine ⟨false, [], ?_⟩
  conv => whnf
  exact ⟨rfl, rfl⟩
def b1 : Bl := ⟨z32, 1, 1, 1, []⟩
theorem weakB1 : Weak (.st [.ar 32 .lf (List.replicate 32 (AV.sc (.int .u8 (0)))), (AV.sc (.int .i64 (1))), (AV.sc (.int .i64 (1))), (AV.sc (.int .i64 (1))), .sl (.nd [.lf, .lf, .lf, .lf, .lf, .lf, .lf]) [] .ex]) (AV.st [.ar 32 .lf (by8 (b1).p), .sc (.int .i64 (b1).v), .sc (.int .i64 (b1).h), .sc (.int .i64 (b1).by_), .sl (.nd [.lf, .lf, .lf, .lf, .lf, .lf, .lf]) (txsA (b1).txs) .ro]) :=
  .st rfl (.cons (Weak.refl _) (.cons (Weak.refl _) (.cons (Weak.refl _) (.cons (Weak.refl _) (.cons (.sl (.inl rfl) .nil) .nil)))))
theorem may0 : mayB b0 = true := by rw [mayB_eq]; simp
theorem may1 : mayB b1 = true := by rw [mayB_eq]; decide +kernel
theorem len0 : (blB b0).length = 36 := by
  unfold blB b0
  simp [num_low, txsB, z32]
theorem hash1 : blH b1 ≠ z32 := by
  unfold blH
  rw [if_pos ⟨may1, by decide +kernel⟩]
  have : [98, 108, 111, 99, 107] ++ blB b1 = [98, 108, 111, 99, 107] ++ (z32 ++ [1, 1, 1, 0]) := by
    unfold blB b1
    simp [num_low, txsB]
  rw [this]
  decide +kernel
theorem hash0 : blH b0 = z32 := by
  unfold blH
  rw [if_neg (fun c => c.2 rfl)]
theorem c_awake7_aux (P H : List UInt8) (hP : P.length = 36) (hH : H ≠ z32)
    (cp : FnOK Tryd.prog D 27 [.st [.ar 32 .lf (List.replicate 32 (AV.sc (.int .u8 (0)))), (AV.sc (.int .i64 (0))), (AV.sc (.int .i64 (0))), (AV.sc (.int .i64 (0))), .sl (.nd [.lf, .lf, .lf, .lf, .lf, .lf, .lf]) [] .ex]] [] (fun r st => r = .tup [(AV.sl .lf (by8 (P)) (.own 0)), (AV.sc (.int .i64 (0)))] ∧ st = []))
    (cg : FnOK Tryd.prog D 24 [(AV.sl .lf (by8 (P)) .ro)] [] (fun r st => r = .tup [(AV.st [.ar 32 .lf (by8 (b0).p), .sc (.int .i64 (b0).v), .sc (.int .i64 (b0).h), .sc (.int .i64 (b0).by_), .sl (.nd [.lf, .lf, .lf, .lf, .lf, .lf, .lf]) (txsA (b0).txs) .ro]), (AV.sc (.int .i64 (0)))] ∧ st = []))
    (c0 : FnOK Tryd.prog D 31 [(AV.st [.ar 32 .lf (by8 (b0).p), .sc (.int .i64 (b0).v), .sc (.int .i64 (b0).h), .sc (.int .i64 (b0).by_), .sl (.nd [.lf, .lf, .lf, .lf, .lf, .lf, .lf]) (txsA (b0).txs) .ro])] [] (fun r st => r = .ar 32 .lf (by8 z32) ∧ st = []))
    (c1 : FnOK Tryd.prog D 31 [.st [.ar 32 .lf (List.replicate 32 (AV.sc (.int .u8 (0)))), (AV.sc (.int .i64 (1))), (AV.sc (.int .i64 (1))), (AV.sc (.int .i64 (1))), .sl (.nd [.lf, .lf, .lf, .lf, .lf, .lf, .lf]) [] .ex]] [] (fun r st => r = .ar 32 .lf (by8 H) ∧ st = [])) :
    FnOK Tryd.prog D 23 [] [] (fun r st => r = (AV.sc (.bool (true))) ∧ st = []) := by
  refine fnok_of_W hmix tabOK Tryd.func23 rfl rfl (Nat.le_of_ble_eq_true rfl) ?_
  conv => whnf
  refine (c_first).mono fun r st e => ?_
  obtain ⟨rfl, rfl⟩ := e
  conv => whnf
  refine (cp).mono fun r st e => ?_
  obtain ⟨rfl, rfl⟩ := e
  conv => whnf
  refine (cg).mono fun r st e => ?_
  obtain ⟨rfl, rfl⟩ := e
  conv => whnf
  rw [len8, hP]
  conv => whnf
  refine (c0).mono fun r st e => ?_
  obtain ⟨rfl, rfl⟩ := e
  conv => whnf
  refine ⟨z32, z32, rfl, z32_is.symm, ?_⟩
  rw [beq_self_eq_true]
  conv => whnf
  refine (c1).mono fun r st e => ?_
  obtain ⟨rfl, rfl⟩ := e
  conv => whnf
  refine ⟨H, z32, rfl, z32_is.symm, ?_⟩
  rw [show (H == z32) = false from beq_false_of_ne hH]
  conv => whnf
  refine ⟨false, [], ?_⟩
  conv => whnf
  exact ⟨rfl, rfl⟩
theorem c_awake7 : FnOK Tryd.prog D 23 [] [] (fun r st => r = (AV.sc (.bool (true))) ∧ st = []) := by
  have cp := c_bput b0 (by decide) (fun t h => by cases h) rfl
  rw [may0, if_pos rfl, if_pos rfl] at cp
  have cg := c_bget (blB b0) (by rw [len0]; decide)
  rw [getB_put may0 rfl] at cg
  have c0 := c_bhash b0 (by decide) (fun t h => by cases h) rfl
  rw [hash0] at c0
  have c1 := c_bhash b1 (by decide) (fun t h => by cases h) rfl
  refine c_awake7_aux (blB b0) (blH b1) len0 hash1 (cp.weak (.cons weak0 .nil)) (cg.mono fun r st h => ⟨?_, h.2⟩) c0 (c1.weak (.cons weakB1 .nil))
  rcases h.1 with h | h
  · exact h.2
  · exact absurd h.1 (by simp)
end Go.WL.T6d
