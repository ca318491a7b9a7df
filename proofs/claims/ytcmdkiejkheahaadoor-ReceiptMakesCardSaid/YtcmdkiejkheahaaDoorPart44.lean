/- ReceiptMakes. No condition. -/
import Derived.Test.YtcmdkiejkheahaaDoorPart33
import Derived.Test.YtcmdkiejkheahaaDoorPart34
import Derived.Test.YtcmdkiejkheahaaDoorPart36
import Derived.Test.YtcmdkiejkheahaaDoorPart43
set_option linter.unusedVariables false
set_option linter.unusedSimpArgs false
namespace Go.WL.T6d
open Go.WL Go.Proofs
set_option maxRecDepth 20000
set_option maxHeartbeats 8000000
theorem c_rmakes_aux (b : Bl) (t : List Int) (l : List Rc) (id : List UInt8) (R : Bool) (X : List Rc) (F : Rc × Bool)
    (cw : FnOK Tryd.prog D 36 [] [] (fun r st => r = (AV.sc (.bool (true))) ∧ st = []))
    (cM : lightB b → t.length ≤ 20 → FnOK Tryd.prog D 37 [(AV.sc (.int .i64 (b.h))), (AV.sl (.nd [.lf, .lf, .lf, .lf, .lf, .lf, .lf]) (txsA (b.txs)) .ro), .sl .lf (ints .i64 t) .ro] [] (fun r st => (R = true ∧ r = .tup [.sl (.nd [.ar 32 .lf, .lf, .lf, .lf]) (rcsA X) (.own 0), (AV.sc (.int .i64 (0)))] ∨ R = false ∧ r = .tup [.sl (.nd [.ar 32 .lf, .lf, .lf, .lf]) [] .ex, (AV.sc (.int .i64 (1)))]) ∧ st = []))
    (cMR : lightB b → t.length ≤ 20 → FnOK Tryd.prog D 38 [(AV.sc (.int .i64 (b.h))), (AV.sl (.nd [.lf, .lf, .lf, .lf, .lf, .lf, .lf]) (txsA (b.txs)) .ro), .sl .lf (ints .i64 t) .ro] [] (fun r st => (R = true ∧ r = .tup [.sl (.nd [.ar 32 .lf, .lf, .lf, .lf]) (rcsA X) (.own 0), (AV.sc (.bool (true)))] ∨ R = false ∧ r = .tup [.sl (.nd [.ar 32 .lf, .lf, .lf, .lf]) [] .ex, (AV.sc (.bool (false)))]) ∧ st = []))
    (cF : l.length < 4294967296 → FnOK Tryd.prog D 39 [(AV.sl (.nd [.ar 32 .lf, .lf, .lf, .lf]) (rcsA (l)) .ro), .ar 32 .lf (by8 id)] [] (fun r st => r = .tup [(AV.st [.ar 32 .lf (by8 (F.1).g), .sc (.int .i64 (F.1).h), .sc (.int .i64 (F.1).p), .sc (.int .i64 (F.1).c)]), (AV.sc (.bool (F.2)))] ∧ st = []))
    (cFR : l.length < 4294967296 → FnOK Tryd.prog D 40 [(AV.sl (.nd [.ar 32 .lf, .lf, .lf, .lf]) (rcsA (l)) .ro), .ar 32 .lf (by8 id)] [] (fun r st => r = .tup [(AV.st [.ar 32 .lf (by8 (F.1).g), .sc (.int .i64 (F.1).h), .sc (.int .i64 (F.1).p), .sc (.int .i64 (F.1).c)]), (AV.sc (.bool (F.2)))] ∧ st = []))
    (cS : FnOK Tryd.prog D 41 [(AV.sl (.nd [.ar 32 .lf, .lf, .lf, .lf]) (rcsA (X)) .ro), (AV.sl (.nd [.ar 32 .lf, .lf, .lf, .lf]) (rcsA (X)) .ro)] [] (fun r st => r = (AV.sc (.bool (true))) ∧ st = []))
    (cS0 : FnOK Tryd.prog D 41 [.sl (.nd [.ar 32 .lf, .lf, .lf, .lf]) [] .ex, .sl (.nd [.ar 32 .lf, .lf, .lf, .lf]) [] .ex] [] (fun r st => r = (AV.sc (.bool (true))) ∧ st = []))
    (cG : l.length < 4294967296 → FnOK Tryd.prog D 42 [(AV.sl (.nd [.ar 32 .lf, .lf, .lf, .lf]) (rcsA (l)) .ro)] [] (fun r st => r = (AV.sc (.int .i64 ((l.countP (fun x => x.c == 0) : Int)))) ∧ st = [])) :
    FnOK Tryd.prog D 7 [(AV.st [.ar 32 .lf (by8 (b).p), .sc (.int .i64 (b).v), .sc (.int .i64 (b).h), .sc (.int .i64 (b).by_), .sl (.nd [.lf, .lf, .lf, .lf, .lf, .lf, .lf]) (txsA (b).txs) .ro]), .sl .lf (ints .i64 t) .ro, .st [(AV.sl (.nd [.ar 32 .lf, .lf, .lf, .lf]) (rcsA (l)) .ro), .ar 32 .lf (by8 id)]] [] (fun r _ => r = (AV.sc (.bool (true)))) := by
  have hlt := lenIn t
  have hll := lenR l
  refine fnok_of_W hmix tabOK Tryd.func7 rfl rfl (Nat.le_of_ble_eq_true rfl) ?_
  conv => whnf
  refine (c_blight b).mono fun r st e => ?_
  obtain ⟨rfl | ⟨rfl, hlight⟩, rfl⟩ := e
  · conv => whnf
    refine (cw).mono fun r st e => ?_
    obtain ⟨rfl, rfl⟩ := e
    conv => whnf
    refine ⟨false, [], ?_⟩
    conv => whnf
  conv => whnf
  rw [hlt]
  refine Branch.of (fun h1 => ?_) (fun h1 => ?_) <;> rw [h1] <;> conv => whnf
  · refine (cw).mono fun r st e => ?_
    obtain ⟨rfl, rfl⟩ := e
    conv => whnf
    refine ⟨false, [], ?_⟩
    conv => whnf
  simp only [gt_iff_lt, decide_eq_false_iff_not] at h1
  rw [hll]
  refine Branch.of (fun h2 => ?_) (fun h2 => ?_) <;> rw [h2] <;> conv => whnf
  · refine (cw).mono fun r st e => ?_
    obtain ⟨rfl, rfl⟩ := e
    conv => whnf
    refine ⟨false, [], ?_⟩
    conv => whnf
  simp only [gt_iff_lt, decide_eq_false_iff_not] at h2
  have cM := cM hlight (by omega)
  have cMR := cMR hlight (by omega)
  have hl32 : l.length < 4294967296 := by omega
  have cF := cF hl32
  have cFR := cFR hl32
  have cG := cG hl32
  cases R with
  | true =>
    refine cM.mono fun r st e => ?_
    obtain ⟨⟨_, rfl⟩ | ⟨hh, _⟩, rfl⟩ := e
    rotate_left
    · exact absurd hh (by decide)
    conv => whnf
    refine cMR.mono fun r st e => ?_
    obtain ⟨⟨_, rfl⟩ | ⟨hh, _⟩, rfl⟩ := e
    rotate_left
    · exact absurd hh (by decide)
    conv => whnf
    refine (cF).mono fun r st e => ?_
    obtain ⟨rfl, rfl⟩ := e
    conv => whnf
    refine (cFR).mono fun r st e => ?_
    obtain ⟨rfl, rfl⟩ := e
    conv => whnf
    refine ⟨false, [3, 5, 7, 8, 9, 10, 11, 12, 13, 14, 15, 16], fun τ => ∃ (i : Nat), i ≤ l.length ∧ τ = ⟨118, [(3, .pt 0 []), (5, .pt 1 []), (7, .sl (.nd [.ar 32 .lf, .lf, .lf, .lf]) (rcsA X) (.own 0)), (8, (AV.sc (.int .i64 (0)))), (9, .sl (.nd [.ar 32 .lf, .lf, .lf, .lf]) (rcsA X) (.own 1)), (10, (AV.sc (.bool (true)))), (11, .pt 2 []), (12, (AV.sc (.bool (F.2)))), (13, .pt 3 []), (14, (AV.sc (.bool (F.2)))), (15, (AV.sc (.int .i64 (((l.take i).countP (fun x => x.c == 0) : Int))))), (16, (AV.sc (.int .i64 ((i : Int)))))], ⟨[((AV.st [.ar 32 .lf (by8 (b).p), .sc (.int .i64 (b).v), .sc (.int .i64 (b).h), .sc (.int .i64 (b).by_), .sl (.nd [.lf, .lf, .lf, .lf, .lf, .lf, .lf]) (txsA (b).txs) .ro]), false), (.st [(AV.sl (.nd [.ar 32 .lf, .lf, .lf, .lf]) (rcsA (l)) .ro), .ar 32 .lf (by8 id)], false), ((AV.st [.ar 32 .lf (by8 (F.1).g), .sc (.int .i64 (F.1).h), .sc (.int .i64 (F.1).p), .sc (.int .i64 (F.1).c)]), false), ((AV.st [.ar 32 .lf (by8 (F.1).g), .sc (.int .i64 (F.1).h), .sc (.int .i64 (F.1).p), .sc (.int .i64 (F.1).c)]), false)], [0, 1], 2⟩⟩, fun τ => l.length - (slotI τ 16).toNat, ?_, ?_⟩
    · conv => whnf
      exact ⟨0, by omega, rfl⟩
    rintro τ ⟨i, hi, rfl⟩
    conv => whnf
    rw [hll]
    refine Branch.of (fun h5 => ?_) (fun h5 => ?_) <;> rw [h5] <;> conv => whnf
    · simp only [decide_eq_true_eq] at h5
      have il : i < l.length := by omega
      have hcl := List.countP_le_length (p := fun x : Rc => x.c == 0) (l := l.take i)
      rw [List.length_take] at hcl
      have hcs : (l.take (i + 1)).countP (fun x => x.c == 0) = (l.take i).countP (fun x => x.c == 0) + (if l[i].c = 0 then 1 else 0) := by
        rw [List.take_succ_eq_append_getElem il, List.countP_append]
        by_cases e : l[i].c = 0 <;> simp [e]
      repeat (refine And.intro (by first | omega) ?_; conv => whnf)
      refine ⟨_, atR il, ?_⟩
      conv => whnf
      by_cases h6 : l[i].c = 0
      · rw [if_pos h6] at hcs
        refine Branch.of (fun hh => ?_) (fun hh => ?_)
        rotate_left
        · exfalso; simp only [gt_iff_lt, ge_iff_le, decide_eq_true_eq, decide_eq_false_iff_not, beq_iff_eq, beq_eq_false_iff_ne, bne_iff_ne, bne_eq_false_iff_eq, ne_eq] at hh; first | done | omega | (simp at hh; done)
        try rw [hh]
        clear hh
        conv => whnf
        rw [w64 (x := ((l.take i).countP (fun x => x.c == 0) : Int) + 1) (by omega) (by omega), w64 (x := (i : Int) + 1) (by omega) (by omega)]
        refine ⟨⟨i + 1, by omega, by rw [hcs]; rfl⟩, ?_⟩
        show l.length - ((i : Int) + 1).toNat < l.length - (i : Int).toNat
        omega
      · rw [if_neg h6] at hcs
        refine Branch.of (fun hh => ?_) (fun hh => ?_)
        · exfalso; simp only [gt_iff_lt, ge_iff_le, decide_eq_true_eq, decide_eq_false_iff_not, beq_iff_eq, beq_eq_false_iff_ne, bne_iff_ne, bne_eq_false_iff_eq, ne_eq] at hh; first | done | omega | (simp at hh; done)
        try rw [hh]
        clear hh
        conv => whnf
        rw [w64 (x := (i : Int) + 1) (by omega) (by omega)]
        refine ⟨⟨i + 1, by omega, by rw [hcs]; rfl⟩, ?_⟩
        show l.length - ((i : Int) + 1).toNat < l.length - (i : Int).toNat
        omega
    simp only [decide_eq_false_iff_not] at h5
    have e : i = l.length := by omega
    subst e
    rw [List.take_length]
    refine (cS).mono fun r st e => ?_
    obtain ⟨rfl, rfl⟩ := e
    conv => whnf
    refine ⟨F.1.g, F.1.g, rfl, rfl, ?_⟩
    conv => whnf
    rw [rc_eq, decide_eq_true rfl]
    conv => whnf
    rw [beq_self_eq_true]
    conv => whnf
    refine (cG).mono fun r st e => ?_
    obtain ⟨rfl, rfl⟩ := e
    conv => whnf
    rw [beq_self_eq_true]
    conv => whnf
    refine (cw).mono fun r st e => ?_
    obtain ⟨rfl, rfl⟩ := e
    conv => whnf
    refine ⟨false, [], ?_⟩
    conv => whnf
  | false =>
    refine cM.mono fun r st e => ?_
    obtain ⟨⟨hh, _⟩ | ⟨_, rfl⟩, rfl⟩ := e
    · exact absurd hh (by decide)
    conv => whnf
    refine cMR.mono fun r st e => ?_
    obtain ⟨⟨hh, _⟩ | ⟨_, rfl⟩, rfl⟩ := e
    · exact absurd hh (by decide)
    conv => whnf
    refine (cF).mono fun r st e => ?_
    obtain ⟨rfl, rfl⟩ := e
    conv => whnf
    refine (cFR).mono fun r st e => ?_
    obtain ⟨rfl, rfl⟩ := e
    conv => whnf
    refine ⟨false, [3, 5, 7, 8, 9, 10, 11, 12, 13, 14, 15, 16], fun τ => ∃ (i : Nat), i ≤ l.length ∧ τ = ⟨118, [(3, .pt 0 []), (5, .pt 1 []), (7, .sl (.nd [.ar 32 .lf, .lf, .lf, .lf]) [] .ex), (8, (AV.sc (.int .i64 (1)))), (9, .sl (.nd [.ar 32 .lf, .lf, .lf, .lf]) [] .ex), (10, (AV.sc (.bool (false)))), (11, .pt 2 []), (12, (AV.sc (.bool (F.2)))), (13, .pt 3 []), (14, (AV.sc (.bool (F.2)))), (15, (AV.sc (.int .i64 (((l.take i).countP (fun x => x.c == 0) : Int))))), (16, (AV.sc (.int .i64 ((i : Int)))))], ⟨[((AV.st [.ar 32 .lf (by8 (b).p), .sc (.int .i64 (b).v), .sc (.int .i64 (b).h), .sc (.int .i64 (b).by_), .sl (.nd [.lf, .lf, .lf, .lf, .lf, .lf, .lf]) (txsA (b).txs) .ro]), false), (.st [(AV.sl (.nd [.ar 32 .lf, .lf, .lf, .lf]) (rcsA (l)) .ro), .ar 32 .lf (by8 id)], false), ((AV.st [.ar 32 .lf (by8 (F.1).g), .sc (.int .i64 (F.1).h), .sc (.int .i64 (F.1).p), .sc (.int .i64 (F.1).c)]), false), ((AV.st [.ar 32 .lf (by8 (F.1).g), .sc (.int .i64 (F.1).h), .sc (.int .i64 (F.1).p), .sc (.int .i64 (F.1).c)]), false)], [], 0⟩⟩, fun τ => l.length - (slotI τ 16).toNat, ?_, ?_⟩
    · conv => whnf
      exact ⟨0, by omega, rfl⟩
    rintro τ ⟨i, hi, rfl⟩
    conv => whnf
    rw [hll]
    refine Branch.of (fun h5 => ?_) (fun h5 => ?_) <;> rw [h5] <;> conv => whnf
    · simp only [decide_eq_true_eq] at h5
      have il : i < l.length := by omega
      have hcl := List.countP_le_length (p := fun x : Rc => x.c == 0) (l := l.take i)
      rw [List.length_take] at hcl
      have hcs : (l.take (i + 1)).countP (fun x => x.c == 0) = (l.take i).countP (fun x => x.c == 0) + (if l[i].c = 0 then 1 else 0) := by
        rw [List.take_succ_eq_append_getElem il, List.countP_append]
        by_cases e : l[i].c = 0 <;> simp [e]
      repeat (refine And.intro (by first | omega) ?_; conv => whnf)
      refine ⟨_, atR il, ?_⟩
      conv => whnf
      by_cases h6 : l[i].c = 0
      · rw [if_pos h6] at hcs
        refine Branch.of (fun hh => ?_) (fun hh => ?_)
        rotate_left
        · exfalso; simp only [gt_iff_lt, ge_iff_le, decide_eq_true_eq, decide_eq_false_iff_not, beq_iff_eq, beq_eq_false_iff_ne, bne_iff_ne, bne_eq_false_iff_eq, ne_eq] at hh; first | done | omega | (simp at hh; done)
        try rw [hh]
        clear hh
        conv => whnf
        rw [w64 (x := ((l.take i).countP (fun x => x.c == 0) : Int) + 1) (by omega) (by omega), w64 (x := (i : Int) + 1) (by omega) (by omega)]
        refine ⟨⟨i + 1, by omega, by rw [hcs]; rfl⟩, ?_⟩
        show l.length - ((i : Int) + 1).toNat < l.length - (i : Int).toNat
        omega
      · rw [if_neg h6] at hcs
        refine Branch.of (fun hh => ?_) (fun hh => ?_)
        · exfalso; simp only [gt_iff_lt, ge_iff_le, decide_eq_true_eq, decide_eq_false_iff_not, beq_iff_eq, beq_eq_false_iff_ne, bne_iff_ne, bne_eq_false_iff_eq, ne_eq] at hh; first | done | omega | (simp at hh; done)
        try rw [hh]
        clear hh
        conv => whnf
        rw [w64 (x := (i : Int) + 1) (by omega) (by omega)]
        refine ⟨⟨i + 1, by omega, by rw [hcs]; rfl⟩, ?_⟩
        show l.length - ((i : Int) + 1).toNat < l.length - (i : Int).toNat
        omega
    simp only [decide_eq_false_iff_not] at h5
    have e : i = l.length := by omega
    subst e
    rw [List.take_length]
    refine (cS0).mono fun r st e => ?_
    obtain ⟨rfl, rfl⟩ := e
    conv => whnf
    refine ⟨F.1.g, F.1.g, rfl, rfl, ?_⟩
    conv => whnf
    rw [rc_eq, decide_eq_true rfl]
    conv => whnf
    rw [beq_self_eq_true]
    conv => whnf
    refine (cG).mono fun r st e => ?_
    obtain ⟨rfl, rfl⟩ := e
    conv => whnf
    rw [beq_self_eq_true]
    conv => whnf
    refine (cw).mono fun r st e => ?_
    obtain ⟨rfl, rfl⟩ := e
    conv => whnf
    refine ⟨false, [], ?_⟩
    conv => whnf
theorem weakR0 : Weak (.sl (.nd [.ar 32 .lf, .lf, .lf, .lf]) [] .ex) (AV.sl (.nd [.ar 32 .lf, .lf, .lf, .lf]) (rcsA ([])) .ro) := .sl (.inl rfl) .nil
theorem c_rmakes (b : Bl) (t : List Int) (l : List Rc) (id : List UInt8) :
    FnOK Tryd.prog D 7 [(AV.st [.ar 32 .lf (by8 (b).p), .sc (.int .i64 (b).v), .sc (.int .i64 (b).h), .sc (.int .i64 (b).by_), .sl (.nd [.lf, .lf, .lf, .lf, .lf, .lf, .lf]) (txsA (b).txs) .ro]), .sl .lf (ints .i64 t) .ro, .st [(AV.sl (.nd [.ar 32 .lf, .lf, .lf, .lf]) (rcsA (l)) .ro), .ar 32 .lf (by8 id)]] [] (fun r _ => r = (AV.sc (.bool (true)))) := by
  have hk : lightB b → ∀ x ∈ b.txs, x.key.length < 4294967296 := fun h x hx => by have := (h.2 x hx).1; omega
  have hb : lightB b → b.txs.length < 4294967296 := fun h => by have := h.1; omega
  by_cases hlt : b.txs.length < 4294967296
  rotate_left
  · exact c_rmakes_aux b t l id false [] (fwd id l (rc0, false)) c_rawake (fun h => absurd (hb h) hlt) (fun h => absurd (hb h) hlt) (fun hl => c_rfind l id hl) (fun hl => by rw [fwd_bwd0]; exact c_rfindR l id hl) (c_rsameR [] [] (by decide)) ((c_rsameR [] [] (by decide)).weak (.cons weakR0 (.cons weakR0 .nil))) (fun hl => c_rgood l hl)
  refine c_rmakes_aux b t l id (decide (b.txs.length ≤ 8 ∧ b.txs.length = t.length ∧ 1 ≤ b.h ∧ b.h ≤ 1099511627776) && okN mayT b.txs t b.txs.length) (mkN txId b.h b.txs t b.txs.length) (fwd id l (rc0, false)) c_rawake ?_ ?_ (fun hl => c_rfind l id hl) (fun hl => by rw [fwd_bwd0]; exact c_rfindR l id hl) ?_ ((c_rsameR [] [] (by decide)).weak (.cons weakR0 (.cons weakR0 .nil))) (fun hl => c_rgood l hl)
  · intro h ht
    exact c_rmake_aux b.h b.txs t txId mayT _ hlt (by omega) rfl c_within (fun x hx => c_txid x (hk h x hx)) (fun x hx => c_txcheck x (hk h x hx)) c_may
  · intro h ht
    exact c_rmakeR_aux b.h b.txs t txId mayT _ hlt (by omega) rfl (fun x hx => c_txidR x (hk h x hx)) (fun x hx => c_mayR x (hk h x hx))
  · have := c_rsameR (mkN txId b.h b.txs t b.txs.length) (mkN txId b.h b.txs t b.txs.length) (by rw [mkN_len]; exact hlt)
    rw [decide_eq_true rfl] at this
    exact this
theorem rc_of {v : AV} (h : OfTy (.st [.ar 32 .lf (.int .u8), .int .i64, .int .i64, .int .i64]) v) : ∃ x : Rc, v = (AV.st [.ar 32 .lf (by8 (x).g), .sc (.int .i64 (x).h), .sc (.int .i64 (x).p), .sc (.int .i64 (x).c)]) := by
  obtain ⟨_, rfl, y0, _, rfl, k0, y1, _, rfl, ⟨a, rfl, _⟩, y2, _, rfl, ⟨p, rfl, _⟩, y3, _, rfl, ⟨c, rfl, _⟩, rfl⟩ := h
  obtain ⟨g, rfl, _⟩ := arr_of k0
  exact ⟨⟨g, a, p, c⟩, rfl⟩
theorem rcs_map : ∀ xs : List AV, (∀ x ∈ xs, OfTy (.st [.ar 32 .lf (.int .u8), .int .i64, .int .i64, .int .i64]) x) → ∃ l : List Rc, xs = rcsA l
  | [], _ => ⟨[], rfl⟩
  | x :: xs, h => by
    obtain ⟨l, e⟩ := rcs_map xs fun y hy => h y (List.mem_cons_of_mem _ hy)
    obtain ⟨a, e2⟩ := rc_of (h x (by simp))
    exact ⟨a :: l, by rw [e, e2]; rfl⟩
end Go.WL.T6d
