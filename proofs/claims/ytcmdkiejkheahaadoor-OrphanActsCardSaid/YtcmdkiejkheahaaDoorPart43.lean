/- BlockPuts, BlockGets. No condition. -/
import Derived.Test.YtcmdkiejkheahaaDoorPart32
set_option linter.unusedVariables false
set_option linter.unusedSimpArgs false
namespace Go.WL.T6d
open Go.WL Go.Proofs
set_option maxRecDepth 20000
set_option maxHeartbeats 8000000
theorem c_blockgets_aux (T : List UInt8) (G : Bl) (ok : Bool) (hG : ok = true → G.p.length = 32 ∧ mayB G = true ∧ blB G = T) (hG0 : ok = false → G = b0)
    (ca : FnOK Tryd.prog D 23 [] [] (fun r st => r = (AV.sc (.bool (true))) ∧ st = []))
    (cg : T.length ≤ 2000 → FnOK Tryd.prog D 24 [(AV.sl .lf (by8 (T)) .ro)] [] (fun r st => ((ok = true ∧ r = .tup [(AV.st [.ar 32 .lf (by8 (G).p), .sc (.int .i64 (G).v), .sc (.int .i64 (G).h), .sc (.int .i64 (G).by_), .sl (.nd [.lf, .lf, .lf, .lf, .lf, .lf, .lf]) (txsA (G).txs) .ro]), (AV.sc (.int .i64 (0)))]) ∨ (ok = false ∧ r = .tup [.st [.ar 32 .lf (List.replicate 32 (AV.sc (.int .u8 (0)))), (AV.sc (.int .i64 (0))), (AV.sc (.int .i64 (0))), (AV.sc (.int .i64 (0))), .sl (.nd [.lf, .lf, .lf, .lf, .lf, .lf, .lf]) [] .ex], (AV.sc (.int .i64 (2)))])) ∧ st = []))
    (cgR : T.length ≤ 2000 → FnOK Tryd.prog D 25 [(AV.sl .lf (by8 (T)) .ro)] [] (fun r st => ((ok = true ∧ r = .tup [(AV.st [.ar 32 .lf (by8 (G).p), .sc (.int .i64 (G).v), .sc (.int .i64 (G).h), .sc (.int .i64 (G).by_), .sl (.nd [.lf, .lf, .lf, .lf, .lf, .lf, .lf]) (txsA (G).txs) .ro]), (AV.sc (.bool (true)))]) ∨ (ok = false ∧ r = .tup [.st [.ar 32 .lf (List.replicate 32 (AV.sc (.int .u8 (0)))), (AV.sc (.int .i64 (0))), (AV.sc (.int .i64 (0))), (AV.sc (.int .i64 (0))), .sl (.nd [.lf, .lf, .lf, .lf, .lf, .lf, .lf]) [] .ex], (AV.sc (.bool (false)))])) ∧ st = [])) :
    FnOK Tryd.prog D 4 [(AV.sl .lf (by8 (T)) .ro)] [] (fun r _ => r = (AV.sc (.bool (true)))) := by
  have hlen := len8 T
  refine fnok_of_W hmix tabOK Tryd.func4 rfl rfl (Nat.le_of_ble_eq_true rfl) ?_
  conv => whnf
  rw [hlen]
  refine Branch.of (fun h1 => ?_) (fun h1 => ?_) <;> rw [h1] <;> conv => whnf
  · refine (ca).mono fun r st e => ?_
    obtain ⟨rfl, rfl⟩ := e
    conv => whnf
    refine ⟨false, [], ?_⟩
    conv => whnf
  simp only [gt_iff_lt, decide_eq_false_iff_not] at h1
  have hT : T.length ≤ 2000 := by omega
  refine And.intro (by rw [hlen]; show 0 + _ < _; omega) ?_
  conv => whnf
  rw [List.replicate_zero, List.nil_append]
  refine (cg hT).mono fun r st e => ?_
  obtain ⟨e, rfl⟩ := e
  rcases e with ⟨rfl, rfl⟩ | ⟨rfl, rfl⟩
  · obtain ⟨hp, hm, hb⟩ := hG rfl
    obtain ⟨m1, m2, m3, m4, m5⟩ := mayB_facts hm
    have hl : G.txs.length < 4294967296 := by omega
    have hk : shortK G.txs := fun t ht => by have := (may_facts (List.all_eq_true.1 m5 t ht)).2.2.2.1; omega
    have cp := c_bput G hl hk hp
    rw [hm, if_pos rfl, if_pos rfl, hb] at cp
    have cs := c_bsameR G G hl
    rw [decide_eq_true (rfl : G = G)] at cs
    conv => whnf
    refine (cgR hT).mono fun r st e => ?_
    obtain ⟨e, rfl⟩ := e
    rcases e with ⟨_, rfl⟩ | ⟨h, _⟩
    rotate_left
    · cases h
    conv => whnf
    refine (cs).mono fun r st e => ?_
    obtain ⟨rfl, rfl⟩ := e
    conv => whnf
    refine (cp).mono fun r st e => ?_
    obtain ⟨rfl, rfl⟩ := e
    conv => whnf
    refine (c_same T T (by omega) (.inr rfl) (.inr rfl)).mono fun r st e => ?_
    obtain ⟨rfl, rfl⟩ := e
    conv => whnf
    rw [beq_self_eq_true]
    conv => whnf
    refine (ca).mono fun r st e => ?_
    obtain ⟨rfl, rfl⟩ := e
    conv => whnf
    refine ⟨false, [], ?_⟩
    conv => whnf
  · have hl : b0.txs.length < 4294967296 := by decide
    have cs := (c_bsameR0 b0 hl).weak (.cons weak0 (.cons (Weak.refl _) .nil))
    rw [decide_eq_true (rfl : b0 = b0)] at cs
    conv => whnf
    refine (cgR hT).mono fun r st e => ?_
    obtain ⟨e, rfl⟩ := e
    rcases e with ⟨h, _⟩ | ⟨_, rfl⟩
    · cases h
    conv => whnf
    refine (cs).mono fun r st e => ?_
    obtain ⟨rfl, rfl⟩ := e
    conv => whnf
    refine (ca).mono fun r st e => ?_
    obtain ⟨rfl, rfl⟩ := e
    conv => whnf
    refine ⟨false, [], ?_⟩
    conv => whnf
theorem c_blockgets (T : List UInt8) : FnOK Tryd.prog D 4 [(AV.sl .lf (by8 (T)) .ro)] [] (fun r _ => r = (AV.sc (.bool (true)))) := by
  refine c_blockgets_aux T (getB T).1 (getB T).2 (fun h => ?_) (fun h => ?_) c_awake7 (fun hT => c_bget T (by omega)) (fun hT => c_bgetR T (by omega))
  · unfold getB at h ⊢
    cases e : rawB (T, false) with
    | none => rw [e] at h; cases h
    | some x =>
      obtain ⟨b, z⟩ := x
      rw [e] at h
      simp only at h ⊢
      split at h
      · rename_i c
        rw [if_pos c]
        obtain ⟨k1, k2⟩ := rawB_back e c.1
        rw [c.2.1, List.append_nil] at k1
        exact ⟨k2, c.2.2, k1.symm⟩
      · cases h
  · unfold getB at h ⊢
    cases e : rawB (T, false) with
    | none => rfl
    | some x =>
      obtain ⟨b, z⟩ := x
      rw [e] at h
      simp only at h ⊢
      split at h
      · cases h
      · rename_i c
        rw [if_neg c]
theorem c_blockputs_aux (a b : Bl) (P H : List UInt8) (m : Bool) (hH : H.length = 32) (hpa : a.p.length = 32) (hPl : P.length ≤ 2500)
    (ca : FnOK Tryd.prog D 23 [] [] (fun r st => r = (AV.sc (.bool (true))) ∧ st = []))
    (cpY : m = true → lightB a → FnOK Tryd.prog D 27 [(AV.st [.ar 32 .lf (by8 (a).p), .sc (.int .i64 (a).v), .sc (.int .i64 (a).h), .sc (.int .i64 (a).by_), .sl (.nd [.lf, .lf, .lf, .lf, .lf, .lf, .lf]) (txsA (a).txs) .ro])] [] (fun r st => r = .tup [(AV.sl .lf (by8 (P)) (.own 0)), (AV.sc (.int .i64 (0)))] ∧ st = []))
    (cpN : m = false → lightB a → FnOK Tryd.prog D 27 [(AV.st [.ar 32 .lf (by8 (a).p), .sc (.int .i64 (a).v), .sc (.int .i64 (a).h), .sc (.int .i64 (a).by_), .sl (.nd [.lf, .lf, .lf, .lf, .lf, .lf, .lf]) (txsA (a).txs) .ro])] [] (fun r st => r = .tup [.sl .lf [] (.own 0), (AV.sc (.int .i64 (1)))] ∧ st = []))
    (cm : lightB a → FnOK Tryd.prog D 29 [(AV.st [.ar 32 .lf (by8 (a).p), .sc (.int .i64 (a).v), .sc (.int .i64 (a).h), .sc (.int .i64 (a).by_), .sl (.nd [.lf, .lf, .lf, .lf, .lf, .lf, .lf]) (txsA (a).txs) .ro])] [] (fun r st => r = (AV.sc (.bool (m))) ∧ st = []))
    (ck : lightB a → FnOK Tryd.prog D 30 [(AV.st [.ar 32 .lf (by8 (a).p), .sc (.int .i64 (a).v), .sc (.int .i64 (a).h), .sc (.int .i64 (a).by_), .sl (.nd [.lf, .lf, .lf, .lf, .lf, .lf, .lf]) (txsA (a).txs) .ro])] [] (fun r st => r = (AV.sc (.int .i64 (if m = true then 0 else 1))) ∧ st = []))
    (ch : lightB a → FnOK Tryd.prog D 31 [(AV.st [.ar 32 .lf (by8 (a).p), .sc (.int .i64 (a).v), .sc (.int .i64 (a).h), .sc (.int .i64 (a).by_), .sl (.nd [.lf, .lf, .lf, .lf, .lf, .lf, .lf]) (txsA (a).txs) .ro])] [] (fun r st => r = .ar 32 .lf (by8 H) ∧ st = []))
    (chR : lightB a → FnOK Tryd.prog D 32 [(AV.st [.ar 32 .lf (by8 (a).p), .sc (.int .i64 (a).v), .sc (.int .i64 (a).h), .sc (.int .i64 (a).by_), .sl (.nd [.lf, .lf, .lf, .lf, .lf, .lf, .lf]) (txsA (a).txs) .ro])] [] (fun r st => r = .ar 32 .lf (by8 H) ∧ st = []))
    (cg : m = true → FnOK Tryd.prog D 24 [(AV.sl .lf (by8 (P)) .ro)] [] (fun r st => r = .tup [(AV.st [.ar 32 .lf (by8 (a).p), .sc (.int .i64 (a).v), .sc (.int .i64 (a).h), .sc (.int .i64 (a).by_), .sl (.nd [.lf, .lf, .lf, .lf, .lf, .lf, .lf]) (txsA (a).txs) .ro]), (AV.sc (.int .i64 (0)))] ∧ st = []))
    (cpR : m = true → FnOK Tryd.prog D 35 [(AV.st [.ar 32 .lf (by8 (a).p), .sc (.int .i64 (a).v), .sc (.int .i64 (a).h), .sc (.int .i64 (a).by_), .sl (.nd [.lf, .lf, .lf, .lf, .lf, .lf, .lf]) (txsA (a).txs) .ro])] [] (fun r st => r = (AV.sl .lf (by8 (P)) (.own 0)) ∧ st = [])) :
    FnOK Tryd.prog D 5 [(AV.st [.ar 32 .lf (by8 (a).p), .sc (.int .i64 (a).v), .sc (.int .i64 (a).h), .sc (.int .i64 (a).by_), .sl (.nd [.lf, .lf, .lf, .lf, .lf, .lf, .lf]) (txsA (a).txs) .ro]), (AV.st [.ar 32 .lf (by8 (b).p), .sc (.int .i64 (b).v), .sc (.int .i64 (b).h), .sc (.int .i64 (b).by_), .sl (.nd [.lf, .lf, .lf, .lf, .lf, .lf, .lf]) (txsA (b).txs) .ro])] [] (fun r _ => r = (AV.sc (.bool (true)))) := by
  refine fnok_of_W hmix tabOK Tryd.func5 rfl rfl (Nat.le_of_ble_eq_true rfl) ?_
  conv => whnf
  refine (c_blight a).mono fun r st e => ?_
  obtain ⟨e, rfl⟩ := e
  rcases e with rfl | ⟨rfl, la⟩
  · conv => whnf
    refine (ca).mono fun r st e => ?_
    obtain ⟨rfl, rfl⟩ := e
    conv => whnf
    refine ⟨false, [], ?_⟩
    conv => whnf
  conv => whnf
  refine (c_blight b).mono fun r st e => ?_
  obtain ⟨e, rfl⟩ := e
  rcases e with rfl | ⟨rfl, lb⟩
  · conv => whnf
    refine (ca).mono fun r st e => ?_
    obtain ⟨rfl, rfl⟩ := e
    conv => whnf
    refine ⟨false, [], ?_⟩
    conv => whnf
  conv => whnf
  have hla : a.txs.length < 4294967296 := by have := la.1; omega
  have hlb : b.txs.length < 4294967296 := by have := lb.1; omega
  have cs1 := c_bsame a b hla
  have cs2 := c_bsameR a b hla
  have cs3 := c_bsameR a a hla
  rw [decide_eq_true (rfl : a = a)] at cs3
  have ck := ck la
  have cm := cm la
  cases m
  · refine (cpN rfl la).mono fun r st e => ?_
    obtain ⟨rfl, rfl⟩ := e
    conv => whnf
    refine (cm).mono fun r st e => ?_
    obtain ⟨rfl, rfl⟩ := e
    conv => whnf
    refine ⟨tabF5R5, by decide +kernel, ?_⟩
    conv => whnf
    refine ⟨_, _, ck, ?_⟩
    conv => whnf
    refine ⟨_, _, ch la, ?_⟩
    conv => whnf
    refine ⟨_, _, chR la, ?_⟩
    conv => whnf
    refine ⟨H, H, rfl, rfl, ?_⟩
    conv => whnf
    rw [beq_self_eq_true]
    conv => whnf
    refine ⟨_, _, cs1, ?_⟩
    conv => whnf
    refine ⟨_, _, cs2, ?_⟩
    conv => whnf
    rw [beq_self_eq_true]
    conv => whnf
    refine ⟨_, _, c_bcopy a hla, ?_⟩
    conv => whnf
    refine ⟨_, _, cs3, ?_⟩
    conv => whnf
    refine (ca).mono fun r st e => ?_
    obtain ⟨rfl, rfl⟩ := e
    conv => whnf
    refine ⟨false, [], ?_⟩
    conv => whnf
  · refine (cpY rfl la).mono fun r st e => ?_
    obtain ⟨rfl, rfl⟩ := e
    conv => whnf
    refine (cm).mono fun r st e => ?_
    obtain ⟨rfl, rfl⟩ := e
    conv => whnf
    refine ⟨tabF5R5, by decide +kernel, ?_⟩
    conv => whnf
    refine ⟨_, _, ck, ?_⟩
    conv => whnf
    refine ⟨_, _, ch la, ?_⟩
    conv => whnf
    refine ⟨_, _, chR la, ?_⟩
    conv => whnf
    refine ⟨H, H, rfl, rfl, ?_⟩
    conv => whnf
    rw [beq_self_eq_true]
    conv => whnf
    refine ⟨_, _, cs1, ?_⟩
    conv => whnf
    refine ⟨_, _, cs2, ?_⟩
    conv => whnf
    rw [beq_self_eq_true]
    conv => whnf
    refine ⟨_, _, c_bcopy a hla, ?_⟩
    conv => whnf
    refine ⟨_, _, cs3, ?_⟩
    conv => whnf
    refine (cg rfl).mono fun r st e => ?_
    obtain ⟨rfl, rfl⟩ := e
    conv => whnf
    refine (cpR rfl).mono fun r st e => ?_
    obtain ⟨rfl, rfl⟩ := e
    conv => whnf
    refine (c_same P P (by omega) (.inr rfl) (.inr rfl)).mono fun r st e => ?_
    obtain ⟨rfl, rfl⟩ := e
    conv => whnf
    rw [beq_self_eq_true]
    conv => whnf
    refine (cs3).mono fun r st e => ?_
    obtain ⟨rfl, rfl⟩ := e
    conv => whnf
    refine (ca).mono fun r st e => ?_
    obtain ⟨rfl, rfl⟩ := e
    conv => whnf
    refine ⟨false, [], ?_⟩
    conv => whnf
theorem lightK {b : Bl} (h : lightB b) : b.txs.length < 4294967296 ∧ shortK b.txs := ⟨by have := h.1; omega, fun t ht => by have := (h.2 t ht).1; omega⟩
theorem c_blockputs (a b : Bl) (hpa : a.p.length = 32) : FnOK Tryd.prog D 5 [(AV.st [.ar 32 .lf (by8 (a).p), .sc (.int .i64 (a).v), .sc (.int .i64 (a).h), .sc (.int .i64 (a).by_), .sl (.nd [.lf, .lf, .lf, .lf, .lf, .lf, .lf]) (txsA (a).txs) .ro]), (AV.st [.ar 32 .lf (by8 (b).p), .sc (.int .i64 (b).v), .sc (.int .i64 (b).h), .sc (.int .i64 (b).by_), .sl (.nd [.lf, .lf, .lf, .lf, .lf, .lf, .lf]) (txsA (b).txs) .ro])] [] (fun r _ => r = (AV.sc (.bool (true)))) := by
  refine c_blockputs_aux a b (if mayB a = true then blB a else []) (blH a) (mayB a) (blH_len a) hpa ?_ c_awake7 (fun hm la => ?_) (fun hm la => ?_) (fun la => c_bmayR a (lightK la).1 (lightK la).2) (fun la => c_bcheck a (lightK la).1 (lightK la).2) (fun la => c_bhash a (lightK la).1 (lightK la).2 hpa) (fun la => c_bhashR a (lightK la).1 (lightK la).2 hpa) (fun hm => ?_) (fun hm => ?_)
  · split
    · rename_i h
      exact blB_len h hpa
    · decide
  · have := c_bput a (lightK la).1 (lightK la).2 hpa
    rw [hm, if_pos rfl, if_pos rfl] at this
    rw [hm, if_pos rfl]
    exact this
  · exact c_bput_no a (lightK la).1 (lightK la).2 hm
  · have hb := blB_len hm hpa
    have cg := c_bget (blB a) (by omega)
    rw [getB_put hm hpa] at cg
    rw [if_pos hm]
    refine cg.mono fun r st h => ⟨?_, h.2⟩
    rcases h.1 with h | h
    · exact h.2
    · exact absurd h.1 (by simp)
  · rw [if_pos hm]
    exact c_bputR a hm hpa
theorem txs_of {v : AV} (h : OfTy (.sl (.nd [.lf, .lf, .lf, .lf, .lf, .lf, .lf]) (.st [.int .i64, .int .i64, .int .i64, .int .i64, .int .i64, .str, .str])) v) : ∃ l : List Tx, v = (AV.sl (.nd [.lf, .lf, .lf, .lf, .lf, .lf, .lf]) (txsA (l)) .ro) := by
  obtain ⟨xs, rfl, _, h2⟩ := h
  have : ∀ xs : List AV, (∀ x ∈ xs, OfTy (.st [.int .i64, .int .i64, .int .i64, .int .i64, .int .i64, .str, .str]) x) → ∃ l : List Tx, xs = txsA l := by
    intro xs
    induction xs with
    | nil => intro _; exact ⟨[], rfl⟩
    | cons x xs ih =>
      intro h
      obtain ⟨l, e⟩ := ih fun y hy => h y (List.mem_cons_of_mem _ hy)
      obtain ⟨t, e2⟩ := tx_of (h x (by simp))
      exact ⟨t :: l, by rw [e, e2]; rfl⟩
  obtain ⟨l, rfl⟩ := this xs h2
  exact ⟨l, rfl⟩
theorem bl_of {v : AV} (h : OfTy (.st [.ar 32 .lf (.int .u8), .int .i64, .int .i64, .int .i64, .sl (.nd [.lf, .lf, .lf, .lf, .lf, .lf, .lf]) (.st [.int .i64, .int .i64, .int .i64, .int .i64, .int .i64, .str, .str])]) v) : ∃ b : Bl, v = (AV.st [.ar 32 .lf (by8 (b).p), .sc (.int .i64 (b).v), .sc (.int .i64 (b).h), .sc (.int .i64 (b).by_), .sl (.nd [.lf, .lf, .lf, .lf, .lf, .lf, .lf]) (txsA (b).txs) .ro]) ∧ b.p.length = 32 := by
  obtain ⟨_, rfl, y0, _, rfl, h0, y1, _, rfl, ⟨v, rfl, _⟩, y2, _, rfl, ⟨h, rfl, _⟩, y3, _, rfl, ⟨y, rfl, _⟩, y4, _, rfl, h4, rfl⟩ := h
  obtain ⟨p, rfl, hp⟩ := arr_of h0
  obtain ⟨l, rfl⟩ := txs_of h4
  exact ⟨⟨p, v, h, y, l⟩, rfl, hp⟩
end Go.WL.T6d
