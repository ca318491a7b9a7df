/- BlockPuts, BlockGets. No condition. -/
import Derived.Test.YtmpnboonjpcmpaaDoorPart39
import Derived.Test.YtmpnboonjpcmpaaDoorPart35
set_option linter.unusedVariables false
set_option linter.unusedSimpArgs false
namespace Go.WL.T7
open Go.WL Go.Proofs
set_option maxRecDepth 20000
set_option maxHeartbeats 8000000
theorem c_lstepR_aux (c : Cl) (l : List Bl) (a : At) (s : List Sg) (may rc : Bool) (fits : Cl → Bl → Bool) (beh : Cl → Bl → Cl) (H : Bl → List UInt8) (al : Cl → List Bl → Option Cl) (hl : l.length < 4294967296)
    (a0 : ∀ c, al c [] = some c) (a1 : ∀ c b l, al c (b :: l) = if fits c b = true then al (beh c b) l else none)
    (hb : ∀ d b, fits d b = true → beh d b = ⟨d.n, H b, b.v, b.h⟩)
    (cm : FnOK Tryd.prog D 54 [(AV.st [.sc (.int .i64 (c).n), .ar 32 .lf (by8 (c).g), .sc (.int .i64 (c).v), .sc (.int .i64 (c).h)])] [] (fun r st => r = (AV.sc (.bool (may))) ∧ st = []))
    (cf : ∀ c b, b ∈ l → FnOK Tryd.prog D 46 [(AV.st [.sc (.int .i64 (c).n), .ar 32 .lf (by8 (c).g), .sc (.int .i64 (c).v), .sc (.int .i64 (c).h)]), (AV.st [.ar 32 .lf (by8 (b).p), .sc (.int .i64 (b).v), .sc (.int .i64 (b).h), .sc (.int .i64 (b).by_), .sl (.nd [.lf, .lf, .lf, .lf, .lf, .lf, .lf]) (txsA (b).txs) .ro])] [] (fun r st => r = (AV.sc (.bool (fits c b))) ∧ st = []))
    (ch : ∀ b, b ∈ l → FnOK Tryd.prog D 48 [(AV.st [.ar 32 .lf (by8 (b).p), .sc (.int .i64 (b).v), .sc (.int .i64 (b).h), .sc (.int .i64 (b).by_), .sl (.nd [.lf, .lf, .lf, .lf, .lf, .lf, .lf]) (txsA (b).txs) .ro])] [] (fun r st => r = .ar 32 .lf (by8 (H b)) ∧ st = []))
    (cr : FnOK Tryd.prog D 90 [(AV.sc (.int .i64 (c.n))), .st [(AV.st [.sc (.int .i64 (a).by_), .sc (.int .i64 (a).k), .sc (.int .i64 (a).v), .sc (.int .i64 (a).ph), .ar 32 .lf (by8 (a).h), .sc (.int .i64 (a).pv), .ar 32 .lf (by8 (a).pg), .ar 32 .lf (by8 (a).tag)]), (AV.sl (.nd [.lf, .ar 32 .lf]) (sigsA (s)) .ro)]] [] (fun r st => r = (AV.sc (.bool (rc))) ∧ st = [])) :
    FnOK Tryd.prog D 50 [(AV.st [.sc (.int .i64 (c).n), .ar 32 .lf (by8 (c).g), .sc (.int .i64 (c).v), .sc (.int .i64 (c).h)]), (AV.sl (.nd [.ar 32 .lf, .lf, .lf, .lf, .lf]) (blsA (l)) .ro), .st [(AV.st [.sc (.int .i64 (a).by_), .sc (.int .i64 (a).k), .sc (.int .i64 (a).v), .sc (.int .i64 (a).ph), .ar 32 .lf (by8 (a).h), .sc (.int .i64 (a).pv), .ar 32 .lf (by8 (a).pg), .ar 32 .lf (by8 (a).tag)]), (AV.sl (.nd [.lf, .ar 32 .lf]) (sigsA (s)) .ro)]] [] (fun r st => r = .tup [(AV.st [.sc (.int .i64 ((stepC may (lastV l) (al c l) rc c l a).1).n), .ar 32 .lf (by8 ((stepC may (lastV l) (al c l) rc c l a).1).g), .sc (.int .i64 ((stepC may (lastV l) (al c l) rc c l a).1).v), .sc (.int .i64 ((stepC may (lastV l) (al c l) rc c l a).1).h)]), (AV.sc (.int .i64 ((stepC may (lastV l) (al c l) rc c l a).2)))] ∧ st = []) := by
  have hll := lenB l
  refine fnok_of_W hmix tabOK Tryd.func50 rfl rfl (Nat.le_of_ble_eq_true rfl) ?_
  conv => whnf
  refine (cm).mono fun r st e => ?_
  obtain ⟨rfl, rfl⟩ := e
  conv => whnf
  by_cases h0 : may = false ∨ l = []
  · have e : stepC may (lastV l) (al c l) rc c l a = (c0, 1) := by unfold stepC; rw [if_pos h0]
    rw [e]
    cases may with
    | false =>
      conv => whnf
      refine ⟨false, [], ?_⟩
      conv => whnf
      exact ⟨rfl, rfl⟩
    | true =>
      obtain rfl : l = [] := h0.resolve_left (by simp)
      conv => whnf
      refine ⟨false, [], ?_⟩
      conv => whnf
      exact ⟨rfl, rfl⟩
  have hm : may = true := by simpa using fun h => h0 (.inl h)
  have hne : l ≠ [] := fun h => h0 (.inr h)
  have hpos : 0 < l.length := List.length_pos_iff.2 hne
  subst hm
  conv => whnf
  rw [hll]
  refine Branch.of (fun hh => ?_) (fun hh => ?_)
  · exfalso; simp only [gt_iff_lt, ge_iff_le, decide_eq_true_eq, decide_eq_false_iff_not, beq_iff_eq, beq_eq_false_iff_ne, bne_iff_ne, bne_eq_false_iff_eq, ne_eq] at hh; first | done | omega | (simp at hh; done)
  try rw [hh]
  clear hh
  conv => whnf
  obtain ⟨b, hbl, hv⟩ := lastV_at hpos
  refine ⟨tabF50R3, by decide +kernel, ?_⟩
  conv => whnf
  rw [hll, w64 (x := (l.length : Int) - 1) (by omega) (by omega)]
  repeat (refine And.intro (by first | omega) ?_; conv => whnf)
  refine ⟨_, hbl, ?_⟩
  conv => whnf
  rw [hv]
  refine Branch.of (fun h1 => ?_) (fun h1 => ?_) <;> rw [h1] <;> conv => whnf
  · simp only [decide_eq_true_eq] at h1
    have e : stepC true (lastV l) (al c l) rc c l a = (c0, 11) := by unfold stepC; rw [if_neg h0, if_pos h1]
    rw [e]
    refine ⟨false, [], ?_⟩
    conv => whnf
    exact ⟨rfl, rfl⟩
  simp only [decide_eq_false_iff_not] at h1
  refine ⟨false, [1, 3, 5, 6, 8, 9], fun τ => ∃ (i : Nat) (d : Cl), i ≤ l.length ∧ d.n = c.n ∧ al c l = al d (l.drop i) ∧ τ = ⟨92, [(1, (AV.sl (.nd [.ar 32 .lf, .lf, .lf, .lf, .lf]) (blsA (l)) .ro)), (3, .pt 0 []), (5, .pt 1 []), (6, .pt 2 []), (8, .pt 3 []), (9, (AV.sc (.int .i64 ((i : Int)))))], ⟨[((AV.st [.sc (.int .i64 (c).n), .ar 32 .lf (by8 (c).g), .sc (.int .i64 (c).v), .sc (.int .i64 (c).h)]), false), (.st [(AV.st [.sc (.int .i64 (a).by_), .sc (.int .i64 (a).k), .sc (.int .i64 (a).v), .sc (.int .i64 (a).ph), .ar 32 .lf (by8 (a).h), .sc (.int .i64 (a).pv), .ar 32 .lf (by8 (a).pg), .ar 32 .lf (by8 (a).tag)]), (AV.sl (.nd [.lf, .ar 32 .lf]) (sigsA (s)) .ro)], false), ((AV.st [.sc (.int .i64 (c0).n), .ar 32 .lf (by8 (c0).g), .sc (.int .i64 (c0).v), .sc (.int .i64 (c0).h)]), false), ((AV.st [.sc (.int .i64 (d).n), .ar 32 .lf (by8 (d).g), .sc (.int .i64 (d).v), .sc (.int .i64 (d).h)]), false)], [], 0⟩⟩, fun τ => l.length - (slotI τ 9).toNat, ?_, ?_⟩
  · conv => whnf
    exact ⟨0, c, by omega, rfl, rfl, rfl⟩
  rintro τ ⟨i, d, hi, hdn, e, rfl⟩
  conv => whnf
  rw [hll]
  refine Branch.of (fun h2 => ?_) (fun h2 => ?_) <;> rw [h2] <;> conv => whnf
  · simp only [decide_eq_true_eq] at h2
    have il : i < l.length := by omega
    have hmem := List.getElem_mem il
    rw [List.drop_eq_getElem_cons il, a1] at e
    refine ⟨tabF50R9, by decide +kernel, ?_⟩
    conv => whnf
    repeat (refine And.intro (by first | omega) ?_; conv => whnf)
    refine ⟨_, atB il, ?_⟩
    conv => whnf
    refine ⟨_, _, cf d l[i] hmem, ?_⟩
    conv => whnf
    cases hf : fits d l[i] with
    | false =>
      have e2 : stepC true (lastV l) (al c l) rc c l a = (c0, 1) := by
        unfold stepC
        rw [if_neg h0, if_neg h1, e, hf]
        rfl
      rw [e2]
      conv => whnf
      refine ⟨false, [], ?_⟩
      conv => whnf
      exact ⟨rfl, rfl⟩
    | true =>
      have hbe := hb d l[i] hf
      conv => whnf
      refine ⟨tabF50R11, by decide +kernel, ?_⟩
      conv => whnf
      repeat (refine And.intro (by first | omega) ?_; conv => whnf)
      refine ⟨_, atB il, ?_⟩
      conv => whnf
      refine ⟨_, _, ch l[i] hmem, ?_⟩
      conv => whnf
      repeat (refine And.intro (by first | omega) ?_; conv => whnf)
      refine ⟨_, atB il, ?_⟩
      conv => whnf
      repeat (refine And.intro (by first | omega) ?_; conv => whnf)
      refine ⟨_, atB il, ?_⟩
      conv => whnf
      rw [w64 (x := (i : Int) + 1) (by omega) (by omega)]
      refine ⟨⟨i + 1, beh d l[i], by omega, by rw [hbe]; exact hdn, ?_, ?_⟩, ?_⟩
      · rw [e, hf]
        rfl
      · rw [hbe, ← hdn]
        rfl
      · show l.length - ((i : Int) + 1).toNat < l.length - (i : Int).toNat
        omega
  simp only [decide_eq_false_iff_not] at h2
  rw [List.drop_of_length_le (by omega), a0] at e
  have e : stepC true (lastV l) (al c l) rc c l a = if rc = true ∧ a.k = 3 ∧ a.h = d.g ∧ a.v = d.v then (d, 0) else (c0, 7) := by unfold stepC; rw [if_neg h0, if_neg h1, e]
  rw [e]
  refine (cr).mono fun r st e => ?_
  obtain ⟨rfl, rfl⟩ := e
  conv => whnf
  by_cases hX : rc = true ∧ a.k = 3 ∧ a.h = d.g ∧ a.v = d.v
  · rw [if_pos hX]
    obtain ⟨rfl, h3, h4, h5⟩ := hX
    conv => whnf
    refine Branch.of (fun hh => ?_) (fun hh => ?_)
    · exfalso; simp only [gt_iff_lt, ge_iff_le, decide_eq_true_eq, decide_eq_false_iff_not, beq_iff_eq, beq_eq_false_iff_ne, bne_iff_ne, bne_eq_false_iff_eq, ne_eq] at hh; first | done | omega | (simp at hh; done)
    try rw [hh]
    clear hh
    conv => whnf
    refine ⟨a.h, d.g, rfl, rfl, ?_⟩
    conv => whnf
    rw [h4, beq_self_eq_true]
    conv => whnf
    refine Branch.of (fun hh => ?_) (fun hh => ?_)
    · exfalso; simp only [gt_iff_lt, ge_iff_le, decide_eq_true_eq, decide_eq_false_iff_not, beq_iff_eq, beq_eq_false_iff_ne, bne_iff_ne, bne_eq_false_iff_eq, ne_eq] at hh; first | done | omega | (simp at hh; done)
    try rw [hh]
    clear hh
    conv => whnf
    refine ⟨false, [], ?_⟩
    conv => whnf
    exact ⟨rfl, rfl⟩
  · rw [if_neg hX]
    repeat' (first
      | (refine ⟨a.h, d.g, rfl, rfl, ?_⟩
         conv => whnf)
      | (refine And.intro (by omega) ?_
         conv => whnf)
      | (refine Branch.of (fun h => ?_) (fun h => ?_) <;> (rw [h]; conv => whnf)))
    all_goals first
      | (exfalso; simp_all; done)
      | (refine ⟨false, [], ?_⟩; conv => whnf
         exact ⟨rfl, rfl⟩)
abbrev stepL (c : Cl) (l : List Bl) (a : At) (s : List Sg) : Cl × Int := stepC (mayC c) (lastV l) (alongC c l) (rightC c.n a s) c l a
theorem c_lstep (c : Cl) (l : List Bl) (a : At) (s : List Sg) (hl : l.length < 4294967296) (hb : okBs l) (hsl : s.length < 4294967296) (hw : a.wf) (hs : sigOK s) :
    FnOK Tryd.prog D 49 [(AV.st [.sc (.int .i64 (c).n), .ar 32 .lf (by8 (c).g), .sc (.int .i64 (c).v), .sc (.int .i64 (c).h)]), (AV.sl (.nd [.ar 32 .lf, .lf, .lf, .lf, .lf]) (blsA (l)) .ro), .st [(AV.st [.sc (.int .i64 (a).by_), .sc (.int .i64 (a).k), .sc (.int .i64 (a).v), .sc (.int .i64 (a).ph), .ar 32 .lf (by8 (a).h), .sc (.int .i64 (a).pv), .ar 32 .lf (by8 (a).pg), .ar 32 .lf (by8 (a).tag)]), (AV.sl (.nd [.lf, .ar 32 .lf]) (sigsA (s)) .ro)]] [] (fun r st => r = .tup [(AV.st [.sc (.int .i64 ((stepL c l a s).1).n), .ar 32 .lf (by8 ((stepL c l a s).1).g), .sc (.int .i64 ((stepL c l a s).1).v), .sc (.int .i64 ((stepL c l a s).1).h)]), (AV.sc (.int .i64 ((stepL c l a s).2)))] ∧ st = []) :=
  c_lstep_aux c l a s (mayC c) (rightC c.n a s) (alongC c l) hl (c_lcheck c) (c_along c l hl hb) (c_cright c.n a s hsl hw hs)
theorem c_lstepR (c : Cl) (l : List Bl) (a : At) (s : List Sg) (hl : l.length < 4294967296) (hb : okBs l) (hsl : s.length < 4294967296) (hw : a.wf) (hs : sigOK s) :
    FnOK Tryd.prog D 50 [(AV.st [.sc (.int .i64 (c).n), .ar 32 .lf (by8 (c).g), .sc (.int .i64 (c).v), .sc (.int .i64 (c).h)]), (AV.sl (.nd [.ar 32 .lf, .lf, .lf, .lf, .lf]) (blsA (l)) .ro), .st [(AV.st [.sc (.int .i64 (a).by_), .sc (.int .i64 (a).k), .sc (.int .i64 (a).v), .sc (.int .i64 (a).ph), .ar 32 .lf (by8 (a).h), .sc (.int .i64 (a).pv), .ar 32 .lf (by8 (a).pg), .ar 32 .lf (by8 (a).tag)]), (AV.sl (.nd [.lf, .ar 32 .lf]) (sigsA (s)) .ro)]] [] (fun r st => r = .tup [(AV.st [.sc (.int .i64 ((stepL c l a s).1).n), .ar 32 .lf (by8 ((stepL c l a s).1).g), .sc (.int .i64 ((stepL c l a s).1).v), .sc (.int .i64 ((stepL c l a s).1).h)]), (AV.sc (.int .i64 ((stepL c l a s).2)))] ∧ st = []) :=
  c_lstepR_aux c l a s (mayC c) (rightC c.n a s) fitsC behC blH alongC hl (fun _ => rfl) (fun _ _ _ => rfl) (fun d b h => by unfold behC; rw [if_pos h]) (c_lmayR c)
    (fun c b h => c_fitsR c b (hb b h).1 (hb b h).2.1) (fun b h => c_bhashR b (hb b h).1 (hb b h).2.1 (hb b h).2.2) (c_crightR c.n a s hsl hw hs)
end Go.WL.T7
namespace Go.WL.T7
open Go.WL Go.Proofs
set_option maxRecDepth 20000
set_option maxHeartbeats 8000000
theorem lightK {b : Bl} (h : lightB b) : b.txs.length < 4294967296 ∧ shortK b.txs := ⟨by have := h.1; omega, fun t ht => by have := (h.2 t ht).1; omega⟩
theorem txs_of {v : AV} (h : OfTy (.sl (.nd [.lf, .lf, .lf, .lf, .lf, .lf, .lf]) (.st [.int .i64, .int .i64, .int .i64, .int .i64, .int .i64, .str, .str])) v) : ∃ l : List Tx, v = (AV.sl (.nd [.lf, .lf, .lf, .lf, .lf, .lf, .lf]) (txsA (l)) .ro) := by
  obtain ⟨xs, rfl, _, h2⟩ := h
  have : ∀ xs : List AV, (∀ x ∈ xs, OfTy (.st [.int .i64, .int .i64, .int .i64, .int .i64, .int .i64, .str, .str]) x) → ∃ l : List Tx, xs = txsA l := by
    intro xs
    induction xs with
    | nil => intro _; exact ⟨[], rfl⟩
    | cons x xs ih =>
      intro h
      obtain ⟨l, e⟩ := ih fun y hy => h y (List.mem_cons_of_mem _ hy)
      obtain ⟨t, e2⟩ := tx_of (h x (by simp))
      exact ⟨t :: l, by rw [e, e2]; rfl⟩
  obtain ⟨l, rfl⟩ := this xs h2
  exact ⟨l, rfl⟩
theorem bl_of {v : AV} (h : OfTy (.st [.ar 32 .lf (.int .u8), .int .i64, .int .i64, .int .i64, .sl (.nd [.lf, .lf, .lf, .lf, .lf, .lf, .lf]) (.st [.int .i64, .int .i64, .int .i64, .int .i64, .int .i64, .str, .str])]) v) : ∃ b : Bl, v = (AV.st [.ar 32 .lf (by8 (b).p), .sc (.int .i64 (b).v), .sc (.int .i64 (b).h), .sc (.int .i64 (b).by_), .sl (.nd [.lf, .lf, .lf, .lf, .lf, .lf, .lf]) (txsA (b).txs) .ro]) ∧ b.p.length = 32 := by
  obtain ⟨_, rfl, y0, _, rfl, h0, y1, _, rfl, ⟨v, rfl, _⟩, y2, _, rfl, ⟨h, rfl, _⟩, y3, _, rfl, ⟨y, rfl, _⟩, y4, _, rfl, h4, rfl⟩ := h
  obtain ⟨p, rfl, hp⟩ := arr_of h0
  obtain ⟨l, rfl⟩ := txs_of h4
  exact ⟨⟨p, v, h, y, l⟩, rfl, hp⟩
end Go.WL.T7
