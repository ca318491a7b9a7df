/- Light clients: a step, by the program and by the reference. No condition. -/
import Derived.Test.YtmpnboonjpcmpaaDoorPart38
set_option linter.unusedVariables false
set_option linter.unusedSimpArgs false
namespace Go.WL.T7
open Go.WL Go.Proofs
set_option maxRecDepth 20000
set_option maxHeartbeats 8000000
def blsA (l : List Bl) : List AV := l.map fun b => (AV.st [.ar 32 .lf (by8 (b).p), .sc (.int .i64 (b).v), .sc (.int .i64 (b).h), .sc (.int .i64 (b).by_), .sl (.nd [.lf, .lf, .lf, .lf, .lf, .lf, .lf]) (txsA (b).txs) .ro])
theorem lenB (l : List Bl) : (blsA l).length = l.length := by simp [blsA]
theorem atB {l : List Bl} {i : Nat} (h : i < l.length) : (blsA l)[((i : Nat) : Int).toNat]? = some (AV.st [.ar 32 .lf (by8 (l[i]).p), .sc (.int .i64 (l[i]).v), .sc (.int .i64 (l[i]).h), .sc (.int .i64 (l[i]).by_), .sl (.nd [.lf, .lf, .lf, .lf, .lf, .lf, .lf]) (txsA (l[i]).txs) .ro]) := by
  rw [Int.toNat_natCast]
  simp [blsA, h]
def c0 : Cl := ⟨0, z32, 0, 0⟩
def alongC : Cl → List Bl → Option Cl
  | c, [] => some c
  | c, b :: l => if fitsC c b = true then alongC (behC c b) l else none
theorem alongC_cons (c : Cl) (b : Bl) (l : List Bl) : alongC c (b :: l) = if fitsC c b = true then alongC (behC c b) l else none := rfl
abbrev okB (b : Bl) : Prop := b.txs.length < 4294967296 ∧ shortK b.txs ∧ b.p.length = 32
theorem okB_of {b : Bl} (h : lightB b) (hp : b.p.length = 32) : okB b := ⟨by have := h.1; omega, fun t ht => by have := (h.2 t ht).1; omega, hp⟩
abbrev okBs (l : List Bl) : Prop := ∀ b ∈ l, okB b
theorem c_along_aux (c : Cl) (l : List Bl) (fits : Cl → Bl → Bool) (beh : Cl → Bl → Cl) (al : Cl → List Bl → Option Cl) (hl : l.length < 4294967296)
    (a0 : ∀ c, al c [] = some c) (a1 : ∀ c b l, al c (b :: l) = if fits c b = true then al (beh c b) l else none)
    (cf : ∀ c b, b ∈ l → FnOK Tryd.prog D 47 [(AV.st [.sc (.int .i64 (c).n), .ar 32 .lf (by8 (c).g), .sc (.int .i64 (c).v), .sc (.int .i64 (c).h)]), (AV.st [.ar 32 .lf (by8 (b).p), .sc (.int .i64 (b).v), .sc (.int .i64 (b).h), .sc (.int .i64 (b).by_), .sl (.nd [.lf, .lf, .lf, .lf, .lf, .lf, .lf]) (txsA (b).txs) .ro])] [] (fun r st => r = (AV.sc (.bool (fits c b))) ∧ st = []))
    (cb : ∀ c b, b ∈ l → FnOK Tryd.prog D 45 [(AV.st [.sc (.int .i64 (c).n), .ar 32 .lf (by8 (c).g), .sc (.int .i64 (c).v), .sc (.int .i64 (c).h)]), (AV.st [.ar 32 .lf (by8 (b).p), .sc (.int .i64 (b).v), .sc (.int .i64 (b).h), .sc (.int .i64 (b).by_), .sl (.nd [.lf, .lf, .lf, .lf, .lf, .lf, .lf]) (txsA (b).txs) .ro])] [] (fun r st => r = (AV.st [.sc (.int .i64 (beh c b).n), .ar 32 .lf (by8 (beh c b).g), .sc (.int .i64 (beh c b).v), .sc (.int .i64 (beh c b).h)]) ∧ st = [])) :
    FnOK Tryd.prog D 88 [(AV.st [.sc (.int .i64 (c).n), .ar 32 .lf (by8 (c).g), .sc (.int .i64 (c).v), .sc (.int .i64 (c).h)]), (AV.sl (.nd [.ar 32 .lf, .lf, .lf, .lf, .lf]) (blsA (l)) .ro)] [] (fun r st => ((∃ o, al c l = some o ∧ r = .tup [(AV.st [.sc (.int .i64 (o).n), .ar 32 .lf (by8 (o).g), .sc (.int .i64 (o).v), .sc (.int .i64 (o).h)]), (AV.sc (.bool (true)))]) ∨ (al c l = none ∧ r = .tup [(AV.st [.sc (.int .i64 (c0).n), .ar 32 .lf (by8 (c0).g), .sc (.int .i64 (c0).v), .sc (.int .i64 (c0).h)]), (AV.sc (.bool (false)))])) ∧ st = []) := by
  have hll := lenB l
  refine fnok_of_W hmix tabOK Tryd.func88 rfl rfl (Nat.le_of_ble_eq_true rfl) ?_
  conv => whnf
  rw [hll]
  refine ⟨false, [2, 4, 8, 9, 10], fun τ => ∃ (i : Nat) (d : Cl), i ≤ l.length ∧ al c l = al d (l.drop i) ∧ τ = ⟨24, [(2, .pt 0 []), (4, .pt 1 []), (8, (AV.sl (.nd [.ar 32 .lf, .lf, .lf, .lf, .lf]) (blsA (l)) .ro)), (9, (AV.sc (.int .i64 ((l.length : Int))))), (10, (AV.sc (.int .i64 ((i : Int)))))], ⟨[((AV.st [.sc (.int .i64 (d).n), .ar 32 .lf (by8 (d).g), .sc (.int .i64 (d).v), .sc (.int .i64 (d).h)]), false), ((AV.st [.sc (.int .i64 (c0).n), .ar 32 .lf (by8 (c0).g), .sc (.int .i64 (c0).v), .sc (.int .i64 (c0).h)]), false)], [], 0⟩⟩, fun τ => l.length - (slotI τ 10).toNat, ?_, ?_⟩
  · conv => whnf
    exact ⟨0, c, by omega, rfl, rfl⟩
  rintro τ ⟨i, d, hi, e, rfl⟩
  conv => whnf
  refine Branch.of (fun h1 => ?_) (fun h1 => ?_) <;> rw [h1] <;> conv => whnf
  · simp only [decide_eq_true_eq] at h1
    have il : i < l.length := by omega
    have hm := List.getElem_mem il
    rw [List.drop_eq_getElem_cons il, a1] at e
    repeat (refine And.intro (by first | omega) ?_; conv => whnf)
    refine ⟨_, atB il, ?_⟩
    conv => whnf
    refine (cf d l[i] hm).mono fun r st e => ?_
    obtain ⟨rfl, rfl⟩ := e
    conv => whnf
    cases hf : fits d l[i] with
    | false =>
      conv => whnf
      refine ⟨false, [], ?_⟩
      conv => whnf
      refine ⟨.inr ⟨?_, rfl⟩, rfl⟩
      rw [e, hf]
      rfl
    | true =>
      conv => whnf
      refine (cb d l[i] hm).mono fun r st e => ?_
      obtain ⟨rfl, rfl⟩ := e
      conv => whnf
      rw [w64 (x := (i : Int) + 1) (by omega) (by omega)]
      refine ⟨⟨i + 1, beh d l[i], by omega, ?_, rfl⟩, ?_⟩
      · rw [e, hf]
        rfl
      · show l.length - ((i : Int) + 1).toNat < l.length - (i : Int).toNat
        omega
  · simp only [decide_eq_false_iff_not] at h1
    refine ⟨false, [], ?_⟩
    conv => whnf
    refine ⟨.inl ⟨d, ?_, rfl⟩, rfl⟩
    rw [e, List.drop_of_length_le (by omega), a0]
theorem c_along (c : Cl) (l : List Bl) (hl : l.length < 4294967296) (hb : okBs l) : FnOK Tryd.prog D 88 [(AV.st [.sc (.int .i64 (c).n), .ar 32 .lf (by8 (c).g), .sc (.int .i64 (c).v), .sc (.int .i64 (c).h)]), (AV.sl (.nd [.ar 32 .lf, .lf, .lf, .lf, .lf]) (blsA (l)) .ro)] [] (fun r st => ((∃ o, alongC c l = some o ∧ r = .tup [(AV.st [.sc (.int .i64 (o).n), .ar 32 .lf (by8 (o).g), .sc (.int .i64 (o).v), .sc (.int .i64 (o).h)]), (AV.sc (.bool (true)))]) ∨ (alongC c l = none ∧ r = .tup [(AV.st [.sc (.int .i64 (c0).n), .ar 32 .lf (by8 (c0).g), .sc (.int .i64 (c0).v), .sc (.int .i64 (c0).h)]), (AV.sc (.bool (false)))])) ∧ st = []) :=
  c_along_aux c l fitsC behC alongC hl (fun _ => rfl) (fun _ _ _ => rfl) (fun c b h => c_fits c b (hb b h).1 (hb b h).2.1) (fun c b h => c_behind c b (hb b h).1 (hb b h).2.1 (hb b h).2.2)
/-- A step: the client behind it, and what is told. -/
def stepC (may : Bool) (last : Int) (al : Option Cl) (rc : Bool) (c : Cl) (l : List Bl) (a : At) : Cl × Int :=
  if may = false ∨ l = [] then (c0, 1) else if last ≤ c.v then (c0, 11) else match al with
    | none => (c0, 1)
    | some o => if rc = true ∧ a.k = 3 ∧ a.h = o.g ∧ a.v = o.v then (o, 0) else (c0, 7)
def lastV (l : List Bl) : Int := match l.getLast? with
  | some b => b.v
  | none => 0
theorem lastV_at {l : List Bl} (h : 0 < l.length) : ∃ b : Bl, (blsA l)[((l.length : Int) - 1).toNat]? = some (AV.st [.ar 32 .lf (by8 (b).p), .sc (.int .i64 (b).v), .sc (.int .i64 (b).h), .sc (.int .i64 (b).by_), .sl (.nd [.lf, .lf, .lf, .lf, .lf, .lf, .lf]) (txsA (b).txs) .ro]) ∧ b.v = lastV l := by
  have h1 : l.length - 1 < l.length := by omega
  have := atB h1
  rw [show (((l.length - 1 : Nat) : Int)) = (l.length : Int) - 1 by omega] at this
  refine ⟨_, this, ?_⟩
  unfold lastV
  rw [List.getLast?_eq_getElem?, List.getElem?_eq_getElem h1]
theorem c_lstep_aux (c : Cl) (l : List Bl) (a : At) (s : List Sg) (may rc : Bool) (al : Option Cl) (hl : l.length < 4294967296)
    (cm : FnOK Tryd.prog D 53 [(AV.st [.sc (.int .i64 (c).n), .ar 32 .lf (by8 (c).g), .sc (.int .i64 (c).v), .sc (.int .i64 (c).h)])] [] (fun r st => r = (AV.sc (.int .i64 (if may = true then 0 else 1))) ∧ st = []))
    (ca : FnOK Tryd.prog D 88 [(AV.st [.sc (.int .i64 (c).n), .ar 32 .lf (by8 (c).g), .sc (.int .i64 (c).v), .sc (.int .i64 (c).h)]), (AV.sl (.nd [.ar 32 .lf, .lf, .lf, .lf, .lf]) (blsA (l)) .ro)] [] (fun r st => ((∃ o, al = some o ∧ r = .tup [(AV.st [.sc (.int .i64 (o).n), .ar 32 .lf (by8 (o).g), .sc (.int .i64 (o).v), .sc (.int .i64 (o).h)]), (AV.sc (.bool (true)))]) ∨ (al = none ∧ r = .tup [(AV.st [.sc (.int .i64 (c0).n), .ar 32 .lf (by8 (c0).g), .sc (.int .i64 (c0).v), .sc (.int .i64 (c0).h)]), (AV.sc (.bool (false)))])) ∧ st = []))
    (cr : FnOK Tryd.prog D 89 [(AV.sc (.int .i64 (c.n))), .st [(AV.st [.sc (.int .i64 (a).by_), .sc (.int .i64 (a).k), .sc (.int .i64 (a).v), .sc (.int .i64 (a).ph), .ar 32 .lf (by8 (a).h), .sc (.int .i64 (a).pv), .ar 32 .lf (by8 (a).pg), .ar 32 .lf (by8 (a).tag)]), (AV.sl (.nd [.lf, .ar 32 .lf]) (sigsA (s)) .ro)]] [] (fun r st => r = (AV.sc (.bool (rc))) ∧ st = [])) :
    FnOK Tryd.prog D 49 [(AV.st [.sc (.int .i64 (c).n), .ar 32 .lf (by8 (c).g), .sc (.int .i64 (c).v), .sc (.int .i64 (c).h)]), (AV.sl (.nd [.ar 32 .lf, .lf, .lf, .lf, .lf]) (blsA (l)) .ro), .st [(AV.st [.sc (.int .i64 (a).by_), .sc (.int .i64 (a).k), .sc (.int .i64 (a).v), .sc (.int .i64 (a).ph), .ar 32 .lf (by8 (a).h), .sc (.int .i64 (a).pv), .ar 32 .lf (by8 (a).pg), .ar 32 .lf (by8 (a).tag)]), (AV.sl (.nd [.lf, .ar 32 .lf]) (sigsA (s)) .ro)]] [] (fun r st => r = .tup [(AV.st [.sc (.int .i64 ((stepC may (lastV l) al rc c l a).1).n), .ar 32 .lf (by8 ((stepC may (lastV l) al rc c l a).1).g), .sc (.int .i64 ((stepC may (lastV l) al rc c l a).1).v), .sc (.int .i64 ((stepC may (lastV l) al rc c l a).1).h)]), (AV.sc (.int .i64 ((stepC may (lastV l) al rc c l a).2)))] ∧ st = []) := by
  have hll := lenB l
  refine fnok_of_W hmix tabOK Tryd.func49 rfl rfl (Nat.le_of_ble_eq_true rfl) ?_
  conv => whnf
  refine (cm).mono fun r st e => ?_
  obtain ⟨rfl, rfl⟩ := e
  conv => whnf
  by_cases h0 : may = false ∨ l = []
  · have e : stepC may (lastV l) al rc c l a = (c0, 1) := by unfold stepC; rw [if_pos h0]
    rw [e]
    cases may with
    | false =>
      conv => whnf
      refine ⟨false, [], ?_⟩
      conv => whnf
      exact ⟨rfl, rfl⟩
    | true =>
      obtain rfl : l = [] := h0.resolve_left (by simp)
      conv => whnf
      refine ⟨false, [], ?_⟩
      conv => whnf
      exact ⟨rfl, rfl⟩
  have hm : may = true := by simpa using fun h => h0 (.inl h)
  have hne : l ≠ [] := fun h => h0 (.inr h)
  have hpos : 0 < l.length := List.length_pos_iff.2 hne
  subst hm
  conv => whnf
  rw [hll]
  refine Branch.of (fun hh => ?_) (fun hh => ?_)
  · exfalso; simp only [gt_iff_lt, ge_iff_le, decide_eq_true_eq, decide_eq_false_iff_not, beq_iff_eq, beq_eq_false_iff_ne, bne_iff_ne, bne_eq_false_iff_eq, ne_eq] at hh; first | done | omega | (simp at hh; done)
  try rw [hh]
  clear hh
  conv => whnf
  obtain ⟨b, hb, hv⟩ := lastV_at hpos
  refine ⟨tabF49R3, by decide +kernel, ?_⟩
  conv => whnf
  rw [hll, w64 (x := (l.length : Int) - 1) (by omega) (by omega)]
  repeat (refine And.intro (by first | omega) ?_; conv => whnf)
  refine ⟨_, hb, ?_⟩
  conv => whnf
  rw [hv]
  refine Branch.of (fun h1 => ?_) (fun h1 => ?_) <;> rw [h1] <;> conv => whnf
  · simp only [decide_eq_true_eq] at h1
    have e : stepC true (lastV l) al rc c l a = (c0, 11) := by unfold stepC; rw [if_neg h0, if_pos h1]
    rw [e]
    refine ⟨false, [], ?_⟩
    conv => whnf
    exact ⟨rfl, rfl⟩
  simp only [decide_eq_false_iff_not] at h1
  refine ca.mono fun r st e => ?_
  obtain ⟨⟨o, rfl, rfl⟩ | ⟨rfl, rfl⟩, rfl⟩ := e
  rotate_left
  · have e : stepC true (lastV l) none rc c l a = (c0, 1) := by unfold stepC; rw [if_neg h0, if_neg h1]
    rw [e]
    conv => whnf
    refine ⟨false, [], ?_⟩
    conv => whnf
    exact ⟨rfl, rfl⟩
  have e : stepC true (lastV l) (some o) rc c l a = if rc = true ∧ a.k = 3 ∧ a.h = o.g ∧ a.v = o.v then (o, 0) else (c0, 7) := by unfold stepC; rw [if_neg h0, if_neg h1]
  rw [e]
  conv => whnf
  refine (cr).mono fun r st e => ?_
  obtain ⟨rfl, rfl⟩ := e
  conv => whnf
  by_cases hX : rc = true ∧ a.k = 3 ∧ a.h = o.g ∧ a.v = o.v
  · rw [if_pos hX]
    obtain ⟨rfl, h3, h4, h5⟩ := hX
    conv => whnf
    refine Branch.of (fun hh => ?_) (fun hh => ?_)
    · exfalso; simp only [gt_iff_lt, ge_iff_le, decide_eq_true_eq, decide_eq_false_iff_not, beq_iff_eq, beq_eq_false_iff_ne, bne_iff_ne, bne_eq_false_iff_eq, ne_eq] at hh; first | done | omega | (simp at hh; done)
    try rw [hh]
    clear hh
    conv => whnf
    refine ⟨a.h, o.g, rfl, rfl, ?_⟩
    conv => whnf
    rw [h4, beq_self_eq_true]
    conv => whnf
    refine Branch.of (fun hh => ?_) (fun hh => ?_)
    · exfalso; simp only [gt_iff_lt, ge_iff_le, decide_eq_true_eq, decide_eq_false_iff_not, beq_iff_eq, beq_eq_false_iff_ne, bne_iff_ne, bne_eq_false_iff_eq, ne_eq] at hh; first | done | omega | (simp at hh; done)
    try rw [hh]
    clear hh
    conv => whnf
    refine ⟨false, [], ?_⟩
    conv => whnf
    exact ⟨rfl, rfl⟩
  · rw [if_neg hX]
    repeat' (first
      | (refine ⟨a.h, o.g, rfl, rfl, ?_⟩
         conv => whnf)
      | (refine And.intro (by omega) ?_
         conv => whnf)
      | (refine Branch.of (fun h => ?_) (fun h => ?_) <;> (rw [h]; conv => whnf)))
    all_goals first
      | (exfalso; simp_all; done)
      | (refine ⟨false, [], ?_⟩; conv => whnf
         exact ⟨rfl, rfl⟩)
end Go.WL.T7
