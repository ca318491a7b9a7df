/- LightSteps: the law. No condition. -/
import Derived.Test.YtmpnboonjpcmpaaDoorPart45
set_option linter.unusedVariables false
set_option linter.unusedSimpArgs false
namespace Go.WL.T7
open Go.WL Go.Proofs
set_option maxRecDepth 20000
set_option maxHeartbeats 8000000
theorem c_lightsteps_aux (c : Cl) (l : List Bl) (a : At) (s : List Sg) (fits : Bl → Bool) (beh : Bl → Cl) (H : Bl → List UInt8) (O N : Cl) (E en : Int) (may : Bool) (q : Int) (hq : 0 ≤ q) (hN : q ≠ 0 → N = ⟨c.n, z32, 0, 0⟩) (hen : ((en == 0) == decide (q > 0)) = true) (hl : l.length ≤ maxLen) (hlp : ∀ b ∈ l, b.p.length = 32)
    (hbe : ∀ b, beh b = if fits b = true then (⟨c.n, H b, b.v, b.h⟩ : Cl) else c)
    (cw : FnOK Tryd.prog D 44 [] [] (fun r st => r = (AV.sc (.bool (true))) ∧ st = []))
    (cf : ∀ b, okB b → FnOK Tryd.prog D 47 [(AV.st [.sc (.int .i64 (c).n), .ar 32 .lf (by8 (c).g), .sc (.int .i64 (c).v), .sc (.int .i64 (c).h)]), (AV.st [.ar 32 .lf (by8 (b).p), .sc (.int .i64 (b).v), .sc (.int .i64 (b).h), .sc (.int .i64 (b).by_), .sl (.nd [.lf, .lf, .lf, .lf, .lf, .lf, .lf]) (txsA (b).txs) .ro])] [] (fun r st => r = (AV.sc (.bool (fits b))) ∧ st = []))
    (cg : ∀ b, okB b → FnOK Tryd.prog D 46 [(AV.st [.sc (.int .i64 (c).n), .ar 32 .lf (by8 (c).g), .sc (.int .i64 (c).v), .sc (.int .i64 (c).h)]), (AV.st [.ar 32 .lf (by8 (b).p), .sc (.int .i64 (b).v), .sc (.int .i64 (b).h), .sc (.int .i64 (b).by_), .sl (.nd [.lf, .lf, .lf, .lf, .lf, .lf, .lf]) (txsA (b).txs) .ro])] [] (fun r st => r = (AV.sc (.bool (fits b))) ∧ st = []))
    (cb : ∀ b, okB b → FnOK Tryd.prog D 45 [(AV.st [.sc (.int .i64 (c).n), .ar 32 .lf (by8 (c).g), .sc (.int .i64 (c).v), .sc (.int .i64 (c).h)]), (AV.st [.ar 32 .lf (by8 (b).p), .sc (.int .i64 (b).v), .sc (.int .i64 (b).h), .sc (.int .i64 (b).by_), .sl (.nd [.lf, .lf, .lf, .lf, .lf, .lf, .lf]) (txsA (b).txs) .ro])] [] (fun r st => r = (AV.st [.sc (.int .i64 (beh b).n), .ar 32 .lf (by8 (beh b).g), .sc (.int .i64 (beh b).v), .sc (.int .i64 (beh b).h)]) ∧ st = []))
    (ch : ∀ b, okB b → FnOK Tryd.prog D 48 [(AV.st [.ar 32 .lf (by8 (b).p), .sc (.int .i64 (b).v), .sc (.int .i64 (b).h), .sc (.int .i64 (b).by_), .sl (.nd [.lf, .lf, .lf, .lf, .lf, .lf, .lf]) (txsA (b).txs) .ro])] [] (fun r st => r = .ar 32 .lf (by8 (H b)) ∧ st = []))
    (cs : okBs l → s.length ≤ 30 → FnOK Tryd.prog D 49 [(AV.st [.sc (.int .i64 (c).n), .ar 32 .lf (by8 (c).g), .sc (.int .i64 (c).v), .sc (.int .i64 (c).h)]), (AV.sl (.nd [.ar 32 .lf, .lf, .lf, .lf, .lf]) (blsA (l)) .ro), .st [(AV.st [.sc (.int .i64 (a).by_), .sc (.int .i64 (a).k), .sc (.int .i64 (a).v), .sc (.int .i64 (a).ph), .ar 32 .lf (by8 (a).h), .sc (.int .i64 (a).pv), .ar 32 .lf (by8 (a).pg), .ar 32 .lf (by8 (a).tag)]), (AV.sl (.nd [.lf, .ar 32 .lf]) (sigsA (s)) .ro)]] [] (fun r st => r = .tup [(AV.st [.sc (.int .i64 (O).n), .ar 32 .lf (by8 (O).g), .sc (.int .i64 (O).v), .sc (.int .i64 (O).h)]), (AV.sc (.int .i64 (E)))] ∧ st = []))
    (ct : okBs l → s.length ≤ 30 → FnOK Tryd.prog D 50 [(AV.st [.sc (.int .i64 (c).n), .ar 32 .lf (by8 (c).g), .sc (.int .i64 (c).v), .sc (.int .i64 (c).h)]), (AV.sl (.nd [.ar 32 .lf, .lf, .lf, .lf, .lf]) (blsA (l)) .ro), .st [(AV.st [.sc (.int .i64 (a).by_), .sc (.int .i64 (a).k), .sc (.int .i64 (a).v), .sc (.int .i64 (a).ph), .ar 32 .lf (by8 (a).h), .sc (.int .i64 (a).pv), .ar 32 .lf (by8 (a).pg), .ar 32 .lf (by8 (a).tag)]), (AV.sl (.nd [.lf, .ar 32 .lf]) (sigsA (s)) .ro)]] [] (fun r st => r = .tup [(AV.st [.sc (.int .i64 (O).n), .ar 32 .lf (by8 (O).g), .sc (.int .i64 (O).v), .sc (.int .i64 (O).h)]), (AV.sc (.int .i64 (E)))] ∧ st = []))
    (cn : FnOK Tryd.prog D 51 [(AV.sc (.int .i64 (c.n)))] [] (fun r st => r = .tup [(AV.st [.sc (.int .i64 (N).n), .ar 32 .lf (by8 (N).g), .sc (.int .i64 (N).v), .sc (.int .i64 (N).h)]), (AV.sc (.int .i64 (en)))] ∧ st = []))
    (cq : FnOK Tryd.prog D 52 [(AV.sc (.int .i64 (c.n)))] [] (fun r st => r = (AV.sc (.int .i64 (q))) ∧ st = []))
    (ck : FnOK Tryd.prog D 53 [(AV.st [.sc (.int .i64 (c).n), .ar 32 .lf (by8 (c).g), .sc (.int .i64 (c).v), .sc (.int .i64 (c).h)])] [] (fun r st => r = (AV.sc (.int .i64 (if may = true then 0 else 1))) ∧ st = []))
    (cm : FnOK Tryd.prog D 54 [(AV.st [.sc (.int .i64 (c).n), .ar 32 .lf (by8 (c).g), .sc (.int .i64 (c).v), .sc (.int .i64 (c).h)])] [] (fun r st => r = (AV.sc (.bool (may))) ∧ st = [])) :
    FnOK Tryd.prog D 7 [(AV.st [.sc (.int .i64 (c).n), .ar 32 .lf (by8 (c).g), .sc (.int .i64 (c).v), .sc (.int .i64 (c).h)]), (AV.sl (.nd [.ar 32 .lf, .lf, .lf, .lf, .lf]) (blsA (l)) .ro), .st [(AV.st [.sc (.int .i64 (a).by_), .sc (.int .i64 (a).k), .sc (.int .i64 (a).v), .sc (.int .i64 (a).ph), .ar 32 .lf (by8 (a).h), .sc (.int .i64 (a).pv), .ar 32 .lf (by8 (a).pg), .ar 32 .lf (by8 (a).tag)]), (AV.sl (.nd [.lf, .ar 32 .lf]) (sigsA (s)) .ro)]] [] (fun r _ => r = (AV.sc (.bool (true)))) := by
  have hll := lenB l
  have hls := lenS s
  refine fnok_of_Ws [3000000 + 45] hmix tabOK Tryd.func7 rfl rfl (Nat.le_of_ble_eq_true rfl) ?_
  conv => whnf
  rw [hll]
  refine Branch.of (fun h1 => ?_) (fun h1 => ?_) <;> rw [h1] <;> conv => whnf
  · refine (cw).mono fun r st e => ?_
    obtain ⟨rfl, rfl⟩ := e
    conv => whnf
    refine ⟨false, [], ?_⟩
    conv => whnf
  simp only [gt_iff_lt, decide_eq_false_iff_not] at h1
  rw [hls]
  refine Branch.of (fun h2 => ?_) (fun h2 => ?_) <;> rw [h2] <;> conv => whnf
  · refine (cw).mono fun r st e => ?_
    obtain ⟨rfl, rfl⟩ := e
    conv => whnf
    refine ⟨false, [], ?_⟩
    conv => whnf
  simp only [gt_iff_lt, decide_eq_false_iff_not] at h2
  refine ⟨false, [1, 3, 5, 7], fun τ => ∃ i : Nat, i ≤ l.length ∧ (∀ j (hj : j < l.length), j < i → okB l[j]) ∧ τ = ⟨154, [(1, (AV.sl (.nd [.ar 32 .lf, .lf, .lf, .lf, .lf]) (blsA (l)) .ro)), (3, .pt 0 []), (5, .pt 1 []), (7, (AV.sc (.int .i64 ((i : Int)))))], ⟨[((AV.st [.sc (.int .i64 (c).n), .ar 32 .lf (by8 (c).g), .sc (.int .i64 (c).v), .sc (.int .i64 (c).h)]), false), (.st [(AV.st [.sc (.int .i64 (a).by_), .sc (.int .i64 (a).k), .sc (.int .i64 (a).v), .sc (.int .i64 (a).ph), .ar 32 .lf (by8 (a).h), .sc (.int .i64 (a).pv), .ar 32 .lf (by8 (a).pg), .ar 32 .lf (by8 (a).tag)]), (AV.sl (.nd [.lf, .ar 32 .lf]) (sigsA (s)) .ro)], false)], [], 0⟩⟩, fun τ => l.length - (slotI τ 7).toNat, ?_, ?_⟩
  · conv => whnf
    exact ⟨0, by omega, fun j _ h => by omega, rfl⟩
  rintro τ ⟨i, hi, hok, rfl⟩
  conv => whnf
  rw [hll]
  refine Branch.of (fun h3 => ?_) (fun h3 => ?_) <;> rw [h3] <;> conv => whnf
  · simp only [decide_eq_true_eq] at h3
    have il : i < l.length := by omega
    have hmem := List.getElem_mem il
    repeat (refine And.intro (by first | omega) ?_; conv => whnf)
    refine ⟨_, atB il, ?_⟩
    conv => whnf
    refine (c_blight l[i]).mono fun r st e => ?_
    obtain ⟨rfl | ⟨rfl, hlight⟩, rfl⟩ := e
    · conv => whnf
      refine (cw).mono fun r st e => ?_
      obtain ⟨rfl, rfl⟩ := e
      conv => whnf
      refine ⟨false, [], ?_⟩
      conv => whnf
    have ob := okB_of hlight (hlp _ hmem)
    have cfi := cf _ ob
    have cgi := cg _ ob
    have cbi := cb _ ob
    have chi := ch _ ob
    have hbi := hbe l[i]
    conv => whnf
    refine ⟨tabF7R8, by decide +kernel, ?_⟩
    conv => whnf
    repeat (refine And.intro (by first | omega) ?_; conv => whnf)
    refine ⟨_, atB il, ?_⟩
    conv => whnf
    refine ⟨_, cbi, rfl, ?_⟩
    conv => whnf
    refine ⟨tabF7R9, by decide +kernel, ?_⟩
    conv => whnf
    repeat (refine And.intro (by first | omega) ?_; conv => whnf)
    refine ⟨_, atB il, ?_⟩
    conv => whnf
    refine ⟨_, _, cgi, ?_⟩
    conv => whnf
    refine ⟨tabF7R10, by decide +kernel, ?_⟩
    conv => whnf
    repeat (refine And.intro (by first | omega) ?_; conv => whnf)
    refine ⟨_, atB il, ?_⟩
    conv => whnf
    refine ⟨_, _, cfi, ?_⟩
    conv => whnf
    cases hf : fits l[i] with
    | false =>
      rw [hf, if_neg (by decide)] at hbi
      rw [hbi]
      conv => whnf
      refine ⟨c.g, c.g, rfl, rfl, ?_⟩
      conv => whnf
      rw [show ((c.n == c.n) && ((c.g == c.g) && ((c.v == c.v) && ((c.h == c.h) && true)))) = true by simp]
      conv => whnf
      rw [w64 (x := (i : Int) + 1) (by omega) (by omega)]
      refine ⟨⟨i + 1, by omega, fun j hj h => ?_, rfl⟩, ?_⟩
      · by_cases e : j = i
        · subst e; exact ob
        · exact hok j hj (by omega)
      · show l.length - ((i : Int) + 1).toNat < l.length - (i : Int).toNat
        omega
    | true =>
      rw [hf, if_pos rfl] at hbi
      rw [hbi]
      conv => whnf
      repeat (refine And.intro (by first | omega) ?_; conv => whnf)
      refine ⟨_, atB il, ?_⟩
      conv => whnf
      refine ⟨_, _, chi, ?_⟩
      conv => whnf
      repeat (refine And.intro (by first | omega) ?_; conv => whnf)
      refine ⟨_, atB il, ?_⟩
      conv => whnf
      repeat (refine And.intro (by first | omega) ?_; conv => whnf)
      refine ⟨_, atB il, ?_⟩
      conv => whnf
      refine ⟨_, _, rfl, rfl, ?_⟩
      conv => whnf
      rw [show ((c.n == c.n) && ((H l[i] == H l[i]) && ((l[i].v == l[i].v) && ((l[i].h == l[i].h) && true)))) = true by simp]
      conv => whnf
      rw [w64 (x := (i : Int) + 1) (by omega) (by omega)]
      refine ⟨⟨i + 1, by omega, fun j hj h => ?_, rfl⟩, ?_⟩
      · by_cases e : j = i
        · subst e; exact ob
        · exact hok j hj (by omega)
      · show l.length - ((i : Int) + 1).toNat < l.length - (i : Int).toNat
        omega
  · simp only [decide_eq_false_iff_not] at h3
    have hall : okBs l := fun b hb => by
      obtain ⟨j, hj, rfl⟩ := List.getElem_of_mem hb
      exact hok j hj (by omega)
    refine (cs hall (by omega)).mono fun r st e => ?_
    obtain ⟨rfl, rfl⟩ := e
    conv => whnf
    refine (ct hall (by omega)).mono fun r st e => ?_
    obtain ⟨rfl, rfl⟩ := e
    conv => whnf
    refine (cn).mono fun r st e => ?_
    obtain ⟨rfl, rfl⟩ := e
    conv => whnf
    refine (cq).mono fun r st e => ?_
    obtain ⟨rfl, rfl⟩ := e
    conv => whnf
    refine ⟨tabF7R16, by decide +kernel, ?_⟩
    conv => whnf
    refine ⟨O.g, O.g, rfl, rfl, ?_⟩
    conv => whnf
    rw [show ((O.n == O.n) && ((O.g == O.g) && ((O.v == O.v) && ((O.h == O.h) && true)))) = true by simp]
    conv => whnf
    rw [beq_self_eq_true]
    conv => whnf
    refine ⟨_, _, ck, ?_⟩
    conv => whnf
    refine ⟨_, _, cm, ?_⟩
    conv => whnf
    rw [show (((if may = true then (0 : Int) else 1) == 0) == may) = true by cases may <;> rfl]
    conv => whnf
    rw [hen]
    conv => whnf
    by_cases hq0 : q = 0
    · subst hq0
      conv => whnf
      refine ⟨_, _, cw, ?_⟩
      conv => whnf
      refine ⟨false, [], ?_⟩
      conv => whnf
    · rw [show decide (q > 0) = true by rw [decide_eq_true (show q > 0 by omega)]]
      obtain rfl := hN hq0
      conv => whnf
      refine ⟨z32, z32, rfl, rfl, ?_⟩
      conv => whnf
      rw [show ((c.n == c.n) && ((z32 == z32) && (((0 : Int) == 0) && (((0 : Int) == 0) && true)))) = true by simp]
      conv => whnf
      refine ⟨_, _, cw, ?_⟩
      conv => whnf
      refine ⟨false, [], ?_⟩
      conv => whnf
theorem quo_en (n : Int) : (((if quo n = 0 then (1 : Int) else 0) == 0) == decide (quo n > 0)) = true := by
  have := quo_pos n
  by_cases h : quo n = 0
  · rw [h]; rfl
  · rw [if_neg h, decide_eq_true (show quo n > 0 by omega)]; rfl
theorem c_lightsteps (c : Cl) (l : List Bl) (a : At) (s : List Sg) (hl : l.length ≤ maxLen) (hlp : ∀ b ∈ l, b.p.length = 32) (hw : a.wf) (hs : sigOK s) : FnOK Tryd.prog D 7 [(AV.st [.sc (.int .i64 (c).n), .ar 32 .lf (by8 (c).g), .sc (.int .i64 (c).v), .sc (.int .i64 (c).h)]), (AV.sl (.nd [.ar 32 .lf, .lf, .lf, .lf, .lf]) (blsA (l)) .ro), .st [(AV.st [.sc (.int .i64 (a).by_), .sc (.int .i64 (a).k), .sc (.int .i64 (a).v), .sc (.int .i64 (a).ph), .ar 32 .lf (by8 (a).h), .sc (.int .i64 (a).pv), .ar 32 .lf (by8 (a).pg), .ar 32 .lf (by8 (a).tag)]), (AV.sl (.nd [.lf, .ar 32 .lf]) (sigsA (s)) .ro)]] [] (fun r _ => r = (AV.sc (.bool (true)))) := by
  by_cases h8 : l.length ≤ 8
  · exact c_lightsteps_aux c l a s (fitsC c) (behC c) blH (stepL c l a s).1 (if quo c.n = 0 then (⟨0, z32, 0, 0⟩ : Cl) else ⟨c.n, z32, 0, 0⟩) (stepL c l a s).2 (if quo c.n = 0 then 1 else 0) (mayC c) (quo c.n) (quo_pos _) (fun h => if_neg h) (quo_en c.n) hl hlp (fun _ => rfl) c_awake44 (fun b h => c_fits c b h.1 h.2.1) (fun b h => c_fitsR c b h.1 h.2.1) (fun b h => c_behind c b h.1 h.2.1 h.2.2) (fun b h => c_bhashR b h.1 h.2.1 h.2.2)
      (fun hb h30 => c_lstep c l a s (by omega) hb (by omega) hw hs) (fun hb h30 => c_lstepR c l a s (by omega) hb (by omega) hw hs) (c_lnew c.n) (c_quorumR c.n) (c_lcheck c) (c_lmayR c)
  · have hll := lenB l
    have cw := c_awake44
    refine fnok_of_W hmix tabOK Tryd.func7 rfl rfl (Nat.le_of_ble_eq_true rfl) ?_
    conv => whnf
    rw [hll]
    refine Branch.of (fun hh => ?_) (fun hh => ?_)
    rotate_left
    · exfalso; simp only [gt_iff_lt, ge_iff_le, decide_eq_true_eq, decide_eq_false_iff_not, beq_iff_eq, beq_eq_false_iff_ne, bne_iff_ne, bne_eq_false_iff_eq, ne_eq] at hh; first | done | omega | (simp at hh; done)
    try rw [hh]
    clear hh
    conv => whnf
    refine (cw).mono fun r st e => ?_
    obtain ⟨rfl, rfl⟩ := e
    conv => whnf
    refine ⟨false, [], ?_⟩
    conv => whnf
end Go.WL.T7
