/- LightRises. No condition. -/
import Derived.Test.YtmpnboonjpcmpaaDoorPart45
set_option linter.unusedVariables false
set_option linter.unusedSimpArgs false
namespace Go.WL.T7b
open Go.WL Go.Proofs
set_option maxRecDepth 20000
set_option maxHeartbeats 8000000
/-- What is known behind blocks that fit. -/
theorem along_facts : ∀ (l : List Bl) (c o : Cl), alongC c l = some o → mayC c = true → (l ≠ [] → c.v < o.v) ∧ c.v ≤ o.v ∧ o.h = c.h + l.length ∧ mayC o = true
  | [], c, o, h, hc => by
    obtain rfl : c = o := by simpa [alongC] using h
    exact ⟨fun h => absurd rfl h, by omega, by simp, hc⟩
  | b :: l, c, o, h, hc => by
    rw [alongC_cons] at h
    split at h
    · rename_i hf
      have e : behC c b = ⟨c.n, blH b, b.v, b.h⟩ := by unfold behC; rw [if_pos hf]
      unfold fitsC at hf
      simp only [Bool.and_eq_true, decide_eq_true_eq, beq_iff_eq] at hf
      obtain ⟨⟨⟨f1, f2⟩, f3⟩, _⟩ := hf
      obtain ⟨g1, g2, _⟩ := mayB_facts f1
      have hc' : mayC (behC c b) = true := by
        rw [e]
        unfold mayC at hc ⊢
        simp only [Bool.and_eq_true, Bool.or_eq_true, decide_eq_true_eq] at hc ⊢
        exact ⟨⟨⟨hc.1.1.1, by omega⟩, by omega⟩, .inl (by omega)⟩
      obtain ⟨k1, k2, k3, k4⟩ := along_facts l (behC c b) o h hc'
      rw [e] at k2 k3
      simp only at k2 k3
      refine ⟨fun _ => by omega, by omega, ?_, k4⟩
      rw [k3, List.length_cons]
      omega
    · simp at h
theorem step_facts {c o : Cl} {l : List Bl} {a : At} {s : List Sg} (h : stepL c l a s = (o, 0)) : mayC c = true → c.v < o.v ∧ o.h = c.h + l.length ∧ mayC o = true := by
  intro hc
  unfold stepL stepC at h
  split at h
  · simp at h
  · rename_i h0
    split at h
    · simp at h
    · split at h
      · simp at h
      · rename_i o2 ho
        split at h
        · simp only [Prod.mk.injEq, and_true] at h
          subst h
          obtain ⟨k1, k2, k3, k4⟩ := along_facts l c _ ho hc
          exact ⟨k1 fun e => h0 (.inr e), k3, k4⟩
        · simp at h
structure Ct where
  a : At
  s : List Sg
def certsA (l : List Ct) : List AV := l.map fun x => .st [(AV.st [.sc (.int .i64 (x.a).by_), .sc (.int .i64 (x.a).k), .sc (.int .i64 (x.a).v), .sc (.int .i64 (x.a).ph), .ar 32 .lf (by8 (x.a).h), .sc (.int .i64 (x.a).pv), .ar 32 .lf (by8 (x.a).pg), .ar 32 .lf (by8 (x.a).tag)]), (AV.sl (.nd [.lf, .ar 32 .lf]) (sigsA (x.s)) .ro)]
def bblA (l : List (List Bl)) : List AV := l.map fun x => (AV.sl (.nd [.ar 32 .lf, .lf, .lf, .lf, .lf]) (blsA (x)) .ro)
theorem lenCt (l : List Ct) : (certsA l).length = l.length := by simp [certsA]
theorem atCt {l : List Ct} {i : Nat} (h : i < l.length) : (certsA l)[((i : Nat) : Int).toNat]? = some (.st [(AV.st [.sc (.int .i64 (l[i].a).by_), .sc (.int .i64 (l[i].a).k), .sc (.int .i64 (l[i].a).v), .sc (.int .i64 (l[i].a).ph), .ar 32 .lf (by8 (l[i].a).h), .sc (.int .i64 (l[i].a).pv), .ar 32 .lf (by8 (l[i].a).pg), .ar 32 .lf (by8 (l[i].a).tag)]), (AV.sl (.nd [.lf, .ar 32 .lf]) (sigsA (l[i].s)) .ro)]) := by
  rw [Int.toNat_natCast]
  simp [certsA, h]
theorem lenBb (l : List (List Bl)) : (bblA l).length = l.length := by simp [bblA]
theorem atBb {l : List (List Bl)} {i : Nat} (h : i < l.length) : (bblA l)[((i : Nat) : Int).toNat]? = some (AV.sl (.nd [.ar 32 .lf, .lf, .lf, .lf, .lf]) (blsA (l[i])) .ro) := by
  rw [Int.toNat_natCast]
  simp [bblA, h]
theorem c_lightrises_aux (n q : Int) (l : List (List Bl)) (x : List Ct) (step : Cl → List Bl → At → List Sg → Cl × Int) (may : Cl → Bool) (N : Cl) (en : Int) (hl : l.length ≤ maxLen) (hx : x.length ≤ maxLen)
    (hlp : ∀ (i : Nat) (h : i < l.length), l[i].length ≤ maxLen ∧ ∀ b ∈ l[i], b.p.length = 32)
    (hN : en = 0 → may N = true) (hN2 : en = 0 → 0 ≤ N.h)
    (hst : ∀ c l a s, (step c l a s).2 = 0 → may c = true → c.v < (step c l a s).1.v ∧ (step c l a s).1.h = c.h + l.length ∧ may (step c l a s).1 = true)
    (hmy : ∀ c, may c = true → 0 ≤ c.h ∧ c.h ≤ 1099511627776)
    (cw : FnOK Tryd.prog D 44 [] [] (fun r st => r = (AV.sc (.bool (true))) ∧ st = []))
    (cn : FnOK Tryd.prog D 51 [(AV.sc (.int .i64 (n)))] [] (fun r st => r = .tup [(AV.st [.sc (.int .i64 (N).n), .ar 32 .lf (by8 (N).g), .sc (.int .i64 (N).v), .sc (.int .i64 (N).h)]), (AV.sc (.int .i64 (en)))] ∧ st = []))
    (cs : ∀ (c : Cl) (i : Nat) (hi : i < l.length) (hj : i < x.length), okBs l[i] → x[i].s.length ≤ 30 → l[i].length ≤ 4 → FnOK Tryd.prog D 49 [(AV.st [.sc (.int .i64 (c).n), .ar 32 .lf (by8 (c).g), .sc (.int .i64 (c).v), .sc (.int .i64 (c).h)]), (AV.sl (.nd [.ar 32 .lf, .lf, .lf, .lf, .lf]) (blsA (l[i])) .ro), .st [(AV.st [.sc (.int .i64 (x[i].a).by_), .sc (.int .i64 (x[i].a).k), .sc (.int .i64 (x[i].a).v), .sc (.int .i64 (x[i].a).ph), .ar 32 .lf (by8 (x[i].a).h), .sc (.int .i64 (x[i].a).pv), .ar 32 .lf (by8 (x[i].a).pg), .ar 32 .lf (by8 (x[i].a).tag)]), (AV.sl (.nd [.lf, .ar 32 .lf]) (sigsA (x[i].s)) .ro)]] [] (fun r st => r = .tup [(AV.st [.sc (.int .i64 ((step c l[i] x[i].a x[i].s).1).n), .ar 32 .lf (by8 ((step c l[i] x[i].a x[i].s).1).g), .sc (.int .i64 ((step c l[i] x[i].a x[i].s).1).v), .sc (.int .i64 ((step c l[i] x[i].a x[i].s).1).h)]), (AV.sc (.int .i64 ((step c l[i] x[i].a x[i].s).2)))] ∧ st = []))
    (ck : ∀ c, FnOK Tryd.prog D 53 [(AV.st [.sc (.int .i64 (c).n), .ar 32 .lf (by8 (c).g), .sc (.int .i64 (c).v), .sc (.int .i64 (c).h)])] [] (fun r st => r = (AV.sc (.int .i64 (if may c = true then 0 else 1))) ∧ st = [])) :
    FnOK Tryd.prog D 8 [(AV.sc (.int .i64 (n))), .sl .lf (bblA l) .ro, .sl (.nd [.nd [.lf, .lf, .lf, .lf, .ar 32 .lf, .lf, .ar 32 .lf, .ar 32 .lf], .lf]) (certsA x) .ro] [] (fun r _ => r = (AV.sc (.bool (true)))) := by
  have hll := lenBb l
  have hlx := lenCt x
  refine fnok_of_Ws [3000000 + 49] hmix tabOK Tryd.func8 rfl rfl (Nat.le_of_ble_eq_true rfl) ?_
  conv => whnf
  rw [hll]
  refine Branch.of (fun h1 => ?_) (fun h1 => ?_) <;> rw [h1] <;> conv => whnf
  · refine (cw).mono fun r st e => ?_
    obtain ⟨rfl, rfl⟩ := e
    conv => whnf
    refine ⟨false, [], ?_⟩
    conv => whnf
  simp only [gt_iff_lt, decide_eq_false_iff_not] at h1
  rw [hlx]
  refine Branch.of (fun h2 => ?_) (fun h2 => ?_) <;> rw [h2] <;> conv => whnf
  · refine (cw).mono fun r st e => ?_
    obtain ⟨rfl, rfl⟩ := e
    conv => whnf
    refine ⟨false, [], ?_⟩
    conv => whnf
  simp only [gt_iff_lt, decide_eq_false_iff_not] at h2
  refine (cn).mono fun r st e => ?_
  obtain ⟨rfl, rfl⟩ := e
  conv => whnf
  refine Branch.of (fun h3 => ?_) (fun h3 => ?_) <;> rw [h3] <;> conv => whnf
  · refine (cw).mono fun r st e => ?_
    obtain ⟨rfl, rfl⟩ := e
    conv => whnf
    refine ⟨false, [], ?_⟩
    conv => whnf
  simp only [bne_eq_false_iff_eq] at h3
  have hN := hN h3
  have hN2 := hN2 h3
  refine ⟨false, [1, 2, 7, 9], fun τ => ∃ (i : Nat) (c : Cl), i ≤ l.length ∧ may c = true ∧ τ = ⟨117, [(1, .sl .lf (bblA l) .ro), (2, .sl (.nd [.nd [.lf, .lf, .lf, .lf, .ar 32 .lf, .lf, .ar 32 .lf, .ar 32 .lf], .lf]) (certsA x) .ro), (7, .pt 0 []), (9, (AV.sc (.int .i64 ((i : Int)))))], ⟨[((AV.st [.sc (.int .i64 (c).n), .ar 32 .lf (by8 (c).g), .sc (.int .i64 (c).v), .sc (.int .i64 (c).h)]), false)], [], 0⟩⟩, fun τ => l.length - (slotI τ 9).toNat, ?_, ?_⟩
  · conv => whnf
    exact ⟨0, N, by omega, hN, rfl⟩
  rintro τ ⟨i, c, hi, hc, rfl⟩
  apply enter3
  intro kk kK
  conv => whnf
  rw [hll]
  refine Branch.of (fun h4 => ?_) (fun h4 => ?_) <;> rw [h4] <;> conv => whnf
  rotate_left
  · refine kK _ _ ?_
    conv => whnf
    refine (cw).mono fun r st e => ?_
    obtain ⟨rfl, rfl⟩ := e
    conv => whnf
    refine ⟨false, [], ?_⟩
    conv => whnf
  simp only [decide_eq_true_eq] at h4
  have il : i < l.length := by omega
  rw [hlx]
  refine Branch.of (fun h5 => ?_) (fun h5 => ?_) <;> rw [h5] <;> conv => whnf
  rotate_left
  · refine kK _ _ ?_
    conv => whnf
    refine (cw).mono fun r st e => ?_
    obtain ⟨rfl, rfl⟩ := e
    conv => whnf
    refine ⟨false, [], ?_⟩
    conv => whnf
  simp only [decide_eq_true_eq] at h5
  have ix : i < x.length := by omega
  repeat (refine And.intro (by first | omega) ?_; conv => whnf)
  refine ⟨_, atBb il, ?_⟩
  conv => whnf
  rw [lenB]
  refine Branch.of (fun h6 => ?_) (fun h6 => ?_) <;> rw [h6] <;> conv => whnf
  · refine (cw).mono fun r st e => ?_
    obtain ⟨rfl, rfl⟩ := e
    conv => whnf
    refine kK _ _ ?_
    conv => whnf
    refine ⟨false, [], ?_⟩
    conv => whnf
  simp only [gt_iff_lt, decide_eq_false_iff_not] at h6
  repeat (refine And.intro (by first | omega) ?_; conv => whnf)
  refine ⟨_, atCt ix, ?_⟩
  conv => whnf
  rw [lenS]
  refine Branch.of (fun h7 => ?_) (fun h7 => ?_) <;> rw [h7] <;> conv => whnf
  · refine (cw).mono fun r st e => ?_
    obtain ⟨rfl, rfl⟩ := e
    conv => whnf
    refine kK _ _ ?_
    conv => whnf
    refine ⟨false, [], ?_⟩
    conv => whnf
  simp only [gt_iff_lt, decide_eq_false_iff_not] at h7
  refine ⟨false, [1, 2, 7, 9, 10], fun τ => ∃ k : Nat, k ≤ l[i].length ∧ (∀ j (hj : j < l[i].length), j < k → okB l[i][j]) ∧ τ = ⟨117, [(1, .sl .lf (bblA l) .ro), (2, .sl (.nd [.nd [.lf, .lf, .lf, .lf, .ar 32 .lf, .lf, .ar 32 .lf, .ar 32 .lf], .lf]) (certsA x) .ro), (7, .pt 0 []), (9, (AV.sc (.int .i64 ((i : Int))))), (10, (AV.sc (.int .i64 ((k : Int)))))], ⟨[((AV.st [.sc (.int .i64 (c).n), .ar 32 .lf (by8 (c).g), .sc (.int .i64 (c).v), .sc (.int .i64 (c).h)]), false)], [], 0⟩⟩, fun τ => l[i].length - (slotI τ 10).toNat, ?_, ?_⟩
  · conv => whnf
    exact ⟨0, by omega, fun j _ h => by omega, rfl⟩
  rintro τ ⟨k, hk, hok, rfl⟩
  apply enter3
  intro k2 kK2
  conv => whnf
  repeat (refine And.intro (by first | omega) ?_; conv => whnf)
  refine ⟨_, atBb il, ?_⟩
  conv => whnf
  rw [lenB]
  refine Branch.of (fun h8 => ?_) (fun h8 => ?_) <;> rw [h8] <;> conv => whnf
  · simp only [decide_eq_true_eq] at h8
    have kl : k < l[i].length := by omega
    have hmem := List.getElem_mem kl
    repeat (refine And.intro (by first | omega) ?_; conv => whnf)
    refine ⟨_, atBb il, ?_⟩
    conv => whnf
    repeat (refine And.intro (by first | omega) ?_; conv => whnf)
    refine ⟨_, atB kl, ?_⟩
    conv => whnf
    refine (c_blight l[i][k]).mono fun r st e => ?_
    obtain ⟨rfl | ⟨rfl, hlight⟩, rfl⟩ := e
    · conv => whnf
      refine (cw).mono fun r st e => ?_
      obtain ⟨rfl, rfl⟩ := e
      conv => whnf
      refine kK2 _ _ ?_
      conv => whnf
      refine kK _ _ ?_
      conv => whnf
      refine ⟨false, [], ?_⟩
      conv => whnf
    have ob := okB_of hlight ((hlp i il).2 _ hmem)
    conv => whnf
    refine kK2 _ _ ?_
    conv => whnf
    rw [w64 (x := (k : Int) + 1) (by omega) (by omega)]
    refine ⟨⟨k + 1, by omega, fun j hj h => ?_, rfl⟩, ?_⟩
    · by_cases e : j = k
      · subst e; exact ob
      · exact hok j hj (by omega)
    · show l[i].length - ((k : Int) + 1).toNat < l[i].length - (k : Int).toNat
      omega
  simp only [decide_eq_false_iff_not] at h8
  have hall : okBs l[i] := fun b hb => by
    obtain ⟨j, hj, rfl⟩ := List.getElem_of_mem hb
    exact hok j hj (by omega)
  have cs1 := cs c i il ix hall (by omega) (by omega)
  have hst1 := hst c l[i] x[i].a x[i].s
  generalize step c l[i] x[i].a x[i].s = R at cs1 hst1
  refine kK2 _ _ ?_
  clear kK2 k2
  conv => whnf
  refine ⟨tabF8R16, by decide +kernel, ?_⟩
  conv => whnf
  repeat (refine And.intro (by first | omega) ?_; conv => whnf)
  refine ⟨_, atBb il, ?_⟩
  conv => whnf
  repeat (refine And.intro (by first | omega) ?_; conv => whnf)
  refine ⟨_, atCt ix, ?_⟩
  conv => whnf
  refine ⟨_, cs1, rfl, ?_⟩
  conv => whnf
  refine Branch.of (fun h9 => ?_) (fun h9 => ?_) <;> rw [h9] <;> conv => whnf
  · refine kK _ _ ?_
    conv => whnf
    rw [w64 (x := (i : Int) + 1) (by omega) (by omega)]
    refine ⟨⟨i + 1, c, by omega, hc, rfl⟩, ?_⟩
    show l.length - ((i : Int) + 1).toNat < l.length - (i : Int).toNat
    omega
  simp only [bne_eq_false_iff_eq] at h9
  obtain ⟨g1, g2, g3⟩ := hst1 h9 hc
  have g4 := hmy c hc
  refine ⟨tabF8R18, by decide +kernel, ?_⟩
  conv => whnf
  refine Branch.of (fun hh => ?_) (fun hh => ?_)
  · exfalso; simp only [gt_iff_lt, ge_iff_le, decide_eq_true_eq, decide_eq_false_iff_not, beq_iff_eq, beq_eq_false_iff_ne, bne_iff_ne, bne_eq_false_iff_eq, ne_eq] at hh; first | done | omega | (simp at hh; done)
  try rw [hh]
  clear hh
  conv => whnf
  repeat (refine And.intro (by first | omega) ?_; conv => whnf)
  refine ⟨_, atBb il, ?_⟩
  conv => whnf
  rw [lenB, w64 (x := c.h + (l[i].length : Int)) (by omega) (by omega)]
  refine Branch.of (fun hh => ?_) (fun hh => ?_)
  · exfalso; simp only [gt_iff_lt, ge_iff_le, decide_eq_true_eq, decide_eq_false_iff_not, beq_iff_eq, beq_eq_false_iff_ne, bne_iff_ne, bne_eq_false_iff_eq, ne_eq] at hh; first | done | omega | (simp at hh; done)
  try rw [hh]
  clear hh
  conv => whnf
  refine ⟨_, _, ck R.1, ?_⟩
  conv => whnf
  rw [g3]
  conv => whnf
  refine kK _ _ ?_
  conv => whnf
  rw [w64 (x := (i : Int) + 1) (by omega) (by omega)]
  refine ⟨⟨i + 1, R.1, by omega, g3, rfl⟩, ?_⟩
  show l.length - ((i : Int) + 1).toNat < l.length - (i : Int).toNat
  omega
theorem mayC_h {c : Cl} (h : mayC c = true) : 0 ≤ c.h ∧ c.h ≤ 1099511627776 := by
  unfold mayC at h
  simp only [Bool.and_eq_true, decide_eq_true_eq] at h
  obtain ⟨⟨⟨_, h2⟩, h3⟩, _⟩ := h
  omega
theorem c_lightrises (n : Int) (l : List (List Bl)) (x : List Ct) (hl : l.length ≤ maxLen) (hx : x.length ≤ maxLen)
    (hlp : ∀ (i : Nat) (h : i < l.length), l[i].length ≤ maxLen ∧ ∀ b ∈ l[i], b.p.length = 32) (hxp : ∀ y ∈ x, y.a.wf ∧ sigOK y.s) :
    FnOK Tryd.prog D 8 [(AV.sc (.int .i64 (n))), .sl .lf (bblA l) .ro, .sl (.nd [.nd [.lf, .lf, .lf, .lf, .ar 32 .lf, .lf, .ar 32 .lf, .ar 32 .lf], .lf]) (certsA x) .ro] [] (fun r _ => r = (AV.sc (.bool (true)))) := by
  refine c_lightrises_aux n (quo n) l x stepL mayC (if quo n = 0 then (⟨0, z32, 0, 0⟩ : Cl) else ⟨n, z32, 0, 0⟩) (if quo n = 0 then 1 else 0) hl hx hlp ?_ ?_ (fun c l a s h hc => ?_) (fun c h => mayC_h h) c_awake44 (c_lnew n) (fun c i hi hj hb h30 h4 => ?_) c_lcheck
  · intro h
    by_cases hq : quo n = 0
    · rw [if_pos hq] at h; simp at h
    · rw [if_neg hq]
      unfold mayC
      simp [hq]
  · intro h
    split <;> simp
  · exact step_facts (Prod.ext rfl h) hc
  · obtain ⟨h1, h2⟩ := hxp _ (List.getElem_mem hj)
    exact c_lstep c l[i] x[i].a x[i].s (by omega) hb (by omega) h1 h2
end Go.WL.T7b
