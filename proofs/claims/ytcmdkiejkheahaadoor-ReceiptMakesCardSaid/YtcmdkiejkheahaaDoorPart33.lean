/- receipt.Good. No condition. -/
import Derived.Test.YtcmdkiejkheahaaDoorPart32
set_option linter.unusedVariables false
set_option linter.unusedSimpArgs false
namespace Go.WL.T6d
open Go.WL Go.Proofs
set_option maxRecDepth 20000
set_option maxHeartbeats 8000000
theorem c_good1 (x : Rc) : FnOK Tryd.prog D 98 [(AV.st [.ar 32 .lf (by8 (x).g), .sc (.int .i64 (x).h), .sc (.int .i64 (x).p), .sc (.int .i64 (x).c)])] [] (fun r st => r = (AV.sc (.bool (x.c != 0))) ∧ st = []) := by
  refine fnok_of_W hmix tabOK Tryd.func98 rfl rfl (Nat.le_of_ble_eq_true rfl) ?_
  conv => whnf
  refine ⟨false, [], ?_⟩
  conv => whnf
  exact ⟨rfl, rfl⟩
theorem c_cloneRB (l : List Rc) (hl : l.length < 4294967296) (h0 : l ≠ []) : FnOK Tryd.prog D 97 [(AV.sl (.nd [.ar 32 .lf, .lf, .lf, .lf]) (rcsA (l)) .ro)] [] (fun r st => ∃ (cap : Nat) (L : List AV), l.length ≤ cap ∧ L.length = cap ∧ (∀ (i : Nat) (h : i < l.length), L[i]? = some (AV.st [.ar 32 .lf (by8 (l[i]).g), .sc (.int .i64 (l[i]).h), .sc (.int .i64 (l[i]).p), .sc (.int .i64 (l[i]).c)])) ∧ r = .bs 0 [] (.nd [.ar 32 .lf, .lf, .lf, .lf]) 0 l.length cap ∧ st = [.ar cap (.nd [.ar 32 .lf, .lf, .lf, .lf]) L]) := by
  have hll := lenR l
  have hp : 0 < l.length := List.length_pos_iff.2 h0
  refine fnok_of_Ws [7] hmix tabOK Tryd.func97 rfl rfl (Nat.le_of_ble_eq_true rfl) ?_
  conv => whnf
  intro b hb
  cases b
  · conv => whnf
    refine Branch.yes (by rw [hll]; simpa [Nat.blt_eq] using hp) ?_
    refine ⟨by rw [hll]; simp; omega, fun cap hc => ?_⟩
    rw [hll] at hc
    conv => whnf
    refine ⟨false, [0], ?_⟩
    conv => whnf
    refine ⟨cap, _, ?_, ?_, ?_, ?_, rfl⟩
    · simp at hc; omega
    · simp only [List.replicate_zero, List.nil_append, List.length_append, List.length_replicate, hll, List.length_nil, Nat.zero_add] at hc ⊢
      omega
    · intro i h
      rw [List.replicate_zero, List.nil_append, List.getElem?_append_left (by rw [hll]; exact h)]
      simp [rcsA, h]
    · rw [List.replicate_zero, hll]; simp
  · exfalso
    have : rcsA l ≠ [] := fun e => by rw [e] at hll; simp at hll; omega
    exact absurd (hb this) (by decide)
theorem c_idxB (l : List Rc) (L : List AV) (cap : Nat) (hl : l.length < 4294967296) (hc : l.length ≤ cap) (hL : ∀ (i : Nat) (h : i < l.length), L[i]? = some (AV.st [.ar 32 .lf (by8 (l[i]).g), .sc (.int .i64 (l[i]).h), .sc (.int .i64 (l[i]).p), .sc (.int .i64 (l[i]).c)])) :
    FnOK Tryd.prog D 118 [.bs 0 [] (.nd [.ar 32 .lf, .lf, .lf, .lf]) 0 l.length cap, .fn 98 []] [.ar cap (.nd [.ar 32 .lf, .lf, .lf, .lf]) L]
      (fun r st => (∃ k : Int, r = (AV.sc (.int .i64 (k))) ∧ ((k = -1 ∧ l.countP (fun x => x.c == 0) = l.length) ∨ ∃ (j : Nat) (h : j < l.length), k = j ∧ (l.take j).countP (fun x => x.c == 0) = j ∧ l[j].c ≠ 0)) ∧ st = [.ar cap (.nd [.ar 32 .lf, .lf, .lf, .lf]) L]) := by
  refine fnok_of_W hmix tabOK Tryd.func118 rfl rfl (Nat.le_of_ble_eq_true rfl) ?_
  conv => whnf
  refine ⟨false, [0, 1, 7, 8], fun τ => ∃ i : Nat, i ≤ l.length ∧ (l.take i).countP (fun x => x.c == 0) = i ∧ τ = ⟨19, [(0, .bs 0 [] (.nd [.ar 32 .lf, .lf, .lf, .lf]) 0 l.length cap), (1, .fn 98 []), (7, (AV.sc (.int .i64 ((l.length : Int))))), (8, (AV.sc (.int .i64 ((i : Int)))))], ⟨[(.ar cap (.nd [.ar 32 .lf, .lf, .lf, .lf]) L, false)], [], 0⟩⟩, fun τ => l.length - (slotI τ 8).toNat, ?_, ?_⟩
  · conv => whnf
    exact ⟨0, by omega, rfl, rfl⟩
  rintro τ ⟨i, hi, ha, rfl⟩
  conv => whnf
  refine Branch.of (fun h1 => ?_) (fun h1 => ?_) <;> rw [h1] <;> conv => whnf
  · simp only [decide_eq_true_eq] at h1
    have il : i < l.length := by omega
    have hx := hL i il
    repeat (refine And.intro (by first | omega) ?_; conv => whnf)
    refine ⟨_, show L[0 + ((i : Nat) : Int).toNat]? = _ by rw [Nat.zero_add, Int.toNat_natCast]; exact hx, ?_⟩
    conv => whnf
    refine (c_good1 l[i]).mono fun r st e => ?_
    obtain ⟨rfl, rfl⟩ := e
    conv => whnf
    by_cases hp : l[i].c = 0
    · rw [show (l[i].c != 0) = false by simp [hp]]
      conv => whnf
      rw [w64 (x := (i : Int) + 1) (by omega) (by omega)]
      refine ⟨⟨i + 1, by omega, ?_, rfl⟩, ?_⟩
      · rw [List.take_succ_eq_append_getElem il, List.countP_append, ha]
        simp [hp]
      · show l.length - ((i : Int) + 1).toNat < l.length - (i : Int).toNat
        omega
    · rw [show (l[i].c != 0) = true by simp [hp]]
      conv => whnf
      refine ⟨false, [], ?_⟩
      conv => whnf
      exact ⟨⟨_, rfl, .inr ⟨i, il, rfl, ha, hp⟩⟩, rfl⟩
  · simp only [decide_eq_false_iff_not] at h1
    have e : i = l.length := by omega
    subst e
    rw [List.take_length] at ha
    refine ⟨false, [], ?_⟩
    conv => whnf
    exact ⟨⟨_, rfl, .inl ⟨rfl, ha⟩⟩, rfl⟩
theorem c_delRB (l : List Rc) (L : List AV) (cap : Nat) (hl : l.length < 4294967296) (hc : l.length ≤ cap) (hLl : L.length = cap) (hL : ∀ (i : Nat) (h : i < l.length), L[i]? = some (AV.st [.ar 32 .lf (by8 (l[i]).g), .sc (.int .i64 (l[i]).h), .sc (.int .i64 (l[i]).p), .sc (.int .i64 (l[i]).c)])) :
    FnOK Tryd.prog D 96 [.bs 0 [] (.nd [.ar 32 .lf, .lf, .lf, .lf]) 0 l.length cap, .fn 98 []] [.ar cap (.nd [.ar 32 .lf, .lf, .lf, .lf]) L]
      (fun r st => ∃ L', r = .bs 0 [] (.nd [.ar 32 .lf, .lf, .lf, .lf]) 0 (l.countP (fun x => x.c == 0)) cap ∧ st = [.ar cap (.nd [.ar 32 .lf, .lf, .lf, .lf]) L']) := by
  refine fnok_of_Ws [10] hmix tabOK Tryd.func96 rfl rfl (Nat.le_of_ble_eq_true rfl) ?_
  conv => whnf
  refine (c_idxB l L cap hl hc hL).mono fun r st e => ?_
  obtain ⟨⟨k, rfl, h1 | ⟨j, hj, rfl, h2, h3⟩⟩, rfl⟩ := e
  · obtain ⟨rfl, h1⟩ := h1
    conv => whnf
    refine ⟨false, [], ?_⟩
    conv => whnf
    rw [h1]
    exact ⟨_, rfl, rfl⟩
  conv => whnf
  rw [w64 (x := (j : Int) + 1) (by omega) (by omega)]
  refine ⟨false, [0, 1, 5, 6], fun τ => ∃ (k i : Nat) (M : List AV), i < k ∧ k ≤ l.length ∧ i = (l.take k).countP (fun x => x.c == 0) ∧ M.length = cap ∧ (∀ (q : Nat) (h : q < l.length), k ≤ q → M[q]? = some (AV.st [.ar 32 .lf (by8 (l[q]).g), .sc (.int .i64 (l[q]).h), .sc (.int .i64 (l[q]).p), .sc (.int .i64 (l[q]).c)])) ∧ (∀ q, q < l.length → ∃ y : Rc, M[q]? = some (AV.st [.ar 32 .lf (by8 (y).g), .sc (.int .i64 (y).h), .sc (.int .i64 (y).p), .sc (.int .i64 (y).c)])) ∧ τ = ⟨42, [(0, .bs 0 [] (.nd [.ar 32 .lf, .lf, .lf, .lf]) 0 l.length cap), (1, .fn 98 []), (5, (AV.sc (.int .i64 ((i : Int))))), (6, (AV.sc (.int .i64 ((k : Int)))))], ⟨[(.ar cap (.nd [.ar 32 .lf, .lf, .lf, .lf]) M, false)], [], 0⟩⟩, fun τ => l.length - (slotI τ 6).toNat, ?_, ?_⟩
  · conv => whnf
    refine ⟨j + 1, j, L, by omega, by omega, ?_, hLl, fun q h _ => hL q h, fun q h => ⟨_, hL q h⟩, rfl⟩
    rw [List.take_succ_eq_append_getElem hj, List.countP_append, h2]
    simp [h3]
  rintro τ ⟨k, i, M, hik, hk, hi, hM, hMq, hMy, rfl⟩
  conv => whnf
  refine Branch.of (fun h4 => ?_) (fun h4 => ?_) <;> rw [h4] <;> conv => whnf
  · simp only [decide_eq_true_eq] at h4
    have kl : k < l.length := by omega
    have hx := hMq k kl (by omega)
    repeat (refine And.intro (by first | omega) ?_; conv => whnf)
    refine ⟨_, show M[0 + ((k : Nat) : Int).toNat]? = _ by rw [Nat.zero_add, Int.toNat_natCast]; exact hx, ?_⟩
    conv => whnf
    refine (c_good1 l[k]).mono fun r st e => ?_
    obtain ⟨rfl, rfl⟩ := e
    conv => whnf
    by_cases hp : l[k].c = 0
    · rw [show (l[k].c != 0) = false by simp [hp]]
      conv => whnf
      repeat (refine And.intro (by first | omega) ?_; conv => whnf)
      obtain ⟨y, hy⟩ := hMy i (by omega)
      refine ⟨_, show M[0 + ((i : Nat) : Int).toNat]? = some _ by rw [Nat.zero_add, Int.toNat_natCast]; exact hy, ?_⟩
      conv => whnf
      rw [w64 (x := (i : Int) + 1) (by omega) (by omega), w64 (x := (k : Int) + 1) (by omega) (by omega)]
      refine ⟨⟨k + 1, i + 1, _, by omega, by omega, ?_, ?_, ?_, ?_, rfl⟩, ?_⟩
      · rw [List.take_succ_eq_append_getElem kl, List.countP_append, ← hi]
        simp [hp]
      · rw [List.length_set, hM]
      · intro q h hq
        rw [Nat.zero_add, Int.toNat_natCast, List.getElem?_set, if_neg (by omega)]
        exact hMq q h (by omega)
      · intro q h
        rw [Nat.zero_add, Int.toNat_natCast, List.getElem?_set]
        by_cases e : i = q
        · rw [if_pos e, if_pos (by omega)]
          exact ⟨l[k], rfl⟩
        · rw [if_neg e]
          exact hMy q h
      · show l.length - ((k : Int) + 1).toNat < l.length - (k : Int).toNat
        omega
    · rw [show (l[k].c != 0) = true by simp [hp]]
      conv => whnf
      rw [w64 (x := (k : Int) + 1) (by omega) (by omega)]
      refine ⟨⟨k + 1, i, M, by omega, by omega, ?_, hM, fun q h hq => hMq q h (by omega), hMy, rfl⟩, ?_⟩
      · rw [List.take_succ_eq_append_getElem kl, List.countP_append, ← hi]
        simp [hp]
      · show l.length - ((k : Int) + 1).toNat < l.length - (k : Int).toNat
        omega
  · simp only [decide_eq_false_iff_not] at h4
    have e : k = l.length := by omega
    subst e
    rw [List.take_length] at hi
    repeat (refine And.intro (by first | omega) ?_; conv => whnf)
    refine ⟨false, [], ?_⟩
    conv => whnf
    refine ⟨_, ?_, rfl⟩
    rw [← hi, Int.toNat_natCast]
    rfl
end Go.WL.T6d
namespace Go.WL.T6d
open Go.WL Go.Proofs
set_option maxRecDepth 20000
set_option maxHeartbeats 8000000
theorem c_clone0R : FnOK Tryd.prog D 97 [.sl (.nd [.ar 32 .lf, .lf, .lf, .lf]) [] .ro] [] (fun r st => r = .sl (.nd [.ar 32 .lf, .lf, .lf, .lf]) [] (.own 0) ∧ st = []) := by
  refine fnok_of_W hmix tabOK Tryd.func97 rfl rfl (Nat.le_of_ble_eq_true rfl) ?_
  conv => whnf
  intro b hb
  cases b
  · conv => whnf
    refine And.intro (by show 0 + _ < _; simp) ?_
    conv => whnf
    refine ⟨false, [], ?_⟩
    conv => whnf
    exact ⟨rfl, rfl⟩
  · conv => whnf
    refine ⟨true, [], ?_⟩
    conv => whnf
    exact ⟨rfl, rfl⟩
theorem c_idx0R : FnOK Tryd.prog D 118 [.sl (.nd [.ar 32 .lf, .lf, .lf, .lf]) [] .ro, .fn 98 []] [] (fun r st => r = (AV.sc (.int .i64 (-1))) ∧ st = []) := by
  refine fnok_of_W hmix tabOK Tryd.func118 rfl rfl (Nat.le_of_ble_eq_true rfl) ?_
  conv => whnf
  refine ⟨false, [7, 8], fun τ => τ = ⟨19, [(7, (AV.sc (.int .i64 (0)))), (8, (AV.sc (.int .i64 (0))))], ⟨[], [], 0⟩⟩, fun τ => 0, ?_, ?_⟩
  · conv => whnf
    rfl
  rintro τ rfl
  conv => whnf
  refine ⟨false, [], ?_⟩
  conv => whnf
  exact ⟨rfl, rfl⟩
theorem c_del0R : FnOK Tryd.prog D 96 [.sl (.nd [.ar 32 .lf, .lf, .lf, .lf]) [] .ro, .fn 98 []] [] (fun r st => r = .sl (.nd [.ar 32 .lf, .lf, .lf, .lf]) [] .ro ∧ st = []) := by
  refine fnok_of_W hmix tabOK Tryd.func96 rfl rfl (Nat.le_of_ble_eq_true rfl) ?_
  conv => whnf
  refine (c_idx0R).mono fun r st e => ?_
  obtain ⟨rfl, rfl⟩ := e
  conv => whnf
  refine ⟨false, [], ?_⟩
  conv => whnf
  exact ⟨rfl, rfl⟩
theorem c_rgood (l : List Rc) (hl : l.length < 4294967296) : FnOK Tryd.prog D 42 [(AV.sl (.nd [.ar 32 .lf, .lf, .lf, .lf]) (rcsA (l)) .ro)] [] (fun r st => r = (AV.sc (.int .i64 ((l.countP (fun x => x.c == 0) : Int)))) ∧ st = []) := by
  by_cases h0 : l = []
  · subst h0
    refine fnok_of_Ws [5] hmix tabOK Tryd.func42 rfl rfl (Nat.le_of_ble_eq_true rfl) ?_
    conv => whnf
    refine (c_clone0R).mono fun r st e => ?_
    obtain ⟨rfl, rfl⟩ := e
    conv => whnf
    refine (c_del0R).mono fun r st e => ?_
    obtain ⟨rfl, rfl⟩ := e
    conv => whnf
    refine ⟨false, [], ?_⟩
    conv => whnf
    exact ⟨rfl, rfl⟩
  · refine fnok_of_Ws [5] hmix tabOK Tryd.func42 rfl rfl (Nat.le_of_ble_eq_true rfl) ?_
    conv => whnf
    refine (c_cloneRB l hl h0).mono fun r st e => ?_
    obtain ⟨cap, L, h1, h2, h3, rfl, rfl⟩ := e
    conv => whnf
    refine (c_delRB l L cap hl h1 h2 h3).mono fun r st e => ?_
    obtain ⟨L', rfl, rfl⟩ := e
    conv => whnf
    refine ⟨false, [], ?_⟩
    conv => whnf
    exact ⟨rfl, rfl⟩
end Go.WL.T6d
