/- Which receipt is found, both sides. No condition. -/
import Derived.Test.YtcmdkiejkheahaaDoorPart30
set_option linter.unusedVariables false
set_option linter.unusedSimpArgs false
namespace Go.WL.T6d
open Go.WL Go.Proofs
set_option maxRecDepth 20000
set_option maxHeartbeats 8000000
def rc0 : Rc := ⟨z32, 0, 0, 0⟩
theorem atR {l : List Rc} {i : Nat} (h : i < l.length) : (rcsA l)[((i : Nat) : Int).toNat]? = some (AV.st [.ar 32 .lf (by8 (l[i]).g), .sc (.int .i64 (l[i]).h), .sc (.int .i64 (l[i]).p), .sc (.int .i64 (l[i]).c)]) := by
  rw [Int.toNat_natCast]
  simp [rcsA, h]
def fwd (id : List UInt8) : List Rc → Rc × Bool → Rc × Bool
  | [], a => a
  | x :: l, a => if x.g = id then (if x.c = 0 then (x, true) else fwd id l (x, true)) else fwd id l a
def bwd (id : List UInt8) : List Rc → Rc × Bool
  | [] => (rc0, false)
  | x :: l => if x.g = id ∧ ((bwd id l).2 = false ∨ x.c = 0) then (x, true) else bwd id l
theorem fwd_bwd (id : List UInt8) : ∀ (l : List Rc) (a : Rc × Bool), fwd id l a = if (bwd id l).2 = true then bwd id l else a
  | [], a => rfl
  | x :: l, a => by
    simp only [fwd, bwd]
    by_cases h : x.g = id
    · by_cases hc : x.c = 0
      · simp [h, hc]
      · rw [if_pos h, if_neg hc, fwd_bwd id l]
        by_cases hb : (bwd id l).2 = true
        · simp [h, hc, hb]
        · simp [h, hc, hb]
    · rw [if_neg h, fwd_bwd id l]
      simp [h]
theorem fwd_bwd0 (id : List UInt8) (l : List Rc) : fwd id l (rc0, false) = bwd id l := by
  rw [fwd_bwd]
  have : ∀ l, (bwd id l).2 = false → bwd id l = (rc0, false) := by
    intro l
    induction l with
    | nil => intro _; rfl
    | cons x l ih =>
      intro h
      simp only [bwd] at h ⊢
      split at h
      · simp at h
      · rename_i hn
        rw [if_neg hn]; exact ih h
  by_cases hb : (bwd id l).2 = true
  · rw [if_pos hb]
  · rw [if_neg hb, this l (by simpa using hb)]
theorem c_rfind (l : List Rc) (id : List UInt8) (hl : l.length < 4294967296) : FnOK Tryd.prog D 39 [(AV.sl (.nd [.ar 32 .lf, .lf, .lf, .lf]) (rcsA (l)) .ro), .ar 32 .lf (by8 id)] [] (fun r st => r = .tup [(AV.st [.ar 32 .lf (by8 ((fwd id l (rc0, false)).1).g), .sc (.int .i64 ((fwd id l (rc0, false)).1).h), .sc (.int .i64 ((fwd id l (rc0, false)).1).p), .sc (.int .i64 ((fwd id l (rc0, false)).1).c)]), (AV.sc (.bool ((fwd id l (rc0, false)).2)))] ∧ st = []) := by
  have hll := lenR l
  refine fnok_of_W hmix tabOK Tryd.func39 rfl rfl (Nat.le_of_ble_eq_true rfl) ?_
  conv => whnf
  rw [hll]
  refine ⟨false, [3, 4, 6, 7, 10, 11, 12], fun τ => ∃ (i : Nat) (a : Rc × Bool), i ≤ l.length ∧ fwd id (l.drop i) a = fwd id l (rc0, false) ∧ τ = ⟨28, [(3, .pt 0 []), (4, .pt 1 []), (6, .pt 2 []), (7, (AV.sc (.bool (a.2)))), (10, (AV.sl (.nd [.ar 32 .lf, .lf, .lf, .lf]) (rcsA (l)) .ro)), (11, (AV.sc (.int .i64 ((l.length : Int))))), (12, (AV.sc (.int .i64 ((i : Int)))))], ⟨[(.ar 32 .lf (by8 id), false), ((AV.st [.ar 32 .lf (by8 (rc0).g), .sc (.int .i64 (rc0).h), .sc (.int .i64 (rc0).p), .sc (.int .i64 (rc0).c)]), false), ((AV.st [.ar 32 .lf (by8 (a.1).g), .sc (.int .i64 (a.1).h), .sc (.int .i64 (a.1).p), .sc (.int .i64 (a.1).c)]), false)], [], 0⟩⟩, fun τ => l.length - (slotI τ 12).toNat, ?_, ?_⟩
  · conv => whnf
    exact ⟨0, (rc0, false), by omega, rfl, rfl⟩
  rintro τ ⟨i, a, hi, ha, rfl⟩
  conv => whnf
  refine Branch.of (fun h5 => ?_) (fun h5 => ?_) <;> rw [h5] <;> conv => whnf
  · simp only [decide_eq_true_eq] at h5
    have il : i < l.length := by omega
    rw [List.drop_eq_getElem_cons il, fwd] at ha
    repeat (refine And.intro (by first | omega) ?_; conv => whnf)
    refine ⟨_, atR il, ?_⟩
    conv => whnf
    refine ⟨l[i].g, id, rfl, rfl, ?_⟩
    conv => whnf
    by_cases hg : l[i].g = id
    rotate_left
    · rw [if_neg hg] at ha
      rw [show (l[i].g == id) = false from beq_eq_false_iff_ne.2 hg]
      conv => whnf
      rw [w64 (x := (i : Int) + 1) (by omega) (by omega)]
      refine ⟨⟨i + 1, a, by omega, ha, rfl⟩, ?_⟩
      show l.length - ((i : Int) + 1).toNat < l.length - (i : Int).toNat
      omega
    rw [if_pos hg] at ha
    rw [show (l[i].g == id) = true from beq_iff_eq.2 hg]
    conv => whnf
    by_cases hc : l[i].c = 0
    · rw [if_pos hc] at ha
      refine Branch.of (fun hh => ?_) (fun hh => ?_)
      rotate_left
      · exfalso; simp only [gt_iff_lt, ge_iff_le, decide_eq_true_eq, decide_eq_false_iff_not, beq_iff_eq, beq_eq_false_iff_ne, bne_iff_ne, bne_eq_false_iff_eq, ne_eq] at hh; first | done | omega | (simp at hh; done)
      try rw [hh]
      clear hh
      conv => whnf
      refine ⟨false, [], ?_⟩
      conv => whnf
      rw [← ha]
      exact ⟨rfl, rfl⟩
    · rw [if_neg hc] at ha
      refine Branch.of (fun hh => ?_) (fun hh => ?_)
      · exfalso; simp only [gt_iff_lt, ge_iff_le, decide_eq_true_eq, decide_eq_false_iff_not, beq_iff_eq, beq_eq_false_iff_ne, bne_iff_ne, bne_eq_false_iff_eq, ne_eq] at hh; first | done | omega | (simp at hh; done)
      try rw [hh]
      clear hh
      conv => whnf
      rw [w64 (x := (i : Int) + 1) (by omega) (by omega)]
      refine ⟨⟨i + 1, (l[i], true), by omega, ha, rfl⟩, ?_⟩
      show l.length - ((i : Int) + 1).toNat < l.length - (i : Int).toNat
      omega
  · simp only [decide_eq_false_iff_not] at h5
    rw [List.drop_eq_nil_of_le (by omega), fwd] at ha
    refine ⟨false, [], ?_⟩
    conv => whnf
    rw [← ha]
    exact ⟨rfl, rfl⟩
theorem bwd_len (id : List UInt8) (l : List Rc) (i : Nat) (il : i < l.length) : bwd id (l.drop i) = if l[i].g = id ∧ ((bwd id (l.drop (i + 1))).2 = false ∨ l[i].c = 0) then (l[i], true) else bwd id (l.drop (i + 1)) := by
  rw [List.drop_eq_getElem_cons il, bwd]
theorem c_rfindR (l : List Rc) (id : List UInt8) (hl : l.length < 4294967296) : FnOK Tryd.prog D 40 [(AV.sl (.nd [.ar 32 .lf, .lf, .lf, .lf]) (rcsA (l)) .ro), .ar 32 .lf (by8 id)] [] (fun r st => r = .tup [(AV.st [.ar 32 .lf (by8 ((bwd id l).1).g), .sc (.int .i64 ((bwd id l).1).h), .sc (.int .i64 ((bwd id l).1).p), .sc (.int .i64 ((bwd id l).1).c)]), (AV.sc (.bool ((bwd id l).2)))] ∧ st = []) := by
  have hll := lenR l
  refine fnok_of_W hmix tabOK Tryd.func40 rfl rfl (Nat.le_of_ble_eq_true rfl) ?_
  conv => whnf
  rw [hll, w64 (x := (l.length : Int) - 1) (by omega) (by omega)]
  refine ⟨false, [0, 3, 4, 6, 7, 8], fun τ => ∃ (i : Nat) (a : Rc × Bool), i ≤ l.length ∧ a = bwd id (l.drop i) ∧ τ = ⟨42, [(0, (AV.sl (.nd [.ar 32 .lf, .lf, .lf, .lf]) (rcsA (l)) .ro)), (3, .pt 0 []), (4, .pt 1 []), (6, .pt 2 []), (7, (AV.sc (.bool (a.2)))), (8, (AV.sc (.int .i64 ((i : Int) - 1))))], ⟨[(.ar 32 .lf (by8 id), false), ((AV.st [.ar 32 .lf (by8 (rc0).g), .sc (.int .i64 (rc0).h), .sc (.int .i64 (rc0).p), .sc (.int .i64 (rc0).c)]), false), ((AV.st [.ar 32 .lf (by8 (a.1).g), .sc (.int .i64 (a.1).h), .sc (.int .i64 (a.1).p), .sc (.int .i64 (a.1).c)]), false)], [], 0⟩⟩, fun τ => (slotI τ 8 + 1).toNat, ?_, ?_⟩
  · conv => whnf
    exact ⟨l.length, (rc0, false), by omega, by rw [List.drop_eq_nil_of_le (by omega)]; rfl, rfl⟩
  rintro τ ⟨i, a, hi, ha, rfl⟩
  conv => whnf
  refine Branch.of (fun h5 => ?_) (fun h5 => ?_) <;> rw [h5] <;> conv => whnf
  · simp only [decide_eq_true_eq] at h5
    obtain ⟨k, rfl⟩ : ∃ k, i = k + 1 := ⟨i - 1, by omega⟩
    have il : k < l.length := by omega
    have hb := bwd_len id l k il
    rw [← ha] at hb
    rw [show (((k + 1 : Nat) : Int) - 1) = (k : Int) by omega]
    conv => whnf
    refine ⟨tabF40R6, by decide +kernel, ?_⟩
    conv => whnf
    repeat (refine And.intro (by first | omega) ?_; conv => whnf)
    refine ⟨_, atR il, ?_⟩
    conv => whnf
    refine ⟨l[k].g, id, rfl, rfl, ?_⟩
    conv => whnf
    by_cases hg : l[k].g = id
    rotate_left
    · rw [show (l[k].g == id) = false from beq_eq_false_iff_ne.2 hg]
      conv => whnf
      rw [w64 (x := (k : Int) - 1) (by omega) (by omega)]
      refine ⟨⟨k, a, by omega, by rw [hb, if_neg fun c => hg c.1], rfl⟩, ?_⟩
      show ((k : Int) - 1 + 1).toNat < ((k : Int) + 1).toNat
      omega
    rw [show (l[k].g == id) = true from beq_iff_eq.2 hg]
    conv => whnf
    obtain ⟨a1, a2⟩ := a
    cases a2 with
    | false =>
      conv => whnf
      repeat (refine And.intro (by first | omega) ?_; conv => whnf)
      refine ⟨_, atR il, ?_⟩
      conv => whnf
      rw [w64 (x := (k : Int) - 1) (by omega) (by omega)]
      refine ⟨⟨k, (l[k], true), by omega, by rw [hb, if_pos ⟨hg, .inl rfl⟩], rfl⟩, ?_⟩
      show ((k : Int) - 1 + 1).toNat < ((k : Int) + 1).toNat
      omega
    | true =>
      conv => whnf
      repeat (refine And.intro (by first | omega) ?_; conv => whnf)
      refine ⟨_, atR il, ?_⟩
      conv => whnf
      by_cases hc : l[k].c = 0
      rotate_left
      · refine Branch.of (fun hh => ?_) (fun hh => ?_)
        · exfalso; simp only [gt_iff_lt, ge_iff_le, decide_eq_true_eq, decide_eq_false_iff_not, beq_iff_eq, beq_eq_false_iff_ne, bne_iff_ne, bne_eq_false_iff_eq, ne_eq] at hh; first | done | omega | (simp at hh; done)
        try rw [hh]
        clear hh
        conv => whnf
        rw [w64 (x := (k : Int) - 1) (by omega) (by omega)]
        refine ⟨⟨k, (a1, true), by omega, by rw [hb, if_neg fun c => c.2.elim (fun h => by simp at h) hc], rfl⟩, ?_⟩
        show ((k : Int) - 1 + 1).toNat < ((k : Int) + 1).toNat
        omega
      refine Branch.of (fun hh => ?_) (fun hh => ?_)
      rotate_left
      · exfalso; simp only [gt_iff_lt, ge_iff_le, decide_eq_true_eq, decide_eq_false_iff_not, beq_iff_eq, beq_eq_false_iff_ne, bne_iff_ne, bne_eq_false_iff_eq, ne_eq] at hh; first | done | omega | (simp at hh; done)
      try rw [hh]
      clear hh
      conv => whnf
      repeat (refine And.intro (by first | omega) ?_; conv => whnf)
      refine ⟨_, atR il, ?_⟩
      conv => whnf
      rw [w64 (x := (k : Int) - 1) (by omega) (by omega)]
      refine ⟨⟨k, (l[k], true), by omega, by rw [hb, if_pos ⟨hg, .inr hc⟩], rfl⟩, ?_⟩
      show ((k : Int) - 1 + 1).toNat < ((k : Int) + 1).toNat
      omega
  · simp only [decide_eq_false_iff_not] at h5
    have e : i = 0 := by omega
    subst e
    rw [List.drop_zero] at ha
    refine ⟨false, [], ?_⟩
    conv => whnf
    rw [ha]
    exact ⟨rfl, rfl⟩
end Go.WL.T6d
