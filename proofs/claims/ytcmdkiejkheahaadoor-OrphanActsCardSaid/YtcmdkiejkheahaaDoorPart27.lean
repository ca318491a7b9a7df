/- Blocks: the reference's Same, May; light ones; their bytes. No condition. -/
import Derived.Test.YtcmdkiejkheahaaDoorPart26
set_option linter.unusedVariables false
set_option linter.unusedSimpArgs false
namespace Go.WL.T6d
open Go.WL Go.Proofs
set_option maxRecDepth 20000
set_option maxHeartbeats 8000000
theorem c_bsameR (a b : Bl) (hl : a.txs.length < 4294967296) : FnOK Tryd.prog D 26 [(AV.st [.ar 32 .lf (by8 (a).p), .sc (.int .i64 (a).v), .sc (.int .i64 (a).h), .sc (.int .i64 (a).by_), .sl (.nd [.lf, .lf, .lf, .lf, .lf, .lf, .lf]) (txsA (a).txs) .ro]), (AV.st [.ar 32 .lf (by8 (b).p), .sc (.int .i64 (b).v), .sc (.int .i64 (b).h), .sc (.int .i64 (b).by_), .sl (.nd [.lf, .lf, .lf, .lf, .lf, .lf, .lf]) (txsA (b).txs) .ro])] [] (fun r st => r = (AV.sc (.bool (decide (a = b)))) ∧ st = []) := by
  have hla := lenT a.txs
  have hlb := lenT b.txs
  have e := bl_eq a b
  have no : ∀ {x : Prop}, ¬ x → (a = b → x) → decide (a = b) = false := fun h k => decide_eq_false fun e => h (k e)
  refine fnok_of_W hmix tabOK Tryd.func26 rfl rfl (Nat.le_of_ble_eq_true rfl) ?_
  conv => whnf
  refine ⟨a.p, b.p, rfl, rfl, ?_⟩
  conv => whnf
  cases h0 : (a.p == b.p)
  · conv => whnf
    refine ⟨false, [], ?_⟩
    conv => whnf
    refine ⟨?_, rfl⟩
    rw [no (show ¬ a.p = b.p by simpa using h0) (fun e => by rw [e])]
  conv => whnf
  refine Branch.of (fun h1 => ?_) (fun h1 => ?_) <;> rw [h1] <;> conv => whnf
  · refine ⟨false, [], ?_⟩
    conv => whnf
    refine ⟨?_, rfl⟩
    rw [no (show ¬ a.v = b.v by simpa using h1) (fun e => by rw [e])]
  refine Branch.of (fun h2 => ?_) (fun h2 => ?_) <;> rw [h2] <;> conv => whnf
  · refine ⟨false, [], ?_⟩
    conv => whnf
    refine ⟨?_, rfl⟩
    rw [no (show ¬ a.h = b.h by simpa using h2) (fun e => by rw [e])]
  refine Branch.of (fun h3 => ?_) (fun h3 => ?_) <;> rw [h3] <;> conv => whnf
  · refine ⟨false, [], ?_⟩
    conv => whnf
    refine ⟨?_, rfl⟩
    rw [no (show ¬ a.by_ = b.by_ by simpa using h3) (fun e => by rw [e])]
  rw [hla, hlb]
  refine Branch.of (fun h4 => ?_) (fun h4 => ?_) <;> rw [h4] <;> conv => whnf
  · simp only [bne_iff_ne, ne_eq] at h4
    refine ⟨false, [], ?_⟩
    conv => whnf
    refine ⟨?_, rfl⟩
    rw [no (show ¬ a.txs.length = b.txs.length by omega) (fun e => by rw [e])]
  simp only [bne_eq_false_iff_eq] at h1 h2 h3 h4
  simp only [beq_iff_eq] at h0
  refine ⟨false, [2, 3, 5], fun τ => ∃ i : Nat, i ≤ a.txs.length ∧ a.txs.take i = b.txs.take i ∧ τ = ⟨59, [(2, .pt 0 []), (3, .pt 1 []), (5, (AV.sc (.int .i64 ((i : Int)))))], ⟨[((AV.st [.ar 32 .lf (by8 (a).p), .sc (.int .i64 (a).v), .sc (.int .i64 (a).h), .sc (.int .i64 (a).by_), .sl (.nd [.lf, .lf, .lf, .lf, .lf, .lf, .lf]) (txsA (a).txs) .ro]), false), ((AV.st [.ar 32 .lf (by8 (b).p), .sc (.int .i64 (b).v), .sc (.int .i64 (b).h), .sc (.int .i64 (b).by_), .sl (.nd [.lf, .lf, .lf, .lf, .lf, .lf, .lf]) (txsA (b).txs) .ro]), false)], [], 0⟩⟩, fun τ => a.txs.length - (slotI τ 5).toNat, ?_, ?_⟩
  · conv => whnf
    exact ⟨0, by omega, rfl, rfl⟩
  rintro τ ⟨i, hi, ht, rfl⟩
  conv => whnf
  rw [hla]
  refine Branch.of (fun h5 => ?_) (fun h5 => ?_) <;> rw [h5] <;> conv => whnf
  · simp only [decide_eq_true_eq] at h5
    have il : i < a.txs.length := by omega
    have im : i < b.txs.length := by omega
    refine ⟨tabF26R6, by decide +kernel, ?_⟩
    conv => whnf
    repeat (refine And.intro (by first | omega) ?_; conv => whnf)
    refine ⟨_, atT il, ?_⟩
    conv => whnf
    repeat (refine And.intro (by first | omega) ?_; conv => whnf)
    refine ⟨_, atT im, ?_⟩
    conv => whnf
    rw [tx_eq]
    refine Branch.of (fun h6 => ?_) (fun h6 => ?_) <;> rw [h6] <;> conv => whnf
    · simp only [Bool.not_eq_true', decide_eq_false_iff_not] at h6
      refine ⟨false, [], ?_⟩
      conv => whnf
      refine ⟨?_, rfl⟩
      rw [no h6 (fun e => by subst e; rfl)]
    · simp only [Bool.not_eq_false', decide_eq_true_eq] at h6
      rw [w64 (x := (i : Int) + 1) (by omega) (by omega)]
      refine ⟨⟨i + 1, by omega, take_eq il im ht h6, rfl⟩, ?_⟩
      show a.txs.length - ((i : Int) + 1).toNat < a.txs.length - (i : Int).toNat
      omega
  · simp only [decide_eq_false_iff_not] at h5
    rw [List.take_of_length_le (by omega), List.take_of_length_le (by omega)] at ht
    refine ⟨false, [], ?_⟩
    conv => whnf
    refine ⟨?_, rfl⟩
    rw [decide_eq_true (e.2 ⟨h0, h1, h2, h3, ht⟩)]
theorem c_bsameR0 (b : Bl) (hl : b.txs.length < 4294967296) : FnOK Tryd.prog D 26 [(AV.st [.ar 32 .lf (by8 (b).p), .sc (.int .i64 (b).v), .sc (.int .i64 (b).h), .sc (.int .i64 (b).by_), .sl (.nd [.lf, .lf, .lf, .lf, .lf, .lf, .lf]) (txsA (b).txs) .ro]), .st [.ar 32 .lf (List.replicate 32 (AV.sc (.int .u8 (0)))), (AV.sc (.int .i64 (0))), (AV.sc (.int .i64 (0))), (AV.sc (.int .i64 (0))), .sl (.nd [.lf, .lf, .lf, .lf, .lf, .lf, .lf]) [] .ex]] [] (fun r st => r = (AV.sc (.bool (decide (b = b0)))) ∧ st = []) :=
  (c_bsameR b b0 hl).weak (.cons (Weak.refl _) (.cons weak0 .nil))
theorem c_bmayR (b : Bl) (hl : b.txs.length < 4294967296) (hk : shortK b.txs) : FnOK Tryd.prog D 29 [(AV.st [.ar 32 .lf (by8 (b).p), .sc (.int .i64 (b).v), .sc (.int .i64 (b).h), .sc (.int .i64 (b).by_), .sl (.nd [.lf, .lf, .lf, .lf, .lf, .lf, .lf]) (txsA (b).txs) .ro])] [] (fun r st => r = (AV.sc (.bool (mayB b))) ∧ st = []) := by
  have hll := lenT b.txs
  refine fnok_of_W hmix tabOK Tryd.func29 rfl rfl (Nat.le_of_ble_eq_true rfl) ?_
  conv => whnf
  refine (c_bsameR0 b hl).mono fun r st e => ?_
  obtain ⟨rfl, rfl⟩ := e
  conv => whnf
  cases h0 : decide (b = b0)
  rotate_left
  · conv => whnf
    refine ⟨false, [], ?_⟩
    conv => whnf
    refine ⟨?_, rfl⟩
    rw [mayB_eq, h0]
    rfl
  conv => whnf
  refine ⟨false, [1, 3], fun τ => ∃ i : Nat, i ≤ b.txs.length ∧ (b.txs.take i).all mayT = true ∧ τ = ⟨55, [(1, .pt 0 []), (3, (AV.sc (.int .i64 ((i : Int)))))], ⟨[((AV.st [.ar 32 .lf (by8 (b).p), .sc (.int .i64 (b).v), .sc (.int .i64 (b).h), .sc (.int .i64 (b).by_), .sl (.nd [.lf, .lf, .lf, .lf, .lf, .lf, .lf]) (txsA (b).txs) .ro]), false)], [], 0⟩⟩, fun τ => b.txs.length - (slotI τ 3).toNat, ?_, ?_⟩
  · conv => whnf
    exact ⟨0, by omega, rfl, rfl⟩
  rintro τ ⟨i, hi, ha, rfl⟩
  conv => whnf
  rw [hll]
  refine Branch.of (fun h1 => ?_) (fun h1 => ?_) <;> rw [h1] <;> conv => whnf
  · simp only [decide_eq_true_eq] at h1
    have il : i < b.txs.length := by omega
    repeat (refine And.intro (by first | omega) ?_; conv => whnf)
    refine ⟨_, atT il, ?_⟩
    conv => whnf
    refine (c_mayR b.txs[i] (hk _ (List.getElem_mem il))).mono fun r st e => ?_
    obtain ⟨rfl, rfl⟩ := e
    conv => whnf
    cases h2 : mayT b.txs[i]
    · conv => whnf
      refine ⟨false, [], ?_⟩
      conv => whnf
      refine ⟨?_, rfl⟩
      have e : b.txs.all mayT = false := by
        rw [List.all_eq_false]
        exact ⟨b.txs[i], List.getElem_mem il, by rw [h2]; simp⟩
      rw [mayB_eq, h0, e]
      simp
    · conv => whnf
      rw [w64 (x := (i : Int) + 1) (by omega) (by omega)]
      refine ⟨⟨i + 1, by omega, ?_, rfl⟩, ?_⟩
      · rw [List.take_succ_eq_append_getElem il, List.all_append, ha]
        simp [h2]
      · show b.txs.length - ((i : Int) + 1).toNat < b.txs.length - (i : Int).toNat
        omega
  · simp only [decide_eq_false_iff_not] at h1
    rw [List.take_of_length_le (by omega)] at ha
    clear h1 hi
    generalize hL : b.txs.length = L at *
    repeat' (first
      | (refine And.intro (by omega) ?_
         conv => whnf)
      | (refine Branch.of (fun h => ?_) (fun h => ?_) <;> (rw [h]; conv => whnf)))
    all_goals refine ⟨false, [], ?_⟩
    all_goals conv => whnf
    all_goals refine ⟨?_, rfl⟩
    all_goals rw [mayB_eq, h0, ha, hL]
    all_goals congr 2
    all_goals (try simp_all)
    all_goals first | done | omega | (intros; omega) | (rw [Bool.eq_iff_iff]; simp only [Bool.and_eq_true, Bool.or_eq_true, Bool.not_eq_true', decide_eq_true_eq, decide_eq_false_iff_not, beq_iff_eq]; omega)
/-- A light one: few transactions, not too long. -/
abbrev lightB (b : Bl) : Prop := b.txs.length ≤ 20 ∧ ∀ t ∈ b.txs, t.key.length ≤ 100 ∧ t.val.length ≤ 400
theorem c_blight (b : Bl) : FnOK Tryd.prog D 28 [(AV.st [.ar 32 .lf (by8 (b).p), .sc (.int .i64 (b).v), .sc (.int .i64 (b).h), .sc (.int .i64 (b).by_), .sl (.nd [.lf, .lf, .lf, .lf, .lf, .lf, .lf]) (txsA (b).txs) .ro])] [] (fun r st => (r = (AV.sc (.bool (false))) ∨ (r = (AV.sc (.bool (true))) ∧ lightB b)) ∧ st = []) := by
  have hll := lenT b.txs
  refine fnok_of_W hmix tabOK Tryd.func28 rfl rfl (Nat.le_of_ble_eq_true rfl) ?_
  conv => whnf
  refine ⟨false, [1, 3], fun τ => ∃ i : Nat, i ≤ 21 ∧ i ≤ b.txs.length ∧ (∀ j (h : j < b.txs.length), j < i → b.txs[j].key.length ≤ 100 ∧ b.txs[j].val.length ≤ 400) ∧ τ = ⟨26, [(1, .pt 0 []), (3, (AV.sc (.int .i64 ((i : Int)))))], ⟨[((AV.st [.ar 32 .lf (by8 (b).p), .sc (.int .i64 (b).v), .sc (.int .i64 (b).h), .sc (.int .i64 (b).by_), .sl (.nd [.lf, .lf, .lf, .lf, .lf, .lf, .lf]) (txsA (b).txs) .ro]), false)], [], 0⟩⟩, fun τ => 21 - (slotI τ 3).toNat, ?_, ?_⟩
  · conv => whnf
    exact ⟨0, by omega, by omega, fun j _ h => by omega, rfl⟩
  rintro τ ⟨i, hi, hil, hall, rfl⟩
  conv => whnf
  rw [hll]
  have stop : ¬ (i < b.txs.length ∧ i ≤ 20) → (∃ x : Bool, x = decide ((b.txs.length : Int) ≤ 20)) → ((AV.sc (.bool (decide ((b.txs.length : Int) ≤ 20)))) = (AV.sc (.bool (false))) ∨ ((AV.sc (.bool (decide ((b.txs.length : Int) ≤ 20)))) = (AV.sc (.bool (true))) ∧ lightB b)) := by
    intro h _
    by_cases h4 : b.txs.length ≤ 20
    · refine .inr ⟨by congr 2; exact decide_eq_true (by omega), h4, fun t ht => ?_⟩
      obtain ⟨j, hj, rfl⟩ := List.getElem_of_mem ht
      exact hall j hj (by omega)
    · exact .inl (by congr 2; exact decide_eq_false (by omega))
  refine Branch.of (fun h1 => ?_) (fun h1 => ?_) <;> rw [h1] <;> conv => whnf
  · simp only [decide_eq_true_eq] at h1
    refine Branch.of (fun h2 => ?_) (fun h2 => ?_) <;> rw [h2] <;> conv => whnf
    · simp only [decide_eq_true_eq] at h2
      have il : i < b.txs.length := by omega
      repeat (refine And.intro (by first | omega) ?_; conv => whnf)
      refine ⟨_, atT il, ?_⟩
      conv => whnf
      refine (c_txlight b.txs[i]).mono fun r st e => ?_
      obtain ⟨rfl, rfl⟩ := e
      conv => whnf
      refine Branch.of (fun h3 => ?_) (fun h3 => ?_) <;> rw [h3] <;> conv => whnf
      · refine ⟨false, [], ?_⟩
        conv => whnf
        exact ⟨.inl rfl, rfl⟩
      · simp only [Bool.not_eq_false', decide_eq_true_eq] at h3
        rw [w64 (x := (i : Int) + 1) (by omega) (by omega)]
        refine ⟨⟨i + 1, by omega, by omega, fun j h hj => ?_, rfl⟩, ?_⟩
        · by_cases e : j = i
          · subst e; exact h3
          · exact hall j h (by omega)
        · show 21 - ((i : Int) + 1).toNat < 21 - (i : Int).toNat
          omega
    · simp only [decide_eq_false_iff_not] at h2
      rw [hll]
      refine ⟨false, [], ?_⟩
      conv => whnf
      exact ⟨stop (by omega) ⟨_, rfl⟩, rfl⟩
  · simp only [decide_eq_false_iff_not] at h1
    rw [hll]
    refine ⟨false, [], ?_⟩
    conv => whnf
    exact ⟨stop (by omega) ⟨_, rfl⟩, rfl⟩
end Go.WL.T6d
