/- Keys' law. No condition. -/
import Derived.Test.YtkcflejbhfaihaaDoorPart21
set_option linter.unusedVariables false
set_option linter.unusedSimpArgs false
namespace Go.WL.T4
open Go.WL Go.Proofs
set_option maxRecDepth 20000
set_option maxHeartbeats 8000000
theorem tag27 : tagB 2 7 [1, 2] ≠ z32 := by decide +kernel
theorem c_awake4_aux (T : List UInt8) (hT : T.length = 32) (hne : T ≠ z32)
    (ct : FnOK Tryd.prog D 38 [(AV.sc (.int .i64 (2))), (AV.sc (.int .u8 (7))), .sl .lf [.sl .lf [(AV.sc (.int .u8 (1)))] .ex, .sl .lf [(AV.sc (.int .u8 (2)))] .ex] .ex] [] (fun r st => r = .ar 32 .lf (by8 T) ∧ st = []))
    (cq : FnOK Tryd.prog D 44 [(AV.sc (.int .i64 (5)))] [] (fun r st => r = (AV.sc (.int .i64 (3))) ∧ st = []))
    (cc : FnOK Tryd.prog D 42 [(AV.sc (.int .i64 (2))), (AV.sc (.int .u8 (7))), .ar 32 .lf (by8 T), .sl .lf [.sl .lf [(AV.sc (.int .u8 (1))), (AV.sc (.int .u8 (2)))] .ex] .ex] [] (fun r st => r = (AV.sc (.bool (true))) ∧ st = [])) :
    FnOK Tryd.prog D 37 [] [] (fun r st => r = (AV.sc (.bool (true))) ∧ st = []) := by
  refine fnok_of_W hmix tabOK Tryd.func37 rfl rfl (Nat.le_of_ble_eq_true rfl) ?_
  conv => whnf
  refine (ct).mono fun r st e => ?_
  obtain ⟨rfl, rfl⟩ := e
  conv => whnf
  refine (cq).mono fun r st e => ?_
  obtain ⟨rfl, rfl⟩ := e
  conv => whnf
  refine (cc).mono fun r st e => ?_
  obtain ⟨rfl, rfl⟩ := e
  conv => whnf
  refine ⟨T, z32, rfl, z32_is.symm, ?_⟩
  conv => whnf
  refine ⟨false, [], ?_⟩
  conv => whnf
  refine ⟨?_, rfl⟩
  rw [show (T == z32) = false by rw [beq_eq_false_iff_ne]; exact hne]
  rfl
theorem c_awake4 : FnOK Tryd.prog D 37 [] [] (fun r st => r = (AV.sc (.bool (true))) ∧ st = []) := by
  have ct := c_tag 2 7 [[1], [2]] (by simp) (by simp) (m := .ex) (.inl rfl) (xs := [.sl .lf [(AV.sc (.int .u8 (1)))] .ex, .sl .lf [(AV.sc (.int .u8 (2)))] .ex]) (.cons (.sl (.inl rfl) (Weaks.refl _)) (.cons (.sl (.inl rfl) (Weaks.refl _)) .nil))
  rw [show [[1], [2]].flatten = ([1, 2] : List UInt8) from rfl] at ct
  have cc := c_check 2 7 (tagB 2 7 [1, 2]) [[1, 2]] true (tagB_len _ _ _) (by simp) (by simp) (fun _ => by rw [show [[1, 2]].flatten = ([1, 2] : List UInt8) from rfl, beq_self_eq_true]) (fun h => by revert h; decide) (m := .ex) (.inl rfl) (xs := [.sl .lf [(AV.sc (.int .u8 (1))), (AV.sc (.int .u8 (2)))] .ex]) (.cons (.sl (.inl rfl) (Weaks.refl _)) .nil)
  exact c_awake4_aux (tagB 2 7 [1, 2]) (tagB_len _ _ _) tag27 ct (c_quorum 5) cc
theorem c_keysTags_aux (i : Int) (d : UInt8) (tag b Y T : List UInt8) (q : Int) (a : Nat) (h1 : a < 65536) (ht : tag.length = 32) (hT : T.length = 32)
    (ca : FnOK Tryd.prog D 37 [] [] (fun r st => r = (AV.sc (.bool (true))) ∧ st = []))
    (ct : b.length ≤ 500 → ∀ ps : List (List UInt8), ps.length < 10 → ps.flatten = b → FnOK Tryd.prog D 38 [(AV.sc (.int .i64 (i))), (AV.sc (.int .u8 ((d.toNat : Int)))), .sl .lf (ps.map fun b => (AV.sl .lf (by8 (b)) .ro)) .ex] [] (fun r st => r = .ar 32 .lf (by8 T) ∧ st = []))
    (cw : b.length ≤ 500 → FnOK Tryd.prog D 39 [(AV.sc (.int .i64 (i))), (AV.sc (.int .u8 ((d.toNat : Int)))), (AV.sl .lf (by8 (b)) .ro)] [] (fun r st => r = .ar 32 .lf (by8 T) ∧ st = []))
    (ck : FnOK Tryd.prog D 40 [(AV.sc (.int .i64 (i)))] [] (fun r st => r = .ar 32 .lf (by8 Y) ∧ st = []))
    (ckR : FnOK Tryd.prog D 41 [(AV.sc (.int .i64 (i)))] [] (fun r st => r = .ar 32 .lf (by8 Y) ∧ st = []))
    (cc : b.length ≤ 500 → ∀ (g : List UInt8) (x : Bool), g.length = 32 → (isNode i = true → x = (g == T)) → (isNode i = false → x = false) → FnOK Tryd.prog D 42 [(AV.sc (.int .i64 (i))), (AV.sc (.int .u8 ((d.toNat : Int)))), .ar 32 .lf (by8 g), .sl .lf [(AV.sl .lf (by8 (b)) .ro)] .ex] [] (fun r st => r = (AV.sc (.bool (x))) ∧ st = []))
    (cq : FnOK Tryd.prog D 44 [(AV.sc (.int .i64 (i)))] [] (fun r st => r = (AV.sc (.int .i64 (q))) ∧ st = []))
    (cqR : FnOK Tryd.prog D 45 [(AV.sc (.int .i64 (i)))] [] (fun r st => r = (AV.sc (.int .i64 (q))) ∧ st = [])) :
    FnOK Tryd.prog D 9 [.st [(AV.sc (.int .i64 (i))), (AV.sc (.int .u8 ((d.toNat : Int)))), .ar 32 .lf (by8 tag)], (AV.sl .lf (by8 (b)) .ro), (AV.sc (.int .u16 ((a : Int))))] [] (fun r _ => r = (AV.sc (.bool (true)))) := by
  refine fnok_of_Ws [3000000 + 38] hmix tabOK Tryd.func9 rfl rfl (Nat.le_of_ble_eq_true rfl) ?_
  conv => whnf
  rw [len8]
  refine Branch.of (fun h2 => ?_) (fun h2 => ?_) <;> rw [h2] <;> conv => whnf
  · refine (ca).mono fun r st e => ?_
    obtain ⟨rfl, rfl⟩ := e
    conv => whnf
    refine ⟨false, [], ?_⟩
    conv => whnf
  simp only [gt_iff_lt, decide_eq_false_iff_not] at h2
  have hb : b.length ≤ 500 := by omega
  rw [len8, w64 (x := (b.length : Int) + 1) (by omega) (by omega), w64 (x := (a : Int)) (by omega) (by omega)]
  repeat (refine And.intro (by first | omega) ?_; conv => whnf)
  have hkk : a % (b.length + 1) < b.length + 1 := Nat.mod_lt _ (by omega)
  rw [show Int.tmod (a : Int) ((b.length : Int) + 1) = ((a % (b.length + 1) : Nat) : Int) from rfl]
  generalize a % (b.length + 1) = k at hkk
  have e1 : List.take ((k : Int).toNat - 0) (List.drop 0 (by8 b)) = by8 (b.take k) := by simp [by8]
  have e2 : List.take ((by8 b).length - (k : Int).toNat) (List.drop (k : Int).toNat (by8 b)) = by8 (b.drop k) := by
    rw [len8, Int.toNat_natCast, by8, ← List.map_drop, ← List.map_take, List.take_of_length_le (by rw [List.length_drop]; omega)]
    rfl
  refine ⟨tabF9R4, by decide +kernel, ?_⟩
  conv => whnf
  repeat (refine And.intro (by first | omega) ?_; conv => whnf)
  refine And.intro (by rw [len8]; omega) ?_
  conv => whnf
  rw [e1]
  refine ⟨by omega, ?_⟩
  conv => whnf
  refine And.intro (by rw [len8]; omega) ?_
  conv => whnf
  refine And.intro (Nat.le_refl _) ?_
  conv => whnf
  rw [e2]
  refine ⟨_, (ct hb [b.take k, b.drop k] (by simp) (by simp)), rfl, ?_⟩
  conv => whnf
  refine (cw hb).mono fun r st e => ?_
  obtain ⟨rfl, rfl⟩ := e
  conv => whnf
  cases hn : isNode i
  · have hc1 := cc hb tag false ht (fun h => by rw [hn] at h; cases h) (fun _ => rfl)
    have hc2 := cc hb T false hT (fun h => by rw [hn] at h; cases h) (fun _ => rfl)
    have hn1 := c_node i
    rw [hn] at hn1
    refine Branch.of (fun h3 => ?_) (fun h3 => ?_) <;> rw [h3] <;> conv => whnf
    · have h4 : decide (i ≤ 21) = false := by
        rw [show isNode i = (decide (1 ≤ i) && decide (i ≤ 21)) from rfl, show decide (1 ≤ i) = true from h3, Bool.true_and] at hn
        exact hn
      rw [h4]
      refine ⟨tabF9R7, by decide +kernel, ?_⟩
      conv => whnf
      refine ⟨_, _, ck, ?_⟩
      conv => whnf
      refine ⟨_, _, ckR, ?_⟩
      conv => whnf
      refine ⟨Y, Y, rfl, rfl, ?_⟩
      conv => whnf
      refine Branch.of (fun hh => ?_) (fun hh => ?_)
      rotate_left
      · exfalso; simp only [gt_iff_lt, ge_iff_le, decide_eq_true_eq, decide_eq_false_iff_not, beq_iff_eq, beq_eq_false_iff_ne, bne_iff_ne, bne_eq_false_iff_eq, ne_eq] at hh; first | done | omega | (simp at hh; done)
      try rw [hh]
      clear hh
      conv => whnf
      refine ⟨T, T, rfl, rfl, ?_⟩
      conv => whnf
      refine Branch.of (fun hh => ?_) (fun hh => ?_)
      rotate_left
      · exfalso; simp only [gt_iff_lt, ge_iff_le, decide_eq_true_eq, decide_eq_false_iff_not, beq_iff_eq, beq_eq_false_iff_ne, bne_iff_ne, bne_eq_false_iff_eq, ne_eq] at hh; first | done | omega | (simp at hh; done)
      try rw [hh]
      clear hh
      conv => whnf
      refine ⟨_, _, hc1, ?_⟩
      conv => whnf
      refine ⟨_, _, hc2, ?_⟩
      conv => whnf
      refine ⟨_, _, hn1, ?_⟩
      conv => whnf
      refine ⟨_, _, cq, ?_⟩
      conv => whnf
      refine ⟨_, _, cqR, ?_⟩
      conv => whnf
      refine Branch.of (fun hh => ?_) (fun hh => ?_)
      rotate_left
      · exfalso; simp only [gt_iff_lt, ge_iff_le, decide_eq_true_eq, decide_eq_false_iff_not, beq_iff_eq, beq_eq_false_iff_ne, bne_iff_ne, bne_eq_false_iff_eq, ne_eq] at hh; first | done | omega | (simp at hh; done)
      try rw [hh]
      clear hh
      conv => whnf
      refine ⟨_, _, ca, ?_⟩
      conv => whnf
      refine ⟨false, [], ?_⟩
      conv => whnf
    · refine ⟨tabF9R7, by decide +kernel, ?_⟩
      conv => whnf
      refine ⟨_, _, ck, ?_⟩
      conv => whnf
      refine ⟨_, _, ckR, ?_⟩
      conv => whnf
      refine ⟨Y, Y, rfl, rfl, ?_⟩
      conv => whnf
      refine Branch.of (fun hh => ?_) (fun hh => ?_)
      rotate_left
      · exfalso; simp only [gt_iff_lt, ge_iff_le, decide_eq_true_eq, decide_eq_false_iff_not, beq_iff_eq, beq_eq_false_iff_ne, bne_iff_ne, bne_eq_false_iff_eq, ne_eq] at hh; first | done | omega | (simp at hh; done)
      try rw [hh]
      clear hh
      conv => whnf
      refine ⟨T, T, rfl, rfl, ?_⟩
      conv => whnf
      refine Branch.of (fun hh => ?_) (fun hh => ?_)
      rotate_left
      · exfalso; simp only [gt_iff_lt, ge_iff_le, decide_eq_true_eq, decide_eq_false_iff_not, beq_iff_eq, beq_eq_false_iff_ne, bne_iff_ne, bne_eq_false_iff_eq, ne_eq] at hh; first | done | omega | (simp at hh; done)
      try rw [hh]
      clear hh
      conv => whnf
      refine ⟨_, _, hc1, ?_⟩
      conv => whnf
      refine ⟨_, _, hc2, ?_⟩
      conv => whnf
      refine ⟨_, _, hn1, ?_⟩
      conv => whnf
      refine ⟨_, _, cq, ?_⟩
      conv => whnf
      refine ⟨_, _, cqR, ?_⟩
      conv => whnf
      refine Branch.of (fun hh => ?_) (fun hh => ?_)
      rotate_left
      · exfalso; simp only [gt_iff_lt, ge_iff_le, decide_eq_true_eq, decide_eq_false_iff_not, beq_iff_eq, beq_eq_false_iff_ne, bne_iff_ne, bne_eq_false_iff_eq, ne_eq] at hh; first | done | omega | (simp at hh; done)
      try rw [hh]
      clear hh
      conv => whnf
      refine ⟨_, _, ca, ?_⟩
      conv => whnf
      refine ⟨false, [], ?_⟩
      conv => whnf
  · have hc1 := cc hb tag (tag == T) ht (fun _ => rfl) (fun h => by rw [hn] at h; cases h)
    have hc2 := cc hb T true hT (fun _ => by rw [beq_self_eq_true]) (fun h => by rw [hn] at h; cases h)
    have hn1 := c_node i
    rw [hn] at hn1
    have hi := hn
    simp only [isNode, Bool.and_eq_true, decide_eq_true_eq] at hi
    refine Branch.of (fun hh => ?_) (fun hh => ?_)
    rotate_left
    · exfalso; simp only [gt_iff_lt, ge_iff_le, decide_eq_true_eq, decide_eq_false_iff_not, beq_iff_eq, beq_eq_false_iff_ne, bne_iff_ne, bne_eq_false_iff_eq, ne_eq] at hh; first | done | omega | (simp at hh; done)
    try rw [hh]
    clear hh
    conv => whnf
    rw [show decide (i ≤ 21) = true from decide_eq_true hi.2]
    refine ⟨tabF9R7, by decide +kernel, ?_⟩
    conv => whnf
    refine ⟨_, _, ck, ?_⟩
    conv => whnf
    refine ⟨_, _, ckR, ?_⟩
    conv => whnf
    refine ⟨Y, Y, rfl, rfl, ?_⟩
    conv => whnf
    refine Branch.of (fun hh => ?_) (fun hh => ?_)
    rotate_left
    · exfalso; simp only [gt_iff_lt, ge_iff_le, decide_eq_true_eq, decide_eq_false_iff_not, beq_iff_eq, beq_eq_false_iff_ne, bne_iff_ne, bne_eq_false_iff_eq, ne_eq] at hh; first | done | omega | (simp at hh; done)
    try rw [hh]
    clear hh
    conv => whnf
    refine ⟨T, T, rfl, rfl, ?_⟩
    conv => whnf
    refine Branch.of (fun hh => ?_) (fun hh => ?_)
    rotate_left
    · exfalso; simp only [gt_iff_lt, ge_iff_le, decide_eq_true_eq, decide_eq_false_iff_not, beq_iff_eq, beq_eq_false_iff_ne, bne_iff_ne, bne_eq_false_iff_eq, ne_eq] at hh; first | done | omega | (simp at hh; done)
    try rw [hh]
    clear hh
    conv => whnf
    refine ⟨_, _, hc1, ?_⟩
    conv => whnf
    refine ⟨tag, T, rfl, rfl, ?_⟩
    conv => whnf
    refine Branch.of (fun hh => ?_) (fun hh => ?_)
    rotate_left
    · exfalso; simp only [gt_iff_lt, ge_iff_le, decide_eq_true_eq, decide_eq_false_iff_not, beq_iff_eq, beq_eq_false_iff_ne, bne_iff_ne, bne_eq_false_iff_eq, ne_eq] at hh; first | done | omega | (simp at hh; done)
    try rw [hh]
    clear hh
    conv => whnf
    refine ⟨_, _, hc2, ?_⟩
    conv => whnf
    refine ⟨_, _, hn1, ?_⟩
    conv => whnf
    refine ⟨_, _, cq, ?_⟩
    conv => whnf
    refine ⟨_, _, cqR, ?_⟩
    conv => whnf
    refine Branch.of (fun hh => ?_) (fun hh => ?_)
    rotate_left
    · exfalso; simp only [gt_iff_lt, ge_iff_le, decide_eq_true_eq, decide_eq_false_iff_not, beq_iff_eq, beq_eq_false_iff_ne, bne_iff_ne, bne_eq_false_iff_eq, ne_eq] at hh; first | done | omega | (simp at hh; done)
    try rw [hh]
    clear hh
    conv => whnf
    refine ⟨_, _, ca, ?_⟩
    conv => whnf
    refine ⟨false, [], ?_⟩
    conv => whnf
theorem c_keysTags (i : Int) (d : UInt8) (tag b : List UInt8) (a : Nat) (h1 : a < 65536) (ht : tag.length = 32) :
    FnOK Tryd.prog D 9 [.st [(AV.sc (.int .i64 (i))), (AV.sc (.int .u8 ((d.toNat : Int)))), .ar 32 .lf (by8 tag)], (AV.sl .lf (by8 (b)) .ro), (AV.sc (.int .u16 ((a : Int))))] [] (fun r _ => r = (AV.sc (.bool (true)))) := by
  refine c_keysTags_aux i d tag b (keyB i) (tagB i d b) (quo i) a h1 ht (tagB_len _ _ _) c_awake4 (fun hb ps hp he => ?_) (fun hb => c_tagR i d b (by omega)) (c_key i) (c_keyR i) (fun hb g x hg hy hno => ?_) (c_quorum i) (c_quorumR i)
  · have := c_tag i d ps (by omega) (by rw [he]; omega) (m := .ex) (.inl rfl) (Weaks.refl _)
    rw [he] at this
    exact this
  · have e : [b].flatten = b := by simp
    exact c_check i d g [b] x hg (by simp) (by rw [e]; omega) (by rw [e]; exact hy) hno (m := .ex) (.inl rfl) (Weaks.refl _)
end Go.WL.T4
