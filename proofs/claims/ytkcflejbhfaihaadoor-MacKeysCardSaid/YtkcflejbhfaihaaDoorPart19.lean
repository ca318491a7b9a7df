/- Keys' theorem. No condition. -/
import Derived.Test.YtkcflejbhfaihaaDoorPart18
set_option linter.unusedVariables false
set_option linter.unusedSimpArgs false
namespace Go.WL.T4
open Go.WL Go.Proofs
set_option maxRecDepth 20000
set_option maxHeartbeats 8000000
theorem mac_long (key text : List UInt8) (h : 64 < key.length) : macB (shaB key) text = macB key text := by
  have e : blk (shaB key) = blk key := by
    have h1 : hk (shaB key) = shaB key := by
      unfold hk
      rw [if_neg (by rw [shaB_len]; omega)]
    have h2 : hk key = shaB key := by
      unfold hk
      rw [if_pos h]
    unfold blk
    rw [h1, h2]
  unfold macB
  rw [e]
theorem mac_more (key text : List UInt8) (n : Nat) (h : key.length + n ≤ 64) : macB (key ++ List.replicate n 0) text = macB key text := by
  have e : blk (key ++ List.replicate n 0) = blk key := by
    have h1 : hk (key ++ List.replicate n 0) = key ++ List.replicate n 0 := by
      unfold hk
      rw [if_neg (by simp; omega)]
    have h2 : hk key = key := by
      unfold hk
      rw [if_neg (by omega)]
    unfold blk
    rw [h1, h2, List.append_assoc, List.replicate_append_replicate]
    congr 2
    simp
    omega
  unfold macB
  rw [e]
theorem by8_more (key : List UInt8) (n : Nat) : by8 key ++ List.replicate n (AV.sc (.int .u8 (0))) = by8 (key ++ List.replicate n 0) := by simp [by8]
theorem c_macKeys_aux (key text M H : List UInt8) (a : Nat) (h1 : a < 256) (hH : H.length = 32)
    (ca : FnOK Tryd.prog D 31 [] [] (fun r st => r = (AV.sc (.bool (true))) ∧ st = []))
    (cs : key.length ≤ 300 → FnOK Tryd.prog D 17 [(AV.sl .lf (by8 (key)) .ro)] [] (fun r st => r = .ar 32 .lf (by8 H) ∧ st = []))
    (cm : key.length ≤ 300 → text.length ≤ 500 → ∀ k : List UInt8, (k = key ∨ (64 < key.length ∧ k = H) ∨ (∃ n, key.length + n ≤ 64 ∧ k = key ++ List.replicate n 0)) → FnOK Tryd.prog D 32 [(AV.sl .lf (by8 (k)) .ro), .sl .lf [(AV.sl .lf (by8 (text)) .ro)] .ex] [] (fun r st => r = .ar 32 .lf (by8 M) ∧ st = [])) :
    FnOK Tryd.prog D 7 [(AV.sl .lf (by8 (key)) .ro), (AV.sl .lf (by8 (text)) .ro), (AV.sc (.int .u8 ((a : Int))))] [] (fun r _ => r = (AV.sc (.bool (true)))) := by
  refine fnok_of_Ws [1005007] hmix tabOK Tryd.func7 rfl rfl (Nat.le_of_ble_eq_true rfl) ?_
  conv => whnf
  rw [len8]
  refine Branch.of (fun h2 => ?_) (fun h2 => ?_) <;> rw [h2] <;> conv => whnf
  · refine (ca).mono fun r st e => ?_
    obtain ⟨rfl, rfl⟩ := e
    conv => whnf
    refine ⟨false, [], ?_⟩
    conv => whnf
  rw [len8]
  refine Branch.of (fun h3 => ?_) (fun h3 => ?_) <;> rw [h3] <;> conv => whnf
  · refine (ca).mono fun r st e => ?_
    obtain ⟨rfl, rfl⟩ := e
    conv => whnf
    refine ⟨false, [], ?_⟩
    conv => whnf
  simp only [gt_iff_lt, decide_eq_false_iff_not] at h2 h3
  have hk : key.length ≤ 300 := by omega
  have ht : text.length ≤ 500 := by omega
  rw [len8]
  refine Branch.of (fun h4 => ?_) (fun h4 => ?_) <;> rw [h4] <;> conv => whnf
  · simp only [gt_iff_lt, decide_eq_true_eq] at h4
    refine (cs hk).mono fun r st e => ?_
    obtain ⟨rfl, rfl⟩ := e
    conv => whnf
    refine ⟨tabF7R5, by decide +kernel, ?_⟩
    conv => whnf
    refine ⟨_, _, cm hk ht key (.inl rfl), ?_⟩
    conv => whnf
    repeat (refine And.intro (by first | omega) ?_; conv => whnf)
    have e1 : List.take (32 - 0) (List.drop 0 (by8 H)) = by8 H := List.take_of_length_le (by rw [List.drop_zero, len8]; omega)
    rw [e1]
    refine ⟨_, _, cm hk ht H (.inr (.inl ⟨by omega, rfl⟩)), ?_⟩
    conv => whnf
    refine ⟨M, M, rfl, rfl, ?_⟩
    conv => whnf
    refine Branch.of (fun hh => ?_) (fun hh => ?_)
    rotate_left
    · exfalso; simp only [gt_iff_lt, ge_iff_le, decide_eq_true_eq, decide_eq_false_iff_not, beq_iff_eq, beq_eq_false_iff_ne, bne_iff_ne, bne_eq_false_iff_eq, ne_eq] at hh; first | done | omega | (simp at hh; done)
    try rw [hh]
    clear hh
    conv => whnf
    refine ⟨_, _, ca, ?_⟩
    conv => whnf
    refine ⟨false, [], ?_⟩
    conv => whnf
  · simp only [gt_iff_lt, decide_eq_false_iff_not] at h4
    refine ⟨tabF7R6, by decide +kernel, ?_⟩
    conv => whnf
    refine And.intro (by rw [len8]; show 0 + _ < _; omega) ?_
    conv => whnf
    rw [w64 (x := (a : Int)) (by omega) (by omega), len8, w64 (x := 65 - (key.length : Int)) (by omega) (by omega)]
    have hm : 65 - (key.length : Int) = ((65 - key.length : Nat) : Int) := by omega
    rw [hm]
    refine ⟨by omega, ?_⟩
    conv => whnf
    have hn : a % (65 - key.length) < 65 - key.length := Nat.mod_lt _ (by omega)
    rw [show Int.tmod (a : Int) ((65 - key.length : Nat) : Int) = ((a % (65 - key.length) : Nat) : Int) from rfl]
    generalize a % (65 - key.length) = n at hn
    repeat (refine And.intro (by first | omega) ?_; conv => whnf)
    rw [show List.replicate 0 (AV.sc (.int .u8 (0))) ++ by8 key = by8 key from rfl, Int.toNat_natCast, by8_more]
    refine And.intro (by rw [len8, List.length_replicate]; omega) ?_
    conv => whnf
    refine (cm hk ht key (.inl rfl)).mono fun r st e => ?_
    obtain ⟨rfl, rfl⟩ := e
    conv => whnf
    refine (cm hk ht (key ++ List.replicate n 0) (.inr (.inr ⟨n, by omega, rfl⟩))).mono fun r st e => ?_
    obtain ⟨rfl, rfl⟩ := e
    conv => whnf
    refine ⟨M, M, rfl, rfl, ?_⟩
    conv => whnf
    refine Branch.of (fun hh => ?_) (fun hh => ?_)
    rotate_left
    · exfalso; simp only [gt_iff_lt, ge_iff_le, decide_eq_true_eq, decide_eq_false_iff_not, beq_iff_eq, beq_eq_false_iff_ne, bne_iff_ne, bne_eq_false_iff_eq, ne_eq] at hh; first | done | omega | (simp at hh; done)
    try rw [hh]
    clear hh
    conv => whnf
    refine (ca).mono fun r st e => ?_
    obtain ⟨rfl, rfl⟩ := e
    conv => whnf
    refine ⟨false, [], ?_⟩
    conv => whnf
theorem c_macKeys (key text : List UInt8) (a : Nat) (h1 : a < 256) : FnOK Tryd.prog D 7 [(AV.sl .lf (by8 (key)) .ro), (AV.sl .lf (by8 (text)) .ro), (AV.sc (.int .u8 ((a : Int))))] [] (fun r _ => r = (AV.sc (.bool (true)))) := by
  refine c_macKeys_aux key text (macB key text) (shaB key) a h1 (shaB_len _) c_awake3 (fun hk => c_refsha key (by omega)) (fun hk ht k h => ?_)
  have e1 : [text].flatten = text := by simp
  have e : macB k text = macB key text ∧ k.length ≤ 300 := by
    rcases h with rfl | ⟨h, rfl⟩ | ⟨n, h, rfl⟩
    · exact ⟨rfl, hk⟩
    · exact ⟨mac_long key text h, by rw [shaB_len]; omega⟩
    · exact ⟨mac_more key text n h, by simp; omega⟩
  have := c_mac k [text] (by omega) (by simp) (by rw [e1]; omega) (m := .ex) (.inl rfl) (Weaks.refl _) (k := .ro) (.inr rfl)
  rw [e1, e.1] at this
  exact this
end Go.WL.T4
