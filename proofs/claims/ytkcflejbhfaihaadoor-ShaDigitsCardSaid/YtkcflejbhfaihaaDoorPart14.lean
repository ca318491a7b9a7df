/- Digits read by the reference; ShaDigits. No condition. -/
import Derived.Test.YtkcflejbhfaihaaDoorPart13
set_option linter.unusedVariables false
set_option linter.unusedSimpArgs false
namespace Go.WL.T4b
open Go.WL Go.Proofs
set_option maxRecDepth 20000
set_option maxHeartbeats 8000000
/-- Of a hash so many digits. -/
def part (g : List UInt8) (i : Nat) : List UInt8 := (List.range 32).map fun k => if 2 * k + 2 ≤ i then g.getD k 0 else if 2 * k + 1 = i then UInt8.ofNat ((g.getD k 0).toNat / 16) else 0
theorem part_len (g : List UInt8) (i : Nat) : (part g i).length = 32 := by simp [part]
theorem part_all (g : List UInt8) (h : g.length = 32) : part g 64 = g := by
  apply List.ext_getElem (by simp [part, h])
  intro k h1 h2
  simp only [part, List.getElem_map, List.getElem_range]
  rw [if_pos (by omega), List.getD_eq_getElem?_getD, List.getElem?_eq_getElem h2]
  rfl
theorem part_none (g : List UInt8) : part g 0 = List.replicate 32 0 := by
  apply List.ext_getElem (by simp [part])
  intro k h1 h2
  simp only [part, List.getElem_map, List.getElem_range, List.getElem_replicate]
  rw [if_neg (by omega), if_neg (by omega)]
def digOf (g : List UInt8) (i : Nat) : Nat := if i % 2 = 0 then (g.getD (i / 2) 0).toNat / 16 else (g.getD (i / 2) 0).toNat % 16
theorem part_step (g : List UInt8) (i : Nat) (hi : i < 64) : part g (i + 1) = (part g i).set (i / 2) (UInt8.ofNat (((part g i).getD (i / 2) 0).toNat * 16 + digOf g i)) := by
  apply List.ext_getElem (by simp [part])
  intro k h1 h2
  have hk : k < 32 := by simpa [part] using h1
  rw [List.getElem_set]
  have hat : (part g i).getD (i / 2) 0 = if 2 * (i / 2) + 2 ≤ i then g.getD (i / 2) 0 else if 2 * (i / 2) + 1 = i then UInt8.ofNat ((g.getD (i / 2) 0).toNat / 16) else 0 := by
    rw [List.getD_eq_getElem?_getD, List.getElem?_eq_getElem (by rw [part_len]; omega)]
    simp only [part, List.getElem_map, List.getElem_range, Option.getD_some]
  by_cases e : i / 2 = k
  · rw [if_pos e, hat, if_neg (by omega)]
    simp only [part, List.getElem_map, List.getElem_range]
    unfold digOf
    subst e
    have hb := (g.getD (i / 2) 0).toNat_lt
    by_cases p : i % 2 = 0
    · rw [if_neg (by omega), if_pos (by omega), if_neg (by omega), if_pos p, show UInt8.toNat 0 = 0 from rfl, Nat.zero_mul, Nat.zero_add]
    · rw [if_pos (by omega), if_pos (by omega), if_neg p]
      apply UInt8.toNat_inj.1
      rw [UInt8.toNat_ofNat', UInt8.toNat_ofNat']
      omega
  · rw [if_neg e]
    simp only [part, List.getElem_map, List.getElem_range]
    by_cases p : 2 * k + 2 ≤ i
    · rw [if_pos p, if_pos (by omega)]
    · rw [if_neg p, if_neg (by omega), if_neg (by omega), if_neg (by omega)]
theorem hexB_dig (g : List UInt8) (i : Nat) (hi : i < 2 * g.length) : (hexB g)[i]? = some (hexd (digOf g i)) := by
  have hk : i / 2 < g.length := by omega
  have h := hexB_at g (i / 2) hk
  have e : g.getD (i / 2) 0 = g[i / 2] := by rw [List.getD_eq_getElem?_getD, List.getElem?_eq_getElem hk]; rfl
  unfold digOf
  rw [e]
  by_cases p : i % 2 = 0
  · rw [if_pos p, ← h.1, show 2 * (i / 2) = i by omega]
  · rw [if_neg p, ← h.2, show 2 * (i / 2) + 1 = i by omega]
theorem digOf_lt (g : List UInt8) (i : Nat) : digOf g i < 16 := by
  have hb := (g.getD (i / 2) 0).toNat_lt
  unfold digOf
  split <;> omega
theorem sub87 : ∀ c : Fin 256, IntKind.u8.wrap ((c.val : Int) - 87) = ((UInt8.ofNat c.val - 87).toNat : Int) := by decide +kernel
theorem sub48 : ∀ c : Fin 256, IntKind.u8.wrap ((c.val : Int) - 48) = ((UInt8.ofNat c.val - 48).toNat : Int) := by decide +kernel
theorem sub87' (c : UInt8) : IntKind.u8.wrap ((c.toNat : Int) - 87) = ((c - 87).toNat : Int) := by
  have := sub87 ⟨c.toNat, c.toNat_lt⟩
  simpa only [UInt8.ofNat_toNat] using this
theorem sub48' (c : UInt8) : IntKind.u8.wrap ((c.toNat : Int) - 48) = ((c - 48).toNat : Int) := by
  have := sub48 ⟨c.toNat, c.toNat_lt⟩
  simpa only [UInt8.ofNat_toNat] using this
theorem hexd_val : ∀ d : Fin 16, (97 ≤ (hexd d.val).toNat → (hexd d.val - 87).toNat % 16 = d.val) ∧ ((hexd d.val).toNat < 97 → (hexd d.val - 48).toNat % 16 = d.val) := by decide +kernel
theorem mix8 (a v : UInt8) : IntKind.u8.wrap (IntKind.u8.wrap ((a.toNat : Int) * 16) + Int.tmod (v.toNat : Int) 16) = ((UInt8.ofNat (a.toNat * 16 + v.toNat % 16)).toNat : Int) := by
  rw [show Int.tmod (v.toNat : Int) 16 = ((v.toNat % 16 : Nat) : Int) from rfl, show (a.toNat : Int) * 16 = ((a.toNat * 16 : Nat) : Int) by omega, UInt8.toNat_ofNat']
  simp only [IntKind.wrap, IntKind.signed, IntKind.bits]
  simp
theorem c_unhexR (s : List UInt8) (hs : s.length < 1000000) : FnOK Tryd.prog D 28 [.sc (.string (strB s))] [] (fun r st => Read s r ∧ st = []) := by
  have hsz := strB_size s
  refine fnok_of_W hmix tabOK Tryd.func28 rfl rfl (Nat.le_of_ble_eq_true rfl) ?_
  conv => whnf
  refine ⟨false, [0, 2, 4, 5], fun τ => ∃ (i : Nat) (y : List UInt8), i ≤ 64 ∧ i ≤ s.length ∧ y.length = 32 ∧ (∀ g : List UInt8, g.length = 32 → s = hexB g → y = part g i) ∧ τ = ⟨44, [(0, .sc (.string (strB s))), (2, .pt 0 []), (4, .pt 1 []), (5, (AV.sc (.int .i64 ((i : Int)))))], ⟨[(.ar 32 .lf (List.replicate 32 (AV.sc (.int .u8 (0)))), false), (.ar 32 .lf (by8 y), false)], [], 0⟩⟩, fun τ => 64 - (slotI τ 5).toNat, ?_, ?_⟩
  · conv => whnf
    exact ⟨0, z32, by omega, by omega, rfl, fun g _ _ => (part_none g).symm, rfl⟩
  rintro τ ⟨i, y, hi, his, hyl, hpart, rfl⟩
  conv => whnf
  have fin : ¬ (i < 64 ∧ i < s.length) → ((∃ g : List UInt8, g.length = 32 ∧ s = hexB g) → s = hexB y) := by
    intro h ⟨g, hg, e⟩
    have hl : s.length = 64 := by rw [e, hexB_len, hg]
    have : i = 64 := by omega
    subst this
    rw [hpart g hg e, part_all g hg]
    exact e
  have stop : ¬ (i < 64 ∧ i < s.length) → FnOK Tryd.prog D 30 [.ar 32 .lf (by8 y)] [] (fun r st => r = .sc (.string (strB (hexB y))) ∧ st = []) := fun _ => c_hexR y hyl
  refine Branch.of (fun h1 => ?_) (fun h1 => ?_) <;> rw [h1] <;> conv => whnf
  rotate_left
  · simp only [decide_eq_false_iff_not] at h1
    have h2 : ¬ (i < 64 ∧ i < s.length) := by omega
    refine (stop h2).mono fun r st e => ?_
    obtain ⟨rfl, rfl⟩ := e
    conv => whnf
    rw [strB_list, strB_list]
    refine Branch.of (fun h3 => ?_) (fun h3 => ?_) <;> rw [h3] <;> conv => whnf
    · refine ⟨false, [], ?_⟩
      conv => whnf
      refine ⟨.inr ⟨fun g hg e => ?_, rfl⟩, rfl⟩
      simp only [Bool.not_eq_true', beq_eq_false_iff_ne, ne_eq] at h3
      exact h3 (fin h2 ⟨g, hg, e⟩).symm
    · refine ⟨false, [], ?_⟩
      conv => whnf
      simp only [Bool.not_eq_false', beq_iff_eq] at h3
      exact ⟨.inl ⟨y, hyl, h3.symm, rfl⟩, rfl⟩
  simp only [decide_eq_true_eq] at h1
  rw [hsz]
  refine Branch.of (fun h2 => ?_) (fun h2 => ?_) <;> rw [h2] <;> conv => whnf
  rotate_left
  · simp only [decide_eq_false_iff_not] at h2
    have h2 : ¬ (i < 64 ∧ i < s.length) := by omega
    refine (stop h2).mono fun r st e => ?_
    obtain ⟨rfl, rfl⟩ := e
    conv => whnf
    rw [strB_list, strB_list]
    refine Branch.of (fun h3 => ?_) (fun h3 => ?_) <;> rw [h3] <;> conv => whnf
    · refine ⟨false, [], ?_⟩
      conv => whnf
      refine ⟨.inr ⟨fun g hg e => ?_, rfl⟩, rfl⟩
      simp only [Bool.not_eq_true', beq_eq_false_iff_ne, ne_eq] at h3
      exact h3 (fin h2 ⟨g, hg, e⟩).symm
    · refine ⟨false, [], ?_⟩
      conv => whnf
      simp only [Bool.not_eq_false', beq_iff_eq] at h3
      exact ⟨.inl ⟨y, hyl, h3.symm, rfl⟩, rfl⟩
  simp only [decide_eq_true_eq] at h2
  have hil : i < s.length := by omega
  have hi2 : i / 2 < y.length := by omega
  repeat (refine And.intro (by first | omega) ?_; conv => whnf)
  refine ⟨_, str_at hil, ?_⟩
  conv => whnf
  have key : ∀ v : UInt8, (∀ g : List UInt8, g.length = 32 → s = hexB g → v.toNat % 16 = digOf g i) → ∀ g : List UInt8, g.length = 32 → s = hexB g → y.set (i / 2) (UInt8.ofNat (y[i / 2].toNat * 16 + v.toNat % 16)) = part g (i + 1) := by
    intro v hv g hg e
    have hy := hpart g hg e
    have e2 : y[i / 2] = (part g i).getD (i / 2) 0 := by
      rw [← hy, List.getD_eq_getElem?_getD, List.getElem?_eq_getElem hi2]; rfl
    rw [part_step g i (by omega), hv g hg e, e2, ← hy]
  have dg : ∀ g : List UInt8, g.length = 32 → s = hexB g → s[i] = hexd (digOf g i) := by
    intro g hg e
    have := hexB_dig g i (by omega)
    rw [← e, List.getElem?_eq_getElem hil] at this
    exact Option.some.inj this
  refine Branch.of (fun h3 => ?_) (fun h3 => ?_) <;> rw [h3] <;> conv => whnf
  · simp only [ge_iff_le, decide_eq_true_eq] at h3
    rw [sub87']
    repeat (refine And.intro (by first | omega) ?_; conv => whnf)
    rw [show Int.tdiv (i : Int) 2 = ((i / 2 : Nat) : Int) from rfl, w64 (x := ((i / 2 : Nat) : Int)) (by omega) (by omega)]
    repeat (refine And.intro (by first | omega) ?_; conv => whnf)
    rw [Int.toNat_natCast]
    refine ⟨_, at8n hi2, ?_⟩
    conv => whnf
    repeat (refine And.intro (by first | omega) ?_; conv => whnf)
    rw [mix8]
    repeat (refine And.intro (by first | omega) ?_; conv => whnf)
    rw [Int.toNat_natCast]
    refine ⟨_, at8n hi2, ?_⟩
    conv => whnf
    rw [by8_set, w64 (x := (i : Int) + 1) (by omega) (by omega)]
    refine ⟨⟨i + 1, _, by omega, by omega, ?_, key (s[i] - 87) (fun g hg e => ?_), rfl⟩, ?_⟩
    · rw [List.length_set]; exact hyl
    · have hd := hexd_val ⟨digOf g i, digOf_lt g i⟩
      have := dg g hg e
      rw [this]
      exact hd.1 (by rw [← this]; omega)
    · show 64 - ((i : Int) + 1).toNat < 64 - (i : Int).toNat
      omega
  · simp only [ge_iff_le, decide_eq_false_iff_not] at h3
    rw [sub48']
    repeat (refine And.intro (by first | omega) ?_; conv => whnf)
    rw [show Int.tdiv (i : Int) 2 = ((i / 2 : Nat) : Int) from rfl, w64 (x := ((i / 2 : Nat) : Int)) (by omega) (by omega)]
    repeat (refine And.intro (by first | omega) ?_; conv => whnf)
    rw [Int.toNat_natCast]
    refine ⟨_, at8n hi2, ?_⟩
    conv => whnf
    repeat (refine And.intro (by first | omega) ?_; conv => whnf)
    rw [mix8]
    repeat (refine And.intro (by first | omega) ?_; conv => whnf)
    rw [Int.toNat_natCast]
    refine ⟨_, at8n hi2, ?_⟩
    conv => whnf
    rw [by8_set, w64 (x := (i : Int) + 1) (by omega) (by omega)]
    refine ⟨⟨i + 1, _, by omega, by omega, ?_, key (s[i] - 48) (fun g hg e => ?_), rfl⟩, ?_⟩
    · rw [List.length_set]; exact hyl
    · have hd := hexd_val ⟨digOf g i, digOf_lt g i⟩
      have := dg g hg e
      rw [this]
      exact hd.2 (by rw [← this]; omega)
    · show 64 - ((i : Int) + 1).toNat < 64 - (i : Int).toNat
      omega
end Go.WL.T4b
