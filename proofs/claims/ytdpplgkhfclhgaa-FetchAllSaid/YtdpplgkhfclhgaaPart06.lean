/- Blocks that are asked for: wanted, got, told. No condition. -/
import Derived.Test.YtdpplgkhfclhgaaPart05
set_option linter.unusedVariables false
set_option linter.unusedSimpArgs false
namespace Go.WL.T8
open Go.WL Go.Proofs
set_option maxRecDepth 20000
set_option maxHeartbeats 8000000
def bh (me n i : Int) : Int := if Int.tmod i n + 1 = me then Int.tmod (Int.tmod i n + 1) n + 1 else Int.tmod i n + 1
def wanE (me n : Int) (l : List Fw) (h : List UInt8) (of_ : Int) : Int := if of_ < 1 ∨ n < of_ ∨ of_ = me then 1 else if 0 ≤ fnd l h then 15 else if l.length = 32 then 4 else 0
def wanL (me n : Int) (l : List Fw) (h : List UInt8) (of_ : Int) : List Fw := if wanE me n l h of_ = 0 then l ++ [⟨h, of_, 0⟩] else l
def F0 (me n : Int) (l : List Fw) (st : List AV) : Prop := (l = [] ∧ st = [(.st [(AV.sc (.int .i64 (me))), (AV.sc (.int .i64 (n))), .sl (.nd [.ar 32 .lf, .lf, .lf]) [] .ex])]) ∨ ∃ cap L, OKW l cap L ∧ st = [(.st [(AV.sc (.int .i64 (me))), (AV.sc (.int .i64 (n))), .bs 1 [] (.nd [.ar 32 .lf, .lf, .lf]) 0 (l).length cap]), .ar cap (.nd [.ar 32 .lf, .lf, .lf]) L]
def F1 (me n : Int) (l : List Fw) (st : List AV) : Prop := ∃ cap L, OKW l cap L ∧ (st = [(.st [(AV.sc (.int .i64 (me))), (AV.sc (.int .i64 (n))), .bs 1 [] (.nd [.ar 32 .lf, .lf, .lf]) 0 (l).length cap]), .ar cap (.nd [.ar 32 .lf, .lf, .lf]) L] ∨ ∃ cj Lj, st = [(.st [(AV.sc (.int .i64 (me))), (AV.sc (.int .i64 (n))), .bs 2 [] (.nd [.ar 32 .lf, .lf, .lf]) 0 (l).length cap]), .ar cj (.nd [.ar 32 .lf, .lf, .lf]) Lj, .ar cap (.nd [.ar 32 .lf, .lf, .lf]) L])
theorem tm_lo {a b : Int} (ha : 0 ≤ a) (hb : 0 < b) : 0 ≤ Int.tmod a b ∧ Int.tmod a b < b := ⟨Int.tmod_nonneg _ ha, Int.tmod_lt_of_pos _ hb⟩
theorem okw_in {l : List Fw} {cap : Nat} {L : List AV} (h : OKW l cap L) (x : Fw) (hc : l.length + 1 ≤ cap) : OKW (l ++ [x]) cap (L.take l.length ++ [(AV.st [.ar 32 .lf (by8 (x).h), .sc (.int .i64 (x).of_), .sc (.int .i64 (x).left_)])] ++ L.drop (l.length + 1)) := by
  obtain ⟨h1, h2, h3⟩ := h
  refine ⟨by rw [List.length_append]; exact hc, ?_, ?_⟩
  · simp only [List.length_append, List.length_take, List.length_drop, List.length_cons, List.length_nil]
    omega
  · rw [h3, List.length_append, List.take_append_of_le_length (by simp [wnA])]
    rw [List.take_of_length_le (by simp [wnA])]
    simp [wnA]
theorem okw_new {l : List Fw} {cap cp : Nat} {L : List AV} (h : OKW l cap L) (x : Fw) (z : AV) (hc : l.length + 1 ≤ cp) : OKW (l ++ [x]) cp ((L.drop 0).take l.length ++ [(AV.st [.ar 32 .lf (by8 (x).h), .sc (.int .i64 (x).of_), .sc (.int .i64 (x).left_)])] ++ List.replicate (cp - (l.length + 1)) z) := by
  obtain ⟨h1, h2, h3⟩ := h
  refine ⟨by rw [List.length_append]; exact hc, ?_, ?_⟩
  · rw [List.drop_zero, h3]
    simp only [List.length_append, wn_len, List.length_replicate, List.length_cons, List.length_nil]
    omega
  · rw [List.drop_zero, h3, List.length_append, List.take_append_of_le_length (by simp [wnA])]
    rw [List.take_of_length_le (by simp [wnA])]
    simp [wnA]
theorem okw_one (x : Fw) (z : AV) {cp : Nat} (hc : 1 ≤ cp) : OKW [x] cp ([] ++ [(AV.st [.ar 32 .lf (by8 (x).h), .sc (.int .i64 (x).of_), .sc (.int .i64 (x).left_)])] ++ List.replicate (cp - 1) z) := by
  refine ⟨hc, by simp; omega, ?_⟩
  simp [wnA]
theorem fnd_nil (h : List UInt8) : fnd [] h = -1 := rfl
theorem c_behind0 (me n i : Int) (hn : 0 < n) (hn2 : n < 1000) (hi : 0 ≤ i) : FnOK Try.prog D 29 [.pt 0 [], (AV.sc (.int .i64 (i)))] [(.st [(AV.sc (.int .i64 (me))), (AV.sc (.int .i64 (n))), .sl (.nd [.ar 32 .lf, .lf, .lf]) [] .ex])] (fun r st => r = (AV.sc (.int .i64 (bh me n i))) ∧ st = [(.st [(AV.sc (.int .i64 (me))), (AV.sc (.int .i64 (n))), .sl (.nd [.ar 32 .lf, .lf, .lf]) [] .ex])]) := by
  have t1 := tm_lo (a := i) hi hn
  have t2 := tm_lo (a := Int.tmod i n + 1) (by omega) hn
  have e : bh me n i = if Int.tmod i n + 1 = me then Int.tmod (Int.tmod i n + 1) n + 1 else Int.tmod i n + 1 := rfl
  generalize bh me n i = R at e ⊢
  refine fnok_of_W hmix tabOK Try.func29 rfl rfl (Nat.le_of_ble_eq_true rfl) ?_
  conv => whnf
  refine ⟨by omega, ?_⟩
  conv => whnf
  rw [w64 (x := Int.tmod i n + 1) (by omega) (by omega)]
  by_cases h : Int.tmod i n + 1 = me
  · rw [if_pos h] at e
    refine Branch.yes (by rw [beq_iff_eq]; exact h) ?_
    conv => whnf
    refine ⟨by omega, ?_⟩
    conv => whnf
    rw [w64 (x := Int.tmod (Int.tmod i n + 1) n + 1) (by omega) (by omega), e]
    refine ⟨false, [], ?_⟩
    conv => whnf
    exact ⟨rfl, rfl⟩
  · rw [if_neg h] at e
    refine Branch.no (by rw [beq_eq_false_iff_ne]; exact h) ?_
    conv => whnf
    rw [e]
    refine ⟨false, [], ?_⟩
    conv => whnf
    exact ⟨rfl, rfl⟩
theorem c_want0 (me n : Int) (h : List UInt8) (of_ : Int) (hn : ¬ n = 0) (E : Int) (hE : wanE me n ([] : List Fw) h of_ = E) (l2 : List Fw) (hl2 : wanL me n ([] : List Fw) h of_ = l2) : FnOK Try.prog D 13 [.pt 0 [], (AV.ar 32 .lf (by8 (h))), (AV.sc (.int .i64 (of_)))] [(.st [(AV.sc (.int .i64 (me))), (AV.sc (.int .i64 (n))), .sl (.nd [.ar 32 .lf, .lf, .lf]) [] .ex])] (fun r st => r = (AV.sc (.int .i64 (E))) ∧ F0 me n l2 st) := by
  unfold wanL at hl2
  rw [hE] at hl2
  unfold wanE at hE
  by_cases h1 : of_ < 1 ∨ n < of_ ∨ of_ = me
  · rw [if_pos h1] at hE
    subst hE
    rw [if_neg (by decide)] at hl2
    subst hl2
    refine fnok_of_Ws [4011009] hmix tabOK Try.func13 rfl rfl (Nat.le_of_ble_eq_true rfl) ?_
    conv => whnf
    refine Branch.no (by rw [beq_eq_false_iff_ne]; exact hn) ?_
    conv => whnf
    by_cases g1 : of_ < 1
    · refine Branch.of (fun hh => ?_) (fun hh => ?_)
      rotate_left
      · exfalso; simp only [gt_iff_lt, ge_iff_le, decide_eq_true_eq, decide_eq_false_iff_not, beq_iff_eq, beq_eq_false_iff_ne, bne_iff_ne, bne_eq_false_iff_eq, ne_eq] at hh; first | done | omega | (simp at hh; done)
      try rw [hh]
      clear hh
      conv => whnf
      refine ⟨false, [], ?_⟩
      conv => whnf
      exact ⟨rfl, .inl ⟨rfl, rfl⟩⟩
    · refine Branch.of (fun hh => ?_) (fun hh => ?_)
      · exfalso; simp only [gt_iff_lt, ge_iff_le, decide_eq_true_eq, decide_eq_false_iff_not, beq_iff_eq, beq_eq_false_iff_ne, bne_iff_ne, bne_eq_false_iff_eq, ne_eq] at hh; first | done | omega | (simp at hh; done)
      try rw [hh]
      clear hh
      conv => whnf
      by_cases g2 : n < of_
      · refine Branch.of (fun hh => ?_) (fun hh => ?_)
        rotate_left
        · exfalso; simp only [gt_iff_lt, ge_iff_le, decide_eq_true_eq, decide_eq_false_iff_not, beq_iff_eq, beq_eq_false_iff_ne, bne_iff_ne, bne_eq_false_iff_eq, ne_eq] at hh; first | done | omega | (simp at hh; done)
        try rw [hh]
        clear hh
        conv => whnf
        refine ⟨false, [], ?_⟩
        conv => whnf
        exact ⟨rfl, .inl ⟨rfl, rfl⟩⟩
      · refine Branch.of (fun hh => ?_) (fun hh => ?_)
        · exfalso; simp only [gt_iff_lt, ge_iff_le, decide_eq_true_eq, decide_eq_false_iff_not, beq_iff_eq, beq_eq_false_iff_ne, bne_iff_ne, bne_eq_false_iff_eq, ne_eq] at hh; first | done | omega | (simp at hh; done)
        try rw [hh]
        clear hh
        conv => whnf
        refine Branch.yes (by rw [beq_iff_eq]; omega) ?_
        conv => whnf
        refine ⟨false, [], ?_⟩
        conv => whnf
        exact ⟨rfl, .inl ⟨rfl, rfl⟩⟩
  rw [if_neg h1] at hE
  refine fnok_of_Ws [4011009] hmix tabOK Try.func13 rfl rfl (Nat.le_of_ble_eq_true rfl) ?_
  conv => whnf
  refine Branch.no (by rw [beq_eq_false_iff_ne]; exact hn) ?_
  conv => whnf
  refine Branch.of (fun hh => ?_) (fun hh => ?_)
  · exfalso; simp only [gt_iff_lt, ge_iff_le, decide_eq_true_eq, decide_eq_false_iff_not, beq_iff_eq, beq_eq_false_iff_ne, bne_iff_ne, bne_eq_false_iff_eq, ne_eq] at hh; first | done | omega | (simp at hh; done)
  try rw [hh]
  clear hh
  conv => whnf
  refine Branch.of (fun hh => ?_) (fun hh => ?_)
  · exfalso; simp only [gt_iff_lt, ge_iff_le, decide_eq_true_eq, decide_eq_false_iff_not, beq_iff_eq, beq_eq_false_iff_ne, bne_iff_ne, bne_eq_false_iff_eq, ne_eq] at hh; first | done | omega | (simp at hh; done)
  try rw [hh]
  clear hh
  conv => whnf
  refine Branch.no (by rw [beq_eq_false_iff_ne]; omega) ?_
  conv => whnf
  refine (c_find0 me n h).mono fun r st e => ?_
  obtain ⟨rfl, rfl⟩ := e
  conv => whnf
  rw [fnd_nil, if_neg (by decide), if_neg (show ¬ ([] : List Fw).length = 32 by decide)] at hE
  subst hE
  rw [if_pos rfl] at hl2
  subst hl2
  refine ⟨tabF13R11, by decide +kernel, ?_⟩
  conv => whnf
  refine ⟨by simp, fun cp hc => ?_⟩
  have hc : 1 ≤ cp := by simpa using hc
  conv => whnf
  refine ⟨false, [2], ?_⟩
  conv => whnf
  exact ⟨rfl, .inr ⟨cp, _, okw_one ⟨h, of_, 0⟩ _ hc, rfl⟩⟩
theorem c_behind1 (me n i : Int) (l : List Fw) (cap : Nat) (L : List AV) (hn : 0 < n) (hn2 : n < 1000) (hi : 0 ≤ i) : FnOK Try.prog D 29 [.pt 0 [], (AV.sc (.int .i64 (i)))] [(.st [(AV.sc (.int .i64 (me))), (AV.sc (.int .i64 (n))), .bs 1 [] (.nd [.ar 32 .lf, .lf, .lf]) 0 (l).length cap]), .ar cap (.nd [.ar 32 .lf, .lf, .lf]) L] (fun r st => r = (AV.sc (.int .i64 (bh me n i))) ∧ st = [(.st [(AV.sc (.int .i64 (me))), (AV.sc (.int .i64 (n))), .bs 1 [] (.nd [.ar 32 .lf, .lf, .lf]) 0 (l).length cap]), .ar cap (.nd [.ar 32 .lf, .lf, .lf]) L]) := by
  have t1 := tm_lo (a := i) hi hn
  have t2 := tm_lo (a := Int.tmod i n + 1) (by omega) hn
  have e : bh me n i = if Int.tmod i n + 1 = me then Int.tmod (Int.tmod i n + 1) n + 1 else Int.tmod i n + 1 := rfl
  generalize bh me n i = R at e ⊢
  refine fnok_of_W hmix tabOK Try.func29 rfl rfl (Nat.le_of_ble_eq_true rfl) ?_
  conv => whnf
  refine ⟨by omega, ?_⟩
  conv => whnf
  rw [w64 (x := Int.tmod i n + 1) (by omega) (by omega)]
  by_cases h : Int.tmod i n + 1 = me
  · rw [if_pos h] at e
    refine Branch.yes (by rw [beq_iff_eq]; exact h) ?_
    conv => whnf
    refine ⟨by omega, ?_⟩
    conv => whnf
    rw [w64 (x := Int.tmod (Int.tmod i n + 1) n + 1) (by omega) (by omega), e]
    refine ⟨false, [], ?_⟩
    conv => whnf
    exact ⟨rfl, rfl⟩
  · rw [if_neg h] at e
    refine Branch.no (by rw [beq_eq_false_iff_ne]; exact h) ?_
    conv => whnf
    rw [e]
    refine ⟨false, [], ?_⟩
    conv => whnf
    exact ⟨rfl, rfl⟩
theorem c_want1 (me n : Int) (l : List Fw) (cap : Nat) (L : List AV) (h : List UInt8) (of_ : Int) (hL : OKW l cap L) (hb : l.length ≤ 32) (hn : ¬ n = 0) (E : Int) (hE : wanE me n l h of_ = E) (l2 : List Fw) (hl2 : wanL me n l h of_ = l2) : FnOK Try.prog D 13 [.pt 0 [], (AV.ar 32 .lf (by8 (h))), (AV.sc (.int .i64 (of_)))] [(.st [(AV.sc (.int .i64 (me))), (AV.sc (.int .i64 (n))), .bs 1 [] (.nd [.ar 32 .lf, .lf, .lf]) 0 (l).length cap]), .ar cap (.nd [.ar 32 .lf, .lf, .lf]) L] (fun r st => r = (AV.sc (.int .i64 (E))) ∧ F1 me n l2 st) := by
  unfold wanL at hl2
  rw [hE] at hl2
  unfold wanE at hE
  by_cases h1 : of_ < 1 ∨ n < of_ ∨ of_ = me
  · rw [if_pos h1] at hE
    subst hE
    rw [if_neg (by decide)] at hl2
    subst hl2
    refine fnok_of_Ws [4011009] hmix tabOK Try.func13 rfl rfl (Nat.le_of_ble_eq_true rfl) ?_
    conv => whnf
    refine Branch.no (by rw [beq_eq_false_iff_ne]; exact hn) ?_
    conv => whnf
    by_cases g1 : of_ < 1
    · refine Branch.of (fun hh => ?_) (fun hh => ?_)
      rotate_left
      · exfalso; simp only [gt_iff_lt, ge_iff_le, decide_eq_true_eq, decide_eq_false_iff_not, beq_iff_eq, beq_eq_false_iff_ne, bne_iff_ne, bne_eq_false_iff_eq, ne_eq] at hh; first | done | omega | (simp at hh; done)
      try rw [hh]
      clear hh
      conv => whnf
      refine ⟨false, [], ?_⟩
      conv => whnf
      exact ⟨rfl, ⟨cap, L, hL, .inl rfl⟩⟩
    · refine Branch.of (fun hh => ?_) (fun hh => ?_)
      · exfalso; simp only [gt_iff_lt, ge_iff_le, decide_eq_true_eq, decide_eq_false_iff_not, beq_iff_eq, beq_eq_false_iff_ne, bne_iff_ne, bne_eq_false_iff_eq, ne_eq] at hh; first | done | omega | (simp at hh; done)
      try rw [hh]
      clear hh
      conv => whnf
      by_cases g2 : n < of_
      · refine Branch.of (fun hh => ?_) (fun hh => ?_)
        rotate_left
        · exfalso; simp only [gt_iff_lt, ge_iff_le, decide_eq_true_eq, decide_eq_false_iff_not, beq_iff_eq, beq_eq_false_iff_ne, bne_iff_ne, bne_eq_false_iff_eq, ne_eq] at hh; first | done | omega | (simp at hh; done)
        try rw [hh]
        clear hh
        conv => whnf
        refine ⟨false, [], ?_⟩
        conv => whnf
        exact ⟨rfl, ⟨cap, L, hL, .inl rfl⟩⟩
      · refine Branch.of (fun hh => ?_) (fun hh => ?_)
        · exfalso; simp only [gt_iff_lt, ge_iff_le, decide_eq_true_eq, decide_eq_false_iff_not, beq_iff_eq, beq_eq_false_iff_ne, bne_iff_ne, bne_eq_false_iff_eq, ne_eq] at hh; first | done | omega | (simp at hh; done)
        try rw [hh]
        clear hh
        conv => whnf
        refine Branch.yes (by rw [beq_iff_eq]; omega) ?_
        conv => whnf
        refine ⟨false, [], ?_⟩
        conv => whnf
        exact ⟨rfl, ⟨cap, L, hL, .inl rfl⟩⟩
  rw [if_neg h1] at hE
  refine fnok_of_Ws [4011009] hmix tabOK Try.func13 rfl rfl (Nat.le_of_ble_eq_true rfl) ?_
  conv => whnf
  refine Branch.no (by rw [beq_eq_false_iff_ne]; exact hn) ?_
  conv => whnf
  refine Branch.of (fun hh => ?_) (fun hh => ?_)
  · exfalso; simp only [gt_iff_lt, ge_iff_le, decide_eq_true_eq, decide_eq_false_iff_not, beq_iff_eq, beq_eq_false_iff_ne, bne_iff_ne, bne_eq_false_iff_eq, ne_eq] at hh; first | done | omega | (simp at hh; done)
  try rw [hh]
  clear hh
  conv => whnf
  refine Branch.of (fun hh => ?_) (fun hh => ?_)
  · exfalso; simp only [gt_iff_lt, ge_iff_le, decide_eq_true_eq, decide_eq_false_iff_not, beq_iff_eq, beq_eq_false_iff_ne, bne_iff_ne, bne_eq_false_iff_eq, ne_eq] at hh; first | done | omega | (simp at hh; done)
  try rw [hh]
  clear hh
  conv => whnf
  refine Branch.no (by rw [beq_eq_false_iff_ne]; omega) ?_
  conv => whnf
  refine (c_findB me n l h cap L hL (by omega)).mono fun r st e => ?_
  obtain ⟨rfl, rfl⟩ := e
  conv => whnf
  by_cases h2 : 0 ≤ fnd l h
  · rw [if_pos h2] at hE
    subst hE
    rw [if_neg (by decide)] at hl2
    subst hl2
    refine Branch.yes (decide_eq_true h2) ?_
    conv => whnf
    refine ⟨false, [], ?_⟩
    conv => whnf
    exact ⟨rfl, cap, L, hL, .inl rfl⟩
  rw [if_neg h2] at hE
  refine Branch.no (decide_eq_false h2) ?_
  conv => whnf
  by_cases h3 : l.length = 32
  · rw [if_pos h3] at hE
    subst hE
    rw [if_neg (by decide)] at hl2
    subst hl2
    refine Branch.yes (by rw [beq_iff_eq]; omega) ?_
    conv => whnf
    refine ⟨false, [], ?_⟩
    conv => whnf
    exact ⟨rfl, cap, L, hL, .inl rfl⟩
  rw [if_neg h3] at hE
  subst hE
  rw [if_pos rfl] at hl2
  subst hl2
  refine Branch.no (by rw [beq_eq_false_iff_ne]; omega) ?_
  conv => whnf
  refine ⟨tabF13R11, by decide +kernel, ?_⟩
  conv => whnf
  refine Branch.of (fun hh => ?_) (fun hh => ?_)
  · have hh : l.length + 1 ≤ cap := by rw [Nat.ble_eq] at hh; exact hh
    conv => whnf
    refine ⟨false, [], ?_⟩
    conv => whnf
    refine ⟨rfl, cap, _, okw_in hL ⟨h, of_, 0⟩ hh, .inl ?_⟩
    rw [Nat.zero_add, List.length_append]
    rfl
  · refine ⟨by simp; omega, fun cp hc => ?_⟩
    have hc : l.length + 1 ≤ cp := hc
    conv => whnf
    refine ⟨false, [3], ?_⟩
    conv => whnf
    refine ⟨rfl, cp, _, okw_new hL ⟨h, of_, 0⟩ (AV.st [.ar 32 .lf (List.replicate 32 (.sc (.int .u8 0))), .sc (.int .i64 0), .sc (.int .i64 0)]) hc, .inr ⟨cap, L, ?_⟩⟩
    rw [List.length_append]
    rfl
theorem c_got0 (me n : Int) (h : List UInt8) : FnOK Try.prog D 14 [.pt 0 [], (AV.ar 32 .lf (by8 (h)))] [(.st [(AV.sc (.int .i64 (me))), (AV.sc (.int .i64 (n))), .sl (.nd [.ar 32 .lf, .lf, .lf]) [] .ex])] (fun r st => r = (AV.sc (.bool (false))) ∧ st = [(.st [(AV.sc (.int .i64 (me))), (AV.sc (.int .i64 (n))), .sl (.nd [.ar 32 .lf, .lf, .lf]) [] .ex])]) := by
  refine fnok_of_Ws [21] hmix tabOK Try.func14 rfl rfl (Nat.le_of_ble_eq_true rfl) ?_
  conv => whnf
  refine (c_find0 me n h).mono fun r st e => ?_
  obtain ⟨rfl, rfl⟩ := e
  conv => whnf
  refine ⟨false, [], ?_⟩
  conv => whnf
  exact ⟨rfl, rfl⟩
def gotL (l : List Fw) (h : List UInt8) : List Fw := if 0 ≤ fnd l h then l.eraseIdx (fnd l h).toNat else l
theorem c_got1 (me n : Int) (l : List Fw) (cap : Nat) (L : List AV) (h : List UInt8) (hL : OKW l cap L) (hb : l.length ≤ 32) : FnOK Try.prog D 14 [.pt 0 [], (AV.ar 32 .lf (by8 (h)))] [(.st [(AV.sc (.int .i64 (me))), (AV.sc (.int .i64 (n))), .bs 1 [] (.nd [.ar 32 .lf, .lf, .lf]) 0 (l).length cap]), .ar cap (.nd [.ar 32 .lf, .lf, .lf]) L] (fun r st => r = (AV.sc (.bool (decide (0 ≤ fnd l h)))) ∧ ∃ L', OKW (gotL l h) cap L' ∧ st = [(.st [(AV.sc (.int .i64 (me))), (AV.sc (.int .i64 (n))), .bs 1 [] (.nd [.ar 32 .lf, .lf, .lf]) 0 (gotL l h).length cap]), .ar cap (.nd [.ar 32 .lf, .lf, .lf]) L']) := by
  obtain ⟨h1, h2, h3⟩ := hL
  have hL : OKW l cap L := ⟨h1, h2, h3⟩
  unfold gotL
  rcases fnd_cases l h with ⟨e, _⟩ | ⟨i, hi, e, _⟩
  · rw [e, if_neg (by decide)]
    have cf := c_findB me n l h cap L hL (by omega)
    rw [e] at cf
    refine fnok_of_Ws [21] hmix tabOK Try.func14 rfl rfl (Nat.le_of_ble_eq_true rfl) ?_
    conv => whnf
    refine (cf).mono fun r st e => ?_
    obtain ⟨rfl, rfl⟩ := e
    conv => whnf
    refine ⟨false, [], ?_⟩
    conv => whnf
    exact ⟨rfl, L, hL, rfl⟩
  · rw [e, if_pos (by omega), Int.toNat_natCast]
    have cf := c_findB me n l h cap L hL (by omega)
    rw [e] at cf
    refine fnok_of_Ws [21] hmix tabOK Try.func14 rfl rfl (Nat.le_of_ble_eq_true rfl) ?_
    conv => whnf
    refine (cf).mono fun r st e => ?_
    obtain ⟨rfl, rfl⟩ := e
    conv => whnf
    rw [w64 (x := (i : Int) + 1) (by omega) (by omega)]
    refine (c_delWan cap l.length i L h2 h1 hi (by omega)).mono fun r st e => ?_
    obtain ⟨rfl, rfl⟩ := e
    conv => whnf
    refine ⟨false, [], ?_⟩
    conv => whnf
    have hlen : (l.eraseIdx i).length = l.length - 1 := by rw [List.length_eraseIdx, if_pos hi]
    refine ⟨by rw [decide_eq_true (show (0 : Int) ≤ (i : Int) by omega)], del1 L i l.length (AV.st [.ar 32 .lf (List.replicate 32 (.sc (.int .u8 0))), .sc (.int .i64 0), .sc (.int .i64 0)]), ⟨by omega, (del_len hi (by omega)).trans h2, ?_⟩, ?_⟩
    · rw [hlen]
      exact del_take rfl h3 hi (by omega)
    · rw [hlen]
theorem c_wants0 (me n : Int) : FnOK Try.prog D 19 [.pt 0 []] [(.st [(AV.sc (.int .i64 (me))), (AV.sc (.int .i64 (n))), .sl (.nd [.ar 32 .lf, .lf, .lf]) [] .ex])] (fun r st => r = .sl (.ar 32 .lf) [] .ro ∧ st = [(.st [(AV.sc (.int .i64 (me))), (AV.sc (.int .i64 (n))), .sl (.nd [.ar 32 .lf, .lf, .lf]) [] .ex])]) := by
  refine fnok_of_W hmix tabOK Try.func19 rfl rfl (Nat.le_of_ble_eq_true rfl) ?_
  conv => whnf
  refine ⟨false, [11, 12, 13, 3], fun τ => τ = ⟨24, [(11, .sl (.nd [.ar 32 .lf, .lf, .lf]) [] .ex), (12, (AV.sc (.int .i64 (0)))), (13, (AV.sc (.int .i64 (0)))), (3, .sl (.ar 32 .lf) [] .ex)], ⟨[((.st [(AV.sc (.int .i64 (me))), (AV.sc (.int .i64 (n))), .sl (.nd [.ar 32 .lf, .lf, .lf]) [] .ex]), false)], [], 0⟩⟩, fun τ => 0, ?_, ?_⟩
  · conv => whnf
    exact rfl
  rintro τ rfl
  conv => whnf
  refine ⟨false, [999], ?_⟩
  conv => whnf
  exact ⟨rfl, rfl⟩
theorem c_wants1 (me n : Int) (l : List Fw) (cap : Nat) (L : List AV) (hL : OKW l cap L) (hb : l.length ≤ 32) : FnOK Try.prog D 19 [.pt 0 []] [(.st [(AV.sc (.int .i64 (me))), (AV.sc (.int .i64 (n))), .bs 1 [] (.nd [.ar 32 .lf, .lf, .lf]) 0 (l).length cap]), .ar cap (.nd [.ar 32 .lf, .lf, .lf]) L] (fun r st => r = .sl (.ar 32 .lf) (l.map fun w => (AV.ar 32 .lf (by8 (w.h)))) .ro ∧ st = [(.st [(AV.sc (.int .i64 (me))), (AV.sc (.int .i64 (n))), .bs 1 [] (.nd [.ar 32 .lf, .lf, .lf]) 0 (l).length cap]), .ar cap (.nd [.ar 32 .lf, .lf, .lf]) L]) := by
  refine fnok_of_Ws [1704003] hmix tabOK Try.func19 rfl rfl (Nat.le_of_ble_eq_true rfl) ?_
  conv => whnf
  refine ⟨false, [11, 12, 13, 3], fun τ => ∃ i : Nat, i ≤ l.length ∧ τ = ⟨24, [(11, .bs 1 [] (.nd [.ar 32 .lf, .lf, .lf]) 0 l.length cap), (12, (AV.sc (.int .i64 ((l.length : Int))))), (13, (AV.sc (.int .i64 ((i : Int))))), (3, .sl (.ar 32 .lf) ((l.take i).map fun w => (AV.ar 32 .lf (by8 (w.h)))) (.own 0))], ⟨[((.st [(AV.sc (.int .i64 (me))), (AV.sc (.int .i64 (n))), .bs 1 [] (.nd [.ar 32 .lf, .lf, .lf]) 0 (l).length cap]), false), (.ar cap (.nd [.ar 32 .lf, .lf, .lf]) L, false)], [0], 1⟩⟩, fun τ => l.length - (slotI τ 13).toNat, ?_, ?_⟩
  · conv => whnf
    exact ⟨0, by omega, rfl⟩
  rintro τ ⟨i, hi, rfl⟩
  apply enter3
  intro kk kK
  conv => whnf
  refine Branch.of (fun h1 => ?_) (fun h1 => ?_) <;> rw [h1] <;> conv => whnf
  rotate_left
  · have h1 := of_decide_eq_false h1
    obtain rfl : i = l.length := by omega
    refine kK _ _ ?_
    conv => whnf
    refine ⟨false, [999], ?_⟩
    conv => whnf
    rw [List.take_length]
    exact ⟨rfl, rfl⟩
  have h1 := of_decide_eq_true h1
  have ih : i < l.length := by omega
  have hat := okw_at hL ih
  refine ⟨by omega, by omega, ?_⟩
  conv => whnf
  refine ⟨_, (show L[0 + ((i : Nat) : Int).toNat]? = some (AV.st [.ar 32 .lf (by8 (l[i]).h), .sc (.int .i64 (l[i]).of_), .sc (.int .i64 (l[i]).left_)]) by rw [Nat.zero_add, Int.toNat_natCast]; exact hat), ?_⟩
  conv => whnf
  refine ⟨by rw [List.length_map, List.length_take]; simp; omega, ?_⟩
  conv => whnf
  rw [w64 (x := (i : Int) + 1) (by omega) (by omega)]
  refine kK _ _ ?_
  conv => whnf
  refine ⟨⟨i + 1, by omega, ?_⟩, ?_⟩
  · rw [List.take_succ_eq_append_getElem ih, List.map_append]
    rfl
  · show l.length - ((i : Int) + 1).toNat < l.length - (i : Int).toNat
    omega
end Go.WL.T8
