/- The reference's wal: a byte is spoilt. No condition. -/
import Derived.Test.YtdlgmddegldcjaaPart39
import Derived.Test.YtdlgmddegldcjaaPart18
set_option linter.unusedVariables false
set_option linter.unusedSimpArgs false
namespace Go.WL.T5
open Go.WL Go.Proofs
set_option maxRecDepth 20000
set_option maxHeartbeats 8000000
theorem c_rallB (r : Rk) (hw : WFr r) (h0 : r.s ++ r.m ≠ []) : FnOK Try.prog D 76 [(AV.st [.sl .lf (by8 (r).s) .ro, .sl .lf (by8 (r).m) .ro, .sl .lf (by8 (r).h) .ro, .sc (.int .i64 (r).room), .sc (.int .i64 (r).armed), .sc (.bool (r).dead)])] [] (fun q st => ∃ cap L, OKL (r.s ++ r.m) cap cap L ∧ q = .bs 0 [] .lf 0 (r.s ++ r.m).length cap ∧ st = [.ar cap .lf L]) := by
  obtain ⟨s, m, h, room, armed, dead⟩ := r
  obtain ⟨w1, w2, w3, w4, w5⟩ := hw
  simp only at w1 w2 w3 w4 w5 h0 ⊢
  have ls : (by8 s).length = s.length := len8 s
  have lm : (by8 m).length = m.length := len8 m
  refine fnok_of_Ws [7900001, 6, 9] hmix tabOK Try.func76 rfl rfl (Nat.le_of_ble_eq_true rfl) ?_
  conv => whnf
  refine ⟨.pair 3 4, ?_⟩
  conv => whnf
  refine ⟨by decide +kernel, ?_, ?_⟩
  · conv => whnf
    refine ⟨.cut 3, ?_⟩
    conv => whnf
    refine ⟨by decide +kernel, ⟨[[], [], [1]], by decide +kernel, ?_⟩⟩
    conv => whnf
    by_cases hs : s = []
    · subst hs
      have hm : m ≠ [] := by simpa using h0
      have hmp : 0 < m.length := List.length_pos_iff.2 hm
      conv => whnf
      refine Branch.yes (by rw [lm, Nat.blt_eq]; exact hmp) ?_
      refine ⟨by rw [lm]; simp; omega, fun cap hc => ?_⟩
      rw [lm] at hc
      have hc' : m.length ≤ cap := by simp at hc; omega
      conv => whnf
      refine ⟨false, [1], ?_⟩
      conv => whnf
      refine ⟨cap, _, okl_app m cap (List.replicate (cap - m.length) (AV.sc (.int .u8 (0)))) hc' (by rw [List.length_replicate]), ?_, ?_⟩
      · rw [lm]
        simp
      · rw [lm]
        simp
    · have hsp : 0 < s.length := List.length_pos_iff.2 hs
      refine Branch.yes (by rw [ls, Nat.blt_eq]; exact hsp) ?_
      refine ⟨by rw [ls]; simp; omega, fun cap hc => ?_⟩
      rw [ls] at hc
      have hc' : s.length ≤ cap := by simp at hc; omega
      have hL0 : OKL s cap cap (List.replicate 0 (AV.sc (.int .u8 (0))) ++ by8 s ++ List.replicate (cap - ((List.replicate 0 (AV.sc (.int .u8 (0)))).length + s.length)) (AV.sc (.int .u8 (0)))) := okl_lay0 s cap hc'
      conv => whnf
      rw [ls, lm]
      by_cases hf : (List.replicate 0 (AV.sc (.int .u8 (0)))).length + s.length + m.length ≤ cap
      · refine Branch.yes (Nat.ble_eq_true_of_le hf) ?_
        conv => whnf
        refine ⟨false, [1], ?_⟩
        conv => whnf
        have hf' : s.length + m.length ≤ cap := by simp at hf; omega
        refine ⟨cap, _, okl_in hL0 hf', ?_, ?_⟩
        · simp [lm]
        · simp [lm]
      · refine Branch.no (by rw [← Bool.not_eq_true, Nat.ble_eq]; exact hf) ?_
        refine ⟨by simp; omega, fun cap2 hc2 => ?_⟩
        have hc2' : s.length + m.length ≤ cap2 := by simp at hc2; omega
        conv => whnf
        refine ⟨false, [2], ?_⟩
        conv => whnf
        refine ⟨cap2, _, okl_new hL0 hc2', ?_, ?_⟩
        · simp [lm]
        · simp [lm]
  · conv => whnf
    refine ⟨.pair 4 5, ?_⟩
    conv => whnf
    refine ⟨by decide +kernel, ?_, ?_⟩
    · conv => whnf
      refine ⟨.cut 4, ?_⟩
      conv => whnf
      refine ⟨by decide +kernel, ⟨[[], [], [1], []], by decide +kernel, ?_⟩⟩
      conv => whnf
      by_cases hs : s = []
      · subst hs
        have hm : m ≠ [] := by simpa using h0
        have hmp : 0 < m.length := List.length_pos_iff.2 hm
        conv => whnf
        refine Branch.yes (by rw [lm, Nat.blt_eq]; exact hmp) ?_
        refine ⟨by rw [lm]; simp; omega, fun cap hc => ?_⟩
        rw [lm] at hc
        have hc' : m.length ≤ cap := by simp at hc; omega
        conv => whnf
        refine ⟨false, [1], ?_⟩
        conv => whnf
        refine ⟨cap, _, okl_app m cap (List.replicate (cap - m.length) (AV.sc (.int .u8 (0)))) hc' (by rw [List.length_replicate]), ?_, ?_⟩
        · rw [lm]
          simp
        · rw [lm]
          simp
      · have hsp : 0 < s.length := List.length_pos_iff.2 hs
        refine Branch.yes (by rw [ls, Nat.blt_eq]; exact hsp) ?_
        refine ⟨by rw [ls]; simp; omega, fun cap hc => ?_⟩
        rw [ls] at hc
        have hc' : s.length ≤ cap := by simp at hc; omega
        have hL0 : OKL s cap cap (List.replicate 0 (AV.sc (.int .u8 (0))) ++ by8 s ++ List.replicate (cap - ((List.replicate 0 (AV.sc (.int .u8 (0)))).length + s.length)) (AV.sc (.int .u8 (0)))) := okl_lay0 s cap hc'
        conv => whnf
        rw [ls, lm]
        by_cases hf : (List.replicate 0 (AV.sc (.int .u8 (0)))).length + s.length + m.length ≤ cap
        · refine Branch.yes (Nat.ble_eq_true_of_le hf) ?_
          conv => whnf
          refine ⟨false, [1], ?_⟩
          conv => whnf
          have hf' : s.length + m.length ≤ cap := by simp at hf; omega
          refine ⟨cap, _, okl_in hL0 hf', ?_, ?_⟩
          · simp [lm]
          · simp [lm]
        · refine Branch.no (by rw [← Bool.not_eq_true, Nat.ble_eq]; exact hf) ?_
          refine ⟨by simp; omega, fun cap2 hc2 => ?_⟩
          have hc2' : s.length + m.length ≤ cap2 := by simp at hc2; omega
          conv => whnf
          refine ⟨false, [2], ?_⟩
          conv => whnf
          refine ⟨cap2, _, okl_new hL0 hc2', ?_, ?_⟩
          · simp [lm]
          · simp [lm]
    · conv => whnf
      refine ⟨.cut 5, ?_⟩
      conv => whnf
      refine ⟨by decide +kernel, ⟨[[], [], [1], [], [3]], by decide +kernel, ?_⟩⟩
      conv => whnf
      by_cases hs : s = []
      · subst hs
        have hm : m ≠ [] := by simpa using h0
        have hmp : 0 < m.length := List.length_pos_iff.2 hm
        conv => whnf
        refine Branch.yes (by rw [lm, Nat.blt_eq]; exact hmp) ?_
        refine ⟨by rw [lm]; simp; omega, fun cap hc => ?_⟩
        rw [lm] at hc
        have hc' : m.length ≤ cap := by simp at hc; omega
        conv => whnf
        refine ⟨false, [1], ?_⟩
        conv => whnf
        refine ⟨cap, _, okl_app m cap (List.replicate (cap - m.length) (AV.sc (.int .u8 (0)))) hc' (by rw [List.length_replicate]), ?_, ?_⟩
        · rw [lm]
          simp
        · rw [lm]
          simp
      · have hsp : 0 < s.length := List.length_pos_iff.2 hs
        refine Branch.yes (by rw [ls, Nat.blt_eq]; exact hsp) ?_
        refine ⟨by rw [ls]; simp; omega, fun cap hc => ?_⟩
        rw [ls] at hc
        have hc' : s.length ≤ cap := by simp at hc; omega
        have hL0 : OKL s cap cap (List.replicate 0 (AV.sc (.int .u8 (0))) ++ by8 s ++ List.replicate (cap - ((List.replicate 0 (AV.sc (.int .u8 (0)))).length + s.length)) (AV.sc (.int .u8 (0)))) := okl_lay0 s cap hc'
        conv => whnf
        rw [ls, lm]
        by_cases hf : (List.replicate 0 (AV.sc (.int .u8 (0)))).length + s.length + m.length ≤ cap
        · refine Branch.yes (Nat.ble_eq_true_of_le hf) ?_
          conv => whnf
          refine ⟨false, [1], ?_⟩
          conv => whnf
          have hf' : s.length + m.length ≤ cap := by simp at hf; omega
          refine ⟨cap, _, okl_in hL0 hf', ?_, ?_⟩
          · simp [lm]
          · simp [lm]
        · refine Branch.no (by rw [← Bool.not_eq_true, Nat.ble_eq]; exact hf) ?_
          refine ⟨by simp; omega, fun cap2 hc2 => ?_⟩
          have hc2' : s.length + m.length ≤ cap2 := by simp at hc2; omega
          conv => whnf
          refine ⟨false, [2], ?_⟩
          conv => whnf
          refine ⟨cap2, _, okl_new hL0 hc2', ?_, ?_⟩
          · simp [lm]
          · simp [lm]
def spoilR (r : Rk) (n : Int) (y : UInt8) : Rk := if r.dead = true ∨ n < 0 ∨ ((r.s ++ r.m).length : Int) ≤ n then r else {r with s := ((r.s ++ r.m).set n.toNat ((r.s ++ r.m).getD n.toNat 0 ^^^ y)).take r.s.length, m := ((r.s ++ r.m).set n.toNat ((r.s ++ r.m).getD n.toNat 0 ^^^ y)).drop r.s.length}
theorem spoil_to (r : Rk) (n : Int) (y : UInt8) : (spoilP (toP r) n y).1 = toP (spoilR r n y) := by
  have e0 : (toP r).dead = r.dead := rfl
  have e1 : (toP r).b = r.s ++ r.m := rfl
  unfold spoilP spoilR
  rw [e0, e1]
  by_cases hd : r.dead = true
  · rw [if_pos hd, if_pos (.inl hd)]
  rw [if_neg hd]
  by_cases hn : n < 0 ∨ ((r.s ++ r.m).length : Int) ≤ n
  · rw [if_pos hn, if_pos (.inr hn)]
  rw [if_neg hn, if_neg (by rintro (h | h); exact hd h; exact hn h)]
  generalize hB : (r.s ++ r.m).set n.toNat ((r.s ++ r.m).getD n.toNat 0 ^^^ y) = B
  have hl : B.length = (r.s ++ r.m).length := by rw [← hB, List.length_set]
  rw [List.length_append] at hl
  unfold toP
  simp only [List.take_append_drop, List.length_take, Nat.min_eq_left (show r.s.length ≤ B.length by omega)]
theorem spoil_wfq {r : Rk} (h : WFq r) (n : Int) (y : UInt8) : WFq (spoilR r n y) := by
  unfold spoilR
  split
  · exact h
  · obtain ⟨⟨w1, w2, w3, w4, w5⟩, hd⟩ := h
    refine ⟨⟨w1, w2, ?_, w4, w5⟩, hd⟩
    simp only [List.length_take, List.length_drop, List.length_set, List.length_append]
    omega
theorem c_rspoil_aux (s m h : List UInt8) (room armed : Int) (B : List UInt8) (j : Nat) (y : UInt8) (hj : j < B.length) (hlen : B.length < 100000000) (hsl : s.length ≤ B.length) (ca : FnOK Try.prog D 76 [.st [(AV.sl .lf (by8 (s)) .ro), (AV.sl .lf (by8 (m)) .ro), (AV.sl .lf (by8 (h)) .ro), (AV.sc (.int .i64 (room))), (AV.sc (.int .i64 (armed))), (AV.sc (.bool (false)))]] [] (fun q st => ∃ cap L, OKL B cap cap L ∧ q = .bs 0 [] .lf 0 B.length cap ∧ st = [.ar cap .lf L])) :
    FnOK Try.prog D 40 [.st [(AV.sl .lf (by8 (s)) .ro), (AV.sl .lf (by8 (m)) .ro), (AV.sl .lf (by8 (h)) .ro), (AV.sc (.int .i64 (room))), (AV.sc (.int .i64 (armed))), (AV.sc (.bool (false)))], (AV.sc (.int .i64 ((j : Int)))), (AV.sc (.int .u8 ((y.toNat : Int))))] [] (fun q st => q = .st [(AV.sl .lf (by8 ((B.set j (B[j] ^^^ y)).take s.length)) .ro), (AV.sl .lf (by8 ((B.set j (B[j] ^^^ y)).drop s.length)) .ro), (AV.sl .lf (by8 (h)) .ro), (AV.sc (.int .i64 (room))), (AV.sc (.int .i64 (armed))), (AV.sc (.bool (false)))] ∧ st = []) := by
  have lS : (by8 s).length = s.length := len8 _
  refine fnok_of_Ws [1006008] hmix tabOK Try.func40 rfl rfl (Nat.le_of_ble_eq_true rfl) ?_
  conv => whnf
  refine ca.mono ?_
  rintro q st ⟨cap, L, hL, rfl, rfl⟩
  have hat := at_take hL.2.2.2 hj
  rw [by8_at hj] at hat
  have hW := okl_set hL j (B[j] ^^^ y)
  conv => whnf
  refine Branch.of (fun hh => ?_) (fun hh => ?_)
  · exfalso; simp only [gt_iff_lt, ge_iff_le, decide_eq_true_eq, decide_eq_false_iff_not, beq_iff_eq, beq_eq_false_iff_ne, bne_iff_ne, bne_eq_false_iff_eq, ne_eq] at hh; first | done | omega | (simp at hh; done)
  try rw [hh]
  clear hh
  conv => whnf
  refine ⟨by omega, by omega, ?_⟩
  conv => whnf
  refine ⟨_, (show L[0 + (j : Int).toNat]? = some (AV.sc (.int .u8 ((B[j].toNat : Int)))) by rw [Nat.zero_add]; exact hat), ?_⟩
  conv => whnf
  rw [xor8]
  refine ⟨by omega, by omega, ?_⟩
  conv => whnf
  refine ⟨_, (show L[0 + (j : Int).toNat]? = some (AV.sc (.int .u8 ((B[j].toNat : Int)))) by rw [Nat.zero_add]; exact hat), ?_⟩
  conv => whnf
  rw [show 0 + (j : Int).toNat = j by simp]
  have hlb : (B.set j (B[j] ^^^ y)).length = B.length := List.length_set
  rw [List.drop_zero, ← hlb, hW.2.2.2]
  generalize B.set j (B[j] ^^^ y) = C at hlb ⊢
  refine ⟨tabF40R6, by decide +kernel, ?_⟩
  conv => whnf
  rw [lS]
  refine ⟨by omega, by omega, by rw [len8]; omega, ?_⟩
  conv => whnf
  refine ⟨by omega, by rw [len8]; omega, by omega, ?_⟩
  conv => whnf
  rw [Int.toNat_natCast, cut8, show List.take (s.length - 0) (List.drop 0 (by8 C)) = by8 (C.take s.length) by simp [by8]]
  refine ⟨false, [999], ?_⟩
  conv => whnf
  exact ⟨rfl, rfl⟩
theorem c_rspoil (r : Rk) (hw : WFr r) (n : Int) (hn2 : n < 9223372036854775808) (y : UInt8) : FnOK Try.prog D 40 [(AV.st [.sl .lf (by8 (r).s) .ro, .sl .lf (by8 (r).m) .ro, .sl .lf (by8 (r).h) .ro, .sc (.int .i64 (r).room), .sc (.int .i64 (r).armed), .sc (.bool (r).dead)]), (AV.sc (.int .i64 (n))), (AV.sc (.int .u8 ((y.toNat : Int))))] [] (fun q st => q = (AV.st [.sl .lf (by8 (spoilR r n y).s) .ro, .sl .lf (by8 (spoilR r n y).m) .ro, .sl .lf (by8 (spoilR r n y).h) .ro, .sc (.int .i64 (spoilR r n y).room), .sc (.int .i64 (spoilR r n y).armed), .sc (.bool (spoilR r n y).dead)]) ∧ st = []) := by
  have hlen : (r.s ++ r.m).length < 100000000 := by
    obtain ⟨w1, w2, w3, w4, w5⟩ := hw
    rw [List.length_append]
    omega
  obtain ⟨s, m, h, room, armed, dead⟩ := r
  simp only at hlen
  cases dead with
  | true =>
    have e : spoilR ⟨s, m, h, room, armed, true⟩ n y = ⟨s, m, h, room, armed, true⟩ := by unfold spoilR; rw [if_pos (.inl rfl)]
    rw [e]
    have ca := c_rall ⟨s, m, h, room, armed, true⟩ hw
    refine fnok_of_Ws [1006008] hmix tabOK Try.func40 rfl rfl (Nat.le_of_ble_eq_true rfl) ?_
    conv => whnf
    refine (ca).mono fun r st e => ?_
    obtain ⟨rfl, rfl⟩ := e
    conv => whnf
    refine ⟨false, [999], ?_⟩
    conv => whnf
    exact ⟨rfl, rfl⟩
  | false =>
  by_cases hbad : n < 0 ∨ ((s ++ m).length : Int) ≤ n
  · have e : spoilR ⟨s, m, h, room, armed, false⟩ n y = ⟨s, m, h, room, armed, false⟩ := by unfold spoilR; rw [if_pos (.inr hbad)]
    rw [e]
    have ca := c_rall ⟨s, m, h, room, armed, false⟩ hw
    simp only at ca
    generalize hB : s ++ m = B at *
    refine fnok_of_Ws [1006008] hmix tabOK Try.func40 rfl rfl (Nat.le_of_ble_eq_true rfl) ?_
    conv => whnf
    refine (ca).mono fun r st e => ?_
    obtain ⟨rfl, rfl⟩ := e
    conv => whnf
    by_cases h : n < 0
    · refine Branch.of (fun hh => ?_) (fun hh => ?_)
      rotate_left
      · exfalso; simp only [gt_iff_lt, ge_iff_le, decide_eq_true_eq, decide_eq_false_iff_not, beq_iff_eq, beq_eq_false_iff_ne, bne_iff_ne, bne_eq_false_iff_eq, ne_eq] at hh; first | done | omega | (simp at hh; done)
      try rw [hh]
      clear hh
      conv => whnf
      refine ⟨false, [999], ?_⟩
      conv => whnf
      exact ⟨rfl, rfl⟩
    · refine Branch.of (fun hh => ?_) (fun hh => ?_)
      · exfalso; simp only [gt_iff_lt, ge_iff_le, decide_eq_true_eq, decide_eq_false_iff_not, beq_iff_eq, beq_eq_false_iff_ne, bne_iff_ne, bne_eq_false_iff_eq, ne_eq] at hh; first | done | omega | (simp at hh; done)
      try rw [hh]
      clear hh
      conv => whnf
      rw [len8]
      refine Branch.of (fun hh => ?_) (fun hh => ?_)
      rotate_left
      · exfalso; simp only [gt_iff_lt, ge_iff_le, decide_eq_true_eq, decide_eq_false_iff_not, beq_iff_eq, beq_eq_false_iff_ne, bne_iff_ne, bne_eq_false_iff_eq, ne_eq] at hh; first | done | omega | (simp at hh; done)
      try rw [hh]
      clear hh
      conv => whnf
      refine ⟨false, [999], ?_⟩
      conv => whnf
      exact ⟨rfl, rfl⟩
  · obtain ⟨j, rfl⟩ : ∃ j : Nat, n = (j : Int) := ⟨n.toNat, by omega⟩
    have hj : j < (s ++ m).length := by omega
    have hsl : s.length ≤ (s ++ m).length := by rw [List.length_append]; omega
    have e : spoilR ⟨s, m, h, room, armed, false⟩ (j : Int) y = ⟨((s ++ m).set j ((s ++ m)[j] ^^^ y)).take s.length, ((s ++ m).set j ((s ++ m)[j] ^^^ y)).drop s.length, h, room, armed, false⟩ := by
      unfold spoilR
      rw [if_neg (by rintro (h | h); cases h; exact hbad h), Int.toNat_natCast, List.getD_eq_getElem?_getD, List.getElem?_eq_getElem hj, Option.getD_some]
    rw [e]
    have ca := c_rallB ⟨s, m, h, room, armed, false⟩ hw (by intro e; have e : s ++ m = [] := e; rw [e] at hj; simp at hj)
    exact c_rspoil_aux s m h room armed (s ++ m) j y hj hlen hsl ca
end Go.WL.T5
