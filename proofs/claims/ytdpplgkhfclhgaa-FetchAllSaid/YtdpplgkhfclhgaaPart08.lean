/- Blocks that are asked for: the reference. No condition. -/
import Derived.Test.YtdpplgkhfclhgaaPart07
import Derived.Test.YtdpplgkhfclhgaaWordsD
set_option linter.unusedVariables false
set_option linter.unusedSimpArgs false
namespace Go.WL.T8
open Go.WL Go.Proofs
set_option maxRecDepth 20000
set_option maxHeartbeats 8000000
def ringT (me n of_ : Int) (i : Nat) : List Int := ((List.range i).map fun j : Nat => Int.tmod (of_ - 1 + (j : Int)) n + 1).filter fun p => p != me
def ring (me n of_ : Int) : List Int := ringT me n of_ n.toNat
def whom (me n of_ k : Int) : Int := (ring me n of_).getD (k.toNat % (ring me n of_).length) 0
theorem ringT_succ (me n of_ : Int) (i : Nat) : ringT me n of_ (i + 1) = ringT me n of_ i ++ (if Int.tmod (of_ - 1 + (i : Int)) n + 1 = me then [] else [Int.tmod (of_ - 1 + (i : Int)) n + 1]) := by
  unfold ringT
  rw [List.range_succ, List.map_append, List.filter_append]
  congr 1
  by_cases h : Int.tmod (of_ - 1 + (i : Int)) n + 1 = me
  · simp [h]
  · simp [h]
theorem ringT_len (me n of_ : Int) (i : Nat) : (ringT me n of_ i).length ≤ i := by
  unfold ringT
  refine Nat.le_trans (List.length_filter_le ..) ?_
  rw [List.length_map, List.length_range]
  exact Nat.le_refl _
theorem ints_len (l : List Int) : (ints .i64 l).length = l.length := List.length_map ..
theorem c_whom (me n of_ k : Int) (hn : 0 < n) (hn2 : n ≤ 1000) (ho : 1 ≤ of_) (ho2 : of_ ≤ 1000) (hk : 0 ≤ k) (hr : 0 < (ring me n of_).length) : FnOK Try.prog D 28 [(AV.sc (.int .i64 (me))), (AV.sc (.int .i64 (n))), (AV.sc (.int .i64 (of_))), (AV.sc (.int .i64 (k)))] [] (fun r st => r = (AV.sc (.int .i64 (whom me n of_ k))) ∧ st = []) := by
  refine fnok_of_Ws [1702009] hmix tabOK Try.func28 rfl rfl (Nat.le_of_ble_eq_true rfl) ?_
  conv => whnf
  refine ⟨false, [0, 1, 2, 3, 9, 10], fun τ => ∃ i : Nat, (i : Int) ≤ n ∧ τ = ⟨39, [(0, (AV.sc (.int .i64 (me)))), (1, (AV.sc (.int .i64 (n)))), (2, (AV.sc (.int .i64 (of_)))), (3, (AV.sc (.int .i64 (k)))), (9, .sl .lf (ints .i64 (ringT me n of_ i)) (.own 0)), (10, (AV.sc (.int .i64 ((i : Int)))))], ⟨[], [0], 1⟩⟩, fun τ => n.toNat - (slotI τ 10).toNat, ?_, ?_⟩
  · conv => whnf
    exact ⟨0, by omega, rfl⟩
  rintro τ ⟨i, hi, rfl⟩
  apply enter3
  intro kk kK
  conv => whnf
  refine Branch.of (fun h1 => ?_) (fun h1 => ?_) <;> rw [h1] <;> conv => whnf
  rotate_left
  · have h1 := of_decide_eq_false h1
    have e : n.toNat = i := by omega
    refine kK _ _ ?_
    conv => whnf
    have hrl : (ints .i64 (ringT me n of_ i)).length = (ring me n of_).length := by unfold ring; rw [ints_len, e]
    refine ⟨by omega, ?_⟩
    conv => whnf
    rw [hrl]
    have hm : Int.tmod k ((ring me n of_).length : Int) = ((k.toNat % (ring me n of_).length : Nat) : Int) := by
      obtain ⟨j, rfl⟩ : ∃ j : Nat, k = (j : Int) := ⟨k.toNat, by omega⟩
      rfl
    rw [hm]
    have hlt : k.toNat % (ring me n of_).length < (ring me n of_).length := Nat.mod_lt _ hr
    refine ⟨by omega, (AV.sc (.int .i64 ((whom me n of_ k)))), ?_, ?_⟩
    · rw [Int.toNat_natCast]
      unfold ints whom
      rw [List.getElem?_map]
      show Option.map _ ((ringT me n of_ i)[_]?) = _
      rw [← e]
      show Option.map _ ((ring me n of_)[_]?) = _
      rw [List.getElem?_eq_getElem hlt, List.getD_eq_getElem?_getD, List.getElem?_eq_getElem hlt]
      rfl
    conv => whnf
    refine ⟨false, [], ?_⟩
    conv => whnf
    exact ⟨rfl, rfl⟩
  have h1 := of_decide_eq_true h1
  have t1 := tm_lo (a := of_ - 1 + (i : Int)) (by omega) hn
  rw [w64 (x := of_ - 1) (by omega) (by omega), w64 (x := of_ - 1 + (i : Int)) (by omega) (by omega)]
  refine ⟨by omega, ?_⟩
  conv => whnf
  rw [w64 (x := Int.tmod (of_ - 1 + (i : Int)) n + 1) (by omega) (by omega)]
  have hs := ringT_succ me n of_ i
  have hl := ringT_len me n of_ i
  by_cases h : Int.tmod (of_ - 1 + (i : Int)) n + 1 = me
  · rw [if_pos h, List.append_nil] at hs
    refine Branch.no (by rw [bne_eq_false_iff_eq]; exact h) ?_
    conv => whnf
    rw [w64 (x := (i : Int) + 1) (by omega) (by omega)]
    refine kK _ _ ?_
    conv => whnf
    refine ⟨⟨i + 1, by omega, by rw [hs]; rfl⟩, ?_⟩
    show n.toNat - ((i : Int) + 1).toNat < n.toNat - (i : Int).toNat
    omega
  · rw [if_neg h] at hs
    refine Branch.yes (by rw [bne_iff_ne]; exact h) ?_
    conv => whnf
    refine ⟨by rw [ints_len]; simp; omega, ?_⟩
    conv => whnf
    rw [w64 (x := (i : Int) + 1) (by omega) (by omega)]
    refine kK _ _ ?_
    conv => whnf
    refine ⟨⟨i + 1, by omega, ?_⟩, ?_⟩
    · rw [hs]
      unfold ints
      rw [List.map_append]
      rfl
    · show n.toNat - ((i : Int) + 1).toNat < n.toNat - (i : Int).toNat
      omega
def hF (w : Rw) : Fw := ⟨w.h, w.of_, w.left_⟩
theorem fnd_congr {l m : List Fw} (h : List UInt8) (e : l.map (·.h) = m.map (·.h)) : fnd l h = fnd m h := by
  have key : ∀ l : List Fw, l.findIdx? (fun x => x.h == h) = (l.map (·.h)).findIdx? (fun x => x == h) := fun l => by rw [List.findIdx?_map]; rfl
  unfold fnd
  rw [key, key, e]
theorem c_rfind (l : List Rw) (h : List UInt8) (hl : l.length ≤ 1000) : FnOK Try.prog D 12 [(AV.sl (.nd [.ar 32 .lf, .lf, .lf, .lf]) (rwA (l)) .ro), (AV.ar 32 .lf (by8 (h)))] [] (fun r st => r = (AV.sc (.int .i64 (fnd (l.map hF) h))) ∧ st = []) := by
  refine fnok_of_W hmix tabOK Try.func12 rfl rfl (Nat.le_of_ble_eq_true rfl) ?_
  conv => whnf
  refine ⟨false, [0, 3, 5], fun τ => ∃ i : Nat, i ≤ l.length ∧ (∀ x ∈ (l.map hF).take i, (x.h == h) = false) ∧ τ = ⟨20, [(0, (AV.sl (.nd [.ar 32 .lf, .lf, .lf, .lf]) (rwA (l)) .ro)), (3, .pt 0 []), (5, (AV.sc (.int .i64 ((i : Int)))))], ⟨[((AV.ar 32 .lf (by8 (h))), false)], [], 0⟩⟩, fun τ => l.length - (slotI τ 5).toNat, ?_, ?_⟩
  · conv => whnf
    exact ⟨0, by omega, by simp, rfl⟩
  rintro τ ⟨i, hi, hn, rfl⟩
  apply enter3
  intro kk kK
  conv => whnf
  rw [rw_len]
  refine Branch.of (fun h1 => ?_) (fun h1 => ?_) <;> rw [h1] <;> conv => whnf
  rotate_left
  · have h1 := of_decide_eq_false h1
    rw [List.take_of_length_le (by rw [List.length_map]; omega)] at hn
    refine kK _ _ ?_
    conv => whnf
    rw [fnd_no hn]
    refine ⟨false, [], ?_⟩
    conv => whnf
    exact ⟨rfl, rfl⟩
  have h1 := of_decide_eq_true h1
  have ih : i < l.length := by omega
  have ihm : i < (l.map hF).length := by rw [List.length_map]; exact ih
  have hgi : (l.map hF)[i].h = l[i].h := by rw [List.getElem_map]; rfl
  refine ⟨tabF12R4, by decide +kernel, ?_⟩
  conv => whnf
  refine ⟨by omega, _, rw_at ih, ?_⟩
  conv => whnf
  refine ⟨l[i].h, h, rfl, rfl, ?_⟩
  conv => whnf
  cases he : (l[i].h == h) with
  | true =>
    conv => whnf
    refine kK _ _ ?_
    conv => whnf
    rw [fnd_yes ihm (by rw [hgi]; exact he) hn]
    refine ⟨false, [], ?_⟩
    conv => whnf
    exact ⟨rfl, rfl⟩
  | false =>
    conv => whnf
    rw [w64 (x := (i : Int) + 1) (by omega) (by omega)]
    refine kK _ _ ?_
    conv => whnf
    refine ⟨⟨i + 1, by omega, ?_, rfl⟩, ?_⟩
    · intro x hx
      rw [List.take_succ_eq_append_getElem ihm] at hx
      rcases List.mem_append.1 hx with hx | hx
      · exact hn x hx
      · rw [List.mem_singleton.1 hx, hgi]
        exact he
    · show l.length - ((i : Int) + 1).toNat < l.length - (i : Int).toNat
      omega
def rtick1 (w : Rw) : Rw := if w.left_ = 0 then ⟨w.h, w.of_, 3, w.asked + 1⟩ else ⟨w.h, w.of_, w.left_ - 1, w.asked⟩
def rtickM (me n : Int) (l : List Rw) : List Ms := (l.filter fun w => w.left_ == 0).map fun w => ⟨me, whom me n w.of_ w.asked, w.h⟩
theorem rtickM_step (me n : Int) (l : List Rw) (i : Nat) (h : i < l.length) : rtickM me n (l.take (i + 1)) = rtickM me n (l.take i) ++ (if l[i].left_ = 0 then [⟨me, whom me n l[i].of_ l[i].asked, l[i].h⟩] else []) := by
  unfold rtickM
  rw [List.take_succ_eq_append_getElem h, List.filter_append, List.map_append]
  congr 1
  by_cases e : l[i].left_ = 0
  · simp [e]
  · simp [e]
theorem c_rtick (me n : Int) (l : List Rw) (hl : l.length ≤ 1000) (hn : 0 < n) (hn2 : n ≤ 1000) (hw : ∀ w ∈ l, 1 ≤ w.of_ ∧ w.of_ ≤ 1000 ∧ 0 ≤ w.asked ∧ w.asked ≤ 1000 ∧ 0 ≤ w.left_ ∧ w.left_ ≤ 1000 ∧ 0 < (ring me n w.of_).length) : FnOK Try.prog D 15 [(AV.sc (.int .i64 (me))), (AV.sc (.int .i64 (n))), (AV.sl (.nd [.ar 32 .lf, .lf, .lf, .lf]) (rwA (l)) .ro)] [] (fun r st => r = .tup [.sl (.nd [.ar 32 .lf, .lf, .lf, .lf]) (rwA (l.map rtick1)) (.own 0), .sl (.nd [.lf, .lf, .lf, .nd [.lf, .lf, .lf, .lf, .ar 32 .lf, .lf, .ar 32 .lf, .ar 32 .lf], .nd [.nd [.lf, .lf, .lf, .lf, .ar 32 .lf, .lf, .ar 32 .lf, .ar 32 .lf], .lf], .nd [.lf, .lf, .lf, .ar 32 .lf, .lf, .ar 32 .lf], .nd [.ar 32 .lf, .lf, .lf, .lf, .lf], .ar 32 .lf, .nd [.lf, .lf, .lf, .lf, .lf, .lf, .lf]]) (msA (rtickM me n l)) (.own 1)] ∧ st = []) := by
  refine fnok_of_Ws [1703008, 1703009] hmix tabOK Try.func15 rfl rfl (Nat.le_of_ble_eq_true rfl) ?_
  conv => whnf
  refine ⟨false, [0, 1, 2, 9, 8, 10], fun τ => ∃ i : Nat, i ≤ l.length ∧ τ = ⟨56, [(0, (AV.sc (.int .i64 (me)))), (1, (AV.sc (.int .i64 (n)))), (2, (AV.sl (.nd [.ar 32 .lf, .lf, .lf, .lf]) (rwA (l)) .ro)), (9, .sl (.nd [.ar 32 .lf, .lf, .lf, .lf]) (rwA ((l.take i).map rtick1)) (.own 0)), (8, .sl (.nd [.lf, .lf, .lf, .nd [.lf, .lf, .lf, .lf, .ar 32 .lf, .lf, .ar 32 .lf, .ar 32 .lf], .nd [.nd [.lf, .lf, .lf, .lf, .ar 32 .lf, .lf, .ar 32 .lf, .ar 32 .lf], .lf], .nd [.lf, .lf, .lf, .ar 32 .lf, .lf, .ar 32 .lf], .nd [.ar 32 .lf, .lf, .lf, .lf, .lf], .ar 32 .lf, .nd [.lf, .lf, .lf, .lf, .lf, .lf, .lf]]) (msA (rtickM me n (l.take i))) (.own 1)), (10, (AV.sc (.int .i64 ((i : Int)))))], ⟨[], [0, 1], 2⟩⟩, fun τ => l.length - (slotI τ 10).toNat, ?_, ?_⟩
  · conv => whnf
    exact ⟨0, by omega, rfl⟩
  rintro τ ⟨i, hi, rfl⟩
  apply enter3
  intro kk kK
  conv => whnf
  rw [rw_len]
  refine Branch.of (fun h1 => ?_) (fun h1 => ?_) <;> rw [h1] <;> conv => whnf
  rotate_left
  · have h1 := of_decide_eq_false h1
    obtain rfl : i = l.length := by omega
    refine kK _ _ ?_
    conv => whnf
    refine ⟨false, [], ?_⟩
    conv => whnf
    rw [List.take_length]
    exact ⟨rfl, rfl⟩
  have h1 := of_decide_eq_true h1
  have ih : i < l.length := by omega
  have hat := rw_at ih
  have hms := rtickM_step me n l i ih
  have hns : (l.take (i + 1)).map rtick1 = (l.take i).map rtick1 ++ [rtick1 l[i]] := by rw [List.take_succ_eq_append_getElem ih, List.map_append]; rfl
  have hml : (rtickM me n (l.take i)).length ≤ i := by
    unfold rtickM
    rw [List.length_map]
    refine Nat.le_trans (List.length_filter_le ..) ?_
    rw [List.length_take]
    omega
  have hwi := hw l[i] (List.getElem_mem ih)
  have t1 : rtick1 l[i] = if l[i].left_ = 0 then ⟨l[i].h, l[i].of_, 3, l[i].asked + 1⟩ else ⟨l[i].h, l[i].of_, l[i].left_ - 1, l[i].asked⟩ := rfl
  generalize l[i] = w at hat hms hns hwi t1
  obtain ⟨a1, a2, a3, a4, a5, a6, a7⟩ := hwi
  have cw := c_whom me n w.of_ w.asked hn hn2 a1 a2 a3 a7
  refine ⟨by omega, _, hat, ?_⟩
  conv => whnf
  by_cases h0 : w.left_ = 0
  · rw [if_pos h0] at hms t1
    refine Branch.yes (by rw [beq_iff_eq]; exact h0) ?_
    conv => whnf
    refine ⟨tabF15R8, by decide +kernel, ?_⟩
    conv => whnf
    refine ⟨_, _, cw, ?_⟩
    conv => whnf
    refine ⟨by unfold msA; rw [List.length_map]; simp; omega, ?_⟩
    conv => whnf
    rw [w64 (x := w.asked + 1) (by omega) (by omega), show IntKind.i64.wrap (4 - 1) = 3 from rfl]
    refine ⟨by unfold rwA; rw [List.length_map, List.length_map, List.length_take]; simp; omega, ?_⟩
    conv => whnf
    rw [w64 (x := (i : Int) + 1) (by omega) (by omega)]
    refine kK _ _ ?_
    conv => whnf
    refine ⟨⟨i + 1, by omega, ?_⟩, ?_⟩
    · rw [hms, hns, t1]
      unfold msA rwA
      rw [List.map_append, List.map_append]
      rfl
    · show l.length - ((i : Int) + 1).toNat < l.length - (i : Int).toNat
      omega
  · rw [if_neg h0] at hms t1
    refine Branch.no (by rw [beq_eq_false_iff_ne]; exact h0) ?_
    conv => whnf
    rw [w64 (x := w.left_ - 1) (by omega) (by omega)]
    refine ⟨by unfold rwA; rw [List.length_map, List.length_map, List.length_take]; simp; omega, ?_⟩
    conv => whnf
    rw [w64 (x := (i : Int) + 1) (by omega) (by omega)]
    refine kK _ _ ?_
    conv => whnf
    refine ⟨⟨i + 1, by omega, ?_⟩, ?_⟩
    · rw [hms, hns, t1, List.append_nil]
      unfold rwA
      rw [List.map_append]
      rfl
    · show l.length - ((i : Int) + 1).toNat < l.length - (i : Int).toNat
      omega
end Go.WL.T8
