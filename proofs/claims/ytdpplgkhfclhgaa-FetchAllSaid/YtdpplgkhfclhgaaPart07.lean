/- Blocks that are asked for: a tick. No condition. -/
import Derived.Test.YtdpplgkhfclhgaaPart06
set_option linter.unusedVariables false
set_option linter.unusedSimpArgs false
namespace Go.WL.T8
open Go.WL Go.Proofs
set_option maxRecDepth 20000
set_option maxHeartbeats 8000000
structure Ms where
  f : Int
  t : Int
  h : List UInt8
def msA (l : List Ms) : List AV := l.map fun x => (AV.st [.sc (.int .i64 7), .sc (.int .i64 (x).f), .sc (.int .i64 (x).t), .st [.sc (.int .i64 0), .sc (.int .i64 0), .sc (.int .i64 0), .sc (.int .i64 0), .ar 32 .lf (List.replicate 32 (.sc (.int .u8 0))), .sc (.int .i64 0), .ar 32 .lf (List.replicate 32 (.sc (.int .u8 0))), .ar 32 .lf (List.replicate 32 (.sc (.int .u8 0)))], .st [.st [.sc (.int .i64 0), .sc (.int .i64 0), .sc (.int .i64 0), .sc (.int .i64 0), .ar 32 .lf (List.replicate 32 (.sc (.int .u8 0))), .sc (.int .i64 0), .ar 32 .lf (List.replicate 32 (.sc (.int .u8 0))), .ar 32 .lf (List.replicate 32 (.sc (.int .u8 0)))], .sl (.nd [.lf, .ar 32 .lf]) [] .ex], .st [.sc (.int .i64 0), .sc (.int .i64 0), .sc (.int .i64 0), .ar 32 .lf (List.replicate 32 (.sc (.int .u8 0))), .sl .lf [] .ex, .ar 32 .lf (List.replicate 32 (.sc (.int .u8 0)))], .st [.ar 32 .lf (List.replicate 32 (.sc (.int .u8 0))), .sc (.int .i64 0), .sc (.int .i64 0), .sc (.int .i64 0), .sl (.nd [.lf, .lf, .lf, .lf, .lf, .lf, .lf]) [] .ex], .ar 32 .lf (by8 (x).h), .st [.sc (.int .i64 0), .sc (.int .i64 0), .sc (.int .i64 0), .sc (.int .i64 0), .sc (.int .i64 0), .sc (.string .empty), .sc (.string .empty)]])
def tick1 (me n : Int) (w : Fw) : Fw := if w.left_ = 0 then ⟨w.h, bh me n w.of_, 3⟩ else ⟨w.h, w.of_, w.left_ - 1⟩
def tickM (me : Int) (l : List Fw) : List Ms := (l.filter fun w => w.left_ == 0).map fun w => ⟨me, w.of_, w.h⟩
theorem okw_set {l : List Fw} {cap : Nat} {L : List AV} (h : OKW l cap L) (i : Nat) (w : Fw) : OKW (l.set i w) cap (L.set i (AV.st [.ar 32 .lf (by8 (w).h), .sc (.int .i64 (w).of_), .sc (.int .i64 (w).left_)])) := by
  obtain ⟨h1, h2, h3⟩ := h
  refine ⟨by rw [List.length_set]; exact h1, by rw [List.length_set]; exact h2, ?_⟩
  rw [List.length_set, List.take_set, h3]
  unfold wnA
  rw [List.map_set]
theorem tickM_step (me : Int) (l : List Fw) (i : Nat) (h : i < l.length) : tickM me (l.take (i + 1)) = tickM me (l.take i) ++ (if l[i].left_ = 0 then [⟨me, l[i].of_, l[i].h⟩] else []) := by
  unfold tickM
  rw [List.take_succ_eq_append_getElem h, List.filter_append, List.map_append]
  congr 1
  by_cases e : l[i].left_ = 0
  · simp [e]
  · simp [e]
theorem tick_set (me n : Int) (l : List Fw) (i : Nat) (h : i < l.length) : ((l.take i).map (tick1 me n) ++ l.drop i).set i (tick1 me n l[i]) = (l.take (i + 1)).map (tick1 me n) ++ l.drop (i + 1) := by
  rw [List.set_append_right _ _ (by simp; omega), List.length_map, List.length_take, Nat.min_eq_left (by omega), Nat.sub_self, List.take_succ_eq_append_getElem h, List.map_append, List.append_assoc]
  congr 1
  rw [List.drop_eq_getElem_cons h]
  rfl
theorem tick_at (me n : Int) (l : List Fw) (i : Nat) (h : i < l.length) (h2 : i < ((l.take i).map (tick1 me n) ++ l.drop i).length) : ((l.take i).map (tick1 me n) ++ l.drop i)[i] = l[i] := by
  rw [List.getElem_append_right (by simp; omega)]
  simp [Nat.min_eq_left (show i ≤ l.length by omega)]
theorem c_tick0 (me n : Int) : FnOK Try.prog D 16 [.pt 0 []] [(.st [(AV.sc (.int .i64 (me))), (AV.sc (.int .i64 (n))), .sl (.nd [.ar 32 .lf, .lf, .lf]) [] .ex])] (fun r st => r = .sl (.nd [.lf, .lf, .lf, .nd [.lf, .lf, .lf, .lf, .ar 32 .lf, .lf, .ar 32 .lf, .ar 32 .lf], .nd [.nd [.lf, .lf, .lf, .lf, .ar 32 .lf, .lf, .ar 32 .lf, .ar 32 .lf], .lf], .nd [.lf, .lf, .lf, .ar 32 .lf, .lf, .ar 32 .lf], .nd [.ar 32 .lf, .lf, .lf, .lf, .lf], .ar 32 .lf, .nd [.lf, .lf, .lf, .lf, .lf, .lf, .lf]]) (msA []) .ro ∧ st = [(.st [(AV.sc (.int .i64 (me))), (AV.sc (.int .i64 (n))), .sl (.nd [.ar 32 .lf, .lf, .lf]) [] .ex])]) := by
  refine fnok_of_W hmix tabOK Try.func16 rfl rfl (Nat.le_of_ble_eq_true rfl) ?_
  conv => whnf
  refine ⟨false, [0, 12, 13, 3], fun τ => τ = ⟨64, [(0, .pt 0 []), (12, (AV.sc (.int .i64 (0)))), (13, (AV.sc (.int .i64 (0)))), (3, .sl (.nd [.lf, .lf, .lf, .nd [.lf, .lf, .lf, .lf, .ar 32 .lf, .lf, .ar 32 .lf, .ar 32 .lf], .nd [.nd [.lf, .lf, .lf, .lf, .ar 32 .lf, .lf, .ar 32 .lf, .ar 32 .lf], .lf], .nd [.lf, .lf, .lf, .ar 32 .lf, .lf, .ar 32 .lf], .nd [.ar 32 .lf, .lf, .lf, .lf, .lf], .ar 32 .lf, .nd [.lf, .lf, .lf, .lf, .lf, .lf, .lf]]) [] .ex)], ⟨[((.st [(AV.sc (.int .i64 (me))), (AV.sc (.int .i64 (n))), .sl (.nd [.ar 32 .lf, .lf, .lf]) [] .ex]), false)], [], 0⟩⟩, fun τ => 0, ?_, ?_⟩
  · conv => whnf
    exact rfl
  rintro τ rfl
  conv => whnf
  refine ⟨false, [999], ?_⟩
  conv => whnf
  exact ⟨rfl, rfl⟩
theorem c_tickB (me n : Int) (l : List Fw) (cap : Nat) (L : List AV) (hL : OKW l cap L) (hb : l.length ≤ 32) (hn : 0 < n) (hn2 : n < 1000) (hw : ∀ w ∈ l, 0 ≤ w.of_ ∧ 0 ≤ w.left_ ∧ w.left_ ≤ 1000) : FnOK Try.prog D 16 [.pt 0 []] [(.st [(AV.sc (.int .i64 (me))), (AV.sc (.int .i64 (n))), .bs 1 [] (.nd [.ar 32 .lf, .lf, .lf]) 0 (l).length cap]), .ar cap (.nd [.ar 32 .lf, .lf, .lf]) L] (fun r st => r = .sl (.nd [.lf, .lf, .lf, .nd [.lf, .lf, .lf, .lf, .ar 32 .lf, .lf, .ar 32 .lf, .ar 32 .lf], .nd [.nd [.lf, .lf, .lf, .lf, .ar 32 .lf, .lf, .ar 32 .lf, .ar 32 .lf], .lf], .nd [.lf, .lf, .lf, .ar 32 .lf, .lf, .ar 32 .lf], .nd [.ar 32 .lf, .lf, .lf, .lf, .lf], .ar 32 .lf, .nd [.lf, .lf, .lf, .lf, .lf, .lf, .lf]]) (msA (tickM me l)) .ro ∧ ∃ L', OKW (l.map (tick1 me n)) cap L' ∧ st = [(.st [(AV.sc (.int .i64 (me))), (AV.sc (.int .i64 (n))), .bs 1 [] (.nd [.ar 32 .lf, .lf, .lf]) 0 (l).length cap]), .ar cap (.nd [.ar 32 .lf, .lf, .lf]) L']) := by
  refine fnok_of_Ws [1704003] hmix tabOK Try.func16 rfl rfl (Nat.le_of_ble_eq_true rfl) ?_
  conv => whnf
  refine ⟨false, [0, 12, 13, 3], fun τ => ∃ (i : Nat) (L : List AV), i ≤ l.length ∧ OKW ((l.take i).map (tick1 me n) ++ l.drop i) cap L ∧ τ = ⟨64, [(0, .pt 0 []), (12, (AV.sc (.int .i64 ((l.length : Int))))), (13, (AV.sc (.int .i64 ((i : Int))))), (3, .sl (.nd [.lf, .lf, .lf, .nd [.lf, .lf, .lf, .lf, .ar 32 .lf, .lf, .ar 32 .lf, .ar 32 .lf], .nd [.nd [.lf, .lf, .lf, .lf, .ar 32 .lf, .lf, .ar 32 .lf, .ar 32 .lf], .lf], .nd [.lf, .lf, .lf, .ar 32 .lf, .lf, .ar 32 .lf], .nd [.ar 32 .lf, .lf, .lf, .lf, .lf], .ar 32 .lf, .nd [.lf, .lf, .lf, .lf, .lf, .lf, .lf]]) (msA (tickM me (l.take i))) (.own 0))], ⟨[((.st [(AV.sc (.int .i64 (me))), (AV.sc (.int .i64 (n))), .bs 1 [] (.nd [.ar 32 .lf, .lf, .lf]) 0 (l).length cap]), false), (.ar cap (.nd [.ar 32 .lf, .lf, .lf]) L, false)], [0], 1⟩⟩, fun τ => l.length - (slotI τ 13).toNat, ?_, ?_⟩
  · conv => whnf
    exact ⟨0, L, by omega, hL, rfl⟩
  clear hL
  rintro τ ⟨i, L, hi, hL, rfl⟩
  apply enter3
  intro kk kK
  conv => whnf
  refine Branch.of (fun h1 => ?_) (fun h1 => ?_) <;> rw [h1] <;> conv => whnf
  rotate_left
  · have h1 := of_decide_eq_false h1
    obtain rfl : i = l.length := by omega
    refine kK _ _ ?_
    conv => whnf
    refine ⟨false, [999], ?_⟩
    conv => whnf
    rw [List.take_length, List.drop_length, List.append_nil] at hL
    rw [List.take_length]
    exact ⟨rfl, L, hL, rfl⟩
  have h1 := of_decide_eq_true h1
  have ih : i < l.length := by omega
  have hlen : ((l.take i).map (tick1 me n) ++ l.drop i).length = l.length := by
    rw [List.length_append, List.length_map, List.length_take, List.length_drop]
    omega
  have hat := okw_at hL (show i < _ by omega)
  rw [tick_at me n l i ih] at hat
  have hts := tick_set me n l i ih
  have hms := tickM_step me l i ih
  have hwi := hw l[i] (List.getElem_mem ih)
  have hml : (tickM me (l.take i)).length ≤ i := by
    unfold tickM
    rw [List.length_map]
    refine Nat.le_trans (List.length_filter_le ..) ?_
    rw [List.length_take]
    omega
  have hsl : ∀ w, OKW (((l.take i).map (tick1 me n) ++ l.drop i).set i w) cap (L.set i (AV.st [.ar 32 .lf (by8 (w).h), .sc (.int .i64 (w).of_), .sc (.int .i64 (w).left_)])) := fun w => okw_set hL i w
  have hLl := hL.2.1
  have hcap := hL.1
  rw [hlen] at hcap
  have hil : i < L.length := by omega
  have hset : ∀ x : AV, (L.set i x)[i]? = some x := fun x => List.getElem?_set_self hil
  have t1 : tick1 me n l[i] = if l[i].left_ = 0 then ⟨l[i].h, bh me n l[i].of_, 3⟩ else ⟨l[i].h, l[i].of_, l[i].left_ - 1⟩ := rfl
  have cb := fun L => c_behind1 me n l[i].of_ l cap L hn hn2 hwi.1
  generalize l[i] = w at hat hts hms hwi t1 cb
  refine ⟨by omega, by omega, ?_⟩
  conv => whnf
  rw [show 0 + ((i : Nat) : Int).toNat = i by simp]
  refine ⟨_, hat, ?_⟩
  conv => whnf
  by_cases h0 : w.left_ = 0
  · rw [if_pos h0] at hms t1
    refine Branch.yes (by rw [beq_iff_eq]; exact h0) ?_
    conv => whnf
    refine ⟨tabF16R9, by decide +kernel, ?_⟩
    conv => whnf
    refine ⟨_, hat, ?_⟩
    conv => whnf
    refine ⟨_, hat, ?_⟩
    conv => whnf
    refine ⟨by unfold msA; rw [List.length_map]; simp; omega, ?_⟩
    conv => whnf
    refine ⟨_, hat, ?_⟩
    conv => whnf
    refine (cb L).mono fun r st e => ?_
    obtain ⟨rfl, rfl⟩ := e
    conv => whnf
    refine ⟨_, hat, ?_⟩
    conv => whnf
    refine ⟨_, List.getElem?_set_self (by first | exact hil | (simp only [List.length_set]; exact hil)), ?_⟩
    conv => whnf
    refine ⟨_, List.getElem?_set_self (by first | exact hil | (simp only [List.length_set]; exact hil)), ?_⟩
    conv => whnf
    refine ⟨_, List.getElem?_set_self (by first | exact hil | (simp only [List.length_set]; exact hil)), ?_⟩
    conv => whnf
    rw [w64 (x := (i : Int) + 1) (by omega) (by omega), show IntKind.i64.wrap (4 - 1) = 3 from rfl, List.set_set, List.set_set]
    refine kK _ _ ?_
    conv => whnf
    refine ⟨⟨i + 1, L.set i (AV.st [.ar 32 .lf (by8 ((⟨w.h, bh me n w.of_, 3⟩ : Fw)).h), .sc (.int .i64 ((⟨w.h, bh me n w.of_, 3⟩ : Fw)).of_), .sc (.int .i64 ((⟨w.h, bh me n w.of_, 3⟩ : Fw)).left_)]), by omega, ?_, ?_⟩, ?_⟩
    · rw [← hts, t1]
      exact hsl _
    · rw [hms]
      unfold msA
      rw [List.map_append]
      rfl
    · show l.length - ((i : Int) + 1).toNat < l.length - (i : Int).toNat
      omega
  · rw [if_neg h0] at hms t1
    refine Branch.no (by rw [beq_eq_false_iff_ne]; exact h0) ?_
    conv => whnf
    refine ⟨_, hat, ?_⟩
    conv => whnf
    rw [w64 (x := w.left_ - 1) (by omega) (by omega)]
    refine ⟨_, hat, ?_⟩
    conv => whnf
    rw [w64 (x := (i : Int) + 1) (by omega) (by omega)]
    refine kK _ _ ?_
    conv => whnf
    refine ⟨⟨i + 1, L.set i (AV.st [.ar 32 .lf (by8 ((⟨w.h, w.of_, w.left_ - 1⟩ : Fw)).h), .sc (.int .i64 ((⟨w.h, w.of_, w.left_ - 1⟩ : Fw)).of_), .sc (.int .i64 ((⟨w.h, w.of_, w.left_ - 1⟩ : Fw)).left_)]), by omega, ?_, ?_⟩, ?_⟩
    · rw [← hts, t1]
      exact hsl _
    · rw [hms, List.append_nil]
      rfl
    · show l.length - ((i : Int) + 1).toNat < l.length - (i : Int).toNat
      omega
end Go.WL.T8
