/- Blocks whose parents are not there yet: the reference's Take, Drop, Wants, Put. No condition. -/
import Derived.Test.YtcmdkiejkheahaaDoorPart33
set_option linter.unusedVariables false
set_option linter.unusedSimpArgs false
namespace Go.WL.T6d
open Go.WL Go.Proofs
set_option maxRecDepth 20000
set_option maxHeartbeats 8000000
def OKW (b : Bl) : Prop := b.txs.length < 4294967296 ∧ shortK b.txs ∧ b.p.length = 32
def hasB (l : List Bl) (h : List UInt8) : Bool := l.any fun b => blH b == h
theorem c_rhas (l : List Bl) (h : List UInt8) (hl : l.length < 4294967295) (hok : ∀ b ∈ l, OKW b) : FnOK Tryd.prog D 104 [(AV.sl (.nd [.ar 32 .lf, .lf, .lf, .lf, .lf]) (blA (l)) .ro), .ar 32 .lf (by8 h)] [] (fun r st => r = (AV.sc (.bool (hasB l h))) ∧ st = []) := by
  refine fnok_of_W hmix tabOK Tryd.func104 rfl rfl (Nat.le_of_ble_eq_true rfl) ?_
  conv => whnf
  refine ⟨false, [0, 3, 5], fun τ => ∃ i : Nat, i ≤ l.length ∧ hasB (l.take i) h = false ∧ τ = ⟨19, [(0, (AV.sl (.nd [.ar 32 .lf, .lf, .lf, .lf, .lf]) (blA (l)) .ro)), (3, .pt 0 []), (5, (AV.sc (.int .i64 ((i : Int)))))], ⟨[(.ar 32 .lf (by8 h), false)], [], 0⟩⟩, fun τ => l.length - (slotI τ 5).toNat, ?_, ?_⟩
  · conv => whnf
    exact ⟨0, by omega, rfl, rfl⟩
  rintro τ ⟨i, hi, hn, rfl⟩
  apply enter3
  intro kk kK
  conv => whnf
  rw [bl_len]
  refine Branch.of (fun h1 => ?_) (fun h1 => ?_) <;> rw [h1] <;> conv => whnf
  rotate_left
  · have h1 := of_decide_eq_false h1
    obtain rfl : i = l.length := by omega
    rw [List.take_length] at hn
    refine kK _ _ ?_
    conv => whnf
    refine ⟨false, [], ?_⟩
    conv => whnf
    exact ⟨by rw [hn], rfl⟩
  have h1 := of_decide_eq_true h1
  have ih : i < l.length := by omega
  have hat := bl_at ih
  have hk := hok l[i] (List.getElem_mem ih)
  have ch := c_bhashR l[i] hk.1 hk.2.1 hk.2.2
  have e1 : hasB (l.take (i + 1)) h = (hasB (l.take i) h || (blH l[i] == h)) := by
    unfold hasB
    rw [List.take_succ_eq_append_getElem ih, List.any_append]
    simp
  have e2 : (blH l[i] == h) = true → hasB l h = true := fun he => List.any_eq_true.2 ⟨l[i], List.getElem_mem ih, he⟩
  rw [hn, Bool.false_or] at e1
  conv => whnf
  refine ⟨tabF104R4, by decide +kernel, ?_⟩
  conv => whnf
  refine ⟨by omega, _, hat, ?_⟩
  refine ⟨_, _, ch, ?_⟩
  conv => whnf
  generalize blH l[i] = H at *
  refine ⟨H, h, rfl, rfl, ?_⟩
  conv => whnf
  cases he : (H == h) with
  | true =>
    conv => whnf
    refine kK _ _ ?_
    conv => whnf
    refine ⟨false, [], ?_⟩
    conv => whnf
    exact ⟨by rw [e2 he], rfl⟩
  | false =>
    conv => whnf
    rw [w64 (x := (i : Int) + 1) (by omega) (by omega)]
    refine kK _ _ ?_
    conv => whnf
    refine ⟨⟨i + 1, by omega, by rw [e1, he], rfl⟩, ?_⟩
    show l.length - ((i : Int) + 1).toNat < l.length - (i : Int).toNat
    omega
theorem c_rall (a b : List Bl) (ha : a.length < 4294967295) (hoa : ∀ x ∈ a, OKW x) : FnOK Tryd.prog D 57 [(AV.sl (.nd [.ar 32 .lf, .lf, .lf, .lf, .lf]) (blA (a)) .ro), (AV.sl (.nd [.ar 32 .lf, .lf, .lf, .lf, .lf]) (blA (b)) .ro)] [] (fun r st => r = (AV.sc (.bool (decide (a = b)))) ∧ st = []) := by
  refine fnok_of_W hmix tabOK Tryd.func57 rfl rfl (Nat.le_of_ble_eq_true rfl) ?_
  conv => whnf
  rw [bl_len, bl_len]
  by_cases hl : a.length = b.length
  rotate_left
  · refine Branch.yes (bne_iff_ne.2 fun h => hl (by omega)) ?_
    conv => whnf
    refine ⟨false, [], ?_⟩
    conv => whnf
    exact ⟨by rw [decide_eq_false fun h => hl (by rw [h])], rfl⟩
  refine Branch.no (by rw [bne_eq_false_iff_eq]; omega) ?_
  conv => whnf
  refine ⟨false, [0, 1, 5], fun τ => ∃ i : Nat, i ≤ a.length ∧ a.take i = b.take i ∧ τ = ⟨27, [(0, (AV.sl (.nd [.ar 32 .lf, .lf, .lf, .lf, .lf]) (blA (a)) .ro)), (1, (AV.sl (.nd [.ar 32 .lf, .lf, .lf, .lf, .lf]) (blA (b)) .ro)), (5, (AV.sc (.int .i64 ((i : Int)))))], ⟨[], [], 0⟩⟩, fun τ => a.length - (slotI τ 5).toNat, ?_, ?_⟩
  · conv => whnf
    exact ⟨0, by omega, rfl, rfl⟩
  rintro τ ⟨i, hi, hn, rfl⟩
  apply enter3
  intro kk kK
  conv => whnf
  rw [bl_len]
  refine Branch.of (fun h1 => ?_) (fun h1 => ?_) <;> rw [h1] <;> conv => whnf
  rotate_left
  · have h1 := of_decide_eq_false h1
    obtain rfl : i = a.length := by omega
    rw [List.take_length, List.take_of_length_le (by omega)] at hn
    refine kK _ _ ?_
    conv => whnf
    refine ⟨false, [], ?_⟩
    conv => whnf
    exact ⟨by rw [decide_eq_true hn], rfl⟩
  have h1 := of_decide_eq_true h1
  have ih : i < a.length := by omega
  have ihb : i < b.length := by omega
  have hat := bl_at ih
  have hbt := bl_at ihb
  have cs := c_bsameR a[i] b[i] (hoa a[i] (List.getElem_mem ih)).1
  conv => whnf
  refine ⟨tabF57R6, by decide +kernel, ?_⟩
  conv => whnf
  refine ⟨by omega, _, hat, ?_⟩
  conv => whnf
  refine ⟨by omega, _, hbt, ?_⟩
  refine ⟨_, _, cs, ?_⟩
  conv => whnf
  by_cases he : a[i] = b[i]
  · rw [decide_eq_true he]
    conv => whnf
    rw [w64 (x := (i : Int) + 1) (by omega) (by omega)]
    refine kK _ _ ?_
    conv => whnf
    refine ⟨⟨i + 1, by omega, by rw [List.take_succ_eq_append_getElem ih, List.take_succ_eq_append_getElem ihb, hn, he], rfl⟩, ?_⟩
    show a.length - ((i : Int) + 1).toNat < a.length - (i : Int).toNat
    omega
  · rw [decide_eq_false he]
    conv => whnf
    refine kK _ _ ?_
    conv => whnf
    refine ⟨false, [], ?_⟩
    conv => whnf
    exact ⟨by rw [decide_eq_false fun h => he (by subst h; rfl)], rfl⟩
end Go.WL.T6d
namespace Go.WL.T6d
open Go.WL Go.Proofs
set_option maxRecDepth 20000
set_option maxHeartbeats 8000000
def hsA (l : List (List UInt8)) : List AV := l.map fun h => AV.ar 32 .lf (by8 h)
theorem hs_len (l : List (List UInt8)) : (hsA l).length = l.length := List.length_map ..
theorem hs_at {l : List (List UInt8)} {i : Nat} (h : i < l.length) : (hsA l)[((i : Nat) : Int).toNat]? = some (.ar 32 .lf (by8 l[i])) := by simp [hsA, h]
theorem bl_app (l : List Bl) (b : Bl) : blA l ++ [(AV.st [.ar 32 .lf (by8 (b).p), .sc (.int .i64 (b).v), .sc (.int .i64 (b).h), .sc (.int .i64 (b).by_), .sl (.nd [.lf, .lf, .lf, .lf, .lf, .lf, .lf]) (txsA (b).txs) .ro])] = blA (l ++ [b]) := by simp [blA]
theorem hs_app (l : List (List UInt8)) (h : List UInt8) : hsA l ++ [.ar 32 .lf (by8 h)] = hsA (l ++ [h]) := by simp [hsA]
theorem fil_succ (p : Bl → Bool) (l : List Bl) (i : Nat) (h : i < l.length) : (l.take (i + 1)).filter p = (l.take i).filter p ++ (if p l[i] = true then [l[i]] else []) := by
  rw [List.take_succ_eq_append_getElem h, List.filter_append]
  cases hp : p l[i] <;> simp [hp]
theorem fil_le (p : Bl → Bool) (l : List Bl) (i : Nat) : ((l.take i).filter p).length ≤ i := by
  have := List.length_filter_le p (l.take i)
  rw [List.length_take] at this
  omega
theorem c_rtake (l : List Bl) (h : List UInt8) (hl : l.length < 4294967295) : FnOK Tryd.prog D 56 [(AV.sl (.nd [.ar 32 .lf, .lf, .lf, .lf, .lf]) (blA (l)) .ro), .ar 32 .lf (by8 h)] [] (fun r st => r = .tup [(AV.sl (.nd [.ar 32 .lf, .lf, .lf, .lf, .lf]) (blA ((l.filter fun b => b.p == h))) .ro), (AV.sl (.nd [.ar 32 .lf, .lf, .lf, .lf, .lf]) (blA ((l.filter fun b => !(b.p == h)))) .ro)] ∧ st = []) := by
  refine fnok_of_Ws [1702006, 1702007] hmix tabOK Tryd.func56 rfl rfl (Nat.le_of_ble_eq_true rfl) ?_
  conv => whnf
  refine ⟨false, [0, 3, 6, 7, 8], fun τ => ∃ i : Nat, i ≤ l.length ∧ τ = ⟨40, [(0, (AV.sl (.nd [.ar 32 .lf, .lf, .lf, .lf, .lf]) (blA (l)) .ro)), (3, .pt 0 []), (6, .sl (.nd [.ar 32 .lf, .lf, .lf, .lf, .lf]) (blA ((l.take i).filter fun b => b.p == h)) (.own 0)), (7, .sl (.nd [.ar 32 .lf, .lf, .lf, .lf, .lf]) (blA ((l.take i).filter fun b => !(b.p == h))) (.own 1)), (8, (AV.sc (.int .i64 ((i : Int)))))], ⟨[(.ar 32 .lf (by8 h), false)], [0, 1], 2⟩⟩, fun τ => l.length - (slotI τ 8).toNat, ?_, ?_⟩
  · conv => whnf
    exact ⟨0, by omega, rfl⟩
  rintro τ ⟨i, hi, rfl⟩
  apply enter3
  intro kk kK
  conv => whnf
  rw [bl_len]
  refine Branch.of (fun h1 => ?_) (fun h1 => ?_) <;> rw [h1] <;> conv => whnf
  rotate_left
  · have h1 := of_decide_eq_false h1
    obtain rfl : i = l.length := by omega
    rw [List.take_length]
    refine kK _ _ ?_
    conv => whnf
    refine ⟨false, [999], ?_⟩
    conv => whnf
    exact ⟨rfl, rfl⟩
  have h1 := of_decide_eq_true h1
  have ih : i < l.length := by omega
  have hat := bl_at ih
  have f1 := fil_succ (fun b => b.p == h) l i ih
  have f2 := fil_succ (fun b => !(b.p == h)) l i ih
  have n1 := fil_le (fun b => b.p == h) l i
  have n2 := fil_le (fun b => !(b.p == h)) l i
  conv => whnf
  refine ⟨tabF56R5, by decide +kernel, ?_⟩
  conv => whnf
  refine ⟨by omega, _, hat, ?_⟩
  conv => whnf
  refine ⟨l[i].p, h, rfl, rfl, ?_⟩
  conv => whnf
  cases he : (l[i].p == h) with
  | true =>
    conv => whnf
    refine ⟨by omega, _, hat, ?_⟩
    conv => whnf
    refine ⟨by rw [bl_len]; simp only [List.length_cons, List.length_nil]; omega, ?_⟩
    conv => whnf
    rw [w64 (x := (i : Int) + 1) (by omega) (by omega)]
    refine kK _ _ ?_
    conv => whnf
    refine ⟨⟨i + 1, by omega, ?_⟩, ?_⟩
    · simp only [he, Bool.not_true, Bool.not_false, if_true, if_false, List.append_nil, Bool.false_eq_true] at f1 f2
      rw [f1, f2, ← bl_app]
      all_goals exact rfl
    · show l.length - ((i : Int) + 1).toNat < l.length - (i : Int).toNat
      omega
  | false =>
    conv => whnf
    refine ⟨by omega, _, hat, ?_⟩
    conv => whnf
    refine ⟨by rw [bl_len]; simp only [List.length_cons, List.length_nil]; omega, ?_⟩
    conv => whnf
    rw [w64 (x := (i : Int) + 1) (by omega) (by omega)]
    refine kK _ _ ?_
    conv => whnf
    refine ⟨⟨i + 1, by omega, ?_⟩, ?_⟩
    · simp only [he, Bool.not_true, Bool.not_false, if_true, if_false, List.append_nil, Bool.false_eq_true] at f1 f2
      rw [f1, f2, ← bl_app]
      all_goals exact rfl
    · show l.length - ((i : Int) + 1).toNat < l.length - (i : Int).toNat
      omega
theorem c_rdrop (l : List Bl) (v : Int) (hl : l.length < 4294967295) : FnOK Tryd.prog D 59 [(AV.sl (.nd [.ar 32 .lf, .lf, .lf, .lf, .lf]) (blA (l)) .ro), (AV.sc (.int .i64 (v)))] [] (fun r st => r = (AV.sl (.nd [.ar 32 .lf, .lf, .lf, .lf, .lf]) (blA ((l.filter fun b => !decide (b.v ≤ v)))) .ro) ∧ st = []) := by
  refine fnok_of_Ws [1702005] hmix tabOK Tryd.func59 rfl rfl (Nat.le_of_ble_eq_true rfl) ?_
  conv => whnf
  refine ⟨false, [0, 1, 5, 6], fun τ => ∃ i : Nat, i ≤ l.length ∧ τ = ⟨29, [(0, (AV.sl (.nd [.ar 32 .lf, .lf, .lf, .lf, .lf]) (blA (l)) .ro)), (1, (AV.sc (.int .i64 (v)))), (5, .sl (.nd [.ar 32 .lf, .lf, .lf, .lf, .lf]) (blA ((l.take i).filter fun b => !decide (b.v ≤ v))) (.own 0)), (6, (AV.sc (.int .i64 ((i : Int)))))], ⟨[], [0], 1⟩⟩, fun τ => l.length - (slotI τ 6).toNat, ?_, ?_⟩
  · conv => whnf
    exact ⟨0, by omega, rfl⟩
  rintro τ ⟨i, hi, rfl⟩
  apply enter3
  intro kk kK
  conv => whnf
  rw [bl_len]
  refine Branch.of (fun h1 => ?_) (fun h1 => ?_) <;> rw [h1] <;> conv => whnf
  rotate_left
  · have h1 := of_decide_eq_false h1
    obtain rfl : i = l.length := by omega
    rw [List.take_length]
    refine kK _ _ ?_
    conv => whnf
    refine ⟨false, [999], ?_⟩
    conv => whnf
    exact ⟨rfl, rfl⟩
  have h1 := of_decide_eq_true h1
  have ih : i < l.length := by omega
  have hat := bl_at ih
  have f1 := fil_succ (fun b => !decide (b.v ≤ v)) l i ih
  have n1 := fil_le (fun b => !decide (b.v ≤ v)) l i
  conv => whnf
  refine ⟨by omega, _, hat, ?_⟩
  conv => whnf
  by_cases he : l[i].v ≤ v
  · rw [show decide (l[i].v > v) = false from decide_eq_false (by omega)]
    conv => whnf
    rw [w64 (x := (i : Int) + 1) (by omega) (by omega)]
    refine kK _ _ ?_
    conv => whnf
    refine ⟨⟨i + 1, by omega, ?_⟩, ?_⟩
    · simp only [decide_eq_true he, Bool.not_true, Bool.not_false, if_true, if_false, List.append_nil, Bool.false_eq_true] at f1
      rw [f1]
      all_goals exact rfl
    · show l.length - ((i : Int) + 1).toNat < l.length - (i : Int).toNat
      omega
  · rw [show decide (l[i].v > v) = true from decide_eq_true (by omega)]
    conv => whnf
    refine ⟨by omega, _, hat, ?_⟩
    conv => whnf
    refine ⟨by rw [bl_len]; simp only [List.length_cons, List.length_nil]; omega, ?_⟩
    conv => whnf
    rw [w64 (x := (i : Int) + 1) (by omega) (by omega)]
    refine kK _ _ ?_
    conv => whnf
    refine ⟨⟨i + 1, by omega, ?_⟩, ?_⟩
    · simp only [decide_eq_false he, Bool.not_true, Bool.not_false, if_true, if_false, List.append_nil, Bool.false_eq_true] at f1
      rw [f1, ← bl_app]
      all_goals exact rfl
    · show l.length - ((i : Int) + 1).toNat < l.length - (i : Int).toNat
      omega
end Go.WL.T6d
