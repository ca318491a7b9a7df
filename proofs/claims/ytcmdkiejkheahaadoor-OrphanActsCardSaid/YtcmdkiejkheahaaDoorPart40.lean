/- Blocks whose parents are not there yet: the reference's Put and Wants. No condition. -/
import Derived.Test.YtcmdkiejkheahaaDoorPart39
set_option linter.unusedVariables false
set_option linter.unusedSimpArgs false
namespace Go.WL.T6d
open Go.WL Go.Proofs
set_option maxRecDepth 20000
set_option maxHeartbeats 8000000
def opEB (W : List Bl) (x : Bl) : Int := if mayB x = false ∨ x.v = 0 then 1 else if hasB W (blH x) = true then 15 else 0
def opLB (W : List Bl) (x : Bl) : List Bl := if opEB W x = 0 then (if 32 < (W ++ [x]).length then (W ++ [x]).drop 1 else W ++ [x]) else W
theorem c_rput (W : List Bl) (x : Bl) (hW : W.length ≤ 1000) (hok : ∀ b ∈ W, OKW b) (hx : OKW x) (E : Int) (hE : opEB W x = E) (W2 : List Bl) (hW2 : opLB W x = W2) : FnOK Tryd.prog D 61 [(AV.sl (.nd [.ar 32 .lf, .lf, .lf, .lf, .lf]) (blA (W)) .ro), (AV.st [.ar 32 .lf (by8 (x).p), .sc (.int .i64 (x).v), .sc (.int .i64 (x).h), .sc (.int .i64 (x).by_), .sl (.nd [.lf, .lf, .lf, .lf, .lf, .lf, .lf]) (txsA (x).txs) .ro])] [] (fun r st => r = .tup [(AV.sl (.nd [.ar 32 .lf, .lf, .lf, .lf, .lf]) (blA (W2)) .ro), (AV.sc (.int .i64 (E)))] ∧ st = []) := by
  unfold opLB at hW2
  rw [hE] at hW2
  unfold opEB at hE
  have cm := c_bmayR x hx.1 hx.2.1
  have ch := c_bhashR x hx.1 hx.2.1 hx.2.2
  have cs := c_rhas W (blH x) (by omega) hok
  refine fnok_of_W hmix tabOK Tryd.func61 rfl rfl (Nat.le_of_ble_eq_true rfl) ?_
  conv => whnf
  refine (cm).mono fun r st e => ?_
  obtain ⟨rfl, rfl⟩ := e
  conv => whnf
  cases hm : mayB x with
  | false =>
    rw [if_pos (.inl hm)] at hE
    subst hE
    rw [if_neg (by decide)] at hW2
    subst hW2
    conv => whnf
    refine ⟨false, [], ?_⟩
    conv => whnf
    exact ⟨rfl, rfl⟩
  | true =>
  conv => whnf
  by_cases hv : x.v = 0
  · rw [if_pos (.inr hv)] at hE
    subst hE
    rw [if_neg (by decide)] at hW2
    subst hW2
    rw [show (x.v == 0) = true from decide_eq_true hv]
    conv => whnf
    refine ⟨false, [], ?_⟩
    conv => whnf
    exact ⟨rfl, rfl⟩
  rw [if_neg (by rw [hm]; simp [hv])] at hE
  rw [show (x.v == 0) = false from decide_eq_false hv]
  conv => whnf
  refine (ch).mono fun r st e => ?_
  obtain ⟨rfl, rfl⟩ := e
  conv => whnf
  generalize blH x = H at *
  refine (cs).mono fun r st e => ?_
  obtain ⟨rfl, rfl⟩ := e
  conv => whnf
  cases hh : hasB W H with
  | true =>
    rw [if_pos hh] at hE
    subst hE
    rw [if_neg (by decide)] at hW2
    subst hW2
    conv => whnf
    refine ⟨false, [], ?_⟩
    conv => whnf
    exact ⟨rfl, rfl⟩
  | false =>
  rw [if_neg (by rw [hh]; simp)] at hE
  subst hE
  rw [if_pos rfl] at hW2
  conv => whnf
  refine ⟨tabF61R5, by decide +kernel, ?_⟩
  conv => whnf
  refine ⟨by rw [bl_len]; simp only [List.length_replicate]; omega, ?_⟩
  conv => whnf
  refine ⟨by simp only [List.length_append, bl_len, List.length_replicate, List.length_cons, List.length_nil]; omega, ?_⟩
  conv => whnf
  rw [show List.replicate 0 (AV.st [.ar 32 .lf (List.replicate 32 (.sc (.int .u8 0))), .sc (.int .i64 0), .sc (.int .i64 0), .sc (.int .i64 0), .sl (.nd [.lf, .lf, .lf, .lf, .lf, .lf, .lf]) [] .ex]) ++ blA W ++ [(AV.st [.ar 32 .lf (by8 (x).p), .sc (.int .i64 (x).v), .sc (.int .i64 (x).h), .sc (.int .i64 (x).by_), .sl (.nd [.lf, .lf, .lf, .lf, .lf, .lf, .lf]) (txsA (x).txs) .ro])] = blA (W ++ [x]) by rw [List.replicate_zero, List.nil_append, bl_app]]
  rw [bl_len]
  by_cases h32 : 32 < (W ++ [x]).length
  · rw [if_pos h32] at hW2
    refine Branch.yes (decide_eq_true (by omega)) ?_
    conv => whnf
    refine ⟨by omega, ?_⟩
    conv => whnf
    rw [bl_len]
    refine ⟨by omega, by omega, ?_⟩
    conv => whnf
    refine ⟨false, [999], ?_⟩
    conv => whnf
    rw [show List.take ((W ++ [x]).length - Int.toNat 1) (List.drop (Int.toNat 1) (blA (W ++ [x]))) = blA W2 by
      rw [show Int.toNat 1 = 1 from rfl, List.take_of_length_le (by rw [List.length_drop, bl_len]; exact Nat.le_refl _), ← hW2]
      unfold blA
      rw [List.map_drop]]
    exact ⟨rfl, rfl⟩
  · rw [if_neg h32] at hW2
    subst hW2
    refine Branch.no (decide_eq_false (by omega)) ?_
    conv => whnf
    refine ⟨false, [999], ?_⟩
    conv => whnf
    exact ⟨rfl, rfl⟩
theorem c_rwants (W : List Bl) (hW : W.length ≤ 1000) (hok : ∀ b ∈ W, OKW b) : FnOK Tryd.prog D 64 [(AV.sl (.nd [.ar 32 .lf, .lf, .lf, .lf, .lf]) (blA (W)) .ro)] [] (fun r st => r = .sl (.ar 32 .lf) (hsA (wnt (hasB W) W)) .ro ∧ st = []) := by
  refine fnok_of_Ws [1702003] hmix tabOK Tryd.func64 rfl rfl (Nat.le_of_ble_eq_true rfl) ?_
  conv => whnf
  refine ⟨false, [0, 3, 4], fun τ => ∃ i : Nat, i ≤ W.length ∧ τ = ⟨51, [(0, (AV.sl (.nd [.ar 32 .lf, .lf, .lf, .lf, .lf]) (blA (W)) .ro)), (3, .sl (.ar 32 .lf) (hsA (wnt (hasB W) (W.take i))) (.own 0)), (4, (AV.sc (.int .i64 ((i : Int)))))], ⟨[], [0], 1⟩⟩, fun τ => W.length - (slotI τ 4).toNat, ?_, ?_⟩
  · conv => whnf
    exact ⟨0, by omega, rfl⟩
  rintro τ ⟨i, hi, rfl⟩
  apply enter3
  intro kk kK
  conv => whnf
  rw [bl_len]
  refine Branch.of (fun h1 => ?_) (fun h1 => ?_) <;> rw [h1] <;> conv => whnf
  rotate_left
  · have h1 := of_decide_eq_false h1
    obtain rfl : i = W.length := by omega
    rw [List.take_length]
    refine kK _ _ ?_
    conv => whnf
    refine ⟨false, [999], ?_⟩
    conv => whnf
    exact ⟨rfl, rfl⟩
  have h1 := of_decide_eq_true h1
  have ih : i < W.length := by omega
  have hat := bl_at ih
  have hs := wnt_succ (hasB W) W i ih
  have hle := wnt_le (hasB W) W i
  have cs := c_rhas W W[i].p (by omega) hok
  generalize wnt (hasB W) (W.take i) = o at *
  generalize hO2 : wnt (hasB W) (W.take (i + 1)) = o2 at *
  unfold wst at hs
  conv => whnf
  refine ⟨by omega, _, hat, ?_⟩
  conv => whnf
  refine (cs).mono fun r st e => ?_
  obtain ⟨rfl, rfl⟩ := e
  conv => whnf
  refine ⟨false, [0, 3, 4, 5, 6], fun τ => ∃ k : Nat, k ≤ o.length ∧ τ = ⟨51, [(0, (AV.sl (.nd [.ar 32 .lf, .lf, .lf, .lf, .lf]) (blA (W)) .ro)), (3, .sl (.ar 32 .lf) (hsA o) (.own 0)), (4, (AV.sc (.int .i64 ((i : Int))))), (5, (AV.sc (.bool ((hasB W W[i].p || (o.take k).any fun h => h == W[i].p))))), (6, (AV.sc (.int .i64 ((k : Int)))))], ⟨[], [0], 1⟩⟩, fun τ => o.length - (slotI τ 6).toNat, ?_, ?_⟩
  · conv => whnf
    exact ⟨0, by omega, by simp⟩
  rintro τ ⟨k, hk, rfl⟩
  apply enter3
  intro k2 kK2
  conv => whnf
  rw [hs_len]
  refine Branch.of (fun h2 => ?_) (fun h2 => ?_) <;> rw [h2] <;> conv => whnf
  rotate_left
  · have h2 := of_decide_eq_false h2
    obtain rfl : k = o.length := by omega
    rw [List.take_length]
    refine kK2 _ _ ?_
    conv => whnf
    cases hc : (hasB W W[i].p || o.any fun h => h == W[i].p) with
    | true =>
      rw [if_pos (by rw [Bool.or_eq_true] at hc; exact hc)] at hs
      subst hs
      conv => whnf
      rw [w64 (x := (i : Int) + 1) (by omega) (by omega)]
      refine kK _ _ ?_
      conv => whnf
      refine ⟨⟨i + 1, by omega, by rw [hO2]; exact rfl⟩, ?_⟩
      show W.length - ((i : Int) + 1).toNat < W.length - (i : Int).toNat
      omega
    | false =>
      rw [if_neg (by rw [← Bool.or_eq_true, hc]; decide)] at hs
      conv => whnf
      refine ⟨by omega, _, hat, ?_⟩
      conv => whnf
      refine ⟨by rw [hs_len]; simp only [List.length_cons, List.length_nil]; omega, ?_⟩
      conv => whnf
      rw [w64 (x := (i : Int) + 1) (by omega) (by omega)]
      refine kK _ _ ?_
      conv => whnf
      refine ⟨⟨i + 1, by omega, by rw [hO2, hs, ← hs_app]; exact rfl⟩, ?_⟩
      show W.length - ((i : Int) + 1).toNat < W.length - (i : Int).toNat
      omega
  have h2 := of_decide_eq_true h2
  have kh : k < o.length := by omega
  have hot := hs_at kh
  conv => whnf
  refine ⟨tabF64R9, by decide +kernel, ?_⟩
  conv => whnf
  have hk1 : (hasB W W[i].p || (o.take (k + 1)).any fun h => h == W[i].p) = ((hasB W W[i].p || (o.take k).any fun h => h == W[i].p) || (o[k] == W[i].p)) := by
    rw [List.take_succ_eq_append_getElem kh, List.any_append, Bool.or_assoc]
    simp
  generalize (hasB W W[i].p || (o.take k).any fun h => h == W[i].p) = kn at *
  cases kn with
  | true =>
    conv => whnf
    rw [w64 (x := (k : Int) + 1) (by omega) (by omega)]
    refine kK2 _ _ ?_
    conv => whnf
    refine ⟨⟨k + 1, by omega, by rw [hk1]; exact rfl⟩, ?_⟩
    show o.length - ((k : Int) + 1).toNat < o.length - (k : Int).toNat
    omega
  | false =>
    conv => whnf
    refine ⟨by omega, _, hot, ?_⟩
    conv => whnf
    refine ⟨by omega, _, hat, ?_⟩
    conv => whnf
    refine ⟨o[k], W[i].p, rfl, rfl, ?_⟩
    conv => whnf
    rw [w64 (x := (k : Int) + 1) (by omega) (by omega)]
    refine kK2 _ _ ?_
    conv => whnf
    refine ⟨⟨k + 1, by omega, by rw [hk1, Bool.false_or]; exact rfl⟩, ?_⟩
    show o.length - ((k : Int) + 1).toNat < o.length - (k : Int).toNat
    omega
end Go.WL.T6d
