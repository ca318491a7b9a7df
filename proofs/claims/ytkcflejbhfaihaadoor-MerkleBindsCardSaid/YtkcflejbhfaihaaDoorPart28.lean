/- MerkleBinds. No condition. -/
import Derived.Test.YtkcflejbhfaihaaDoorPart27
set_option linter.unusedVariables false
set_option linter.unusedSimpArgs false
namespace Go.WL.T4
open Go.WL Go.Proofs
set_option maxRecDepth 20000
set_option maxHeartbeats 8000000
theorem c_pair_aux (x y A B : List UInt8) (hx : x.length < 1000) (hy : y.length < 1000) (hA : A.length = 32) (hB : B.length = 32)
    (cx : FnOK Tryd.prog D 17 [.sl .lf ([(AV.sc (.int .u8 (1)))] ++ by8 x) .ro] [] (fun r st => r = .ar 32 .lf (by8 A) ∧ st = []))
    (cy : FnOK Tryd.prog D 17 [.sl .lf ([(AV.sc (.int .u8 (1)))] ++ by8 y) .ro] [] (fun r st => r = .ar 32 .lf (by8 B) ∧ st = [])) :
    FnOK Tryd.prog D 83 [(AV.sl .lf (by8 (x)) .ro), (AV.sl .lf (by8 (y)) .ro)] [] (fun r st => r = (AV.sc (.bool (!(x == y) && (A == B)))) ∧ st = []) := by
  refine fnok_of_W hmix tabOK Tryd.func83 rfl rfl (Nat.le_of_ble_eq_true rfl) ?_
  conv => whnf
  refine (c_same x y (by omega) (.inr rfl) (.inr rfl)).mono fun r st e => ?_
  obtain ⟨rfl, rfl⟩ := e
  conv => whnf
  cases h : (x == y)
  · conv => whnf
    refine And.intro (by rw [len8]; show 1 + _ < _; omega) ?_
    conv => whnf
    refine (cx).mono fun r st e => ?_
    obtain ⟨rfl, rfl⟩ := e
    conv => whnf
    refine And.intro (by rw [len8]; show 1 + _ < _; omega) ?_
    conv => whnf
    refine (cy).mono fun r st e => ?_
    obtain ⟨rfl, rfl⟩ := e
    conv => whnf
    refine ⟨A, B, rfl, rfl, ?_⟩
    conv => whnf
    refine ⟨false, [], ?_⟩
    conv => whnf
    refine ⟨?_, rfl⟩
    rfl
  · conv => whnf
    refine ⟨false, [], ?_⟩
    conv => whnf
    exact ⟨rfl, rfl⟩
theorem c_pair (x y : List UInt8) (hx : x.length < 1000) (hy : y.length < 1000) : FnOK Tryd.prog D 83 [(AV.sl .lf (by8 (x)) .ro), (AV.sl .lf (by8 (y)) .ro)] [] (fun r st => r = (AV.sc (.bool (pairB x y))) ∧ st = []) := by
  have h1 := c_refsha (1 :: x) (by simp; omega)
  have h2 := c_refsha (1 :: y) (by simp; omega)
  exact c_pair_aux x y _ _ hx hy (shaB_len _) (shaB_len _) h1 h2
theorem c_twice_one (l : List (List UInt8)) (a : Nat) (t : List UInt8) (pr : List (List UInt8)) (h1 : l.length = 1) (A B : List UInt8) (hA : A.length = 32) (hB : B.length = 32)
    (ct : FnOK Tryd.prog D 77 [(AV.sl .lf (by8 (t)) .ro)] [] (fun r st => r = .ar 32 .lf (by8 A) ∧ st = []))
    (cl : FnOK Tryd.prog D 77 [(AV.sl .lf (by8 (l.headD [])) .ro)] [] (fun r st => r = .ar 32 .lf (by8 B) ∧ st = [])) :
    FnOK Tryd.prog D 57 [.sl .lf (byL l) .ro, (AV.sc (.int .i64 ((a : Int)))), (AV.sl .lf (by8 (t)) .ro), .sl (.ar 32 .lf) (byH pr) .ro] [] (fun r st => r = (AV.sc (.bool (A == B))) ∧ st = []) := by
  obtain ⟨u, rfl⟩ := List.length_eq_one_iff.1 h1
  refine fnok_of_W hmix tabOK Tryd.func57 rfl rfl (Nat.le_of_ble_eq_true rfl) ?_
  conv => whnf
  refine ⟨tabF57R2, by decide +kernel, ?_⟩
  conv => whnf
  refine ⟨_, _, ct, ?_⟩
  conv => whnf
  repeat (refine And.intro (by first | omega) ?_; conv => whnf)
  refine ⟨_, (show (byL [u])[Int.toNat 0]? = some (AV.sl .lf (by8 (u)) .ro) from rfl), ?_⟩
  conv => whnf
  refine ⟨_, _, cl, ?_⟩
  conv => whnf
  refine ⟨A, B, rfl, rfl, ?_⟩
  conv => whnf
  refine ⟨false, [], ?_⟩
  conv => whnf
  exact ⟨rfl, rfl⟩
theorem halfLoop {n j k : Nat} (h2 : 2 ≤ n) (hk : k = 2 ^ j) (hkn : k ≤ n - 1) (h1 : ¬ 2 * k < n) : k = hf n := by
  have h3 : Nat.log2 (n - 1) = j := by
    have h4 := (Nat.le_log2 (show n - 1 ≠ 0 by omega) (k := j)).2 (by omega)
    have h5 := (Nat.log2_lt (show n - 1 ≠ 0 by omega) (k := j + 1)).2 (by rw [Nat.pow_succ]; omega)
    omega
  unfold hf
  rw [h3, hk]
theorem c_twice_left (l : List (List UInt8)) (a : Nat) (t : List UInt8) (q : List (List UInt8)) (p X A B : List UInt8) (b : Bool) (h2 : 2 ≤ l.length) (hl : l.length ≤ 20) (hq : q.length < 100000) (e2 : a < hf l.length) (hp : p.length = 32) (hX : X.length = 32) (hA : A.length = 32) (hB : B.length = 32)
    (cu : FnOK Tryd.prog D 56 [(AV.sc (.int .i64 ((hf l.length : Int)))), (AV.sc (.int .i64 ((a : Int)))), (AV.sl .lf (by8 (t)) .ro), .sl (.ar 32 .lf) (byH q) .ro] [] (fun r st => r = .ar 32 .lf (by8 X) ∧ st = []))
    (cA : FnOK Tryd.prog D 51 [.sl .lf (byL (l.take (hf l.length))) .ro] [] (fun r st => r = .ar 32 .lf (by8 A) ∧ st = []))
    (cB : FnOK Tryd.prog D 51 [.sl .lf (byL (l.drop (hf l.length))) .ro] [] (fun r st => r = .ar 32 .lf (by8 B) ∧ st = []))
    (cw : FnOK Tryd.prog D 57 [.sl .lf (byL (l.take (hf l.length))) .ro, (AV.sc (.int .i64 ((a : Int)))), (AV.sl .lf (by8 (t)) .ro), .sl (.ar 32 .lf) (byH q) .ro] [] (fun r st => r = (AV.sc (.bool (b))) ∧ st = [])) :
    FnOK Tryd.prog D 57 [.sl .lf (byL l) .ro, (AV.sc (.int .i64 ((a : Int)))), (AV.sl .lf (by8 (t)) .ro), .sl (.ar 32 .lf) (byH (q ++ [p])) .ro] [] (fun r st => r = (AV.sc (.bool (pairB (X ++ p) (A ++ B) || b))) ∧ st = []) := by
  have hlen := lenL l
  have hq1 : (byH (q ++ [p])).length = q.length + 1 := by simp [byH]
  refine fnok_of_W hmix tabOK Tryd.func57 rfl rfl (Nat.le_of_ble_eq_true rfl) ?_
  conv => whnf
  rw [hlen]
  refine Branch.of (fun hh => ?_) (fun hh => ?_)
  · exfalso; simp only [gt_iff_lt, ge_iff_le, decide_eq_true_eq, decide_eq_false_iff_not, beq_iff_eq, beq_eq_false_iff_ne, bne_iff_ne, bne_eq_false_iff_eq, ne_eq] at hh; first | done | omega | (simp at hh; done)
  try rw [hh]
  clear hh
  conv => whnf
  refine ⟨false, [0, 1, 2, 3, 9], fun τ => ∃ (j k : Nat), k = 2 ^ j ∧ k ≤ l.length - 1 ∧ τ = ⟨125, [(0, .sl .lf (byL l) .ro), (1, (AV.sc (.int .i64 ((a : Int))))), (2, (AV.sl .lf (by8 (t)) .ro)), (3, .sl (.ar 32 .lf) (byH (q ++ [p])) .ro), (9, (AV.sc (.int .i64 ((k : Int)))))], ⟨[], [], 0⟩⟩, fun τ => l.length - (slotI τ 9).toNat, ?_, ?_⟩
  · conv => whnf
    exact ⟨0, 1, rfl, by omega, rfl⟩
  rintro τ ⟨j, k, hk, hkn, rfl⟩
  have hk0 : 0 < k := by rw [hk]; exact Nat.two_pow_pos _
  conv => whnf
  rw [w64 (x := 2 * (k : Int)) (by omega) (by omega), hlen]
  refine Branch.of (fun h1 => ?_) (fun h1 => ?_) <;> rw [h1] <;> conv => whnf
  · simp only [decide_eq_true_eq] at h1
    rw [w64 (x := 2 * (k : Int)) (by omega) (by omega), show 2 * (k : Int) = ((2 * k : Nat) : Int) by omega]
    refine ⟨⟨j + 1, 2 * k, by rw [hk, Nat.pow_succ, Nat.mul_comm], by omega, rfl⟩, ?_⟩
    show l.length - (((2 * k : Nat) : Int)).toNat < l.length - ((k : Int)).toNat
    omega
  simp only [decide_eq_false_iff_not] at h1
  obtain rfl := halfLoop h2 hk hkn (by omega)
  rw [hq1, show (((q.length + 1 : Nat) : Int) == 0) = false from beq_false_of_ne (by omega)]
  conv => whnf
  refine ⟨tabF57R8, by decide +kernel, ?_⟩
  conv => whnf
  rw [hq1, w64 (x := ((q.length + 1 : Nat) : Int) - 1) (by omega) (by omega), show ((q.length + 1 : Nat) : Int) - 1 = (q.length : Int) by omega]
  repeat (refine And.intro (by first | omega) ?_; conv => whnf)
  refine ⟨_, (show (byH (q ++ [p]))[((q.length : Nat) : Int).toNat]? = some (AV.ar 32 .lf (by8 p)) by simp [byH]), ?_⟩
  conv => whnf
  rw [hq1, w64 (x := ((q.length + 1 : Nat) : Int) - 1) (by omega) (by omega), show ((q.length + 1 : Nat) : Int) - 1 = (q.length : Int) by omega]
  repeat (refine And.intro (by first | omega) ?_; conv => whnf)
  rw [show List.take ((q.length : Int).toNat - 0) (List.drop 0 (byH (q ++ [p]))) = byH q by simp [byH]]
  rw [show decide ((a : Int) < (hf l.length : Int)) = true from decide_eq_true (by omega)]
  conv => whnf
  refine (cu).mono fun r st e => ?_
  obtain ⟨rfl, rfl⟩ := e
  conv => whnf
  refine (c_bytesR X hX).mono fun r st e => ?_
  obtain ⟨rfl, rfl⟩ := e
  conv => whnf
  refine ⟨tabF57R11, by decide +kernel, ?_⟩
  conv => whnf
  repeat (refine And.intro (by first | omega) ?_; conv => whnf)
  rw [takeL]
  refine ⟨_, _, cA, ?_⟩
  conv => whnf
  refine ⟨_, _, c_bytesR A hA, ?_⟩
  conv => whnf
  repeat (refine And.intro (by first | omega) ?_; conv => whnf)
  rw [dropL]
  refine ⟨_, _, cB, ?_⟩
  conv => whnf
  refine ⟨_, _, c_bytesR B hB, ?_⟩
  conv => whnf
  refine (c_bytesR p hp).mono fun r st e => ?_
  obtain ⟨rfl, rfl⟩ := e
  conv => whnf
  refine And.intro (by rw [len8, len8, hX, hp]; decide) ?_
  conv => whnf
  refine And.intro (by rw [len8, len8, hA, hB]; decide) ?_
  conv => whnf
  rw [by8_ap, by8_ap]
  refine (c_pair (X ++ p) (A ++ B) (by rw [List.length_append]; omega) (by rw [List.length_append]; omega)).mono fun r st e => ?_
  obtain ⟨rfl, rfl⟩ := e
  conv => whnf
  cases h : pairB (X ++ p) (A ++ B)
  · conv => whnf
    repeat (refine And.intro (by first | omega) ?_; conv => whnf)
    rw [takeL]
    refine (cw).mono fun r st e => ?_
    obtain ⟨rfl, rfl⟩ := e
    conv => whnf
    refine ⟨false, [], ?_⟩
    conv => whnf
    exact ⟨rfl, rfl⟩
  · conv => whnf
    refine ⟨false, [], ?_⟩
    conv => whnf
    exact ⟨rfl, rfl⟩
theorem c_twice_right (l : List (List UInt8)) (a : Nat) (t : List UInt8) (q : List (List UInt8)) (p X A B : List UInt8) (b : Bool) (h2 : 2 ≤ l.length) (hl : l.length ≤ 20) (hq : q.length < 100000) (e2 : ¬ a < hf l.length) (hal : a < l.length) (hp : p.length = 32) (hX : X.length = 32) (hA : A.length = 32) (hB : B.length = 32)
    (cu : FnOK Tryd.prog D 56 [(AV.sc (.int .i64 (((l.length - hf l.length : Nat) : Int)))), (AV.sc (.int .i64 (((a - hf l.length : Nat) : Int)))), (AV.sl .lf (by8 (t)) .ro), .sl (.ar 32 .lf) (byH q) .ro] [] (fun r st => r = .ar 32 .lf (by8 X) ∧ st = []))
    (cA : FnOK Tryd.prog D 51 [.sl .lf (byL (l.take (hf l.length))) .ro] [] (fun r st => r = .ar 32 .lf (by8 A) ∧ st = []))
    (cB : FnOK Tryd.prog D 51 [.sl .lf (byL (l.drop (hf l.length))) .ro] [] (fun r st => r = .ar 32 .lf (by8 B) ∧ st = []))
    (cw : FnOK Tryd.prog D 57 [.sl .lf (byL (l.drop (hf l.length))) .ro, (AV.sc (.int .i64 (((a - hf l.length : Nat) : Int)))), (AV.sl .lf (by8 (t)) .ro), .sl (.ar 32 .lf) (byH q) .ro] [] (fun r st => r = (AV.sc (.bool (b))) ∧ st = [])) :
    FnOK Tryd.prog D 57 [.sl .lf (byL l) .ro, (AV.sc (.int .i64 ((a : Int)))), (AV.sl .lf (by8 (t)) .ro), .sl (.ar 32 .lf) (byH (q ++ [p])) .ro] [] (fun r st => r = (AV.sc (.bool (pairB (p ++ X) (A ++ B) || b))) ∧ st = []) := by
  have hlen := lenL l
  have hq1 : (byH (q ++ [p])).length = q.length + 1 := by simp [byH]
  refine fnok_of_W hmix tabOK Tryd.func57 rfl rfl (Nat.le_of_ble_eq_true rfl) ?_
  conv => whnf
  rw [hlen]
  refine Branch.of (fun hh => ?_) (fun hh => ?_)
  · exfalso; simp only [gt_iff_lt, ge_iff_le, decide_eq_true_eq, decide_eq_false_iff_not, beq_iff_eq, beq_eq_false_iff_ne, bne_iff_ne, bne_eq_false_iff_eq, ne_eq] at hh; first | done | omega | (simp at hh; done)
  try rw [hh]
  clear hh
  conv => whnf
  refine ⟨false, [0, 1, 2, 3, 9], fun τ => ∃ (j k : Nat), k = 2 ^ j ∧ k ≤ l.length - 1 ∧ τ = ⟨125, [(0, .sl .lf (byL l) .ro), (1, (AV.sc (.int .i64 ((a : Int))))), (2, (AV.sl .lf (by8 (t)) .ro)), (3, .sl (.ar 32 .lf) (byH (q ++ [p])) .ro), (9, (AV.sc (.int .i64 ((k : Int)))))], ⟨[], [], 0⟩⟩, fun τ => l.length - (slotI τ 9).toNat, ?_, ?_⟩
  · conv => whnf
    exact ⟨0, 1, rfl, by omega, rfl⟩
  rintro τ ⟨j, k, hk, hkn, rfl⟩
  have hk0 : 0 < k := by rw [hk]; exact Nat.two_pow_pos _
  conv => whnf
  rw [w64 (x := 2 * (k : Int)) (by omega) (by omega), hlen]
  refine Branch.of (fun h1 => ?_) (fun h1 => ?_) <;> rw [h1] <;> conv => whnf
  · simp only [decide_eq_true_eq] at h1
    rw [w64 (x := 2 * (k : Int)) (by omega) (by omega), show 2 * (k : Int) = ((2 * k : Nat) : Int) by omega]
    refine ⟨⟨j + 1, 2 * k, by rw [hk, Nat.pow_succ, Nat.mul_comm], by omega, rfl⟩, ?_⟩
    show l.length - (((2 * k : Nat) : Int)).toNat < l.length - ((k : Int)).toNat
    omega
  simp only [decide_eq_false_iff_not] at h1
  obtain rfl := halfLoop h2 hk hkn (by omega)
  rw [hq1, show (((q.length + 1 : Nat) : Int) == 0) = false from beq_false_of_ne (by omega)]
  conv => whnf
  refine ⟨tabF57R8, by decide +kernel, ?_⟩
  conv => whnf
  rw [hq1, w64 (x := ((q.length + 1 : Nat) : Int) - 1) (by omega) (by omega), show ((q.length + 1 : Nat) : Int) - 1 = (q.length : Int) by omega]
  repeat (refine And.intro (by first | omega) ?_; conv => whnf)
  refine ⟨_, (show (byH (q ++ [p]))[((q.length : Nat) : Int).toNat]? = some (AV.ar 32 .lf (by8 p)) by simp [byH]), ?_⟩
  conv => whnf
  rw [hq1, w64 (x := ((q.length + 1 : Nat) : Int) - 1) (by omega) (by omega), show ((q.length + 1 : Nat) : Int) - 1 = (q.length : Int) by omega]
  repeat (refine And.intro (by first | omega) ?_; conv => whnf)
  rw [show List.take ((q.length : Int).toNat - 0) (List.drop 0 (byH (q ++ [p]))) = byH q by simp [byH]]
  rw [show decide ((a : Int) < (hf l.length : Int)) = false from decide_eq_false (by omega)]
  have hh := hf_lt l.length h2
  conv => whnf
  rw [hlen, w64 (x := (l.length : Int) - (hf l.length : Int)) (by omega) (by omega), w64 (x := (a : Int) - (hf l.length : Int)) (by omega) (by omega), show (l.length : Int) - (hf l.length : Int) = ((l.length - hf l.length : Nat) : Int) by omega, show (a : Int) - (hf l.length : Int) = ((a - hf l.length : Nat) : Int) by omega]
  refine (cu).mono fun r st e => ?_
  obtain ⟨rfl, rfl⟩ := e
  conv => whnf
  refine (c_bytesR X hX).mono fun r st e => ?_
  obtain ⟨rfl, rfl⟩ := e
  conv => whnf
  refine ⟨tabF57R14, by decide +kernel, ?_⟩
  conv => whnf
  repeat (refine And.intro (by first | omega) ?_; conv => whnf)
  rw [dropL]
  refine ⟨_, _, cB, ?_⟩
  conv => whnf
  refine ⟨_, _, c_bytesR B hB, ?_⟩
  conv => whnf
  repeat (refine And.intro (by first | omega) ?_; conv => whnf)
  rw [takeL]
  refine ⟨_, _, cA, ?_⟩
  conv => whnf
  refine ⟨_, _, c_bytesR A hA, ?_⟩
  conv => whnf
  refine (c_bytesR p hp).mono fun r st e => ?_
  obtain ⟨rfl, rfl⟩ := e
  conv => whnf
  refine And.intro (by rw [len8, len8, hX, hp]; decide) ?_
  conv => whnf
  refine And.intro (by rw [len8, len8, hA, hB]; decide) ?_
  conv => whnf
  rw [by8_ap, by8_ap]
  refine (c_pair (p ++ X) (A ++ B) (by rw [List.length_append]; omega) (by rw [List.length_append]; omega)).mono fun r st e => ?_
  obtain ⟨rfl, rfl⟩ := e
  conv => whnf
  cases h : pairB (p ++ X) (A ++ B)
  · conv => whnf
    repeat (refine And.intro (by first | omega) ?_; conv => whnf)
    rw [dropL, w64 (x := (a : Int) - (hf l.length : Int)) (by omega) (by omega), show (a : Int) - (hf l.length : Int) = ((a - hf l.length : Nat) : Int) by omega]
    refine (cw).mono fun r st e => ?_
    obtain ⟨rfl, rfl⟩ := e
    conv => whnf
    refine ⟨false, [], ?_⟩
    conv => whnf
    exact ⟨rfl, rfl⟩
  · conv => whnf
    refine ⟨false, [], ?_⟩
    conv => whnf
    exact ⟨rfl, rfl⟩
theorem c_twice (n : Nat) : ∀ (l : List (List UInt8)) (a : Nat) (t : List UInt8) (pr : List (List UInt8)), 1 ≤ l.length → a < l.length → l.length ≤ n → l.length ≤ 20 → t.length < 10000000 → (∀ u ∈ l, u.length < 10000000) → pr.length < 100000 → (∀ p ∈ pr, p.length = 32) → pr.length = (sidesF n l.length a).length →
    FnOK Tryd.prog D 57 [.sl .lf (byL l) .ro, (AV.sc (.int .i64 ((a : Int)))), (AV.sl .lf (by8 (t)) .ro), .sl (.ar 32 .lf) (byH pr) .ro] [] (fun r st => r = (AV.sc (.bool (twF n l a t pr))) ∧ st = []) := by
  induction n with
  | zero => intro l a t pr h1 _ h2; omega
  | succ n ih =>
    intro l a t pr h1 h0 h2 h3 ht hu hpl hpr hs
    have e0 : twF (n + 1) l a t pr = if l.length = 1 then leafB t == leafB (l.headD []) else
      if a < hf l.length then pairB (chkF (sidesF n (hf l.length) a) pr.dropLast (leafB t) ++ pr.getLastD []) (rootF n (l.take (hf l.length)) ++ rootF n (l.drop (hf l.length))) || twF n (l.take (hf l.length)) a t pr.dropLast
      else pairB (pr.getLastD [] ++ chkF (sidesF n (l.length - hf l.length) (a - hf l.length)) pr.dropLast (leafB t)) (rootF n (l.take (hf l.length)) ++ rootF n (l.drop (hf l.length))) || twF n (l.drop (hf l.length)) (a - hf l.length) t pr.dropLast := rfl
    have e1 : sidesF (n + 1) l.length a = if l.length = 1 then [] else if a < hf l.length then sidesF n (hf l.length) a ++ [true] else sidesF n (l.length - hf l.length) (a - hf l.length) ++ [false] := rfl
    rw [e0]
    rw [e1] at hs
    have hp := hf_pos l.length
    by_cases e : l.length = 1
    · rw [if_pos e]
      refine c_twice_one l a t pr e _ _ (shaB_len _) (shaB_len _) (c_leafR t ht) (c_leafR _ ?_)
      obtain ⟨u, rfl⟩ := List.length_eq_one_iff.1 e
      exact hu u (by simp)
    · have hh := hf_lt l.length (by omega)
      rw [if_neg e]
      rw [if_neg e] at hs
      have ht1 : ∀ t ∈ l.take (hf l.length), t.length < 10000000 := fun t h => hu t (List.mem_of_mem_take h)
      have ht2 : ∀ t ∈ l.drop (hf l.length), t.length < 10000000 := fun t h => hu t (List.mem_of_mem_drop h)
      have l1 : (l.take (hf l.length)).length = hf l.length := by rw [List.length_take]; omega
      have l2 : (l.drop (hf l.length)).length = l.length - hf l.length := by rw [List.length_drop]
      have hd : ∀ p ∈ pr.dropLast, p.length = 32 := fun p h => hpr p ((List.dropLast_sublist _).subset h)
      have hdl : pr.dropLast.length < 100000 := by rw [List.length_dropLast]; omega
      by_cases c : a < hf l.length
      · rw [if_pos c]
        rw [if_pos c, List.length_append] at hs
        obtain ⟨g1, g2⟩ := snoc_of hs
        have hl : (pr.getLastD []).length = 32 := hpr _ (by rw [g1]; simp)
        have hX := chkF_len (sidesF n (hf l.length) a) pr.dropLast (leafB t) (shaB_len _)
        have := c_twice_left l a t pr.dropLast (pr.getLastD []) (chkF (sidesF n (hf l.length) a) pr.dropLast (leafB t)) (rootF n (l.take (hf l.length))) (rootF n (l.drop (hf l.length))) (twF n (l.take (hf l.length)) a t pr.dropLast) (by omega) h3 hdl c hl hX (rootF_len _ _) (rootF_len _ _)
          (c_up n (hf l.length) a t pr.dropLast (by omega) c (by omega) (by omega) ht hdl hd g2) (c_rootR n _ (by omega) (by omega) ht1) (c_rootR n _ (by omega) (by omega) ht2)
          (ih _ a t pr.dropLast (by omega) (by omega) (by omega) (by omega) ht ht1 hdl hd (by rw [l1]; exact g2))
        rw [← g1] at this
        exact this
      · rw [if_neg c]
        rw [if_neg c, List.length_append] at hs
        obtain ⟨g1, g2⟩ := snoc_of hs
        have hl : (pr.getLastD []).length = 32 := hpr _ (by rw [g1]; simp)
        have hX := chkF_len (sidesF n (l.length - hf l.length) (a - hf l.length)) pr.dropLast (leafB t) (shaB_len _)
        have := c_twice_right l a t pr.dropLast (pr.getLastD []) (chkF (sidesF n (l.length - hf l.length) (a - hf l.length)) pr.dropLast (leafB t)) (rootF n (l.take (hf l.length))) (rootF n (l.drop (hf l.length))) (twF n (l.drop (hf l.length)) (a - hf l.length) t pr.dropLast) (by omega) h3 hdl c h0 hl hX (rootF_len _ _) (rootF_len _ _)
          (c_up n (l.length - hf l.length) (a - hf l.length) t pr.dropLast (by omega) (by omega) (by omega) (by omega) ht hdl hd g2) (c_rootR n _ (by omega) (by omega) ht1) (c_rootR n _ (by omega) (by omega) ht2)
          (ih _ (a - hf l.length) t pr.dropLast (by omega) (by omega) (by omega) (by omega) ht ht2 hdl hd (by rw [l2]; exact g2))
        rw [← g1] at this
        exact this
end Go.WL.T4
