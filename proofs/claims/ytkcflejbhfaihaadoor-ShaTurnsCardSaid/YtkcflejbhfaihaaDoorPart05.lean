/- The reference's third roots: less, Constant. No condition. -/
import Derived.Test.YtkcflejbhfaihaaDoorPart04
set_option linter.unusedVariables false
set_option linter.unusedSimpArgs false
namespace Go.WL.T4
open Go.WL Go.Proofs
set_option maxRecDepth 20000
set_option maxHeartbeats 8000000
/-- Digits of 16 bits held against each other from the ninth down. -/
def cmpF (c b : List Int) : Nat → Bool
  | 0 => true
  | i + 1 => if c.getD i 0 != b.getD i 0 then decide (c.getD i 0 < b.getD i 0) else cmpF c b i
def digs (x : Int) : List Int := [x.tmod 65536, (IntKind.u64.wrap (x.tdiv 65536)).tmod 65536, IntKind.u64.wrap (x.tdiv 4294967296)]
def lessF (x p : Int) : Bool := cmpF (mulF (mulF (digs x) (digs x)) (digs x)) [0, 0, 0, 0, 0, 0, p] 10
theorem mulF_len (a b : List Int) : (mulF a b).length = a.length + b.length + 1 := by
  unfold mulF
  rw [carF_len, mulA_len]
theorem c_less_aux (x p : Int) (S C : List Int) (hS : S.length = 7) (hC : C.length = 11)
    (c1 : FnOK Tryd.prog D 90 [.sl .lf [(AV.sc (.int .u64 (x.tmod 65536))), (AV.sc (.int .u64 ((IntKind.u64.wrap (x.tdiv 65536)).tmod 65536))), (AV.sc (.int .u64 (IntKind.u64.wrap (x.tdiv 4294967296))))] .ex, .sl .lf [(AV.sc (.int .u64 (x.tmod 65536))), (AV.sc (.int .u64 ((IntKind.u64.wrap (x.tdiv 65536)).tmod 65536))), (AV.sc (.int .u64 (IntKind.u64.wrap (x.tdiv 4294967296))))] .ex] [] (fun r st => r = .sl .lf (byZ S) .ro ∧ st = []))
    (c2 : FnOK Tryd.prog D 90 [.sl .lf (byZ S) .ro, .sl .lf [(AV.sc (.int .u64 (x.tmod 65536))), (AV.sc (.int .u64 ((IntKind.u64.wrap (x.tdiv 65536)).tmod 65536))), (AV.sc (.int .u64 (IntKind.u64.wrap (x.tdiv 4294967296))))] .ex] [] (fun r st => r = .sl .lf (byZ C) .ro ∧ st = [])) :
    FnOK Tryd.prog D 67 [(AV.sc (.int .u64 (x))), (AV.sc (.int .u64 (p)))] [] (fun r st => r = (AV.sc (.bool (cmpF C [0, 0, 0, 0, 0, 0, p] 10))) ∧ st = []) := by
  have lC := lenZ C
  refine fnok_of_W hmix tabOK Tryd.func67 rfl rfl (Nat.le_of_ble_eq_true rfl) ?_
  conv => whnf
  repeat (refine And.intro (by first | omega) ?_; conv => whnf)
  refine (c1).mono fun r st e => ?_
  obtain ⟨rfl, rfl⟩ := e
  conv => whnf
  refine (c2).mono fun r st e => ?_
  obtain ⟨rfl, rfl⟩ := e
  conv => whnf
  refine ⟨false, [7, 8, 9], fun τ => ∃ m : Nat, m ≤ 10 ∧ cmpF C [0, 0, 0, 0, 0, 0, p] 10 = cmpF C [0, 0, 0, 0, 0, 0, p] m ∧ τ = ⟨54, [(7, .sl .lf (byZ C) .ro), (8, .sl .lf [(AV.sc (.int .u64 (0))), (AV.sc (.int .u64 (0))), (AV.sc (.int .u64 (0))), (AV.sc (.int .u64 (0))), (AV.sc (.int .u64 (0))), (AV.sc (.int .u64 (0))), (AV.sc (.int .u64 (p)))] .ex), (9, (AV.sc (.int .i64 ((m : Int) - 1))))], ⟨[], [], 0⟩⟩, fun τ => (slotI τ 9 + 1).toNat, ?_, ?_⟩
  · conv => whnf
    exact ⟨10, by omega, rfl, rfl⟩
  rintro τ ⟨m, hm, e, rfl⟩
  conv => whnf
  refine Branch.of (fun h1 => ?_) (fun h1 => ?_) <;> rw [h1] <;> conv => whnf
  · simp only [ge_iff_le, decide_eq_true_eq] at h1
    obtain ⟨q, rfl⟩ : ∃ q, m = q + 1 := ⟨m - 1, by omega⟩
    rw [show (((q + 1 : Nat) : Int) - 1) = (q : Int) by omega, lC]
    have hstep : cmpF C [0, 0, 0, 0, 0, 0, p] (q + 1) = if C.getD q 0 != ([0, 0, 0, 0, 0, 0, p] : List Int).getD q 0 then decide (C.getD q 0 < ([0, 0, 0, 0, 0, 0, p] : List Int).getD q 0) else cmpF C [0, 0, 0, 0, 0, 0, p] q := rfl
    refine Branch.of (fun h2 => ?_) (fun h2 => ?_) <;> rw [h2] <;> conv => whnf
    · repeat (refine And.intro (by first | omega) ?_; conv => whnf)
      refine ⟨_, atZ (l := C) (i := q) (by omega), ?_⟩
      conv => whnf
      refine Branch.of (fun h3 => ?_) (fun h3 => ?_) <;> rw [h3] <;> conv => whnf
      · have h3 : (q : Int) < (7 : Nat) := of_decide_eq_true h3
        have q7 : q < 7 := by omega
        repeat (refine And.intro (by first | omega) ?_; conv => whnf)
        refine ⟨_, atZ (l := [0, 0, 0, 0, 0, 0, p]) (i := q) q7, ?_⟩
        conv => whnf
        refine Branch.of (fun h4 => ?_) (fun h4 => ?_) <;> rw [h4] <;> conv => whnf
        · refine ⟨false, [], ?_⟩
          conv => whnf
          refine ⟨?_, rfl⟩
          rw [e, hstep, if_pos h4]
        · rw [w64 (x := (q : Int) - 1) (by omega) (by omega)]
          refine ⟨⟨q, by omega, by rw [e, hstep, if_neg (by rw [h4]; decide)], rfl⟩, ?_⟩
          show ((q : Int) - 1 + 1).toNat < ((q : Int) + 1).toNat
          omega
      · have h3 : ¬ (q : Int) < (7 : Nat) := of_decide_eq_false h3
        have hb0 : ([0, 0, 0, 0, 0, 0, p] : List Int).getD q 0 = 0 := by
          rw [List.getD_eq_getElem?_getD, List.getElem?_eq_none (by show 7 ≤ q; omega)]
          rfl
        rw [hb0] at hstep
        refine Branch.of (fun h4 => ?_) (fun h4 => ?_) <;> rw [h4] <;> conv => whnf
        · refine ⟨false, [], ?_⟩
          conv => whnf
          refine ⟨?_, rfl⟩
          rw [e, hstep, if_pos h4]
        · rw [w64 (x := (q : Int) - 1) (by omega) (by omega)]
          refine ⟨⟨q, by omega, by rw [e, hstep, if_neg (by rw [h4]; decide)], rfl⟩, ?_⟩
          show ((q : Int) - 1 + 1).toNat < ((q : Int) + 1).toNat
          omega
    · simp only [decide_eq_false_iff_not] at h2
      omega
  · simp only [ge_iff_le, decide_eq_false_iff_not] at h1
    have m0 : m = 0 := by omega
    refine ⟨false, [], ?_⟩
    conv => whnf
    refine ⟨?_, rfl⟩
    rw [e, m0]
    rfl
theorem c_lessR (x p : Int) : FnOK Tryd.prog D 67 [(AV.sc (.int .u64 (x))), (AV.sc (.int .u64 (p)))] [] (fun r st => r = (AV.sc (.bool (lessF x p))) ∧ st = []) := by
  have l1 : (mulF (digs x) (digs x)).length = 7 := mulF_len _ _
  have l2 : (mulF (mulF (digs x) (digs x)) (digs x)).length = 11 := by rw [mulF_len, l1]; rfl
  have ld : (digs x).length = 3 := rfl
  exact c_less_aux x p (mulF (digs x) (digs x)) (mulF (mulF (digs x) (digs x)) (digs x)) l1 l2
    ((c_mul (digs x) (digs x) (by omega) (by omega)).weak (.cons (.sl (.inl rfl) (Weaks.refl _)) (.cons (.sl (.inl rfl) (Weaks.refl _)) .nil)))
    ((c_mul (mulF (digs x) (digs x)) (digs x) (by omega) (by omega)).weak (.cons (Weak.refl _) (.cons (.sl (.inl rfl) (Weaks.refl _)) .nil)))
end Go.WL.T4
