/- The reference's primes. No condition. -/
import Derived.Test.YtkcflejbhfaihaaDoorPart02
import Derived.Test.YtkcflejbhfaihaaDoorRows
import Derived.Test.YtkcflejbhfaihaaDoorWordsC
set_option linter.unusedVariables false
set_option linter.unusedSimpArgs false
namespace Go.WL.T4
open Go.WL Go.Proofs Go.Proofs.YtkcflejbhfaihaaDoor
def ld : List (String × DataW Unit) := [("tithing/tithingref02.constants", Rows.laid_tithing_tithingref02_constants), ("tithing/sha.constants", Rows.laid_tithing_sha_constants)]
theorem gn0 : Tryd.prog.globalNamed "tithing/tithingref02.constants" = some 0 := by kernel_rfl
theorem gt0 : (Tryd.prog.globals[0]?).map (·.type) = some 35 := by kernel_rfl
theorem gd0 : (Rows.laid_tithing_tithingref02_constants : DataW Unit) = .agg (gk0.map fun x => .lit (.int .u32 x)) := by rfl
theorem gc0 : Tryd.prog.cellsOf 35 = 64 := by kernel_rfl
theorem gn1 : Tryd.prog.globalNamed "tithing/sha.constants" = some 1 := by kernel_rfl
theorem gt1 : (Tryd.prog.globals[1]?).map (·.type) = some 35 := by kernel_rfl
theorem gd1 : (Rows.laid_tithing_sha_constants : DataW Unit) = .agg (gk1.map fun x => .lit (.int .u32 x)) := by rfl
theorem gc1 : Tryd.prog.cellsOf 35 = 64 := by kernel_rfl
theorem hgl : ∀ W, laidMetH Tryd.prog ld W → ∀ g v, lookV D.gl g = some v → v.pure = true ∧ ∃ cs, PR W (ground W).lim v cs ∧ Lies W (ground W).lim ⟨g, 0, none⟩ cs := by
  intro W h g v hv
  rw [MakeChecks.laidMetH_plain _ _ _ (by kernel_rfl)] at h
  obtain ⟨ps, ⟨g0, t0, cs0, f0, p0, q0, hg0, ht0, hv0, hd0, ⟨g1, t1, cs1, f1, p1, q1, hg1, ht1, hv1, hd1, _, _⟩, _⟩, _, _⟩ := h
  obtain rfl := Option.some.inj (gn0.symm.trans hg0)
  obtain rfl := Option.some.inj (gt0.symm.trans ht0)
  rw [gd0] at hd0
  have r0 := laid_ints hg0 hv0 Tryd.underlying35 Tryd.underlying30 (by kernel_rfl) gc0 (by decide) hd0
  obtain rfl := Option.some.inj (gn1.symm.trans hg1)
  obtain rfl := Option.some.inj (gt1.symm.trans ht1)
  rw [gd1] at hd1
  have r1 := laid_ints hg1 hv1 Tryd.underlying35 Tryd.underlying30 (by kernel_rfl) gc1 (by decide) hd1
  simp only [D, lookV] at hv
  split at hv
  · rename_i e
    obtain rfl := Nat.eq_of_beq_eq_true e
    obtain rfl := Option.some.inj hv
    exact r0
  split at hv
  · rename_i e
    obtain rfl := Nat.eq_of_beq_eq_true e
    obtain rfl := Option.some.inj hv
    exact r1
  simp at hv
end Go.WL.T4
namespace Go.WL.T4
open Go.WL Go.Proofs
set_option maxRecDepth 20000
set_option maxHeartbeats 8000000
/-- Numbers, as cells of a row of words of 64 bits. -/
def byQ (l : List Nat) : List AV := l.map fun (n : Nat) => .sc (.int .u64 (n : Int))
theorem lenQ (l : List Nat) : (byQ l).length = l.length := by simp [byQ]
theorem atQ {l : List Nat} {i : Nat} (h : i < l.length) : (byQ l)[((i : Nat) : Int).toNat]? = some (AV.sc (.int .u64 ((l[i] : Int)))) := by
  rw [Int.toNat_natCast]
  simp [byQ, h]
theorem snocQ (l : List Nat) (n : Nat) : byQ l ++ [(AV.sc (.int .u64 ((n : Int))))] = byQ (l ++ [n]) := by simp [byQ]
def isP (P : List Nat) (n : Nat) : Bool := P.all fun p => n % p != 0
/-- The primes among 2 .. k + 1. -/
def pit : Nat → List Nat
  | 0 => []
  | k + 1 => if isP (pit k) (k + 2) then pit k ++ [k + 2] else pit k
theorem pit_pos : ∀ k, ∀ p ∈ pit k, 2 ≤ p ∧ p < k + 2
  | 0, p, h => by simp [pit] at h
  | k + 1, p, h => by
    have ih := pit_pos k
    unfold pit at h
    split at h
    · rcases List.mem_append.1 h with h | h
      · have := ih p h
        omega
      · simp only [List.mem_singleton] at h
        omega
    · have := ih p h
      omega
theorem pit_less : ∀ k, k < 310 → (pit k).length < 64 := by decide +kernel
theorem pit_all : (pit 310).length = 64 := by decide +kernel
theorem c_primes : FnOK Tryd.prog D 18 [] [] (fun r st => r = .sl .lf (byQ (pit 310)) (.own 0) ∧ st = []) := by
  refine fnok_of_W hmix tabOK Tryd.func18 rfl rfl (Nat.le_of_ble_eq_true rfl) ?_
  conv => whnf
  refine ⟨true, [1, 2], fun τ => ∃ (k : Nat) (P : List Nat), k ≤ 310 ∧ P = pit k ∧ τ = ⟨33, [(1, .sl .lf (byQ P) (.own 0)), (2, (AV.sc (.int .u64 (((k + 2 : Nat) : Int)))))], ⟨[], [0], 1⟩⟩, fun τ => 312 - (slotI τ 2).toNat, ?_, ?_⟩
  · conv => whnf
    exact ⟨0, [], by omega, rfl, rfl⟩
  rintro τ ⟨k, P, hk, hP, rfl⟩
  apply enter1 (fun τ h => h)
  intro kk kA kB
  conv => whnf
  rw [lenQ]
  refine Branch.of (fun h1 => ?_) (fun h1 => ?_) <;> rw [h1] <;> conv => whnf
  · simp only [decide_eq_true_eq] at h1
    have k310 : k < 310 := by
      rcases Nat.lt_or_ge k 310 with h | h
      · exact h
      · have e : k = 310 := by omega
        rw [hP, e, pit_all] at h1
        omega
    have Pl : P.length < 64 := by omega
    refine ⟨false, [1, 2, 3, 4], fun τ => ∃ (i : Nat) (b : Bool), i ≤ P.length ∧ b = isP (P.take i) (k + 2) ∧ τ = ⟨33, [(1, .sl .lf (byQ P) (.own 0)), (2, (AV.sc (.int .u64 (((k + 2 : Nat) : Int))))), (3, (AV.sc (.bool (b)))), (4, (AV.sc (.int .i64 ((i : Int)))))], ⟨[], [0], 1⟩⟩, fun τ => P.length - (slotI τ 4).toNat, ?_, ?_⟩
    · conv => whnf
      exact ⟨0, true, by omega, rfl, rfl⟩
    rintro τ ⟨i, b, hi, hb, rfl⟩
    apply enter1 (fun τ h => h)
    intro kj jA jB
    conv => whnf
    rw [lenQ]
    refine Branch.of (fun h2 => ?_) (fun h2 => ?_) <;> rw [h2] <;> conv => whnf
    · simp only [decide_eq_true_eq] at h2
      have il : i < P.length := by omega
      have hp := pit_pos k P[i] (by rw [← hP]; exact List.getElem_mem il)
      have hs : isP (P.take (i + 1)) (k + 2) = (b && ((k + 2) % P[i] != 0)) := by
        unfold isP
        rw [List.take_succ_eq_append_getElem il, List.all_append, hb]
        simp [isP]
      cases b
      · conv => whnf
        refine jA _ ?_
        conv => whnf
        rw [w64 (x := (i : Int) + 1) (by omega) (by omega)]
        refine ⟨⟨i + 1, _, by omega, hs.symm, rfl⟩, ?_⟩
        show P.length - ((i : Int) + 1).toNat < P.length - (i : Int).toNat
        omega
      · conv => whnf
        repeat (refine And.intro (by first | omega) ?_; conv => whnf)
        refine ⟨_, atQ il, ?_⟩
        conv => whnf
        repeat (refine And.intro (by first | omega) ?_; conv => whnf)
        refine jA _ ?_
        conv => whnf
        rw [w64 (x := (i : Int) + 1) (by omega) (by omega)]
        refine ⟨⟨i + 1, _, by omega, ?_, rfl⟩, ?_⟩
        · rw [hs, Bool.true_and, show (((k + 2 : Nat) : Int)).tmod (P[i] : Int) = (((k + 2) % P[i] : Nat) : Int) from rfl]
          generalize (k + 2) % P[i] = m
          cases m <;> rfl
        · show P.length - ((i : Int) + 1).toNat < P.length - (i : Int).toNat
          omega
    · simp only [decide_eq_false_iff_not] at h2
      exact jB (show i = P.length by omega)
    intro e
    subst e
    rw [List.take_length] at hb
    have hs : pit (k + 1) = if b = true then P ++ [k + 2] else P := by
      rw [hb, hP]
      rfl
    cases b
    · conv => whnf
      refine kA _ ?_
      conv => whnf
      rw [wu64 (x := ((k + 2 : Nat) : Int) + 1) (by omega) (by omega)]
      refine ⟨⟨k + 1, _, by omega, ?_, rfl⟩, ?_⟩
      · rw [hs, if_neg (by decide)]
      · show 312 - (((k + 2 : Nat) : Int) + 1).toNat < 312 - (((k + 2 : Nat) : Int)).toNat
        omega
    · conv => whnf
      refine And.intro (by rw [lenQ]; show _ + 1 < _; omega) ?_
      conv => whnf
      rw [snocQ]
      refine kA _ ?_
      conv => whnf
      rw [wu64 (x := ((k + 2 : Nat) : Int) + 1) (by omega) (by omega)]
      refine ⟨⟨k + 1, _, by omega, ?_, rfl⟩, ?_⟩
      · rw [hs, if_pos rfl]
      · show 312 - (((k + 2 : Nat) : Int) + 1).toNat < 312 - (((k + 2 : Nat) : Int)).toNat
        omega
  · simp only [decide_eq_false_iff_not] at h1
    exact kB (show k = 310 by
      rcases Nat.lt_or_ge k 310 with h | h
      · have := pit_less k h
        rw [hP] at h1
        omega
      · omega)
  intro e
  subst e
  rw [hP]
  conv => whnf
  refine ⟨false, [], ?_⟩
  conv => whnf
  exact ⟨rfl, rfl⟩
end Go.WL.T4
