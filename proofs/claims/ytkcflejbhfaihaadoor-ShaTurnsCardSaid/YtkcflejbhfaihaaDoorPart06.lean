/- Third roots of primes, reckoned. No condition. -/
import Derived.Test.YtkcflejbhfaihaaDoorPart05
set_option linter.unusedVariables false
set_option linter.unusedSimpArgs false
namespace Go.WL.T4
open Go.WL Go.Proofs
set_option maxRecDepth 20000
set_option maxHeartbeats 8000000
def conY (x : Int) (i : Nat) : Int := IntKind.u64.wrap (x + IntKind.u64.wrap (1 * 2 ^ i))
def conG (p : Int) : Nat → Int → Int
  | 0, x => x
  | i + 1, x => conG p i (if lessF (conY x i) p = true then conY x i else x)
theorem conG_succ (p : Int) (q : Nat) (x : Int) : conG p (q + 1) x = conG p q (if lessF (conY x q) p = true then conY x q else x) := rfl
theorem conG_zero (p x : Int) : conG p 0 x = x := rfl
theorem conY_eq (x : Int) (q : Nat) : IntKind.u64.wrap (x + IntKind.u64.wrap (1 * 2 ^ q)) = conY x q := rfl
attribute [local irreducible] lessF conY conG
def conF (p : Int) : Int := IntKind.u32.wrap ((conG p 36 0).tmod 4294967296)
theorem c_constR (p : Int) : FnOK Tryd.prog D 25 [(AV.sc (.int .u64 (p)))] [] (fun r st => r = AV.sc (.int .u32 (conF p)) ∧ st = []) := by
  refine fnok_of_W hmix tabOK Tryd.func25 rfl rfl (Nat.le_of_ble_eq_true rfl) ?_
  conv => whnf
  refine ⟨false, [0, 3, 4], fun τ => ∃ (m : Nat) (x : Int), m ≤ 36 ∧ conG p 36 0 = conG p m x ∧ τ = ⟨22, [(0, (AV.sc (.int .u64 (p)))), (3, (AV.sc (.int .u64 (x)))), (4, (AV.sc (.int .i64 ((m : Int) - 1))))], ⟨[], [], 0⟩⟩, fun τ => (slotI τ 4 + 1).toNat, ?_, ?_⟩
  · conv => whnf
    exact ⟨36, 0, by omega, rfl, rfl⟩
  rintro τ ⟨m, x, hm, e, rfl⟩
  apply enter1 (fun τ h => h)
  intro kk kA kB
  conv => whnf
  refine Branch.of (fun h1 => ?_) (fun h1 => ?_) <;> rw [h1] <;> conv => whnf
  · simp only [ge_iff_le, decide_eq_true_eq] at h1
    obtain ⟨q, rfl⟩ : ∃ q, m = q + 1 := ⟨m - 1, by omega⟩
    rw [show (((q + 1 : Nat) : Int) - 1) = (q : Int) by omega]
    have hstep : conG p (q + 1) x = conG p q (if lessF (conY x q) p = true then conY x q else x) := conG_succ p q x
    rw [wu64 (x := (q : Int)) (by omega) (by omega)]
    repeat (refine And.intro (by first | omega) ?_; conv => whnf)
    rw [show min ((q : Int)).toNat IntKind.u64.bits = q by rw [Int.toNat_natCast]; show min q 64 = q; omega]
    rw [show IntKind.u64.wrap (x + IntKind.u64.wrap (1 * 2 ^ q)) = conY x q from conY_eq x q]
    refine swap (x := conY x q) (y := conY x q) rfl ?_
    intro y hy
    rw [← hy] at hstep
    refine (c_lessR y p).mono fun r st e => ?_
    obtain ⟨rfl, rfl⟩ := e
    conv => whnf
    refine Branch.of (fun h2 => ?_) (fun h2 => ?_) <;> rw [h2] <;> conv => whnf
    · refine kA _ ?_
      conv => whnf
      rw [w64 (x := (q : Int) - 1) (by omega) (by omega)]
      refine ⟨⟨q, _, by omega, by rw [e, hstep, if_pos h2], rfl⟩, ?_⟩
      show ((q : Int) - 1 + 1).toNat < ((((q + 1 : Nat) : Int) - 1) + 1).toNat
      omega
    · refine kA _ ?_
      conv => whnf
      rw [w64 (x := (q : Int) - 1) (by omega) (by omega)]
      refine ⟨⟨q, _, by omega, by rw [e, hstep, if_neg (by rw [h2]; decide)], rfl⟩, ?_⟩
      show ((q : Int) - 1 + 1).toNat < ((((q + 1 : Nat) : Int) - 1) + 1).toNat
      omega
  · simp only [ge_iff_le, decide_eq_false_iff_not] at h1
    exact kB (show m = 0 by omega)
  intro m0
  subst m0
  conv => whnf
  repeat (refine And.intro (by first | omega) ?_; conv => whnf)
  refine ⟨false, [], ?_⟩
  conv => whnf
  refine ⟨?_, rfl⟩
  unfold conF
  rw [e, conG_zero]
end Go.WL.T4
namespace Go.WL.T4
open Go.WL Go.Proofs
set_option maxRecDepth 20000
theorem pit_is : pit 310 = [2, 3, 5, 7, 11, 13, 17, 19, 23, 29, 31, 37, 41, 43, 47, 53, 59, 61, 67, 71, 73, 79, 83, 89, 97, 101, 103, 107, 109, 113, 127, 131, 137, 139, 149, 151, 157, 163, 167, 173, 179, 181, 191, 193, 197, 199, 211, 223, 227, 229, 233, 239, 241, 251, 257, 263, 269, 271, 277, 281, 283, 293, 307, 311] := by decide +kernel
theorem rt0 : conF 2 = 1116352408 := by decide +kernel
theorem rt1 : conF 3 = 1899447441 := by decide +kernel
theorem rt2 : conF 5 = 3049323471 := by decide +kernel
theorem rt3 : conF 7 = 3921009573 := by decide +kernel
theorem rt4 : conF 11 = 961987163 := by decide +kernel
theorem rt5 : conF 13 = 1508970993 := by decide +kernel
theorem rt6 : conF 17 = 2453635748 := by decide +kernel
theorem rt7 : conF 19 = 2870763221 := by decide +kernel
theorem rt8 : conF 23 = 3624381080 := by decide +kernel
theorem rt9 : conF 29 = 310598401 := by decide +kernel
theorem rt10 : conF 31 = 607225278 := by decide +kernel
theorem rt11 : conF 37 = 1426881987 := by decide +kernel
theorem rt12 : conF 41 = 1925078388 := by decide +kernel
theorem rt13 : conF 43 = 2162078206 := by decide +kernel
theorem rt14 : conF 47 = 2614888103 := by decide +kernel
theorem rt15 : conF 53 = 3248222580 := by decide +kernel
end Go.WL.T4
namespace Go.WL.T4
open Go.WL Go.Proofs
set_option maxRecDepth 20000
theorem rt16 : conF 59 = 3835390401 := by decide +kernel
theorem rt17 : conF 61 = 4022224774 := by decide +kernel
theorem rt18 : conF 67 = 264347078 := by decide +kernel
theorem rt19 : conF 71 = 604807628 := by decide +kernel
theorem rt20 : conF 73 = 770255983 := by decide +kernel
theorem rt21 : conF 79 = 1249150122 := by decide +kernel
theorem rt22 : conF 83 = 1555081692 := by decide +kernel
theorem rt23 : conF 89 = 1996064986 := by decide +kernel
theorem rt24 : conF 97 = 2554220882 := by decide +kernel
theorem rt25 : conF 101 = 2821834349 := by decide +kernel
theorem rt26 : conF 103 = 2952996808 := by decide +kernel
theorem rt27 : conF 107 = 3210313671 := by decide +kernel
theorem rt28 : conF 109 = 3336571891 := by decide +kernel
theorem rt29 : conF 113 = 3584528711 := by decide +kernel
theorem rt30 : conF 127 = 113926993 := by decide +kernel
theorem rt31 : conF 131 = 338241895 := by decide +kernel
end Go.WL.T4
namespace Go.WL.T4
open Go.WL Go.Proofs
set_option maxRecDepth 20000
theorem rt32 : conF 137 = 666307205 := by decide +kernel
theorem rt33 : conF 139 = 773529912 := by decide +kernel
theorem rt34 : conF 149 = 1294757372 := by decide +kernel
theorem rt35 : conF 151 = 1396182291 := by decide +kernel
theorem rt36 : conF 157 = 1695183700 := by decide +kernel
theorem rt37 : conF 163 = 1986661051 := by decide +kernel
theorem rt38 : conF 167 = 2177026350 := by decide +kernel
theorem rt39 : conF 173 = 2456956037 := by decide +kernel
theorem rt40 : conF 179 = 2730485921 := by decide +kernel
theorem rt41 : conF 181 = 2820302411 := by decide +kernel
theorem rt42 : conF 191 = 3259730800 := by decide +kernel
theorem rt43 : conF 193 = 3345764771 := by decide +kernel
theorem rt44 : conF 197 = 3516065817 := by decide +kernel
theorem rt45 : conF 199 = 3600352804 := by decide +kernel
theorem rt46 : conF 211 = 4094571909 := by decide +kernel
theorem rt47 : conF 223 = 275423344 := by decide +kernel
end Go.WL.T4
namespace Go.WL.T4
open Go.WL Go.Proofs
set_option maxRecDepth 20000
theorem rt48 : conF 227 = 430227734 := by decide +kernel
theorem rt49 : conF 229 = 506948616 := by decide +kernel
theorem rt50 : conF 233 = 659060556 := by decide +kernel
theorem rt51 : conF 239 = 883997877 := by decide +kernel
theorem rt52 : conF 241 = 958139571 := by decide +kernel
theorem rt53 : conF 251 = 1322822218 := by decide +kernel
theorem rt54 : conF 257 = 1537002063 := by decide +kernel
theorem rt55 : conF 263 = 1747873779 := by decide +kernel
theorem rt56 : conF 269 = 1955562222 := by decide +kernel
theorem rt57 : conF 271 = 2024104815 := by decide +kernel
theorem rt58 : conF 277 = 2227730452 := by decide +kernel
theorem rt59 : conF 281 = 2361852424 := by decide +kernel
theorem rt60 : conF 283 = 2428436474 := by decide +kernel
theorem rt61 : conF 293 = 2756734187 := by decide +kernel
theorem rt62 : conF 307 = 3204031479 := by decide +kernel
theorem rt63 : conF 311 = 3329325298 := by decide +kernel
end Go.WL.T4
