/- The reference's products of digits. No condition. -/
import Derived.Test.YtkcflejbhfaihaaDoorPart03
set_option linter.unusedVariables false
set_option linter.unusedSimpArgs false
namespace Go.WL.T4
open Go.WL Go.Proofs
set_option maxRecDepth 20000
set_option maxHeartbeats 8000000
/-- Words of 64 bits, as cells of a row. -/
def byZ (l : List Int) : List AV := l.map fun (n : Int) => .sc (.int .u64 n)
theorem lenZ (l : List Int) : (byZ l).length = l.length := by simp [byZ]
theorem atZ {l : List Int} {i : Nat} (h : i < l.length) : (byZ l)[((i : Nat) : Int).toNat]? = some (AV.sc (.int .u64 (l.getD i 0))) := by
  rw [Int.toNat_natCast, List.getD_eq_getElem?_getD, List.getElem?_eq_getElem h]
  simp [byZ, h]
theorem atZ0 {l : List Int} {i : Nat} (h : i < l.length) : (byZ l)[0 + ((i : Nat) : Int).toNat]? = some (AV.sc (.int .u64 (l.getD i 0))) := by
  rw [Nat.zero_add]
  exact atZ h
theorem setZ (l : List Int) (i : Nat) (x : Int) : (byZ l).set i (AV.sc (.int .u64 (x))) = byZ (l.set i x) := by
  unfold byZ
  rw [List.map_set]
def mulS (a b o : List Int) (i k : Nat) : List Int := o.set (i + k) (IntKind.u64.wrap (o.getD (i + k) 0 + IntKind.u64.wrap (a.getD i 0 * b.getD k 0)))
def mulR (a b : List Int) (i : Nat) : Nat → List Int → List Int
  | 0, o => o
  | k + 1, o => mulS a b (mulR a b i k o) i k
def mulA (a b : List Int) : Nat → List Int
  | 0 => List.replicate (a.length + b.length + 1) 0
  | i + 1 => mulR a b i b.length (mulA a b i)
def carS (o : List Int) (j : Nat) : List Int :=
  let p := o.set (j + 1) (IntKind.u64.wrap (o.getD (j + 1) 0 + IntKind.u64.wrap ((o.getD j 0).tdiv 65536)))
  p.set j ((p.getD j 0).tmod 65536)
def carF (o : List Int) : Nat → List Int
  | 0 => o
  | j + 1 => carS (carF o j) j
def mulF (a b : List Int) : List Int := carF (mulA a b a.length) (a.length + b.length)
theorem mulR_len (a b : List Int) (i : Nat) (o : List Int) : ∀ k, (mulR a b i k o).length = o.length
  | 0 => rfl
  | k + 1 => by unfold mulR mulS; rw [List.length_set, mulR_len a b i o k]
theorem mulA_len (a b : List Int) : ∀ i, (mulA a b i).length = a.length + b.length + 1
  | 0 => by unfold mulA; rw [List.length_replicate]
  | i + 1 => by unfold mulA; rw [mulR_len, mulA_len a b i]
theorem carF_len (o : List Int) : ∀ j, (carF o j).length = o.length
  | 0 => rfl
  | j + 1 => by unfold carF carS; rw [List.length_set, List.length_set, carF_len o j]
theorem c_mul (a b : List Int) (ha : a.length ≤ 20) (hb : b.length ≤ 20) :
    FnOK Tryd.prog D 90 [.sl .lf (byZ a) .ro, .sl .lf (byZ b) .ro] [] (fun r st => r = .sl .lf (byZ (mulF a b)) .ro ∧ st = []) := by
  have la := lenZ a
  have lb := lenZ b
  refine fnok_of_W hmix tabOK Tryd.func90 rfl rfl (Nat.le_of_ble_eq_true rfl) ?_
  conv => whnf
  rw [la, lb]
  obtain ⟨n, hn⟩ : ∃ n : Nat, n = a.length + b.length + 1 := ⟨_, rfl⟩
  have en : IntKind.i64.wrap (IntKind.i64.wrap ((a.length : Int) + (b.length : Int)) + 1) = (n : Int) := by
    rw [w64 (x := (a.length : Int) + (b.length : Int)) (by omega) (by omega), w64 (by omega) (by omega)]
    omega
  rw [en]
  refine And.intro (by omega) (And.intro (by omega) (And.intro (by omega) ?_))
  rw [Int.toNat_natCast]
  conv => whnf
  refine ⟨false, [0, 1, 5, 6], fun τ => ∃ (i : Nat) (o : List Int), i ≤ a.length ∧ o = mulA a b i ∧ τ = ⟨80, [(0, .sl .lf (byZ a) .ro), (1, .sl .lf (byZ b) .ro), (5, .bs 0 [] .lf 0 n n), (6, (AV.sc (.int .i64 ((i : Int)))))], ⟨[(.ar n .lf (byZ o), false)], [], 0⟩⟩, fun τ => a.length - (slotI τ 6).toNat, ?_, ?_⟩
  · conv => whnf
    exact ⟨0, List.replicate n 0, by omega, by unfold mulA; rw [hn], by rw [show byZ (List.replicate n 0) = List.replicate n (AV.sc (.int .u64 (0))) by simp [byZ]]; rfl⟩
  rintro τ ⟨i, o, hi, ho, rfl⟩
  have ol : o.length = n := by rw [ho, mulA_len, hn]
  apply enter1 (fun τ h => h)
  intro kk kA kB
  conv => whnf
  rw [la]
  refine Branch.of (fun h1 => ?_) (fun h1 => ?_) <;> rw [h1] <;> conv => whnf
  · simp only [decide_eq_true_eq] at h1
    have ia : i < a.length := by omega
    refine ⟨false, [0, 1, 5, 6, 7], fun τ => ∃ (k : Nat) (q : List Int), k ≤ b.length ∧ q = mulR a b i k o ∧ τ = ⟨80, [(0, .sl .lf (byZ a) .ro), (1, .sl .lf (byZ b) .ro), (5, .bs 0 [] .lf 0 n n), (6, (AV.sc (.int .i64 ((i : Int))))), (7, (AV.sc (.int .i64 ((k : Int)))))], ⟨[(.ar n .lf (byZ q), false)], [], 0⟩⟩, fun τ => b.length - (slotI τ 7).toNat, ?_, ?_⟩
    · conv => whnf
      exact ⟨0, _, by omega, rfl, rfl⟩
    rintro τ ⟨k, q, hk, hq, rfl⟩
    have ql : q.length = n := by rw [hq, mulR_len, ol]
    apply enter1 (fun τ h => h)
    intro kj jA jB
    conv => whnf
    rw [lb]
    refine Branch.of (fun h2 => ?_) (fun h2 => ?_) <;> rw [h2] <;> conv => whnf
    · simp only [decide_eq_true_eq] at h2
      have kb : k < b.length := by omega
      have eik : IntKind.i64.wrap ((i : Int) + (k : Int)) = ((i + k : Nat) : Int) := by rw [w64 (by omega) (by omega)]; omega
      refine ⟨tabF90R8, by decide +kernel, ?_⟩
      conv => whnf
      rw [eik]
      repeat (refine And.intro (by first | omega) ?_; conv => whnf)
      refine ⟨_, atZ0 (l := q) (i := i + k) (by omega), ?_⟩
      conv => whnf
      repeat (refine And.intro (by first | omega) ?_; conv => whnf)
      refine ⟨_, atZ (l := a) (i := i) ia, ?_⟩
      conv => whnf
      repeat (refine And.intro (by first | omega) ?_; conv => whnf)
      refine ⟨_, atZ (l := b) (i := k) kb, ?_⟩
      conv => whnf
      repeat (refine And.intro (by first | omega) ?_; conv => whnf)
      refine ⟨_, atZ0 (l := q) (i := i + k) (by omega), ?_⟩
      conv => whnf
      rw [Nat.zero_add, Int.toNat_natCast, setZ]
      refine jA _ ?_
      conv => whnf
      rw [w64 (x := (k : Int) + 1) (by omega) (by omega)]
      refine ⟨⟨k + 1, _, by omega, ?_, rfl⟩, ?_⟩
      · unfold mulR mulS
        rw [← hq]
      · show b.length - ((k : Int) + 1).toNat < b.length - (k : Int).toNat
        omega
    · simp only [decide_eq_false_iff_not] at h2
      exact jB (show k = b.length by omega)
    intro e
    subst e
    refine kA _ ?_
    conv => whnf
    rw [w64 (x := (i : Int) + 1) (by omega) (by omega)]
    refine ⟨⟨i + 1, _, by omega, ?_, rfl⟩, ?_⟩
    · rw [hq, ho]
      rfl
    · show a.length - ((i : Int) + 1).toNat < a.length - (i : Int).toNat
      omega
  · simp only [decide_eq_false_iff_not] at h1
    exact kB (show i = a.length by omega)
  intro e
  subst e
  conv => whnf
  refine ⟨false, [5, 8], fun τ => ∃ (j : Nat) (q : List Int), j ≤ a.length + b.length ∧ q = carF o j ∧ τ = ⟨80, [(5, .bs 0 [] .lf 0 n n), (8, (AV.sc (.int .i64 ((j : Int)))))], ⟨[(.ar n .lf (byZ q), false)], [], 0⟩⟩, fun τ => a.length + b.length - (slotI τ 8).toNat, ?_, ?_⟩
  · conv => whnf
    exact ⟨0, _, by omega, rfl, rfl⟩
  rintro τ ⟨j, q, hj, hq, rfl⟩
  have ql : q.length = n := by rw [hq, carF_len, ol]
  have ej : IntKind.i64.wrap ((j : Int) + 1) = ((j + 1 : Nat) : Int) := by rw [w64 (by omega) (by omega)]; omega
  apply enter1 (fun τ h => h)
  intro kj jA jB
  conv => whnf
  rw [ej]
  refine Branch.of (fun h2 => ?_) (fun h2 => ?_) <;> rw [h2] <;> conv => whnf
  · simp only [decide_eq_true_eq] at h2
    have jn : j + 1 < n := by omega
    refine ⟨tabF90R12, by decide +kernel, ?_⟩
    conv => whnf
    rw [ej]
    repeat (refine And.intro (by first | omega) ?_; conv => whnf)
    refine ⟨_, atZ0 (l := q) (i := j + 1) (by omega), ?_⟩
    conv => whnf
    repeat (refine And.intro (by first | omega) ?_; conv => whnf)
    refine ⟨_, atZ0 (l := q) (i := j) (by omega), ?_⟩
    conv => whnf
    repeat (refine And.intro (by first | omega) ?_; conv => whnf)
    refine ⟨_, atZ0 (l := q) (i := j + 1) (by omega), ?_⟩
    conv => whnf
    rw [Nat.zero_add, Int.toNat_natCast, setZ]
    obtain ⟨p, hp⟩ : ∃ p, p = q.set (j + 1) (IntKind.u64.wrap (q.getD (j + 1) 0 + IntKind.u64.wrap ((q.getD j 0).tdiv 65536))) := ⟨_, rfl⟩
    rw [← hp]
    have pl : p.length = n := by rw [hp, List.length_set, ql]
    repeat (refine And.intro (by first | omega) ?_; conv => whnf)
    refine ⟨_, atZ0 (l := p) (i := j) (by omega), ?_⟩
    conv => whnf
    repeat (refine And.intro (by first | omega) ?_; conv => whnf)
    refine ⟨_, atZ0 (l := p) (i := j) (by omega), ?_⟩
    conv => whnf
    rw [Nat.zero_add, Int.toNat_natCast, setZ]
    refine jA _ ?_
    conv => whnf
    rw [ej]
    refine ⟨⟨j + 1, _, by omega, ?_, rfl⟩, ?_⟩
    · unfold carF carS
      rw [← hq, ← hp]
    · show a.length + b.length - ((j + 1 : Nat) : Int).toNat < a.length + b.length - (j : Int).toNat
      omega
  · simp only [decide_eq_false_iff_not] at h2
    exact jB (show j = a.length + b.length by omega)
  intro e
  have hm : q = mulF a b := by rw [hq, ho, e]; rfl
  refine ⟨false, [999], ?_⟩
  conv => whnf
  rw [List.drop_zero, List.take_of_length_le (by rw [lenZ]; omega), hm]
  exact ⟨rfl, rfl⟩
end Go.WL.T4
