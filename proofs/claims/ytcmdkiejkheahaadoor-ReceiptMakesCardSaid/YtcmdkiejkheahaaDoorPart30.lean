/- Receipts of a block: Make, both sides. No condition. -/
import Derived.Test.YtcmdkiejkheahaaDoorPart11
import Derived.Test.YtcmdkiejkheahaaDoorPart27
import Derived.Test.YtcmdkiejkheahaaDoorPart29
set_option linter.unusedVariables false
set_option linter.unusedSimpArgs false
namespace Go.WL.T6d
open Go.WL Go.Proofs
set_option maxRecDepth 20000
set_option maxHeartbeats 8000000
structure Rc where
  g : List UInt8
  h : Int
  p : Int
  c : Int
  deriving DecidableEq
def rcsA (l : List Rc) : List AV := l.map fun x => .st [.ar 32 .lf (by8 x.g), .sc (.int .i64 x.h), .sc (.int .i64 x.p), .sc (.int .i64 x.c)]
theorem lenR (l : List Rc) : (rcsA l).length = l.length := by simp [rcsA]
theorem snocR (l : List Rc) (x : Rc) : rcsA l ++ [(AV.st [.ar 32 .lf (by8 (x).g), .sc (.int .i64 (x).h), .sc (.int .i64 (x).p), .sc (.int .i64 (x).c)])] = rcsA (l ++ [x]) := by simp [rcsA]
theorem lenIn (l : List Int) : (ints .i64 l).length = l.length := by simp [ints]
theorem atIn {l : List Int} {i : Nat} (h : i < l.length) : (ints .i64 l)[((i : Nat) : Int).toNat]? = some (AV.sc (.int .i64 (l[i]))) := by
  rw [Int.toNat_natCast]
  simp [ints, h]
def mkN (I : Tx → List UInt8) (h : Int) (l : List Tx) (t : List Int) : Nat → List Rc
  | 0 => []
  | n + 1 => mkN I h l t n ++ [⟨((l[n]?).map I).getD [], h, n, (t[n]?).getD 0⟩]
def okN (m : Tx → Bool) (l : List Tx) (t : List Int) : Nat → Bool
  | 0 => true
  | n + 1 => okN m l t n && (((l[n]?).map m).getD false && decide (0 ≤ (t[n]?).getD 0 ∧ (t[n]?).getD 0 ≤ 20))
theorem mkN_len (I : Tx → List UInt8) (h : Int) (l : List Tx) (t : List Int) : ∀ n, (mkN I h l t n).length = n
  | 0 => rfl
  | n + 1 => by simp [mkN, mkN_len I h l t n]
theorem okN_no {m : Tx → Bool} {l : List Tx} {t : List Int} {i : Nat} (h : okN m l t (i + 1) = false) : ∀ n, i < n → okN m l t n = false
  | 0, hn => by omega
  | n + 1, hn => by
    by_cases e : i = n
    · subst e; exact h
    · rw [okN, okN_no h n (by omega)]; rfl
theorem c_rmake_aux (h : Int) (l : List Tx) (t : List Int) (I : Tx → List UInt8) (m : Tx → Bool) (R : Bool) (hl : l.length < 4294967296) (ht : t.length < 4294967296)
    (hR : R = (decide (l.length ≤ 8 ∧ l.length = t.length ∧ 1 ≤ h ∧ h ≤ 1099511627776) && okN m l t l.length))
    (cw : ∀ n lo hi, FnOK Tryd.prog D 94 [(AV.sc (.int .i64 (n))), (AV.sc (.int .i64 (lo))), (AV.sc (.int .i64 (hi)))] [] (fun r st => r = (AV.sc (.bool (decide (lo ≤ n ∧ n ≤ hi)))) ∧ st = []))
    (ci : ∀ x ∈ l, FnOK Tryd.prog D 16 [(AV.st [.sc (.int .i64 (x).f), .sc (.int .i64 (x).n), .sc (.int .i64 (x).k), .sc (.int .i64 (x).to), .sc (.int .i64 (x).am), .sc (.string (strB (x).key)), .sc (.string (strB (x).val))])] [] (fun r st => r = .ar 32 .lf (by8 (I x)) ∧ st = []))
    (cc : ∀ x ∈ l, FnOK Tryd.prog D 15 [(AV.st [.sc (.int .i64 (x).f), .sc (.int .i64 (x).n), .sc (.int .i64 (x).k), .sc (.int .i64 (x).to), .sc (.int .i64 (x).am), .sc (.string (strB (x).key)), .sc (.string (strB (x).val))])] [] (fun r st => r = (AV.sc (.int .i64 (if m x = true then 0 else 1))) ∧ st = []))
    (cm : ∀ g h p c, FnOK Tryd.prog D 95 [.st [.ar 32 .lf (by8 g), (AV.sc (.int .i64 (h))), (AV.sc (.int .i64 (p))), (AV.sc (.int .i64 (c)))]] [] (fun r st => r = (AV.sc (.bool (mayR h p c))) ∧ st = [])) :
    FnOK Tryd.prog D 37 [(AV.sc (.int .i64 (h))), (AV.sl (.nd [.lf, .lf, .lf, .lf, .lf, .lf, .lf]) (txsA (l)) .ro), .sl .lf (ints .i64 t) .ro] [] (fun r st => (R = true ∧ r = .tup [.sl (.nd [.ar 32 .lf, .lf, .lf, .lf]) (rcsA (mkN I h l t l.length)) (.own 0), (AV.sc (.int .i64 (0)))] ∨ R = false ∧ r = .tup [.sl (.nd [.ar 32 .lf, .lf, .lf, .lf]) [] .ex, (AV.sc (.int .i64 (1)))]) ∧ st = []) := by
  have hll := lenT l
  have hlt := lenIn t
  refine fnok_of_Ws [3000000 + 16] hmix tabOK Tryd.func37 rfl rfl (Nat.le_of_ble_eq_true rfl) ?_
  conv => whnf
  rw [hll]
  by_cases hc : l.length ≤ 8 ∧ l.length = t.length ∧ 1 ≤ h ∧ h ≤ 1099511627776
  rotate_left
  · have hR : R = false := by rw [hR, decide_eq_false hc]; rfl
    subst hR
    clear ci cc cm
    by_cases c1 : l.length ≤ 8
    rotate_left
    · refine Branch.of (fun hh => ?_) (fun hh => ?_)
      rotate_left
      · exfalso; simp only [gt_iff_lt, ge_iff_le, decide_eq_true_eq, decide_eq_false_iff_not, beq_iff_eq, beq_eq_false_iff_ne, bne_iff_ne, bne_eq_false_iff_eq, ne_eq] at hh; first | done | omega | (simp at hh; done)
      try rw [hh]
      clear hh
      conv => whnf
      refine ⟨false, [], ?_⟩
      conv => whnf
      exact ⟨.inr ⟨rfl, rfl⟩, rfl⟩
    refine Branch.of (fun hh => ?_) (fun hh => ?_)
    · exfalso; simp only [gt_iff_lt, ge_iff_le, decide_eq_true_eq, decide_eq_false_iff_not, beq_iff_eq, beq_eq_false_iff_ne, bne_iff_ne, bne_eq_false_iff_eq, ne_eq] at hh; first | done | omega | (simp at hh; done)
    try rw [hh]
    clear hh
    conv => whnf
    rw [hll, hlt]
    by_cases c2 : l.length = t.length
    rotate_left
    · refine Branch.of (fun hh => ?_) (fun hh => ?_)
      rotate_left
      · exfalso; simp only [gt_iff_lt, ge_iff_le, decide_eq_true_eq, decide_eq_false_iff_not, beq_iff_eq, beq_eq_false_iff_ne, bne_iff_ne, bne_eq_false_iff_eq, ne_eq] at hh; first | done | omega | (simp at hh; done)
      try rw [hh]
      clear hh
      conv => whnf
      refine ⟨false, [], ?_⟩
      conv => whnf
      exact ⟨.inr ⟨rfl, rfl⟩, rfl⟩
    refine Branch.of (fun hh => ?_) (fun hh => ?_)
    · exfalso; simp only [gt_iff_lt, ge_iff_le, decide_eq_true_eq, decide_eq_false_iff_not, beq_iff_eq, beq_eq_false_iff_ne, bne_iff_ne, bne_eq_false_iff_eq, ne_eq] at hh; first | done | omega | (simp at hh; done)
    try rw [hh]
    clear hh
    conv => whnf
    refine (cw h 1 1099511627776).mono fun r st e => ?_
    obtain ⟨rfl, rfl⟩ := e
    rw [decide_eq_false (fun k => hc ⟨c1, c2, k⟩)]
    conv => whnf
    refine ⟨false, [], ?_⟩
    conv => whnf
    exact ⟨.inr ⟨rfl, rfl⟩, rfl⟩
  obtain ⟨h1, h2, h3, h4⟩ := hc
  refine Branch.of (fun hh => ?_) (fun hh => ?_)
  · exfalso; simp only [gt_iff_lt, ge_iff_le, decide_eq_true_eq, decide_eq_false_iff_not, beq_iff_eq, beq_eq_false_iff_ne, bne_iff_ne, bne_eq_false_iff_eq, ne_eq] at hh; first | done | omega | (simp at hh; done)
  try rw [hh]
  clear hh
  conv => whnf
  rw [hll, hlt]
  refine Branch.of (fun hh => ?_) (fun hh => ?_)
  · exfalso; simp only [gt_iff_lt, ge_iff_le, decide_eq_true_eq, decide_eq_false_iff_not, beq_iff_eq, beq_eq_false_iff_ne, bne_iff_ne, bne_eq_false_iff_eq, ne_eq] at hh; first | done | omega | (simp at hh; done)
  try rw [hh]
  clear hh
  conv => whnf
  refine (cw h 1 1099511627776).mono fun r st e => ?_
  obtain ⟨rfl, rfl⟩ := e
  rw [decide_eq_true ⟨h3, h4⟩]
  conv => whnf
  rw [hll]
  refine ⟨true, [0, 2, 8, 27, 28, 29], fun τ => ∃ (i : Nat), i ≤ l.length ∧ okN m l t i = true ∧ τ = ⟨57, [(0, (AV.sc (.int .i64 (h)))), (2, .sl .lf (ints .i64 t) .ro), (8, .sl (.nd [.ar 32 .lf, .lf, .lf, .lf]) (rcsA (mkN I h l t i)) (.own 0)), (27, (AV.sl (.nd [.lf, .lf, .lf, .lf, .lf, .lf, .lf]) (txsA (l)) .ro)), (28, (AV.sc (.int .i64 ((l.length : Int))))), (29, (AV.sc (.int .i64 ((i : Int)))))], ⟨[], [0], 1⟩⟩, fun τ => l.length - (slotI τ 29).toNat, ?_, ?_⟩
  · conv => whnf
    exact ⟨0, by omega, rfl, rfl⟩
  rintro τ ⟨i, hi, hok, rfl⟩
  conv => whnf
  refine Branch.of (fun h5 => ?_) (fun h5 => ?_) <;> rw [h5] <;> conv => whnf
  · simp only [decide_eq_true_eq] at h5
    have il : i < l.length := by omega
    have it : i < t.length := by omega
    have hmem := List.getElem_mem il
    repeat (refine And.intro (by first | omega) ?_; conv => whnf)
    refine ⟨_, atT il, ?_⟩
    conv => whnf
    refine ⟨tabF37R7, by decide +kernel, ?_⟩
    conv => whnf
    refine ⟨_, ci _ hmem, rfl, ?_⟩
    conv => whnf
    have hs : okN m l t (i + 1) = (m l[i] && decide (0 ≤ t[i] ∧ t[i] ≤ 20)) := by simp [okN, hok, il, it]
    have hy : mayR h ((i : Nat) : Int) t[i] = decide (0 ≤ t[i] ∧ t[i] ≤ 20) := by
      rw [mayR_eq]
      congr 1
      apply propext
      constructor
      · intro k; exact ⟨k.2.2.2.2.1, k.2.2.2.2.2⟩
      · intro k; exact ⟨h3, h4, by omega, by omega, k.1, k.2⟩
    have hno : okN m l t (i + 1) = false → R = false := fun k => by rw [hR, okN_no k _ il, Bool.and_false]
    repeat (refine And.intro (by first | omega) ?_; conv => whnf)
    refine ⟨_, atIn it, ?_⟩
    conv => whnf
    refine (cc _ hmem).mono fun r st e => ?_
    obtain ⟨rfl, rfl⟩ := e
    cases hm : m l[i] with
    | false =>
      conv => whnf
      refine ⟨false, [], ?_⟩
      conv => whnf
      exact ⟨.inr ⟨hno (by rw [hs, hm]; rfl), rfl⟩, rfl⟩
    | true =>
      conv => whnf
      refine (cm _ _ _ _).mono fun r st e => ?_
      obtain ⟨rfl, rfl⟩ := e
      rw [hy]
      cases hz : decide (0 ≤ t[i] ∧ t[i] ≤ 20) with
      | false =>
        conv => whnf
        refine ⟨false, [], ?_⟩
        conv => whnf
        exact ⟨.inr ⟨hno (by rw [hs, hz, Bool.and_false]), rfl⟩, rfl⟩
      | true =>
        conv => whnf
        refine And.intro (by rw [lenR, mkN_len]; show _ + 1 < _; omega) ?_
        conv => whnf
        rw [w64 (x := (i : Int) + 1) (by omega) (by omega)]
        refine ⟨⟨i + 1, by omega, by rw [hs, hm, hz]; rfl, ?_⟩, ?_⟩
        · rw [mkN, ← snocR]
          simp only [List.getElem?_eq_getElem il, List.getElem?_eq_getElem it, Option.map_some, Option.getD_some]
          rfl
        · show l.length - ((i : Int) + 1).toNat < l.length - (i : Int).toNat
          omega
  · simp only [decide_eq_false_iff_not] at h5
    have e : i = l.length := by omega
    subst e
    have hRt : R = true := by rw [hR, hok, decide_eq_true ⟨h1, h2, h3, h4⟩]; rfl
    refine ⟨false, [], ?_⟩
    conv => whnf
    exact ⟨.inl ⟨hRt, rfl⟩, rfl⟩
end Go.WL.T6d
