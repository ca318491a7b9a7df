/- Places, sides, depths. No condition. -/
import Derived.Test.YtkcflejbhfaihaaDoorPart16
set_option linter.unusedVariables false
set_option linter.unusedSimpArgs false
namespace Go.WL.T4
open Go.WL Go.Proofs
set_option maxRecDepth 20000
set_option maxHeartbeats 8000000
def isPlace (m a : Int) : Bool := decide (1 ≤ m) && decide (m ≤ 1048576) && decide (0 ≤ a) && decide (a < m)
theorem c_place (m a : Int) : FnOK Tryd.prog D 80 [(AV.sc (.int .i64 (m))), (AV.sc (.int .i64 (a)))] [] (fun r st => r = (AV.sc (.bool (isPlace m a))) ∧ st = []) := by
  refine fnok_of_W hmix tabOK Tryd.func80 rfl rfl (Nat.le_of_ble_eq_true rfl) ?_
  conv => whnf
  refine Branch.of (fun h1 => ?_) (fun h1 => ?_) <;> rw [h1] <;> conv => whnf
  · refine Branch.of (fun h2 => ?_) (fun h2 => ?_) <;> rw [h2] <;> conv => whnf
    · refine Branch.of (fun h3 => ?_) (fun h3 => ?_) <;> rw [h3] <;> conv => whnf
      · refine ⟨false, [], ?_⟩
        conv => whnf
        refine ⟨?_, rfl⟩
        congr 2
        unfold isPlace
        rw [show decide (1 ≤ m) = true from h1, show decide (m ≤ 1048576) = true from h2, show decide (0 ≤ a) = true from h3]
        rfl
      · refine ⟨false, [], ?_⟩
        conv => whnf
        refine ⟨?_, rfl⟩
        congr 2
        unfold isPlace
        rw [show decide (1 ≤ m) = true from h1, show decide (m ≤ 1048576) = true from h2, show decide (0 ≤ a) = false from h3]
        rfl
    · refine ⟨false, [], ?_⟩
      conv => whnf
      refine ⟨?_, rfl⟩
      congr 2
      unfold isPlace
      rw [show decide (1 ≤ m) = true from h1, show decide (m ≤ 1048576) = false from h2]
      rfl
  · refine ⟨false, [], ?_⟩
    conv => whnf
    refine ⟨?_, rfl⟩
    congr 2
    unfold isPlace
    rw [show decide (1 ≤ m) = false from h1]
    rfl
/-- From the lowest half up: is a place among the first ones? -/
def sidesF : Nat → Nat → Nat → List Bool
  | 0, _, _ => []
  | n + 1, m, a => if m = 1 then [] else if a < hf m then sidesF n (hf m) a ++ [true] else sidesF n (m - hf m) (a - hf m) ++ [false]
theorem sidesF_len : ∀ (n m a : Nat), (sidesF n m a).length ≤ n
  | 0, _, _ => Nat.le_refl _
  | n + 1, m, a => by
    unfold sidesF
    split
    · simp
    · split
      · have := sidesF_len n (hf m) a
        simp; omega
      · have := sidesF_len n (m - hf m) (a - hf m)
        simp; omega
theorem sidesF_more : ∀ (n k m a : Nat), 1 ≤ m → a < m → m ≤ n → m ≤ k → sidesF n m a = sidesF k m a
  | 0, _, m, a, h1, _, h2, _ => by omega
  | _ + 1, 0, m, a, h1, _, _, h3 => by omega
  | n + 1, k + 1, m, a, h1, h0, h2, h3 => by
    unfold sidesF
    by_cases e : m = 1
    · rw [if_pos e, if_pos e]
    · have hh := hf_lt m (by omega)
      have hp := hf_pos m
      by_cases c : a < hf m
      · rw [if_neg e, if_neg e, if_pos c, if_pos c, sidesF_more n k (hf m) a (by omega) c (by omega) (by omega)]
      · rw [if_neg e, if_neg e, if_neg c, if_neg c, sidesF_more n k (m - hf m) (a - hf m) (by omega) (by omega) (by omega) (by omega)]
def byBo (l : List Bool) : List AV := l.map fun b => (AV.sc (.bool (b)))
theorem c_sides_aux (m a : Nat) (h1 : 1 ≤ m) (ham : a < m) (hm : m < 2000000) (R X : List Bool) (hX : X.length ≤ m)
    (hR : m = 1 → R = []) (ha : m ≠ 1 → a < hf m → R = X ++ [true]) (hb : m ≠ 1 → ¬ a < hf m → R = X ++ [false])
    (ca : m ≠ 1 → a < hf m → FnOK Tryd.prog D 81 [(AV.sc (.int .i64 ((hf m : Int)))), (AV.sc (.int .i64 ((a : Int))))] [] (fun r st => r = .sl .lf (byBo X) (.own 0) ∧ st = []))
    (cb : m ≠ 1 → ¬ a < hf m → FnOK Tryd.prog D 81 [(AV.sc (.int .i64 (((m - hf m : Nat) : Int)))), (AV.sc (.int .i64 (((a - hf m : Nat) : Int))))] [] (fun r st => r = .sl .lf (byBo X) (.own 0) ∧ st = [])) :
    FnOK Tryd.prog D 81 [(AV.sc (.int .i64 ((m : Int)))), (AV.sc (.int .i64 ((a : Int))))] [] (fun r st => r = .sl .lf (byBo R) (.own 0) ∧ st = []) := by
  refine fnok_of_W hmix tabOK Tryd.func81 rfl rfl (Nat.le_of_ble_eq_true rfl) ?_
  conv => whnf
  refine Branch.of (fun e1 => ?_) (fun e1 => ?_) <;> rw [e1] <;> conv => whnf
  · simp only [beq_iff_eq] at e1
    rw [hR (by omega)]
    refine ⟨true, [], ?_⟩
    conv => whnf
    exact ⟨rfl, rfl⟩
  simp only [beq_eq_false_iff_ne, ne_eq] at e1
  have e : m ≠ 1 := by omega
  refine (c_half m (by omega) (by omega)).mono fun r st e => ?_
  obtain ⟨rfl, rfl⟩ := e
  conv => whnf
  have hh := hf_lt m (by omega)
  have hp := hf_pos m
  refine Branch.of (fun e2 => ?_) (fun e2 => ?_) <;> rw [e2] <;> conv => whnf
  · simp only [decide_eq_true_eq] at e2
    have e2 : a < hf m := by omega
    refine (ca e e2).mono fun r st e => ?_
    obtain ⟨rfl, rfl⟩ := e
    conv => whnf
    refine And.intro (by simp only [byBo, List.length_map]; show _ + 1 < _; omega) ?_
    conv => whnf
    rw [ha e e2]
    refine ⟨false, [], ?_⟩
    conv => whnf
    refine ⟨?_, rfl⟩
    simp [byBo]
  · simp only [decide_eq_false_iff_not] at e2
    have e2 : ¬ a < hf m := by omega
    rw [w64 (x := (m : Int) - (hf m : Int)) (by omega) (by omega), w64 (x := (a : Int) - (hf m : Int)) (by omega) (by omega), show (m : Int) - (hf m : Int) = ((m - hf m : Nat) : Int) by omega, show (a : Int) - (hf m : Int) = ((a - hf m : Nat) : Int) by omega]
    refine (cb e e2).mono fun r st e => ?_
    obtain ⟨rfl, rfl⟩ := e
    conv => whnf
    refine And.intro (by simp only [byBo, List.length_map]; show _ + 1 < _; omega) ?_
    conv => whnf
    rw [hb e e2]
    refine ⟨false, [], ?_⟩
    conv => whnf
    refine ⟨?_, rfl⟩
    simp [byBo]
theorem c_sides (n : Nat) : ∀ m a : Nat, 1 ≤ m → a < m → m ≤ n → m < 2000000 → FnOK Tryd.prog D 81 [(AV.sc (.int .i64 ((m : Int)))), (AV.sc (.int .i64 ((a : Int))))] [] (fun r st => r = .sl .lf (byBo (sidesF n m a)) (.own 0) ∧ st = []) := by
  induction n with
  | zero => intro m a h1 _ h2; omega
  | succ n ih =>
    intro m a h1 h0 h2 h3
    have e0 : sidesF (n + 1) m a = if m = 1 then [] else if a < hf m then sidesF n (hf m) a ++ [true] else sidesF n (m - hf m) (a - hf m) ++ [false] := rfl
    have hp := hf_pos m
    by_cases e : m = 1
    · exact c_sides_aux m a h1 h0 h3 _ [] (by simp) (fun _ => by rw [e0, if_pos e]) (fun h => absurd e h) (fun h => absurd e h) (fun h => absurd e h) (fun h => absurd e h)
    · have hh := hf_lt m (by omega)
      by_cases c : a < hf m
      · refine c_sides_aux m a h1 h0 h3 _ (sidesF n (hf m) a) ?_ (fun h => absurd h e) (fun _ _ => by rw [e0, if_neg e, if_pos c]) (fun _ h => absurd c h) (fun _ _ => ih (hf m) a (by omega) c (by omega) (by omega)) (fun _ h => absurd c h)
        rw [sidesF_more n (hf m) (hf m) a (by omega) c (by omega) (by omega)]
        have := sidesF_len (hf m) (hf m) a
        omega
      · refine c_sides_aux m a h1 h0 h3 _ (sidesF n (m - hf m) (a - hf m)) ?_ (fun h => absurd h e) (fun _ h => absurd h c) (fun _ _ => by rw [e0, if_neg e, if_neg c]) (fun _ h => absurd h c) (fun _ _ => ih (m - hf m) (a - hf m) (by omega) (by omega) (by omega) (by omega))
        rw [sidesF_more n (m - hf m) (m - hf m) (a - hf m) (by omega) (by omega) (by omega) (by omega)]
        have := sidesF_len (m - hf m) (m - hf m) (a - hf m)
        omega
/-- How many hashes a proof has. -/
def depB (m a : Int) : Nat := if isPlace m a then (sidesF m.toNat m.toNat a.toNat).length else 0
theorem c_depth_aux (m a : Int) (S : List Bool) (d : Nat) (cs : isPlace m a = true → FnOK Tryd.prog D 81 [(AV.sc (.int .i64 (m))), (AV.sc (.int .i64 (a)))] [] (fun r st => r = .sl .lf (byBo S) (.own 0) ∧ st = [])) (hy : isPlace m a = true → S.length = d) (hn : isPlace m a = false → d = 0) :
    FnOK Tryd.prog D 52 [(AV.sc (.int .i64 (m))), (AV.sc (.int .i64 (a)))] [] (fun r st => r = (AV.sc (.int .i64 ((d : Int)))) ∧ st = []) := by
  refine fnok_of_W hmix tabOK Tryd.func52 rfl rfl (Nat.le_of_ble_eq_true rfl) ?_
  conv => whnf
  refine (c_place m a).mono fun r st e => ?_
  obtain ⟨rfl, rfl⟩ := e
  conv => whnf
  cases h : isPlace m a
  · conv => whnf
    refine ⟨false, [], ?_⟩
    conv => whnf
    rw [hn h]
    exact ⟨rfl, rfl⟩
  · conv => whnf
    refine (cs h).mono fun r st e => ?_
    obtain ⟨rfl, rfl⟩ := e
    conv => whnf
    refine ⟨false, [], ?_⟩
    conv => whnf
    refine ⟨?_, rfl⟩
    rw [← hy h]
    simp [byBo]
theorem place_facts {m a : Int} (h : isPlace m a = true) : ∃ m' a' : Nat, m = (m' : Int) ∧ a = (a' : Int) ∧ 1 ≤ m' ∧ m' ≤ 1048576 ∧ a' < m' := by
  simp only [isPlace, Bool.and_eq_true, decide_eq_true_eq] at h
  exact ⟨m.toNat, a.toNat, by omega, by omega, by omega, by omega, by omega⟩
theorem c_depth (m a : Int) : FnOK Tryd.prog D 52 [(AV.sc (.int .i64 (m))), (AV.sc (.int .i64 (a)))] [] (fun r st => r = (AV.sc (.int .i64 ((depB m a : Int)))) ∧ st = []) := by
  refine c_depth_aux m a (sidesF m.toNat m.toNat a.toNat) (depB m a) (fun h => ?_) (fun h => ?_) (fun h => ?_)
  · obtain ⟨m', a', rfl, rfl, h1, h2, h3⟩ := place_facts h
    exact c_sides m' m' a' h1 h3 (Nat.le_refl _) (by omega)
  · unfold depB
    rw [if_pos h]
  · unfold depB
    rw [if_neg (by rw [h]; simp)]
end Go.WL.T4
