/- Roots, by the program and by the reference. No condition. -/
import Derived.Test.YtkcflejbhfaihaaDoorPart15
set_option linter.unusedVariables false
set_option linter.unusedSimpArgs false
namespace Go.WL.T4
open Go.WL Go.Proofs
set_option maxRecDepth 20000
set_option maxHeartbeats 8000000
theorem c_rootR_aux (l : List (List UInt8)) (R A B : List UInt8) (hl : l.length ≤ 100000) (h0 : l.length = 0 → by8 R = List.replicate 32 (AV.sc (.int .u8 (0))))
    (h1 : ∀ t, l = [t] → FnOK Tryd.prog D 77 [(AV.sl .lf (by8 (t)) .ro)] [] (fun r st => r = .ar 32 .lf (by8 R) ∧ st = []))
    (ca : 2 ≤ l.length → FnOK Tryd.prog D 51 [.sl .lf (byL (l.take (hf l.length))) .ro] [] (fun r st => r = .ar 32 .lf (by8 A) ∧ st = []))
    (cb : 2 ≤ l.length → FnOK Tryd.prog D 51 [.sl .lf (byL (l.drop (hf l.length))) .ro] [] (fun r st => r = .ar 32 .lf (by8 B) ∧ st = []))
    (ck : 2 ≤ l.length → FnOK Tryd.prog D 79 [.ar 32 .lf (by8 A), .ar 32 .lf (by8 B)] [] (fun r st => r = .ar 32 .lf (by8 R) ∧ st = [])) :
    FnOK Tryd.prog D 51 [.sl .lf (byL l) .ro] [] (fun r st => r = .ar 32 .lf (by8 R) ∧ st = []) := by
  refine fnok_of_W hmix tabOK Tryd.func51 rfl rfl (Nat.le_of_ble_eq_true rfl) ?_
  conv => whnf
  rw [lenL]
  refine Branch.of (fun e0 => ?_) (fun e0 => ?_) <;> rw [e0] <;> conv => whnf
  · refine ⟨false, [], ?_⟩
    conv => whnf
    simp only [beq_iff_eq] at e0
    rw [h0 (by omega)]
    exact ⟨rfl, rfl⟩
  rw [lenL]
  refine Branch.of (fun e1 => ?_) (fun e1 => ?_) <;> rw [e1] <;> conv => whnf
  · simp only [beq_iff_eq] at e1
    obtain ⟨t, rfl⟩ : ∃ t, l = [t] := List.length_eq_one_iff.1 (by omega)
    repeat (refine And.intro (by first | omega) ?_; conv => whnf)
    refine ⟨_, (show (byL [t])[Int.toNat 0]? = some (AV.sl .lf (by8 (t)) .ro) from rfl), ?_⟩
    conv => whnf
    refine (h1 t rfl).mono fun r st e => ?_
    obtain ⟨rfl, rfl⟩ := e
    conv => whnf
    refine ⟨false, [], ?_⟩
    conv => whnf
    exact ⟨rfl, rfl⟩
  simp only [beq_eq_false_iff_ne, ne_eq] at e0 e1
  have h2 : 2 ≤ l.length := by omega
  have hh := hf_lt l.length h2
  rw [lenL]
  refine (c_halfR l.length h2 (by omega)).mono fun r st e => ?_
  obtain ⟨rfl, rfl⟩ := e
  conv => whnf
  refine ⟨tabF51R6, by decide +kernel, ?_⟩
  conv => whnf
  repeat (refine And.intro (by first | omega) ?_; conv => whnf)
  refine And.intro (by rw [lenL]; omega) ?_
  conv => whnf
  rw [takeL]
  refine ⟨_, _, ca h2, ?_⟩
  conv => whnf
  refine ⟨by omega, ?_⟩
  conv => whnf
  refine And.intro (by rw [lenL]; omega) ?_
  conv => whnf
  refine And.intro (Nat.le_refl _) ?_
  conv => whnf
  rw [dropL]
  refine ⟨_, _, cb h2, ?_⟩
  conv => whnf
  refine ⟨_, _, ck h2, ?_⟩
  conv => whnf
  refine ⟨false, [], ?_⟩
  conv => whnf
  exact ⟨rfl, rfl⟩
theorem byL_len_take (l : List (List UInt8)) : byL l = l.map fun b => (AV.sl .lf (by8 (b)) .ro) := rfl
theorem c_root (n : Nat) : ∀ l : List (List UInt8), l.length ≤ n → l.length ≤ 100000 → (∀ t ∈ l, t.length < 10000000) → FnOK Tryd.prog D 50 [.sl .lf (byL l) .ro] [] (fun r st => r = .ar 32 .lf (by8 (rootF n l)) ∧ st = []) := by
  induction n with
  | zero =>
    intro l h0 h1 ht
    refine c_root_aux l _ z32 z32 h1 (fun _ => z32_is) (fun t e => ?_) (fun h2 => ?_) (fun h2 => ?_) (fun h2 => ?_)
    · rw [e] at h0; simp at h0
    · omega
    · omega
    · omega
  | succ n ih =>
    intro l h0 h1 ht
    refine c_root_aux l _ (rootF n (l.take (hf l.length))) (rootF n (l.drop (hf l.length))) h1 (fun h => ?_) (fun t e => ?_) (fun h2 => ?_) (fun h2 => ?_) (fun h2 => ?_)
    · unfold rootF
      rw [if_pos h]
      exact z32_is
    · subst e
      exact c_leaf t (ht t (by simp))
    · have hh := hf_lt l.length h2
      exact ih _ (by rw [List.length_take]; omega) (by rw [List.length_take]; omega) fun t h => ht t (List.mem_of_mem_take h)
    · have hh := hf_pos l.length
      exact ih _ (by rw [List.length_drop]; omega) (by rw [List.length_drop]; omega) fun t h => ht t (List.mem_of_mem_drop h)
    · have e : rootF (n + 1) l = knotB (rootF n (l.take (hf l.length))) (rootF n (l.drop (hf l.length))) := by
        conv => lhs; unfold rootF
        rw [if_neg (by omega), if_neg (by omega)]
      rw [e]
      exact c_knot _ _ (rootF_len _ _) (rootF_len _ _)
theorem c_rootR (n : Nat) : ∀ l : List (List UInt8), l.length ≤ n → l.length ≤ 100000 → (∀ t ∈ l, t.length < 10000000) → FnOK Tryd.prog D 51 [.sl .lf (byL l) .ro] [] (fun r st => r = .ar 32 .lf (by8 (rootF n l)) ∧ st = []) := by
  induction n with
  | zero =>
    intro l h0 h1 ht
    refine c_rootR_aux l _ z32 z32 h1 (fun _ => z32_is) (fun t e => ?_) (fun h2 => ?_) (fun h2 => ?_) (fun h2 => ?_)
    · rw [e] at h0; simp at h0
    · omega
    · omega
    · omega
  | succ n ih =>
    intro l h0 h1 ht
    refine c_rootR_aux l _ (rootF n (l.take (hf l.length))) (rootF n (l.drop (hf l.length))) h1 (fun h => ?_) (fun t e => ?_) (fun h2 => ?_) (fun h2 => ?_) (fun h2 => ?_)
    · unfold rootF
      rw [if_pos h]
      exact z32_is
    · subst e
      exact c_leafR t (ht t (by simp))
    · have hh := hf_lt l.length h2
      exact ih _ (by rw [List.length_take]; omega) (by rw [List.length_take]; omega) fun t h => ht t (List.mem_of_mem_take h)
    · have hh := hf_pos l.length
      exact ih _ (by rw [List.length_drop]; omega) (by rw [List.length_drop]; omega) fun t h => ht t (List.mem_of_mem_drop h)
    · have e : rootF (n + 1) l = knotB (rootF n (l.take (hf l.length))) (rootF n (l.drop (hf l.length))) := by
        conv => lhs; unfold rootF
        rw [if_neg (by omega), if_neg (by omega)]
      rw [e]
      exact c_knotR _ _ (rootF_len _ _) (rootF_len _ _)
/-- More fuel makes no difference. -/
theorem rootF_more : ∀ (n m : Nat) (l : List (List UInt8)), l.length ≤ n → l.length ≤ m → rootF n l = rootF m l
  | 0, 0, l, h0, h1 => rfl
  | 0, m + 1, l, h0, h1 => by
    unfold rootF
    rw [if_pos (by omega)]
  | n + 1, 0, l, h0, h1 => by
    unfold rootF
    rw [if_pos (by omega)]
  | n + 1, m + 1, l, h0, h1 => by
    unfold rootF
    by_cases e0 : l.length = 0
    · rw [if_pos e0, if_pos e0]
    · by_cases e1 : l.length = 1
      · rw [if_neg e0, if_neg e0, if_pos e1, if_pos e1]
      · have hh := hf_lt l.length (by omega)
        have hp := hf_pos l.length
        rw [if_neg e0, if_neg e0, if_neg e1, if_neg e1, rootF_more n m _ (by rw [List.length_take]; omega) (by rw [List.length_take]; omega), rootF_more n m _ (by rw [List.length_drop]; omega) (by rw [List.length_drop]; omega)]
end Go.WL.T4
