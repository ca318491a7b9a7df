/- What the proof of a place comes to, and what two unlike texts at one place come to. No condition. -/
import Derived.Test.YtkcflejbhfaihaaDoorPart25
set_option linter.unusedVariables false
set_option linter.unusedSimpArgs false
namespace Go.WL.T4
open Go.WL Go.Proofs
set_option maxRecDepth 20000
set_option maxHeartbeats 8000000
theorem prove_sides : ∀ (n : Nat) (l : List (List UInt8)) (a : Nat), 1 ≤ l.length → a < l.length → l.length ≤ n → (proveF n l a).length = (sidesF n l.length a).length
  | 0, l, a, h1, _, h2 => by omega
  | n + 1, l, a, h1, h0, h2 => by
    unfold proveF sidesF
    by_cases e : l.length = 1
    · rw [if_pos e, if_pos e]; rfl
    · have hh := hf_lt l.length (by omega)
      have hp := hf_pos l.length
      have l1 : (l.take (hf l.length)).length = hf l.length := by rw [List.length_take]; omega
      have l2 : (l.drop (hf l.length)).length = l.length - hf l.length := by rw [List.length_drop]
      by_cases c : a < hf l.length
      · have := prove_sides n (l.take (hf l.length)) a (by omega) (by omega) (by omega)
        rw [l1] at this
        rw [if_neg e, if_neg e, if_pos c, if_pos c, List.length_append, List.length_append, this]; rfl
      · have := prove_sides n (l.drop (hf l.length)) (a - hf l.length) (by omega) (by omega) (by omega)
        rw [l2] at this
        rw [if_neg e, if_neg e, if_neg c, if_neg c, List.length_append, List.length_append, this]; rfl
/-- The text at a place. -/
def atB (l : List (List UInt8)) (a : Nat) : List UInt8 := l[a]?.getD []
theorem atB_take {l : List (List UInt8)} {a k : Nat} (h : a < k) : atB (l.take k) a = atB l a := by
  unfold atB
  rw [List.getElem?_take_of_lt h]
theorem atB_drop {l : List (List UInt8)} {a k : Nat} (h : ¬ a < k) : atB (l.drop k) (a - k) = atB l a := by
  unfold atB
  rw [List.getElem?_drop, show k + (a - k) = a by omega]
theorem atB_one {l : List (List UInt8)} (h : l.length = 1) : atB l 0 = l.headD [] := by
  obtain ⟨t, rfl⟩ := List.length_eq_one_iff.1 h
  rfl
theorem prove_chk : ∀ (n : Nat) (l : List (List UInt8)) (a : Nat), 1 ≤ l.length → a < l.length → l.length ≤ n → chkF (sidesF n l.length a) (proveF n l a) (leafB (atB l a)) = rootF n l
  | 0, l, a, h1, _, h2 => by omega
  | n + 1, l, a, h1, h0, h2 => by
    unfold proveF sidesF
    conv => rhs; unfold rootF
    rw [if_neg (show ¬ l.length = 0 by omega)]
    by_cases e : l.length = 1
    · obtain rfl : a = 0 := by omega
      rw [if_pos e, if_pos e, if_pos e, atB_one e]; rfl
    · have hh := hf_lt l.length (by omega)
      have hp := hf_pos l.length
      have l1 : (l.take (hf l.length)).length = hf l.length := by rw [List.length_take]; omega
      have l2 : (l.drop (hf l.length)).length = l.length - hf l.length := by rw [List.length_drop]
      by_cases c : a < hf l.length
      · have i1 := prove_sides n (l.take (hf l.length)) a (by omega) (by omega) (by omega)
        have i2 := prove_chk n (l.take (hf l.length)) a (by omega) (by omega) (by omega)
        rw [l1] at i1 i2
        rw [atB_take c] at i2
        rw [if_neg e, if_neg e, if_neg e, if_pos c, if_pos c, chkF_snoc _ _ _ _ _ i1.symm, i2]; rfl
      · have i1 := prove_sides n (l.drop (hf l.length)) (a - hf l.length) (by omega) (by omega) (by omega)
        have i2 := prove_chk n (l.drop (hf l.length)) (a - hf l.length) (by omega) (by omega) (by omega)
        rw [l2] at i1 i2
        rw [atB_drop c] at i2
        rw [if_neg e, if_neg e, if_neg e, if_neg c, if_neg c, chkF_snoc _ _ _ _ _ i1.symm, i2]; rfl
/-- Unlike texts, and with a byte 1 ahead, one sum? -/
def pairB (x y : List UInt8) : Bool := !(x == y) && (shaB (1 :: x) == shaB (1 :: y))
def twF : Nat → List (List UInt8) → Nat → List UInt8 → List (List UInt8) → Bool
  | 0, _, _, _, _ => false
  | n + 1, l, a, t, pr => if l.length = 1 then leafB t == leafB (l.headD []) else
    if a < hf l.length then pairB (chkF (sidesF n (hf l.length) a) pr.dropLast (leafB t) ++ pr.getLastD []) (rootF n (l.take (hf l.length)) ++ rootF n (l.drop (hf l.length))) || twF n (l.take (hf l.length)) a t pr.dropLast
    else pairB (pr.getLastD [] ++ chkF (sidesF n (l.length - hf l.length) (a - hf l.length)) pr.dropLast (leafB t)) (rootF n (l.take (hf l.length)) ++ rootF n (l.drop (hf l.length))) || twF n (l.drop (hf l.length)) (a - hf l.length) t pr.dropLast
theorem pair_or {x y : List UInt8} (h : shaB (1 :: x) = shaB (1 :: y)) : pairB x y = true ∨ x = y := by
  by_cases e : x = y
  · exact .inr e
  · exact .inl (by unfold pairB; rw [h, beq_self_eq_true, beq_false_of_ne e]; rfl)
theorem snoc_of {pr : List (List UInt8)} {k : Nat} (h : pr.length = k + 1) : pr = pr.dropLast ++ [pr.getLastD []] ∧ pr.dropLast.length = k := by
  have hne : pr ≠ [] := by intro e; rw [e] at h; simp at h
  refine ⟨?_, by rw [List.length_dropLast]; omega⟩
  conv => lhs; rw [← List.dropLast_concat_getLast hne]
  rw [List.getLastD_eq_getLast?, List.getLast?_eq_some_getLast hne]; rfl
theorem binds : ∀ (n : Nat) (l : List (List UInt8)) (a : Nat) (t : List UInt8) (pr : List (List UInt8)), 1 ≤ l.length → a < l.length → l.length ≤ n → pr.length = (sidesF n l.length a).length → (∀ p ∈ pr, p.length = 32) →
    chkF (sidesF n l.length a) pr (leafB t) = rootF n l → t ≠ atB l a → twF n l a t pr = true
  | 0, l, a, t, pr, h1, _, h2, _, _, _, _ => by omega
  | n + 1, l, a, t, pr, h1, h0, h2, h3, h4, h5, h6 => by
    unfold sidesF at h3 h5
    unfold rootF at h5
    rw [if_neg (show ¬ l.length = 0 by omega)] at h5
    unfold twF
    by_cases e : l.length = 1
    · rw [if_pos e] at h3 h5 ⊢
      rw [if_pos e] at h5
      cases pr with
      | cons p q => simp at h3
      | nil => rw [← h5]; exact beq_self_eq_true _
    · have hh := hf_lt l.length (by omega)
      have hp := hf_pos l.length
      have l1 : (l.take (hf l.length)).length = hf l.length := by rw [List.length_take]; omega
      have l2 : (l.drop (hf l.length)).length = l.length - hf l.length := by rw [List.length_drop]
      rw [if_neg e] at h3 h5 ⊢
      rw [if_neg e] at h5
      by_cases c : a < hf l.length
      · rw [if_pos c] at h3 h5 ⊢
        rw [List.length_append] at h3
        obtain ⟨e1, e2⟩ := snoc_of h3
        have hX := chkF_len (sidesF n (hf l.length) a) pr.dropLast (leafB t) (shaB_len _)
        have hd : ∀ p ∈ pr.dropLast, p.length = 32 := fun p h => h4 p ((List.dropLast_sublist _).subset h)
        rw [e1, chkF_snoc _ _ _ _ _ e2.symm] at h5
        rcases pair_or (x := chkF (sidesF n (hf l.length) a) pr.dropLast (leafB t) ++ pr.getLastD []) (y := rootF n (l.take (hf l.length)) ++ rootF n (l.drop (hf l.length))) h5 with h | h
        · rw [h]; rfl
        · have h7 := (List.append_inj h (by rw [hX, rootF_len])).1
          have := binds n (l.take (hf l.length)) a t pr.dropLast (by omega) (by omega) (by omega) (by rw [l1]; exact e2) hd (by rw [l1]; exact h7) (by rw [atB_take c]; exact h6)
          rw [this, Bool.or_true]
      · rw [if_neg c] at h3 h5 ⊢
        rw [List.length_append] at h3
        obtain ⟨e1, e2⟩ := snoc_of h3
        have hX := chkF_len (sidesF n (l.length - hf l.length) (a - hf l.length)) pr.dropLast (leafB t) (shaB_len _)
        have hd : ∀ p ∈ pr.dropLast, p.length = 32 := fun p h => h4 p ((List.dropLast_sublist _).subset h)
        rw [e1, chkF_snoc _ _ _ _ _ e2.symm] at h5
        have hl : (pr.getLastD []).length = 32 := h4 _ (by rw [e1]; simp)
        rcases pair_or (x := pr.getLastD [] ++ chkF (sidesF n (l.length - hf l.length) (a - hf l.length)) pr.dropLast (leafB t)) (y := rootF n (l.take (hf l.length)) ++ rootF n (l.drop (hf l.length))) h5 with h | h
        · rw [h]; rfl
        · have h7 := (List.append_inj h (by rw [hl, rootF_len])).2
          have := binds n (l.drop (hf l.length)) (a - hf l.length) t pr.dropLast (by omega) (by omega) (by omega) (by rw [l2]; exact e2) hd (by rw [l2]; exact h7) (by rw [atB_drop c]; exact h6)
          rw [this, Bool.or_true]
end Go.WL.T4
