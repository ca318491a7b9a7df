/- Proofs, by the reference too. No condition. -/
import Derived.Test.YtkcflejbhfaihaaDoorPart19
set_option linter.unusedVariables false
set_option linter.unusedSimpArgs false
namespace Go.WL.T4
open Go.WL Go.Proofs
set_option maxRecDepth 20000
set_option maxHeartbeats 8000000
theorem c_proveR_aux (l : List (List UInt8)) (a : Nat) (h1 : 1 ≤ l.length) (hal : a < l.length) (hl : l.length ≤ 100000) (R X : List (List UInt8)) (Y : List UInt8) (hX : X.length ≤ l.length)
    (hR : l.length = 1 → R = []) (hR2 : l.length ≠ 1 → R = X ++ [Y])
    (ca : l.length ≠ 1 → a < hf l.length → FnOK Tryd.prog D 54 [.sl .lf (byL (l.take (hf l.length))) .ro, (AV.sc (.int .i64 ((a : Int))))] [] (fun r st => r = .sl (.ar 32 .lf) (byH X) (.own 0) ∧ st = []))
    (cra : l.length ≠ 1 → a < hf l.length → FnOK Tryd.prog D 51 [.sl .lf (byL (l.drop (hf l.length))) .ro] [] (fun r st => r = .ar 32 .lf (by8 Y) ∧ st = []))
    (cb : l.length ≠ 1 → ¬ a < hf l.length → FnOK Tryd.prog D 54 [.sl .lf (byL (l.drop (hf l.length))) .ro, (AV.sc (.int .i64 (((a - hf l.length : Nat) : Int))))] [] (fun r st => r = .sl (.ar 32 .lf) (byH X) (.own 0) ∧ st = []))
    (crb : l.length ≠ 1 → ¬ a < hf l.length → FnOK Tryd.prog D 51 [.sl .lf (byL (l.take (hf l.length))) .ro] [] (fun r st => r = .ar 32 .lf (by8 Y) ∧ st = [])) :
    FnOK Tryd.prog D 54 [.sl .lf (byL l) .ro, (AV.sc (.int .i64 ((a : Int))))] [] (fun r st => r = .sl (.ar 32 .lf) (byH R) (.own 0) ∧ st = []) := by
  refine fnok_of_W hmix tabOK Tryd.func54 rfl rfl (Nat.le_of_ble_eq_true rfl) ?_
  conv => whnf
  rw [lenL]
  refine Branch.of (fun e1 => ?_) (fun e1 => ?_) <;> rw [e1] <;> conv => whnf
  · simp only [beq_iff_eq] at e1
    rw [hR (by omega)]
    refine ⟨true, [], ?_⟩
    conv => whnf
    exact ⟨rfl, rfl⟩
  simp only [beq_eq_false_iff_ne, ne_eq] at e1
  have e : l.length ≠ 1 := by omega
  have hh := hf_lt l.length (by omega)
  have hp := hf_pos l.length
  rw [lenL]
  refine (c_halfR l.length (by omega) (by omega)).mono fun r st e => ?_
  obtain ⟨rfl, rfl⟩ := e
  conv => whnf
  refine Branch.of (fun e2 => ?_) (fun e2 => ?_) <;> rw [e2] <;> conv => whnf
  · simp only [decide_eq_true_eq] at e2
    have e2 : a < hf l.length := by omega
    refine ⟨tabF54R5, by decide +kernel, ?_⟩
    conv => whnf
    repeat (refine And.intro (by first | omega) ?_; conv => whnf)
    refine And.intro (by rw [lenL]; omega) ?_
    conv => whnf
    rw [takeL]
    refine ⟨_, _, ca e e2, ?_⟩
    conv => whnf
    refine ⟨by omega, ?_⟩
    conv => whnf
    refine And.intro (by rw [lenL]; omega) ?_
    conv => whnf
    refine And.intro (Nat.le_refl _) ?_
    conv => whnf
    rw [dropL]
    refine ⟨_, _, cra e e2, ?_⟩
    conv => whnf
    refine And.intro (by rw [lenH]; show _ + 1 < _; omega) ?_
    conv => whnf
    rw [snocH, ← hR2 e]
    refine ⟨false, [], ?_⟩
    conv => whnf
    exact ⟨rfl, rfl⟩
  · simp only [decide_eq_false_iff_not] at e2
    have e2 : ¬ a < hf l.length := by omega
    refine ⟨tabF54R6, by decide +kernel, ?_⟩
    conv => whnf
    refine ⟨by omega, ?_⟩
    conv => whnf
    refine And.intro (by rw [lenL]; omega) ?_
    conv => whnf
    refine And.intro (Nat.le_refl _) ?_
    conv => whnf
    rw [dropL, w64 (x := (a : Int) - (hf l.length : Int)) (by omega) (by omega), show (a : Int) - (hf l.length : Int) = ((a - hf l.length : Nat) : Int) by omega]
    refine ⟨_, _, cb e e2, ?_⟩
    conv => whnf
    repeat (refine And.intro (by first | omega) ?_; conv => whnf)
    refine And.intro (by rw [lenL]; omega) ?_
    conv => whnf
    rw [takeL]
    refine ⟨_, _, crb e e2, ?_⟩
    conv => whnf
    refine And.intro (by rw [lenH]; show _ + 1 < _; omega) ?_
    conv => whnf
    rw [snocH, ← hR2 e]
    refine ⟨false, [], ?_⟩
    conv => whnf
    exact ⟨rfl, rfl⟩
theorem proveF_len : ∀ (n : Nat) (l : List (List UInt8)) (a : Nat), (proveF n l a).length ≤ n
  | 0, _, _ => Nat.le_refl _
  | n + 1, l, a => by
    unfold proveF
    split
    · simp
    · split
      · have := proveF_len n (l.take (hf l.length)) a
        simp; omega
      · have := proveF_len n (l.drop (hf l.length)) (a - hf l.length)
        simp; omega
theorem proveF_more : ∀ (n k : Nat) (l : List (List UInt8)) (a : Nat), 1 ≤ l.length → a < l.length → l.length ≤ n → l.length ≤ k → proveF n l a = proveF k l a
  | 0, _, l, a, h1, _, h2, _ => by omega
  | _ + 1, 0, l, a, h1, _, _, h3 => by omega
  | n + 1, k + 1, l, a, h1, h0, h2, h3 => by
    unfold proveF
    by_cases e : l.length = 1
    · rw [if_pos e, if_pos e]
    · have hh := hf_lt l.length (by omega)
      have hp := hf_pos l.length
      have r1 := rootF_more n k (l.drop (hf l.length)) (by rw [List.length_drop]; omega) (by rw [List.length_drop]; omega)
      have r2 := rootF_more n k (l.take (hf l.length)) (by rw [List.length_take]; omega) (by rw [List.length_take]; omega)
      by_cases c : a < hf l.length
      · rw [if_neg e, if_neg e, if_pos c, if_pos c, proveF_more n k _ a (by rw [List.length_take]; omega) (by rw [List.length_take]; omega) (by rw [List.length_take]; omega) (by rw [List.length_take]; omega), r1]
      · rw [if_neg e, if_neg e, if_neg c, if_neg c, proveF_more n k _ _ (by rw [List.length_drop]; omega) (by rw [List.length_drop]; omega) (by rw [List.length_drop]; omega) (by rw [List.length_drop]; omega), r2]
theorem c_prove (n : Nat) : ∀ (l : List (List UInt8)) (a : Nat), 1 ≤ l.length → a < l.length → l.length ≤ n → l.length ≤ 100000 → (∀ t ∈ l, t.length < 10000000) → FnOK Tryd.prog D 73 [.sl .lf (byL l) .ro, (AV.sc (.int .i64 ((a : Int))))] [] (fun r st => r = .sl (.ar 32 .lf) (byH (proveF n l a)) (.own 0) ∧ st = []) := by
  induction n with
  | zero => intro l a h1 _ h2; omega
  | succ n ih =>
    intro l a h1 h0 h2 h3 ht
    have e0 : proveF (n + 1) l a = if l.length = 1 then [] else if a < hf l.length then proveF n (l.take (hf l.length)) a ++ [rootF n (l.drop (hf l.length))] else proveF n (l.drop (hf l.length)) (a - hf l.length) ++ [rootF n (l.take (hf l.length))] := rfl
    have hp := hf_pos l.length
    by_cases e : l.length = 1
    · exact c_prove_aux l a h1 h0 h3 _ [] [] (by simp) (fun _ => by rw [e0, if_pos e]) (fun h => absurd e h) (fun h => absurd e h) (fun h => absurd e h) (fun h => absurd e h) (fun h => absurd e h)
    · have hh := hf_lt l.length (by omega)
      have ht1 : ∀ t ∈ l.take (hf l.length), t.length < 10000000 := fun t h => ht t (List.mem_of_mem_take h)
      have ht2 : ∀ t ∈ l.drop (hf l.length), t.length < 10000000 := fun t h => ht t (List.mem_of_mem_drop h)
      have l1 : (l.take (hf l.length)).length = hf l.length := by rw [List.length_take]; omega
      have l2 : (l.drop (hf l.length)).length = l.length - hf l.length := by rw [List.length_drop]
      by_cases c : a < hf l.length
      · refine c_prove_aux l a h1 h0 h3 _ (proveF n (l.take (hf l.length)) a) (rootF n (l.drop (hf l.length))) ?_ (fun h => absurd h e) (fun _ => by rw [e0, if_neg e, if_pos c]) (fun _ _ => ih _ a (by omega) (by omega) (by omega) (by omega) ht1) (fun _ _ => c_root n _ (by omega) (by omega) ht2) (fun _ h => absurd c h) (fun _ h => absurd c h)
        rw [proveF_more n (l.take (hf l.length)).length _ a (by omega) (by omega) (by omega) (by omega)]
        have := proveF_len (l.take (hf l.length)).length (l.take (hf l.length)) a
        omega
      · refine c_prove_aux l a h1 h0 h3 _ (proveF n (l.drop (hf l.length)) (a - hf l.length)) (rootF n (l.take (hf l.length))) ?_ (fun h => absurd h e) (fun _ => by rw [e0, if_neg e, if_neg c]) (fun _ h => absurd h c) (fun _ h => absurd h c) (fun _ _ => ih _ _ (by omega) (by omega) (by omega) (by omega) ht2) (fun _ _ => c_root n _ (by omega) (by omega) ht1)
        rw [proveF_more n (l.drop (hf l.length)).length _ _ (by omega) (by omega) (by omega) (by omega)]
        have := proveF_len (l.drop (hf l.length)).length (l.drop (hf l.length)) (a - hf l.length)
        omega
theorem c_proveR (n : Nat) : ∀ (l : List (List UInt8)) (a : Nat), 1 ≤ l.length → a < l.length → l.length ≤ n → l.length ≤ 100000 → (∀ t ∈ l, t.length < 10000000) → FnOK Tryd.prog D 54 [.sl .lf (byL l) .ro, (AV.sc (.int .i64 ((a : Int))))] [] (fun r st => r = .sl (.ar 32 .lf) (byH (proveF n l a)) (.own 0) ∧ st = []) := by
  induction n with
  | zero => intro l a h1 _ h2; omega
  | succ n ih =>
    intro l a h1 h0 h2 h3 ht
    have e0 : proveF (n + 1) l a = if l.length = 1 then [] else if a < hf l.length then proveF n (l.take (hf l.length)) a ++ [rootF n (l.drop (hf l.length))] else proveF n (l.drop (hf l.length)) (a - hf l.length) ++ [rootF n (l.take (hf l.length))] := rfl
    have hp := hf_pos l.length
    by_cases e : l.length = 1
    · exact c_proveR_aux l a h1 h0 h3 _ [] [] (by simp) (fun _ => by rw [e0, if_pos e]) (fun h => absurd e h) (fun h => absurd e h) (fun h => absurd e h) (fun h => absurd e h) (fun h => absurd e h)
    · have hh := hf_lt l.length (by omega)
      have ht1 : ∀ t ∈ l.take (hf l.length), t.length < 10000000 := fun t h => ht t (List.mem_of_mem_take h)
      have ht2 : ∀ t ∈ l.drop (hf l.length), t.length < 10000000 := fun t h => ht t (List.mem_of_mem_drop h)
      have l1 : (l.take (hf l.length)).length = hf l.length := by rw [List.length_take]; omega
      have l2 : (l.drop (hf l.length)).length = l.length - hf l.length := by rw [List.length_drop]
      by_cases c : a < hf l.length
      · refine c_proveR_aux l a h1 h0 h3 _ (proveF n (l.take (hf l.length)) a) (rootF n (l.drop (hf l.length))) ?_ (fun h => absurd h e) (fun _ => by rw [e0, if_neg e, if_pos c]) (fun _ _ => ih _ a (by omega) (by omega) (by omega) (by omega) ht1) (fun _ _ => c_rootR n _ (by omega) (by omega) ht2) (fun _ h => absurd c h) (fun _ h => absurd c h)
        rw [proveF_more n (l.take (hf l.length)).length _ a (by omega) (by omega) (by omega) (by omega)]
        have := proveF_len (l.take (hf l.length)).length (l.take (hf l.length)) a
        omega
      · refine c_proveR_aux l a h1 h0 h3 _ (proveF n (l.drop (hf l.length)) (a - hf l.length)) (rootF n (l.take (hf l.length))) ?_ (fun h => absurd h e) (fun _ => by rw [e0, if_neg e, if_neg c]) (fun _ h => absurd h c) (fun _ h => absurd h c) (fun _ _ => ih _ _ (by omega) (by omega) (by omega) (by omega) ht2) (fun _ _ => c_rootR n _ (by omega) (by omega) ht1)
        rw [proveF_more n (l.drop (hf l.length)).length _ _ (by omega) (by omega) (by omega) (by omega)]
        have := proveF_len (l.drop (hf l.length)).length (l.drop (hf l.length)) (a - hf l.length)
        omega
end Go.WL.T4
