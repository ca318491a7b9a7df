/- MerkleProves. No condition. -/
import Derived.Test.YtkcflejbhfaihaaDoorPart26
set_option linter.unusedVariables false
set_option linter.unusedSimpArgs false
namespace Go.WL.T4
open Go.WL Go.Proofs
set_option maxRecDepth 20000
set_option maxHeartbeats 8000000
theorem proveF_32 : ∀ (n : Nat) (l : List (List UInt8)) (a : Nat), ∀ p ∈ proveF n l a, p.length = 32
  | 0, _, _, p, h => by cases h
  | n + 1, l, a, p, h => by
    unfold proveF at h
    split at h
    · cases h
    · split at h
      · rcases List.mem_append.1 h with h | h
        · exact proveF_32 n _ _ p h
        · rw [List.mem_singleton.1 h]; exact rootF_len _ _
      · rcases List.mem_append.1 h with h | h
        · exact proveF_32 n _ _ p h
        · rw [List.mem_singleton.1 h]; exact rootF_len _ _
theorem c_mproves_no (l : List (List UInt8)) (a : Int) (R : List UInt8) (d : Nat) (h : a < 0 ∨ (l.length : Int) ≤ a)
    (ca : FnOK Tryd.prog D 48 [] [] (fun r st => r = (AV.sc (.bool (true))) ∧ st = []))
    (cr : l.length ≤ 20 → (∀ t ∈ l, t.length ≤ 200) → FnOK Tryd.prog D 50 [.sl .lf (byL l) .ro] [] (fun r st => r = .ar 32 .lf (by8 R) ∧ st = []))
    (crR : l.length ≤ 20 → (∀ t ∈ l, t.length ≤ 200) → FnOK Tryd.prog D 51 [.sl .lf (byL l) .ro] [] (fun r st => r = .ar 32 .lf (by8 R) ∧ st = []))
    (cd : FnOK Tryd.prog D 52 [(AV.sc (.int .i64 ((l.length : Int)))), (AV.sc (.int .i64 (a)))] [] (fun r st => r = (AV.sc (.int .i64 ((d : Int)))) ∧ st = []))
    (cdR : FnOK Tryd.prog D 53 [(AV.sc (.int .i64 ((l.length : Int)))), (AV.sc (.int .i64 (a)))] [] (fun r st => r = (AV.sc (.int .i64 ((d : Int)))) ∧ st = [])) :
    FnOK Tryd.prog D 11 [.sl .lf (byL l) .ro, (AV.sc (.int .i64 (a)))] [] (fun r _ => r = (AV.sc (.bool (true)))) := by
  have hlen := lenL l
  refine fnok_of_W hmix tabOK Tryd.func11 rfl rfl (Nat.le_of_ble_eq_true rfl) ?_
  conv => whnf
  refine (c_light l).mono fun r st e => ?_
  obtain ⟨e, rfl⟩ := e
  rcases e with rfl | ⟨rfl, hl, ht⟩
  · conv => whnf
    refine (ca).mono fun r st e => ?_
    obtain ⟨rfl, rfl⟩ := e
    conv => whnf
    refine ⟨false, [], ?_⟩
    conv => whnf
  conv => whnf
  refine (c_Prove_no l a h).mono fun r st e => ?_
  obtain ⟨rfl, rfl⟩ := e
  conv => whnf
  refine (cr hl ht).mono fun r st e => ?_
  obtain ⟨rfl, rfl⟩ := e
  conv => whnf
  refine (crR hl ht).mono fun r st e => ?_
  obtain ⟨rfl, rfl⟩ := e
  conv => whnf
  refine ⟨R, R, rfl, rfl, ?_⟩
  conv => whnf
  rw [beq_self_eq_true]
  conv => whnf
  rw [hlen]
  refine (cd).mono fun r st e => ?_
  obtain ⟨rfl, rfl⟩ := e
  conv => whnf
  rw [hlen]
  refine (cdR).mono fun r st e => ?_
  obtain ⟨rfl, rfl⟩ := e
  conv => whnf
  refine Branch.of (fun hh => ?_) (fun hh => ?_)
  · exfalso; simp only [gt_iff_lt, ge_iff_le, decide_eq_true_eq, decide_eq_false_iff_not, beq_iff_eq, beq_eq_false_iff_ne, bne_iff_ne, bne_eq_false_iff_eq, ne_eq] at hh; first | done | omega | (simp at hh; done)
  try rw [hh]
  clear hh
  conv => whnf
  refine Branch.of (fun h1 => ?_) (fun h1 => ?_) <;> rw [h1] <;> conv => whnf
  · refine (ca).mono fun r st e => ?_
    obtain ⟨rfl, rfl⟩ := e
    conv => whnf
    refine ⟨false, [], ?_⟩
    conv => whnf
  · simp only [decide_eq_false_iff_not] at h1
    rw [hlen]
    refine Branch.of (fun hh => ?_) (fun hh => ?_)
    rotate_left
    · exfalso; simp only [gt_iff_lt, ge_iff_le, decide_eq_true_eq, decide_eq_false_iff_not, beq_iff_eq, beq_eq_false_iff_ne, bne_iff_ne, bne_eq_false_iff_eq, ne_eq] at hh; first | done | omega | (simp at hh; done)
    try rw [hh]
    clear hh
    conv => whnf
    refine (ca).mono fun r st e => ?_
    obtain ⟨rfl, rfl⟩ := e
    conv => whnf
    refine ⟨false, [], ?_⟩
    conv => whnf
theorem c_mproves_yes (l : List (List UInt8)) (a : Nat) (hal : a < l.length) (R : List UInt8) (X : List (List UInt8)) (d : Nat) (hX : X.length ≤ l.length)
    (ca : FnOK Tryd.prog D 48 [] [] (fun r st => r = (AV.sc (.bool (true))) ∧ st = []))
    (cr : l.length ≤ 20 → (∀ t ∈ l, t.length ≤ 200) → FnOK Tryd.prog D 50 [.sl .lf (byL l) .ro] [] (fun r st => r = .ar 32 .lf (by8 R) ∧ st = []))
    (crR : l.length ≤ 20 → (∀ t ∈ l, t.length ≤ 200) → FnOK Tryd.prog D 51 [.sl .lf (byL l) .ro] [] (fun r st => r = .ar 32 .lf (by8 R) ∧ st = []))
    (cp : l.length ≤ 20 → (∀ t ∈ l, t.length ≤ 200) → FnOK Tryd.prog D 49 [.sl .lf (byL l) .ro, (AV.sc (.int .i64 ((a : Int))))] [] (fun r st => r = .tup [.sl (.ar 32 .lf) (byH X) (.own 0), (AV.sc (.int .i64 (0)))] ∧ st = []))
    (cpR : l.length ≤ 20 → (∀ t ∈ l, t.length ≤ 200) → FnOK Tryd.prog D 54 [.sl .lf (byL l) .ro, (AV.sc (.int .i64 ((a : Int))))] [] (fun r st => r = .sl (.ar 32 .lf) (byH X) (.own 0) ∧ st = []))
    (cc : l.length ≤ 20 → (∀ t ∈ l, t.length ≤ 200) → FnOK Tryd.prog D 55 [.ar 32 .lf (by8 R), (AV.sc (.int .i64 ((l.length : Int)))), (AV.sc (.int .i64 ((a : Int)))), (AV.sl .lf (by8 (l[a])) .ro), .sl (.ar 32 .lf) (byH X) .ro] [] (fun r st => r = (AV.sc (.bool (true))) ∧ st = []))
    (cd : FnOK Tryd.prog D 52 [(AV.sc (.int .i64 ((l.length : Int)))), (AV.sc (.int .i64 ((a : Int))))] [] (fun r st => r = (AV.sc (.int .i64 ((d : Int)))) ∧ st = []))
    (cdR : FnOK Tryd.prog D 53 [(AV.sc (.int .i64 ((l.length : Int)))), (AV.sc (.int .i64 ((a : Int))))] [] (fun r st => r = (AV.sc (.int .i64 ((d : Int)))) ∧ st = [])) :
    FnOK Tryd.prog D 11 [.sl .lf (byL l) .ro, (AV.sc (.int .i64 ((a : Int))))] [] (fun r _ => r = (AV.sc (.bool (true)))) := by
  have hlen := lenL l
  refine fnok_of_W hmix tabOK Tryd.func11 rfl rfl (Nat.le_of_ble_eq_true rfl) ?_
  conv => whnf
  refine (c_light l).mono fun r st e => ?_
  obtain ⟨e, rfl⟩ := e
  rcases e with rfl | ⟨rfl, hl, ht⟩
  · conv => whnf
    refine (ca).mono fun r st e => ?_
    obtain ⟨rfl, rfl⟩ := e
    conv => whnf
    refine ⟨false, [], ?_⟩
    conv => whnf
  conv => whnf
  refine (cp hl ht).mono fun r st e => ?_
  obtain ⟨rfl, rfl⟩ := e
  conv => whnf
  refine (cr hl ht).mono fun r st e => ?_
  obtain ⟨rfl, rfl⟩ := e
  conv => whnf
  refine (crR hl ht).mono fun r st e => ?_
  obtain ⟨rfl, rfl⟩ := e
  conv => whnf
  refine ⟨R, R, rfl, rfl, ?_⟩
  conv => whnf
  rw [beq_self_eq_true]
  conv => whnf
  rw [hlen]
  refine (cd).mono fun r st e => ?_
  obtain ⟨rfl, rfl⟩ := e
  conv => whnf
  rw [hlen]
  refine (cdR).mono fun r st e => ?_
  obtain ⟨rfl, rfl⟩ := e
  conv => whnf
  refine Branch.of (fun hh => ?_) (fun hh => ?_)
  · exfalso; simp only [gt_iff_lt, ge_iff_le, decide_eq_true_eq, decide_eq_false_iff_not, beq_iff_eq, beq_eq_false_iff_ne, bne_iff_ne, bne_eq_false_iff_eq, ne_eq] at hh; first | done | omega | (simp at hh; done)
  try rw [hh]
  clear hh
  conv => whnf
  rw [hlen]
  refine Branch.of (fun hh => ?_) (fun hh => ?_)
  · exfalso; simp only [gt_iff_lt, ge_iff_le, decide_eq_true_eq, decide_eq_false_iff_not, beq_iff_eq, beq_eq_false_iff_ne, bne_iff_ne, bne_eq_false_iff_eq, ne_eq] at hh; first | done | omega | (simp at hh; done)
  try rw [hh]
  clear hh
  conv => whnf
  refine (cpR hl ht).mono fun r st e => ?_
  obtain ⟨rfl, rfl⟩ := e
  conv => whnf
  refine ⟨tabF11R9, by decide +kernel, ?_⟩
  conv => whnf
  rw [lenH]
  refine Branch.of (fun hh => ?_) (fun hh => ?_)
  · exfalso; simp only [gt_iff_lt, ge_iff_le, decide_eq_true_eq, decide_eq_false_iff_not, beq_iff_eq, beq_eq_false_iff_ne, bne_iff_ne, bne_eq_false_iff_eq, ne_eq] at hh; first | done | omega | (simp at hh; done)
  try rw [hh]
  clear hh
  conv => whnf
  refine ⟨_, _, cr hl ht, ?_⟩
  conv => whnf
  rw [hlen]
  repeat (refine And.intro (by first | omega) ?_; conv => whnf)
  refine ⟨_, (show (byL l)[((a : Nat) : Int).toNat]? = some (AV.sl .lf (by8 (l[a])) .ro) by simp [byL, hal]), ?_⟩
  conv => whnf
  refine ⟨_, _, cc hl ht, ?_⟩
  conv => whnf
  refine ⟨false, [0, 1, 5, 7, 8], fun τ => ∃ i : Nat, i ≤ X.length ∧ τ = ⟨95, [(0, .sl .lf (byL l) .ro), (1, (AV.sc (.int .i64 ((a : Int))))), (5, .sl (.ar 32 .lf) (byH X) (.own 0)), (7, .sl (.ar 32 .lf) (byH X) (.own 1)), (8, (AV.sc (.int .i64 ((i : Int)))))], ⟨[], [0, 1], 2⟩⟩, fun τ => X.length - (slotI τ 8).toNat, ?_, ?_⟩
  · conv => whnf
    exact ⟨0, by omega, rfl⟩
  rintro τ ⟨i, hi, rfl⟩
  conv => whnf
  rw [lenH]
  refine Branch.of (fun h1 => ?_) (fun h1 => ?_) <;> rw [h1] <;> conv => whnf
  · simp only [decide_eq_true_eq] at h1
    have hil : i < X.length := by omega
    refine ⟨tabF11R14, by decide +kernel, ?_⟩
    conv => whnf
    repeat (refine And.intro (by first | omega) ?_; conv => whnf)
    refine ⟨_, (show (byH X)[((i : Nat) : Int).toNat]? = some (AV.ar 32 .lf (by8 X[i])) by simp [byH, hil]), ?_⟩
    conv => whnf
    repeat (refine And.intro (by first | omega) ?_; conv => whnf)
    refine ⟨_, (show (byH X)[((i : Nat) : Int).toNat]? = some (AV.ar 32 .lf (by8 X[i])) by simp [byH, hil]), ?_⟩
    conv => whnf
    refine ⟨X[i], X[i], rfl, rfl, ?_⟩
    conv => whnf
    rw [beq_self_eq_true]
    conv => whnf
    rw [w64 (x := (i : Int) + 1) (by omega) (by omega)]
    refine ⟨⟨i + 1, by omega, rfl⟩, ?_⟩
    show X.length - ((i : Int) + 1).toNat < X.length - (i : Int).toNat
    omega
  · refine (ca).mono fun r st e => ?_
    obtain ⟨rfl, rfl⟩ := e
    conv => whnf
    refine ⟨false, [], ?_⟩
    conv => whnf
theorem c_mproves (l : List (List UInt8)) (a : Int) : FnOK Tryd.prog D 11 [.sl .lf (byL l) .ro, (AV.sc (.int .i64 (a)))] [] (fun r _ => r = (AV.sc (.bool (true)))) := by
  have b1 : (∀ t ∈ l, t.length ≤ 200) → ∀ t ∈ l, t.length < 10000000 := fun h t ht => by have := h t ht; omega
  by_cases h : a < 0 ∨ (l.length : Int) ≤ a
  · exact c_mproves_no l a (rootF l.length l) (depB l.length a) h c_awake26 (fun hl ht => c_root _ l (Nat.le_refl _) (by omega) (b1 ht)) (fun hl ht => c_rootR _ l (Nat.le_refl _) (by omega) (b1 ht)) (c_depth _ _) (c_depthR _ _)
  · obtain ⟨n, rfl⟩ := Int.eq_ofNat_of_zero_le (show 0 ≤ a by omega)
    have hn : n < l.length := by omega
    have hX := proveF_len l.length l n
    refine c_mproves_yes l n hn (rootF l.length l) (proveF l.length l n) (depB l.length n) hX c_awake26 (fun hl ht => c_root _ l (Nat.le_refl _) (by omega) (b1 ht)) (fun hl ht => c_rootR _ l (Nat.le_refl _) (by omega) (b1 ht))
      (fun hl ht => c_Prove l n hn _ (c_prove _ l n (by omega) hn (Nat.le_refl _) (by omega) (b1 ht))) (fun hl ht => c_proveR _ l n (by omega) hn (Nat.le_refl _) (by omega) (b1 ht)) (fun hl ht => ?_) (c_depth _ _) (c_depthR _ _)
    have hp : isPlace (l.length : Int) (n : Int) = true := by
      unfold isPlace
      rw [decide_eq_true (show (1 : Int) ≤ l.length by omega), decide_eq_true (show (l.length : Int) ≤ 1048576 by omega), decide_eq_true (show (0 : Int) ≤ n by omega), decide_eq_true (show (n : Int) < l.length by omega)]
      rfl
    have hd : depB (l.length : Int) (n : Int) = (sidesF l.length l.length n).length := by
      unfold depB
      rw [if_pos hp]
      rfl
    have h32 : ∀ p ∈ proveF l.length l n, p.length = 32 := proveF_32 _ _ _
    have hat : atB l n = l[n] := by unfold atB; rw [List.getElem?_eq_getElem hn]; rfl
    have := c_chk (rootF l.length l) l[n] l.length n (proveF l.length l n) (rootF_len _ _) (b1 ht _ (List.getElem_mem hn)) (by omega) h32
    rw [hp, hd, prove_sides _ l n (by omega) hn (Nat.le_refl _), beq_self_eq_true, Int.toNat_natCast, Int.toNat_natCast, ← hat, prove_chk _ l n (by omega) hn (Nat.le_refl _), beq_self_eq_true, hat] at this
    exact this
end Go.WL.T4
