/- MerkleBinds. No condition. -/
import Derived.Test.YtkcflejbhfaihaaDoorPart28
set_option linter.unusedVariables false
set_option linter.unusedSimpArgs false
namespace Go.WL.T4
open Go.WL Go.Proofs
set_option maxRecDepth 20000
set_option maxHeartbeats 8000000
theorem c_mbinds_aux (l : List (List UInt8)) (m a : Int) (text : List UInt8) (pr : List (List UInt8)) (R : List UInt8) (k w : Bool)
    (ca : FnOK Tryd.prog D 48 [] [] (fun r st => r = (AV.sc (.bool (true))) ∧ st = []))
    (cr : l.length ≤ 20 → (∀ t ∈ l, t.length ≤ 200) → FnOK Tryd.prog D 50 [.sl .lf (byL l) .ro] [] (fun r st => r = .ar 32 .lf (by8 R) ∧ st = []))
    (cc : l.length ≤ 20 → text.length ≤ 200 → pr.length ≤ 30 → FnOK Tryd.prog D 55 [.ar 32 .lf (by8 R), (AV.sc (.int .i64 ((l.length : Int)))), (AV.sc (.int .i64 (a))), (AV.sl .lf (by8 (text)) .ro), .sl (.ar 32 .lf) (byH pr) .ro] [] (fun r st => r = (AV.sc (.bool (k))) ∧ st = []))
    (cw : k = true → l.length ≤ 20 → (∀ t ∈ l, t.length ≤ 200) → text.length ≤ 200 → pr.length ≤ 30 → 0 ≤ a → a < l.length → text ≠ atB l a.toNat → FnOK Tryd.prog D 57 [.sl .lf (byL l) .ro, (AV.sc (.int .i64 (a))), (AV.sl .lf (by8 (text)) .ro), .sl (.ar 32 .lf) (byH pr) .ro] [] (fun r st => r = (AV.sc (.bool (true))) ∧ st = [])) :
    FnOK Tryd.prog D 13 [.sl .lf (byL l) .ro, .st [(AV.sc (.int .i64 (m))), (AV.sc (.int .i64 (a))), (AV.sl .lf (by8 (text)) .ro)], .sl (.ar 32 .lf) (byH pr) .ro] [] (fun r _ => r = (AV.sc (.bool (true)))) := by
  have hlen := lenL l
  have hlp := lenH pr
  have hlt := len8 text
  refine fnok_of_W hmix tabOK Tryd.func13 rfl rfl (Nat.le_of_ble_eq_true rfl) ?_
  conv => whnf
  refine (c_light l).mono fun r st e => ?_
  obtain ⟨e, rfl⟩ := e
  rcases e with rfl | ⟨rfl, hl, ht⟩
  · conv => whnf
    refine (ca).mono fun r st e => ?_
    obtain ⟨rfl, rfl⟩ := e
    conv => whnf
    refine ⟨false, [], ?_⟩
    conv => whnf
  conv => whnf
  refine Branch.of (fun h1 => ?_) (fun h1 => ?_) <;> rw [h1] <;> conv => whnf
  · refine (ca).mono fun r st e => ?_
    obtain ⟨rfl, rfl⟩ := e
    conv => whnf
    refine ⟨false, [], ?_⟩
    conv => whnf
  refine Branch.of (fun h2 => ?_) (fun h2 => ?_) <;> rw [h2] <;> conv => whnf
  · refine (ca).mono fun r st e => ?_
    obtain ⟨rfl, rfl⟩ := e
    conv => whnf
    refine ⟨false, [], ?_⟩
    conv => whnf
  refine Branch.of (fun h3 => ?_) (fun h3 => ?_) <;> rw [h3] <;> conv => whnf
  · refine (ca).mono fun r st e => ?_
    obtain ⟨rfl, rfl⟩ := e
    conv => whnf
    refine ⟨false, [], ?_⟩
    conv => whnf
  refine Branch.of (fun h4 => ?_) (fun h4 => ?_) <;> rw [h4] <;> conv => whnf
  · refine (ca).mono fun r st e => ?_
    obtain ⟨rfl, rfl⟩ := e
    conv => whnf
    refine ⟨false, [], ?_⟩
    conv => whnf
  simp only [gt_iff_lt, ge_iff_le, decide_eq_false_iff_not] at h1 h2 h3 h4
  obtain ⟨n, rfl⟩ := Int.eq_ofNat_of_zero_le (show 0 ≤ a by omega)
  have hn : n < l.length := by omega
  refine ⟨tabF13R3, by decide +kernel, ?_⟩
  conv => whnf
  refine ⟨_, _, cr hl ht, ?_⟩
  conv => whnf
  rw [hlen]
  refine ⟨_, _, cc hl (by omega) (by omega), ?_⟩
  conv => whnf
  cases hk : k
  · conv => whnf
    refine (ca).mono fun r st e => ?_
    obtain ⟨rfl, rfl⟩ := e
    conv => whnf
    refine ⟨false, [], ?_⟩
    conv => whnf
  conv => whnf
  repeat (refine And.intro (by first | omega) ?_; conv => whnf)
  refine ⟨_, (show (byL l)[((n : Nat) : Int).toNat]? = some (AV.sl .lf (by8 (l[n])) .ro) by simp [byL, hn]), ?_⟩
  conv => whnf
  refine ⟨_, _, c_same text l[n] (by omega) (.inr rfl) (.inr rfl), ?_⟩
  conv => whnf
  cases hs : text == l[n]
  rotate_left
  · conv => whnf
    refine (ca).mono fun r st e => ?_
    obtain ⟨rfl, rfl⟩ := e
    conv => whnf
    refine ⟨false, [], ?_⟩
    conv => whnf
  conv => whnf
  have hne : text ≠ atB l ((n : Nat) : Int).toNat := by
    unfold atB
    rw [Int.toNat_natCast, List.getElem?_eq_getElem hn]
    exact fun e => by rw [e] at hs; simp at hs
  refine (cw hk hl ht (by omega) (by omega) (by omega) (by omega) hne).mono fun r st e => ?_
  obtain ⟨rfl, rfl⟩ := e
  conv => whnf
  refine (ca).mono fun r st e => ?_
  obtain ⟨rfl, rfl⟩ := e
  conv => whnf
  refine ⟨false, [], ?_⟩
  conv => whnf
theorem c_mbinds (l : List (List UInt8)) (m a : Int) (text : List UInt8) (pr : List (List UInt8)) (hpr : ∀ p ∈ pr, p.length = 32) :
    FnOK Tryd.prog D 13 [.sl .lf (byL l) .ro, .st [(AV.sc (.int .i64 (m))), (AV.sc (.int .i64 (a))), (AV.sl .lf (by8 (text)) .ro)], .sl (.ar 32 .lf) (byH pr) .ro] [] (fun r _ => r = (AV.sc (.bool (true)))) := by
  have b1 : (∀ t ∈ l, t.length ≤ 200) → ∀ t ∈ l, t.length < 10000000 := fun h t ht => by have := h t ht; omega
  refine c_mbinds_aux l m a text pr (rootF l.length l) _ true c_awake26 (fun hl ht => c_root _ l (Nat.le_refl _) (by omega) (b1 ht)) (fun hl ht hp => c_chk (rootF l.length l) text l.length a pr (rootF_len _ _) (by omega) (by omega) hpr) (fun hk hl ht htx hp h0 h1 hne => ?_)
  obtain ⟨n, rfl⟩ := Int.eq_ofNat_of_zero_le h0
  have hn : n < l.length := by omega
  have hpl : isPlace (l.length : Int) (n : Int) = true := by
    unfold isPlace
    rw [decide_eq_true (show (1 : Int) ≤ l.length by omega), decide_eq_true (show (l.length : Int) ≤ 1048576 by omega), decide_eq_true (show (0 : Int) ≤ n by omega), decide_eq_true (show (n : Int) < l.length by omega)]
    rfl
  have hd : depB (l.length : Int) (n : Int) = (sidesF l.length l.length n).length := by
    unfold depB
    rw [if_pos hpl]
    rfl
  rw [hpl, hd, Int.toNat_natCast, Int.toNat_natCast, Bool.true_and, Bool.and_eq_true, beq_iff_eq, beq_iff_eq] at hk
  have := binds l.length l n text pr (by omega) hn (Nat.le_refl _) hk.1 hpr hk.2 hne
  have := c_twice l.length l n text pr (by omega) hn (Nat.le_refl _) hl (by omega) (b1 ht) (by omega) hpr hk.1
  rw [‹twF _ _ _ _ _ = true›] at this
  exact this
end Go.WL.T4
