/- Up a proof, by the reference. No condition. -/
import Derived.Test.YtkcflejbhfaihaaDoorPart21
set_option linter.unusedVariables false
set_option linter.unusedSimpArgs false
namespace Go.WL.T4
open Go.WL Go.Proofs
set_option maxRecDepth 20000
set_option maxHeartbeats 8000000
theorem c_up_one (a : Nat) (text : List UInt8) (pr : List (List UInt8)) (R : List UInt8) (cl : FnOK Tryd.prog D 77 [(AV.sl .lf (by8 (text)) .ro)] [] (fun r st => r = .ar 32 .lf (by8 R) ∧ st = [])) :
    FnOK Tryd.prog D 56 [(AV.sc (.int .i64 (1))), (AV.sc (.int .i64 ((a : Int)))), (AV.sl .lf (by8 (text)) .ro), .sl (.ar 32 .lf) (byH pr) .ro] [] (fun r st => r = .ar 32 .lf (by8 R) ∧ st = []) := by
  refine fnok_of_W hmix tabOK Tryd.func56 rfl rfl (Nat.le_of_ble_eq_true rfl) ?_
  conv => whnf
  refine (cl).mono fun r st e => ?_
  obtain ⟨rfl, rfl⟩ := e
  conv => whnf
  refine ⟨false, [], ?_⟩
  conv => whnf
  exact ⟨rfl, rfl⟩
theorem c_up_aux (m a : Nat) (text : List UInt8) (q : List (List UInt8)) (p X R : List UInt8) (h2 : 2 ≤ m) (ham : a < m) (hm : m < 2000000) (hq : q.length < 100000)
    (ca : a < hf m → FnOK Tryd.prog D 56 [(AV.sc (.int .i64 ((hf m : Int)))), (AV.sc (.int .i64 ((a : Int)))), (AV.sl .lf (by8 (text)) .ro), .sl (.ar 32 .lf) (byH q) .ro] [] (fun r st => r = .ar 32 .lf (by8 X) ∧ st = []))
    (cka : a < hf m → FnOK Tryd.prog D 79 [.ar 32 .lf (by8 X), .ar 32 .lf (by8 p)] [] (fun r st => r = .ar 32 .lf (by8 R) ∧ st = []))
    (cb : ¬ a < hf m → FnOK Tryd.prog D 56 [(AV.sc (.int .i64 (((m - hf m : Nat) : Int)))), (AV.sc (.int .i64 (((a - hf m : Nat) : Int)))), (AV.sl .lf (by8 (text)) .ro), .sl (.ar 32 .lf) (byH q) .ro] [] (fun r st => r = .ar 32 .lf (by8 X) ∧ st = []))
    (ckb : ¬ a < hf m → FnOK Tryd.prog D 79 [.ar 32 .lf (by8 p), .ar 32 .lf (by8 X)] [] (fun r st => r = .ar 32 .lf (by8 R) ∧ st = [])) :
    FnOK Tryd.prog D 56 [(AV.sc (.int .i64 ((m : Int)))), (AV.sc (.int .i64 ((a : Int)))), (AV.sl .lf (by8 (text)) .ro), .sl (.ar 32 .lf) (byH (q ++ [p])) .ro] [] (fun r st => r = .ar 32 .lf (by8 R) ∧ st = []) := by
  have hlen : (byH (q ++ [p])).length = q.length + 1 := by simp [byH]
  have hh := hf_lt m h2
  have hp := hf_pos m
  refine fnok_of_W hmix tabOK Tryd.func56 rfl rfl (Nat.le_of_ble_eq_true rfl) ?_
  conv => whnf
  refine Branch.of (fun hh => ?_) (fun hh => ?_)
  · exfalso; simp only [gt_iff_lt, ge_iff_le, decide_eq_true_eq, decide_eq_false_iff_not, beq_iff_eq, beq_eq_false_iff_ne, bne_iff_ne, bne_eq_false_iff_eq, ne_eq] at hh; first | done | omega | (simp at hh; done)
  try rw [hh]
  clear hh
  conv => whnf
  rw [hlen, w64 (x := ((q.length + 1 : Nat) : Int) - 1) (by omega) (by omega), show ((q.length + 1 : Nat) : Int) - 1 = (q.length : Int) by omega]
  repeat (refine And.intro (by first | omega) ?_; conv => whnf)
  refine ⟨_, (show (byH (q ++ [p]))[((q.length : Nat) : Int).toNat]? = some (AV.ar 32 .lf (by8 p)) by simp [byH]), ?_⟩
  conv => whnf
  rw [hlen, w64 (x := ((q.length + 1 : Nat) : Int) - 1) (by omega) (by omega), show ((q.length + 1 : Nat) : Int) - 1 = (q.length : Int) by omega]
  repeat (refine And.intro (by first | omega) ?_; conv => whnf)
  rw [show List.take ((q.length : Int).toNat - 0) (List.drop 0 (byH (q ++ [p]))) = byH q by simp [byH]]
  refine (c_halfR m h2 (by omega)).mono fun r st e => ?_
  obtain ⟨rfl, rfl⟩ := e
  conv => whnf
  refine Branch.of (fun e2 => ?_) (fun e2 => ?_) <;> rw [e2] <;> conv => whnf
  · simp only [decide_eq_true_eq] at e2
    have e2 : a < hf m := by omega
    refine ⟨tabF56R7, by decide +kernel, ?_⟩
    conv => whnf
    refine ⟨_, _, ca e2, ?_⟩
    conv => whnf
    refine ⟨_, _, cka e2, ?_⟩
    conv => whnf
    refine ⟨false, [], ?_⟩
    conv => whnf
    exact ⟨rfl, rfl⟩
  · simp only [decide_eq_false_iff_not] at e2
    have e2 : ¬ a < hf m := by omega
    refine ⟨tabF56R8, by decide +kernel, ?_⟩
    conv => whnf
    rw [w64 (x := (m : Int) - (hf m : Int)) (by omega) (by omega), w64 (x := (a : Int) - (hf m : Int)) (by omega) (by omega), show (m : Int) - (hf m : Int) = ((m - hf m : Nat) : Int) by omega, show (a : Int) - (hf m : Int) = ((a - hf m : Nat) : Int) by omega]
    refine ⟨_, _, cb e2, ?_⟩
    conv => whnf
    refine ⟨_, _, ckb e2, ?_⟩
    conv => whnf
    refine ⟨false, [], ?_⟩
    conv => whnf
    exact ⟨rfl, rfl⟩
theorem chkF_len : ∀ (S : List Bool) (pr : List (List UInt8)) (h : List UInt8), h.length = 32 → (chkF S pr h).length = 32
  | [], _, h, hh => by cases ‹List (List UInt8)› <;> exact hh
  | _ :: _, [], h, hh => hh
  | b :: bs, p :: ps, h, hh => by
    simp only [chkF]
    refine chkF_len bs ps _ ?_
    unfold stepB
    split <;> exact shaB_len _
theorem c_up (n : Nat) : ∀ (m a : Nat) (text : List UInt8) (pr : List (List UInt8)), 1 ≤ m → a < m → m ≤ n → m < 2000000 → text.length < 10000000 → pr.length < 100000 → (∀ p ∈ pr, p.length = 32) → pr.length = (sidesF n m a).length →
    FnOK Tryd.prog D 56 [(AV.sc (.int .i64 ((m : Int)))), (AV.sc (.int .i64 ((a : Int)))), (AV.sl .lf (by8 (text)) .ro), .sl (.ar 32 .lf) (byH pr) .ro] [] (fun r st => r = .ar 32 .lf (by8 (chkF (sidesF n m a) pr (leafB text))) ∧ st = []) := by
  induction n with
  | zero => intro m a text pr h1 _ h2; omega
  | succ n ih =>
    intro m a text pr h1 h0 h2 h3 ht hpl hpr hlen
    have e0 : sidesF (n + 1) m a = if m = 1 then [] else if a < hf m then sidesF n (hf m) a ++ [true] else sidesF n (m - hf m) (a - hf m) ++ [false] := rfl
    have hp := hf_pos m
    by_cases e : m = 1
    · subst e
      rw [if_pos rfl] at e0
      rw [e0] at hlen ⊢
      exact c_up_one a text pr _ (by have := c_leafR text ht; simpa [chkF] using this)
    · have hh := hf_lt m (by omega)
      rw [if_neg e] at e0
      have key : ∀ (S : List Bool) (b : Bool), sidesF (n + 1) m a = S ++ [b] → ∃ q p, pr = q ++ [p] ∧ q.length = S.length ∧ p.length = 32 ∧ chkF (sidesF (n + 1) m a) pr (leafB text) = stepB (chkF S q (leafB text)) b p := by
        intro S b hS
        rw [hS, List.length_append, List.length_singleton] at hlen
        have hne : pr ≠ [] := by intro h; rw [h] at hlen; simp at hlen
        have hd := List.dropLast_concat_getLast hne
        have hl : (pr.dropLast).length = S.length := by rw [List.length_dropLast]; omega
        refine ⟨pr.dropLast, pr.getLast hne, hd.symm, hl, hpr _ (List.getLast_mem hne), ?_⟩
        rw [hS]
        conv => lhs; rw [← hd]
        exact chkF_snoc _ _ _ _ _ hl.symm
      by_cases c : a < hf m
      · rw [if_pos c] at e0
        obtain ⟨q, p, rfl, hq, hp32, hc⟩ := key _ _ e0
        rw [hc]
        have hX := chkF_len (sidesF n (hf m) a) q (leafB text) (shaB_len _)
        exact c_up_aux m a text q p (chkF (sidesF n (hf m) a) q (leafB text)) _ (by omega) h0 h3 (by simp at hpl; omega) (fun _ => ih (hf m) a text q (by omega) c (by omega) (by omega) ht (by simp at hpl; omega) (fun p h => hpr p (List.mem_append_left _ h)) hq) (fun _ => c_knotR _ _ hX hp32) (fun h => absurd c h) (fun h => absurd c h)
      · rw [if_neg c] at e0
        obtain ⟨q, p, rfl, hq, hp32, hc⟩ := key _ _ e0
        rw [hc]
        have hX := chkF_len (sidesF n (m - hf m) (a - hf m)) q (leafB text) (shaB_len _)
        exact c_up_aux m a text q p (chkF (sidesF n (m - hf m) (a - hf m)) q (leafB text)) _ (by omega) h0 h3 (by simp at hpl; omega) (fun h => absurd h c) (fun h => absurd h c) (fun _ => ih (m - hf m) (a - hf m) text q (by omega) (by omega) (by omega) (by omega) ht (by simp at hpl; omega) (fun p h => hpr p (List.mem_append_left _ h)) hq) (fun _ => c_knotR _ _ hp32 hX)
end Go.WL.T4
