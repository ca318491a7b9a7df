/- Whether a proof is right. No condition. -/
import Derived.Test.YtkcflejbhfaihaaDoorPart20
set_option linter.unusedVariables false
set_option linter.unusedSimpArgs false
namespace Go.WL.T4
open Go.WL Go.Proofs
set_option maxRecDepth 20000
set_option maxHeartbeats 8000000
def stepB (h : List UInt8) (b : Bool) (p : List UInt8) : List UInt8 := if b then knotB h p else knotB p h
def chkF : List Bool → List (List UInt8) → List UInt8 → List UInt8
  | b :: bs, p :: ps, h => chkF bs ps (stepB h b p)
  | _, _, h => h
theorem chkF_snoc : ∀ (bs : List Bool) (ps : List (List UInt8)) (b : Bool) (p h : List UInt8), bs.length = ps.length → chkF (bs ++ [b]) (ps ++ [p]) h = stepB (chkF bs ps h) b p
  | [], [], b, p, h, _ => rfl
  | [], _ :: _, b, p, h, e => by simp at e
  | _ :: _, [], b, p, h, e => by simp at e
  | c :: bs, q :: ps, b, p, h, e => by
    simp only [List.cons_append, chkF]
    exact chkF_snoc bs ps b p _ (by simpa using e)
theorem knotB_len (a b : List UInt8) : (knotB a b).length = 32 := shaB_len _
theorem chk_take (S : List Bool) (pr : List (List UInt8)) (h0 : List UInt8) (i : Nat) (hi : i < S.length) (hp : i < pr.length) : chkF (S.take (i + 1)) (pr.take (i + 1)) h0 = stepB (chkF (S.take i) (pr.take i) h0) S[i] pr[i] := by
  rw [List.take_succ_eq_append_getElem hi, List.take_succ_eq_append_getElem hp]
  exact chkF_snoc _ _ _ _ _ (by rw [List.length_take, List.length_take]; omega)
theorem c_chk_aux (root text : List UInt8) (m a : Int) (pr : List (List UInt8)) (S : List Bool) (L : List UInt8) (d : Nat) (hr : root.length = 32) (hpl : pr.length < 100000) (hpr : ∀ p ∈ pr, p.length = 32)
    (cd : FnOK Tryd.prog D 52 [(AV.sc (.int .i64 (m))), (AV.sc (.int .i64 (a)))] [] (fun r st => r = (AV.sc (.int .i64 ((d : Int)))) ∧ st = []))
    (cs : isPlace m a = true → FnOK Tryd.prog D 81 [(AV.sc (.int .i64 (m))), (AV.sc (.int .i64 (a)))] [] (fun r st => r = .sl .lf (byBo S) (.own 0) ∧ st = []))
    (hS : isPlace m a = true → S.length = d) (hL : L.length = 32) (cl : FnOK Tryd.prog D 74 [(AV.sl .lf (by8 (text)) .ro)] [] (fun r st => r = .ar 32 .lf (by8 L) ∧ st = []))
    (b : Bool) (hb : b = (isPlace m a && (pr.length == d) && (chkF S pr L == root))) :
    FnOK Tryd.prog D 55 [.ar 32 .lf (by8 root), (AV.sc (.int .i64 (m))), (AV.sc (.int .i64 (a))), (AV.sl .lf (by8 (text)) .ro), .sl (.ar 32 .lf) (byH pr) .ro] [] (fun r st => r = (AV.sc (.bool (b))) ∧ st = []) := by
  refine fnok_of_W hmix tabOK Tryd.func55 rfl rfl (Nat.le_of_ble_eq_true rfl) ?_
  conv => whnf
  refine (c_place m a).mono fun r st e => ?_
  obtain ⟨rfl, rfl⟩ := e
  conv => whnf
  cases h : isPlace m a
  · conv => whnf
    rw [hb, h]
    refine ⟨false, [], ?_⟩
    conv => whnf
    exact ⟨rfl, rfl⟩
  conv => whnf
  rw [lenH]
  refine (cd).mono fun r st e => ?_
  obtain ⟨rfl, rfl⟩ := e
  conv => whnf
  refine Branch.of (fun e1 => ?_) (fun e1 => ?_) <;> rw [e1] <;> conv => whnf
  · refine ⟨false, [], ?_⟩
    conv => whnf
    refine ⟨?_, rfl⟩
    simp only [bne_iff_ne, ne_eq] at e1
    have e2 : (pr.length == d) = false := by rw [beq_eq_false_iff_ne]; omega
    rw [hb, h, e2]
    rfl
  simp only [bne_eq_false_iff_eq] at e1
  have e2 : pr.length = d := by omega
  have hSl := hS h
  refine (cl).mono fun r st e => ?_
  obtain ⟨rfl, rfl⟩ := e
  conv => whnf
  refine (cs h).mono fun r st e => ?_
  obtain ⟨rfl, rfl⟩ := e
  conv => whnf
  refine ⟨false, [4, 5, 11, 30, 31, 32], fun τ => ∃ (i : Nat) (g : List UInt8), i ≤ S.length ∧ g.length = 32 ∧ g = chkF (S.take i) (pr.take i) L ∧ τ = ⟨54, [(4, .sl (.ar 32 .lf) (byH pr) .ro), (5, .pt 0 []), (11, .pt 1 []), (30, .sl .lf (byBo S) (.own 0)), (31, (AV.sc (.int .i64 ((S.length : Int))))), (32, (AV.sc (.int .i64 ((i : Int)))))], ⟨[(.ar 32 .lf (by8 root), false), (.ar 32 .lf (by8 g), false)], [0], 1⟩⟩, fun τ => S.length - (slotI τ 32).toNat, ?_, ?_⟩
  · conv => whnf
    refine ⟨0, L, by omega, hL, by simp [chkF], ?_⟩
    simp only [byBo, List.length_map]
    rfl
  rintro τ ⟨i, g, hi, hg, hgd, rfl⟩
  conv => whnf
  refine Branch.of (fun e3 => ?_) (fun e3 => ?_) <;> rw [e3] <;> conv => whnf
  · simp only [decide_eq_true_eq] at e3
    have hiS : i < S.length := by omega
    have hip : i < pr.length := by omega
    repeat (refine And.intro (by first | omega) ?_; conv => whnf)
    refine ⟨_, (show (byBo S)[((i : Nat) : Int).toNat]? = some (AV.sc (.bool (S[i]))) by simp [byBo, hiS]), ?_⟩
    conv => whnf
    have hc := chk_take S pr L i hiS hip
    rw [← hgd] at hc
    have hpi := hpr pr[i] (List.getElem_mem hip)
    refine Branch.of (fun e4 => ?_) (fun e4 => ?_) <;> rw [e4] <;> conv => whnf
    · rw [e4] at hc
      refine ⟨tabF55R8, by decide +kernel, ?_⟩
      conv => whnf
      repeat (refine And.intro (by first | omega) ?_; conv => whnf)
      refine ⟨_, (show (byH pr)[((i : Nat) : Int).toNat]? = some (AV.ar 32 .lf (by8 pr[i])) by simp [byH, hip]), ?_⟩
      conv => whnf
      refine ⟨_, _, c_knot g pr[i] hg hpi, ?_⟩
      conv => whnf
      rw [w64 (x := (i : Int) + 1) (by omega) (by omega)]
      refine ⟨⟨i + 1, knotB g pr[i], by omega, knotB_len _ _, by rw [hc]; rfl, rfl⟩, ?_⟩
      show S.length - ((i : Int) + 1).toNat < S.length - (i : Int).toNat
      omega
    · rw [e4] at hc
      refine ⟨tabF55R9, by decide +kernel, ?_⟩
      conv => whnf
      repeat (refine And.intro (by first | omega) ?_; conv => whnf)
      refine ⟨_, (show (byH pr)[((i : Nat) : Int).toNat]? = some (AV.ar 32 .lf (by8 pr[i])) by simp [byH, hip]), ?_⟩
      conv => whnf
      refine ⟨_, _, c_knot pr[i] g hpi hg, ?_⟩
      conv => whnf
      rw [w64 (x := (i : Int) + 1) (by omega) (by omega)]
      refine ⟨⟨i + 1, knotB pr[i] g, by omega, knotB_len _ _, by rw [hc]; rfl, rfl⟩, ?_⟩
      show S.length - ((i : Int) + 1).toNat < S.length - (i : Int).toNat
      omega
  · simp only [decide_eq_false_iff_not] at e3
    have e : i = S.length := by omega
    subst e
    rw [List.take_length, List.take_of_length_le (by omega)] at hgd
    refine ⟨g, root, rfl, rfl, ?_⟩
    conv => whnf
    refine ⟨false, [], ?_⟩
    conv => whnf
    refine ⟨?_, rfl⟩
    rw [hb, h, e2, beq_self_eq_true, hgd]
    rfl
theorem c_chk (root text : List UInt8) (m a : Int) (pr : List (List UInt8)) (hr : root.length = 32) (ht : text.length < 10000000) (hpl : pr.length < 100000) (hpr : ∀ p ∈ pr, p.length = 32) :
    FnOK Tryd.prog D 55 [.ar 32 .lf (by8 root), (AV.sc (.int .i64 (m))), (AV.sc (.int .i64 (a))), (AV.sl .lf (by8 (text)) .ro), .sl (.ar 32 .lf) (byH pr) .ro] [] (fun r st => r = (AV.sc (.bool (isPlace m a && (pr.length == depB m a) && (chkF (sidesF m.toNat m.toNat a.toNat) pr (leafB text) == root)))) ∧ st = []) := by
  refine c_chk_aux root text m a pr (sidesF m.toNat m.toNat a.toNat) (leafB text) (depB m a) hr hpl hpr (c_depth m a) (fun h => ?_) (fun h => ?_) (shaB_len _) (c_leaf text ht) _ rfl
  · obtain ⟨m', a', rfl, rfl, h1, h2, h3⟩ := place_facts h
    exact c_sides m' m' a' h1 h3 (Nat.le_refl _) (by omega)
  · unfold depB
    rw [if_pos h]
end Go.WL.T4
