/- Pairs: what the document puts and drops. No condition. -/
import Derived.Test.YtdlgmddegldcjaaPart10
set_option linter.unusedVariables false
set_option linter.unusedSimpArgs false
namespace Go.WL.T5
open Go.WL Go.Proofs
set_option maxRecDepth 20000
set_option maxHeartbeats 8000000
theorem gtr_eq (a b : List UInt8) : (!(Op.bytesLess (strB a).toList (strB b).toList || (strB a).toList == (strB b).toList)) = slt b a := by
  rw [strB_list, strB_list]
  cases h : Op.bytesLess a b with
  | true => rw [show slt b a = false from sLin.asym h]; rfl
  | false =>
    by_cases e : a = b
    · subst e
      rw [show slt a a = false from sl_irr a]
      simp
    · cases k : slt b a with
      | true => simp [e]
      | false => exact absurd (sl_tri a b h k) e
theorem insG_succ {x : Pr} {rest : List Pr} {n : Nat} (h : n < rest.length) : insG x rest (n + 1) = if (insG x rest n).2 = false ∧ slt x.key rest[n].key = true then ((insG x rest n).1 ++ [x, rest[n]], true) else ((insG x rest n).1 ++ [rest[n]], (insG x rest n).2) := by
  rw [insG, List.getElem?_eq_getElem h]
theorem prA_snoc2 (l : List Pr) (x y : Pr) : prA (l ++ [x]) ++ [(AV.st [.sc (.string (strB (y).key)), .sc (.string (strB (y).val))])] = prA (l ++ [x, y]) := by simp [prA]
theorem c_kputR (l : List Pr) (k v : List UInt8) (hl : l.length < 4294967296) (hk : ∀ x ∈ l, x.key.length < 4294967296) (hkk : k.length < 4294967296) : FnOK Try.prog D 46 [(AV.sl (.nd [.lf, .lf]) (prA (l)) .ro), (AV.sc (.string (strB (k)))), (AV.sc (.string (strB (v))))] [] (fun r st => r = .tup [(AV.sl (.nd [.lf, .lf]) (prA ((kvPut l k v).1)) .ro), (AV.sc (.int .i64 ((kvPut l k v).2)))] ∧ st = []) := by
  have cm := c_kmayR l hl hk
  have ck := c_txkeyR k hkk
  cases hm : mayP okKey l with
  | false =>
    have e : kvPut l k v = ([], 1) := by unfold kvPut; rw [if_neg (fun h => by rw [hm] at h; cases h.1)]
    rw [e]
    rw [hm] at cm
    refine fnok_of_W hmix tabOK Try.func46 rfl rfl (Nat.le_of_ble_eq_true rfl) ?_
    conv => whnf
    refine (cm).mono fun r st e => ?_
    obtain ⟨rfl, rfl⟩ := e
    conv => whnf
    refine ⟨false, [999], ?_⟩
    conv => whnf
    exact ⟨rfl, rfl⟩
  | true =>
    rw [hm] at cm
    cases hkk : okKey k with
    | false =>
      have e : kvPut l k v = ([], 1) := by unfold kvPut; rw [if_neg (fun h => by rw [hkk] at h; cases h.2)]
      rw [e]
      rw [hkk] at ck
      refine fnok_of_W hmix tabOK Try.func46 rfl rfl (Nat.le_of_ble_eq_true rfl) ?_
      conv => whnf
      refine (cm).mono fun r st e => ?_
      obtain ⟨rfl, rfl⟩ := e
      conv => whnf
      refine (ck).mono fun r st e => ?_
      obtain ⟨rfl, rfl⟩ := e
      conv => whnf
      refine ⟨false, [999], ?_⟩
      conv => whnf
      exact ⟨rfl, rfl⟩
    | true =>
      rw [hkk] at ck
      have hs := ((mayP_iff _ _).1 hm).2.2
      have e : kvPut l k v = (if v.length > 40 then ([], 14) else if (dropL Pr.key l k).length ≥ 100 then ([], 4) else (puL Pr.key slt l ⟨k, v⟩, 0)) := by unfold kvPut; rw [if_pos ⟨hm, hkk⟩]
      rw [e]
      clear e
      by_cases hv : v.length > 40
      · rw [if_pos hv]
        refine fnok_of_W hmix tabOK Try.func46 rfl rfl (Nat.le_of_ble_eq_true rfl) ?_
        conv => whnf
        refine (cm).mono fun r st e => ?_
        obtain ⟨rfl, rfl⟩ := e
        conv => whnf
        refine (ck).mono fun r st e => ?_
        obtain ⟨rfl, rfl⟩ := e
        conv => whnf
        rw [strB_size, decide_eq_true (show (v.length : Int) > 40 by omega)]
        conv => whnf
        refine ⟨false, [999], ?_⟩
        conv => whnf
        exact ⟨rfl, rfl⟩
      rw [if_neg hv]
      have cb := c_kbut l k hl
      have hput := ref_put (x := (⟨k, v⟩ : Pr)) hs
      rw [← hput]
      generalize dropL Pr.key l k = rest at cb
      have hrl := lenPr rest
      by_cases h100 : rest.length ≥ 100
      · rw [if_pos h100]
        refine fnok_of_W hmix tabOK Try.func46 rfl rfl (Nat.le_of_ble_eq_true rfl) ?_
        conv => whnf
        refine (cm).mono fun r st e => ?_
        obtain ⟨rfl, rfl⟩ := e
        conv => whnf
        refine (ck).mono fun r st e => ?_
        obtain ⟨rfl, rfl⟩ := e
        conv => whnf
        rw [strB_size, decide_eq_false (show ¬ (v.length : Int) > 40 by omega)]
        conv => whnf
        refine (cb).mono fun r st e => ?_
        obtain ⟨rfl, rfl⟩ := e
        conv => whnf
        rw [hrl, decide_eq_true (show (rest.length : Int) ≥ 100 by omega)]
        conv => whnf
        refine ⟨false, [999], ?_⟩
        conv => whnf
        exact ⟨rfl, rfl⟩
      rw [if_neg h100]
      have hE : insE ⟨k, v⟩ rest = if (insG ⟨k, v⟩ rest rest.length).2 = true then (insG ⟨k, v⟩ rest rest.length).1 else (insG ⟨k, v⟩ rest rest.length).1 ++ [⟨k, v⟩] := rfl
      rw [hE]
      clear hE
      refine fnok_of_W hmix tabOK Try.func46 rfl rfl (Nat.le_of_ble_eq_true rfl) ?_
      conv => whnf
      refine (cm).mono fun r st e => ?_
      obtain ⟨rfl, rfl⟩ := e
      conv => whnf
      refine (ck).mono fun r st e => ?_
      obtain ⟨rfl, rfl⟩ := e
      conv => whnf
      rw [strB_size, decide_eq_false (show ¬ (v.length : Int) > 40 by omega)]
      conv => whnf
      refine (cb).mono fun r st e => ?_
      obtain ⟨rfl, rfl⟩ := e
      conv => whnf
      rw [hrl, decide_eq_false (show ¬ (rest.length : Int) ≥ 100 by omega)]
      conv => whnf
      refine ⟨true, [1, 2, 8, 9, 10, 11], fun τ => ∃ i : Nat, i ≤ rest.length ∧ τ = ⟨69, [(1, (AV.sc (.string (strB (k))))), (2, (AV.sc (.string (strB (v))))), (8, (AV.sl (.nd [.lf, .lf]) (prA (rest)) .ro)), (9, .sl (.nd [.lf, .lf]) (prA (insG ⟨k, v⟩ rest i).1) (.own 0)), (10, (AV.sc (.bool ((insG ⟨k, v⟩ rest i).2)))), (11, (AV.sc (.int .i64 ((i : Int)))))], ⟨[], [0], 1⟩⟩, fun τ => rest.length - (slotI τ 11).toNat, ?_, ?_⟩
      · conv => whnf
        exact ⟨0, by omega, rfl⟩
      rintro τ ⟨i, hi, rfl⟩
      have hln := insG_len ⟨k, v⟩ rest i hi
      have hln2 : (insG ⟨k, v⟩ rest i).1.length ≤ i + 1 := by rw [hln]; split <;> omega
      clear hln
      apply enter3
      intro kk kK
      conv => whnf
      rw [hrl]
      refine Branch.of (fun h1 => ?_) (fun h1 => ?_) <;> rw [h1] <;> conv => whnf
      · simp only [decide_eq_true_eq] at h1
        have hil : i < rest.length := by omega
        have hsu := insG_succ (x := (⟨k, v⟩ : Pr)) hil
        generalize insG ⟨k, v⟩ rest i = G at hsu hln2
        obtain ⟨o, d⟩ := G
        have hlo := lenPr o
        cases d with
        | true =>
          rw [if_neg (fun h => by simp at h)] at hsu
          conv => whnf
          repeat (refine And.intro (by first | omega) ?_; conv => whnf)
          refine ⟨_, atPr hil, ?_⟩
          conv => whnf
          refine And.intro (by rw [hlo]; simp; simp at hln2; omega) ?_
          conv => whnf
          rw [w64 (x := (i : Int) + 1) (by omega) (by omega), prA_snoc]
          refine kK _ _ ?_
          conv => whnf
          refine ⟨⟨i + 1, by omega, by rw [hsu]; rfl⟩, ?_⟩
          show rest.length - ((i : Int) + 1).toNat < rest.length - (i : Int).toNat
          omega
        | false =>
          conv => whnf
          repeat (refine And.intro (by first | omega) ?_; conv => whnf)
          refine ⟨_, atPr hil, ?_⟩
          conv => whnf
          rw [gtr_eq]
          cases hlt : slt k rest[i].key with
          | true =>
            rw [if_pos ⟨rfl, hlt⟩] at hsu
            conv => whnf
            refine And.intro (by rw [hlo]; simp; simp at hln2; omega) ?_
            conv => whnf
            repeat (refine And.intro (by first | omega) ?_; conv => whnf)
            refine ⟨_, atPr hil, ?_⟩
            conv => whnf
            refine And.intro (by rw [List.length_append, hlo]; simp; simp at hln2; omega) ?_
            conv => whnf
            rw [w64 (x := (i : Int) + 1) (by omega) (by omega)]
            have e2 : prA o ++ [AV.st [AV.sc (Value.string (strB k)), AV.sc (Value.string (strB v))]] ++ [(AV.st [.sc (.string (strB (rest[i]).key)), .sc (.string (strB (rest[i]).val))])] = prA (o ++ [⟨k, v⟩, rest[i]]) := by simp [prA]
            rw [e2]
            refine kK _ _ ?_
            conv => whnf
            refine ⟨⟨i + 1, by omega, by rw [hsu]; rfl⟩, ?_⟩
            show rest.length - ((i : Int) + 1).toNat < rest.length - (i : Int).toNat
            omega
          | false =>
            rw [if_neg (fun h => by have := h.2; rw [hlt] at this; cases this)] at hsu
            conv => whnf
            repeat (refine And.intro (by first | omega) ?_; conv => whnf)
            refine ⟨_, atPr hil, ?_⟩
            conv => whnf
            refine And.intro (by rw [hlo]; simp; simp at hln2; omega) ?_
            conv => whnf
            rw [w64 (x := (i : Int) + 1) (by omega) (by omega), prA_snoc]
            refine kK _ _ ?_
            conv => whnf
            refine ⟨⟨i + 1, by omega, by rw [hsu]; rfl⟩, ?_⟩
            show rest.length - ((i : Int) + 1).toNat < rest.length - (i : Int).toNat
            omega
      · simp only [decide_eq_false_iff_not] at h1
        have e : i = rest.length := by omega
        subst e
        refine kK _ _ ?_
        conv => whnf
        generalize insG ⟨k, v⟩ rest rest.length = G at hln2
        obtain ⟨o, d⟩ := G
        have hlo := lenPr o
        cases d with
        | true =>
          conv => whnf
          refine ⟨false, [999], ?_⟩
          conv => whnf
          exact ⟨rfl, rfl⟩
        | false =>
          conv => whnf
          refine And.intro (by rw [hlo]; simp; simp at hln2; omega) ?_
          conv => whnf
          refine ⟨false, [999], ?_⟩
          conv => whnf
          refine ⟨?_, rfl⟩
          show AV.tup [AV.sl (.nd [.lf, .lf]) (prA o ++ [(AV.st [.sc (.string (strB ((⟨k, v⟩ : Pr)).key)), .sc (.string (strB ((⟨k, v⟩ : Pr)).val))])]) .ro, (AV.sc (.int .i64 (0)))] = AV.tup [(AV.sl (.nd [.lf, .lf]) (prA (o ++ [(⟨k, v⟩ : Pr)])) .ro), (AV.sc (.int .i64 (0)))]
          rw [prA_snoc]
theorem c_kdropR (l : List Pr) (k : List UInt8) (hl : l.length < 4294967296) (hk : ∀ x ∈ l, x.key.length < 4294967296) : FnOK Try.prog D 47 [(AV.sl (.nd [.lf, .lf]) (prA (l)) .ro), (AV.sc (.string (strB (k))))] [] (fun r st => r = .tup [(AV.sl (.nd [.lf, .lf]) (prA ((kvDrop l k).1)) .ro), (AV.sc (.int .i64 ((kvDrop l k).2)))] ∧ st = []) := by
  have cm := c_kmayR l hl hk
  cases hm : mayP okKey l with
  | false =>
    have e : kvDrop l k = ([], 1) := by unfold kvDrop; rw [hm]; rfl
    rw [e]
    rw [hm] at cm
    refine fnok_of_W hmix tabOK Try.func47 rfl rfl (Nat.le_of_ble_eq_true rfl) ?_
    conv => whnf
    refine (cm).mono fun r st e => ?_
    obtain ⟨rfl, rfl⟩ := e
    conv => whnf
    refine ⟨false, [999], ?_⟩
    conv => whnf
    exact ⟨rfl, rfl⟩
  | true =>
    rw [hm] at cm
    have hs := ((mayP_iff _ _).1 hm).2.2
    have e : kvDrop l k = (if (getL Pr.key l k).isSome = true then (dropL Pr.key l k, 0) else ([], 3)) := by unfold kvDrop; rw [hm, if_pos rfl]
    rw [e]
    have cb := c_kbut l k hl
    have hd := drop_len (k := k) hs
    cases hg : (getL Pr.key l k).isSome with
    | false =>
      rw [hg, if_neg (by simp)] at hd
      rw [if_neg (by simp)]
      refine fnok_of_W hmix tabOK Try.func47 rfl rfl (Nat.le_of_ble_eq_true rfl) ?_
      conv => whnf
      refine (cm).mono fun r st e => ?_
      obtain ⟨rfl, rfl⟩ := e
      conv => whnf
      refine (cb).mono fun r st e => ?_
      obtain ⟨rfl, rfl⟩ := e
      conv => whnf
      rw [lenPr, lenPr, hd, show ((l.length : Int) == (l.length : Int)) = true by simp]
      conv => whnf
      refine ⟨false, [999], ?_⟩
      conv => whnf
      exact ⟨rfl, rfl⟩
    | true =>
      rw [hg, if_pos rfl] at hd
      rw [if_pos rfl]
      have h0 : 0 < l.length := by
        rcases Nat.eq_zero_or_pos l.length with h | h
        · rw [List.length_eq_zero_iff.1 h] at hg; cases hg
        · exact h
      refine fnok_of_W hmix tabOK Try.func47 rfl rfl (Nat.le_of_ble_eq_true rfl) ?_
      conv => whnf
      refine (cm).mono fun r st e => ?_
      obtain ⟨rfl, rfl⟩ := e
      conv => whnf
      refine (cb).mono fun r st e => ?_
      obtain ⟨rfl, rfl⟩ := e
      conv => whnf
      rw [lenPr, lenPr, hd, show (((l.length - 1 : Nat) : Int) == (l.length : Int)) = false by simp; omega]
      conv => whnf
      refine ⟨false, [999], ?_⟩
      conv => whnf
      exact ⟨rfl, rfl⟩
end Go.WL.T5
