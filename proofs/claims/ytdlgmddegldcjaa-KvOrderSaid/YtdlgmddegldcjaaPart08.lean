/- Pairs: what the program puts and drops. No condition. -/
import Derived.Test.YtdlgmddegldcjaaPart07
set_option linter.unusedVariables false
set_option linter.unusedSimpArgs false
namespace Go.WL.T5
open Go.WL Go.Proofs
set_option maxRecDepth 20000
set_option maxHeartbeats 8000000
def kvPut (l : List Pr) (k v : List UInt8) : List Pr × Int :=
  if mayP okKey l = true ∧ okKey k = true then (if v.length > 40 then ([], 14) else if (dropL Pr.key l k).length ≥ 100 then ([], 4) else (puL Pr.key slt l ⟨k, v⟩, 0)) else ([], 1)
def kvDrop (l : List Pr) (k : List UInt8) : List Pr × Int :=
  if mayP okKey l = true then (if (getL Pr.key l k).isSome = true then (dropL Pr.key l k, 0) else ([], 3)) else ([], 1)
theorem isNone_of {o : Option Pr} (h : o.isSome = false) : o = none := by
  cases o with
  | none => rfl
  | some x => cases h
theorem set_take {L : List AV} {l : List Pr} {i n : Nat} {x : Pr} (hL : L.take n = prA l) : (L.set i (AV.st [.sc (.string (strB (x).key)), .sc (.string (strB (x).val))])).take n = prA (l.set i x) := by
  rw [List.take_set, hL]
  simp [prA, List.map_set]
theorem c_kput (l : List Pr) (k v : List UInt8) (hl : l.length < 4294967296) : FnOK Try.prog D 43 [(AV.sl (.nd [.lf, .lf]) (prA (l)) .ro), (AV.sc (.string (strB (k)))), (AV.sc (.string (strB (v))))] [] (fun r st => r = .tup [(AV.sl (.nd [.lf, .lf]) (prA ((kvPut l k v).1)) .ro), (AV.sc (.int .i64 ((kvPut l k v).2)))] ∧ st = []) := by
  cases hm : mayP okKey l with
  | false =>
    have e : kvPut l k v = ([], 1) := by unfold kvPut; rw [if_neg (fun h => by rw [hm] at h; cases h.1)]
    rw [e]
    refine fnok_of_W hmix tabOK Try.func43 rfl rfl (Nat.le_of_ble_eq_true rfl) ?_
    conv => whnf
    refine (c_kcheck0 hm hl).mono fun r st e => ?_
    obtain ⟨rfl, rfl⟩ := e
    conv => whnf
    refine ⟨false, [999], ?_⟩
    conv => whnf
    exact ⟨rfl, rfl⟩
  | true =>
    cases hk : okKey k with
    | false =>
      have e : kvPut l k v = ([], 1) := by unfold kvPut; rw [if_neg (fun h => by rw [hk] at h; cases h.2)]
      rw [e]
      have cr := c_kright k
      rw [hk] at cr
      refine fnok_of_W hmix tabOK Try.func43 rfl rfl (Nat.le_of_ble_eq_true rfl) ?_
      conv => whnf
      refine (c_kcheck1 hm).mono fun r st e => ?_
      obtain ⟨rfl, rfl⟩ := e
      conv => whnf
      refine (cr).mono fun r st e => ?_
      obtain ⟨rfl, rfl⟩ := e
      conv => whnf
      refine ⟨false, [999], ?_⟩
      conv => whnf
      exact ⟨rfl, rfl⟩
    | true =>
      have cr := c_kright k
      rw [hk] at cr
      have h100 := ((mayP_iff _ _).1 hm).1
      have hs := ((mayP_iff _ _).1 hm).2.2
      have e : kvPut l k v = (if v.length > 40 then ([], 14) else if (dropL Pr.key l k).length ≥ 100 then ([], 4) else (puL Pr.key slt l ⟨k, v⟩, 0)) := by unfold kvPut; rw [if_pos ⟨hm, hk⟩]
      rw [e]
      clear e
      by_cases hv : v.length > 40
      · rw [if_pos hv]
        refine fnok_of_W hmix tabOK Try.func43 rfl rfl (Nat.le_of_ble_eq_true rfl) ?_
        conv => whnf
        refine (c_kcheck1 hm).mono fun r st e => ?_
        obtain ⟨rfl, rfl⟩ := e
        conv => whnf
        refine (cr).mono fun r st e => ?_
        obtain ⟨rfl, rfl⟩ := e
        conv => whnf
        rw [strB_size, decide_eq_true (show (v.length : Int) > 40 by omega)]
        conv => whnf
        refine ⟨false, [999], ?_⟩
        conv => whnf
        exact ⟨rfl, rfl⟩
      rw [if_neg hv]
      have hd := drop_len (k := k) hs
      by_cases h0 : l = []
      · subst h0
        rw [if_neg (by simp [dropL])]
        have cf := c_kfind [] k hs hl
        refine fnok_of_Ws [48] hmix tabOK Try.func43 rfl rfl (Nat.le_of_ble_eq_true rfl) ?_
        conv => whnf
        refine (c_kcheck1 hm).mono fun r st e => ?_
        obtain ⟨rfl, rfl⟩ := e
        conv => whnf
        refine (cr).mono fun r st e => ?_
        obtain ⟨rfl, rfl⟩ := e
        conv => whnf
        rw [strB_size, decide_eq_false (show ¬ (v.length : Int) > 40 by omega)]
        conv => whnf
        refine (cf).mono fun r st e => ?_
        obtain ⟨rfl, rfl⟩ := e
        conv => whnf
        refine (c_clone0Pair).mono fun r st e => ?_
        obtain ⟨rfl, rfl⟩ := e
        conv => whnf
        refine (c_ins0Pair (⟨k, v⟩ : Pr)).mono fun r st e => ?_
        obtain ⟨rfl, rfl⟩ := e
        conv => whnf
        refine ⟨false, [999], ?_⟩
        conv => whnf
        exact ⟨rfl, rfl⟩
      cases hg : (getL Pr.key l k).isSome with
      | true =>
        rw [hg, if_pos rfl] at hd
        have hp : 0 < l.length := List.length_pos_iff.2 h0
        rw [if_neg (by omega)]
        obtain ⟨y, hy⟩ := Option.isSome_iff_exists.1 hg
        have hyk := (getL_some hy).2
        have ha := at_get sLin k hs hy
        obtain ⟨hlo, _⟩ := List.getElem?_eq_some_iff.1 ha
        have cf := c_kfind l k hs hl
        rw [hg] at cf
        refine fnok_of_Ws [48] hmix tabOK Try.func43 rfl rfl (Nat.le_of_ble_eq_true rfl) ?_
        conv => whnf
        refine (c_kcheck1 hm).mono fun r st e => ?_
        obtain ⟨rfl, rfl⟩ := e
        conv => whnf
        refine (cr).mono fun r st e => ?_
        obtain ⟨rfl, rfl⟩ := e
        conv => whnf
        rw [strB_size, decide_eq_false (show ¬ (v.length : Int) > 40 by omega)]
        conv => whnf
        refine (cf).mono fun r st e => ?_
        obtain ⟨rfl, rfl⟩ := e
        conv => whnf
        refine (c_cloneBPair l (by omega) h0).mono fun r st e => ?_
        obtain ⟨cap, L, h1, h2, h3, rfl, rfl⟩ := e
        conv => whnf
        repeat (refine And.intro (by first | omega) ?_; conv => whnf)
        refine ⟨_, show L[0 + ((lo Pr.key slt l k : Nat) : Int).toNat]? = some (AV.st [.sc (.string (strB (y).key)), .sc (.string (strB (y).val))]) by rw [Nat.zero_add, Int.toNat_natCast, at_take h3 hlo]; simp [prA, ha], ?_⟩
        conv => whnf
        refine ⟨false, [999], ?_⟩
        conv => whnf
        have hset := set_take (i := lo Pr.key slt l k) (x := (⟨k, v⟩ : Pr)) h3
        rw [set_put sLin (x := (⟨k, v⟩ : Pr)) hs hy] at hset
        rw [Nat.zero_add, Int.toNat_natCast, hyk, List.drop_zero]
        refine ⟨?_, rfl⟩
        rw [← hset]
        rfl
      | false =>
        rw [hg, if_neg (by simp)] at hd
        have hgn := isNone_of hg
        have hlo : lo Pr.key slt l k ≤ l.length := lo_le
        have cf := c_kfind l k hs hl
        rw [hg] at cf
        by_cases hf : l.length = 100
        · rw [if_pos (by omega)]
          refine fnok_of_Ws [48] hmix tabOK Try.func43 rfl rfl (Nat.le_of_ble_eq_true rfl) ?_
          conv => whnf
          refine (c_kcheck1 hm).mono fun r st e => ?_
          obtain ⟨rfl, rfl⟩ := e
          conv => whnf
          refine (cr).mono fun r st e => ?_
          obtain ⟨rfl, rfl⟩ := e
          conv => whnf
          rw [strB_size, decide_eq_false (show ¬ (v.length : Int) > 40 by omega)]
          conv => whnf
          refine (cf).mono fun r st e => ?_
          obtain ⟨rfl, rfl⟩ := e
          conv => whnf
          refine (c_cloneBPair l (by omega) h0).mono fun r st e => ?_
          obtain ⟨cap, L, h1, h2, h3, rfl, rfl⟩ := e
          conv => whnf
          rw [lenPr, show ((l.length : Int) == 100) = true by simp; omega]
          conv => whnf
          refine ⟨false, [999], ?_⟩
          conv => whnf
          exact ⟨rfl, rfl⟩
        rw [if_neg (by omega)]
        refine fnok_of_Ws [48] hmix tabOK Try.func43 rfl rfl (Nat.le_of_ble_eq_true rfl) ?_
        conv => whnf
        refine (c_kcheck1 hm).mono fun r st e => ?_
        obtain ⟨rfl, rfl⟩ := e
        conv => whnf
        refine (cr).mono fun r st e => ?_
        obtain ⟨rfl, rfl⟩ := e
        conv => whnf
        rw [strB_size, decide_eq_false (show ¬ (v.length : Int) > 40 by omega)]
        conv => whnf
        refine (cf).mono fun r st e => ?_
        obtain ⟨rfl, rfl⟩ := e
        conv => whnf
        refine (c_cloneBPair l (by omega) h0).mono fun r st e => ?_
        obtain ⟨cap, L, h1, h2, h3, rfl, rfl⟩ := e
        conv => whnf
        rw [lenPr, show ((l.length : Int) == 100) = false by simp; omega]
        conv => whnf
        have fin : ∀ {L' : List AV}, L'.take (l.length + 1) = L.take (lo Pr.key slt l k) ++ [(AV.st [.sc (.string (strB ((⟨k, v⟩ : Pr)).key)), .sc (.string (strB ((⟨k, v⟩ : Pr)).val))])] ++ (L.drop (lo Pr.key slt l k)).take (l.length - lo Pr.key slt l k) → L'.take (l.length + 1) = prA (puL Pr.key slt l ⟨k, v⟩) := fun h => by
          rw [ins_take (f := fun x : Pr => AV.st [.sc (.string (strB x.key)), .sc (.string (strB x.val))]) (a := (⟨k, v⟩ : Pr)) h rfl h3 rfl hlo, ← ins_put sLin (x := (⟨k, v⟩ : Pr)) hs hgn]
          rfl
        refine (c_insPair cap l.length (lo Pr.key slt l k) L ⟨k, v⟩ h2 h1 hlo (by omega)).mono fun r st e => ?_
        obtain ⟨cap', L', q1, q2, q3, ⟨rfl, rfl⟩ | ⟨rfl, rfl⟩⟩ := e
        · conv => whnf
          refine ⟨false, [999], ?_⟩
          conv => whnf
          rw [List.drop_zero, fin q3]
          exact ⟨rfl, rfl⟩
        · conv => whnf
          refine ⟨false, [999], ?_⟩
          conv => whnf
          rw [List.drop_zero, fin q3]
          exact ⟨rfl, rfl⟩
theorem c_kdrop (l : List Pr) (k : List UInt8) (hl : l.length < 4294967296) : FnOK Try.prog D 45 [(AV.sl (.nd [.lf, .lf]) (prA (l)) .ro), (AV.sc (.string (strB (k))))] [] (fun r st => r = .tup [(AV.sl (.nd [.lf, .lf]) (prA ((kvDrop l k).1)) .ro), (AV.sc (.int .i64 ((kvDrop l k).2)))] ∧ st = []) := by
  cases hm : mayP okKey l with
  | false =>
    have e : kvDrop l k = ([], 1) := by unfold kvDrop; rw [hm]; rfl
    rw [e]
    refine fnok_of_W hmix tabOK Try.func45 rfl rfl (Nat.le_of_ble_eq_true rfl) ?_
    conv => whnf
    refine (c_kcheck0 hm hl).mono fun r st e => ?_
    obtain ⟨rfl, rfl⟩ := e
    conv => whnf
    refine ⟨false, [999], ?_⟩
    conv => whnf
    exact ⟨rfl, rfl⟩
  | true =>
    have h100 := ((mayP_iff _ _).1 hm).1
    have hs := ((mayP_iff _ _).1 hm).2.2
    have e : kvDrop l k = (if (getL Pr.key l k).isSome = true then (dropL Pr.key l k, 0) else ([], 3)) := by unfold kvDrop; rw [hm, if_pos rfl]
    rw [e]
    clear e
    have cf := c_kfind l k hs hl
    cases hg : (getL Pr.key l k).isSome with
    | false =>
      rw [hg] at cf
      rw [if_neg (by simp)]
      refine fnok_of_Ws [27] hmix tabOK Try.func45 rfl rfl (Nat.le_of_ble_eq_true rfl) ?_
      conv => whnf
      refine (c_kcheck1 hm).mono fun r st e => ?_
      obtain ⟨rfl, rfl⟩ := e
      conv => whnf
      refine (cf).mono fun r st e => ?_
      obtain ⟨rfl, rfl⟩ := e
      conv => whnf
      refine ⟨false, [999], ?_⟩
      conv => whnf
      exact ⟨rfl, rfl⟩
    | true =>
      rw [hg] at cf
      rw [if_pos rfl]
      have h0 : l ≠ [] := fun e => by subst e; cases hg
      obtain ⟨y, hy⟩ := Option.isSome_iff_exists.1 hg
      have ha := at_get sLin k hs hy
      obtain ⟨hlo, _⟩ := List.getElem?_eq_some_iff.1 ha
      have ee := erase_drop sLin hs hy
      refine fnok_of_Ws [27] hmix tabOK Try.func45 rfl rfl (Nat.le_of_ble_eq_true rfl) ?_
      conv => whnf
      refine (c_kcheck1 hm).mono fun r st e => ?_
      obtain ⟨rfl, rfl⟩ := e
      conv => whnf
      refine (cf).mono fun r st e => ?_
      obtain ⟨rfl, rfl⟩ := e
      conv => whnf
      refine (c_cloneBPair l (by omega) h0).mono fun r st e => ?_
      obtain ⟨cap, L, h1, h2, h3, rfl, rfl⟩ := e
      conv => whnf
      rw [w64 (x := (lo Pr.key slt l k : Int) + 1) (by omega) (by omega)]
      refine (c_delPair cap l.length (lo Pr.key slt l k) L h2 h1 hlo (by omega)).mono fun r st e => ?_
      obtain ⟨rfl, rfl⟩ := e
      conv => whnf
      refine ⟨false, [999], ?_⟩
      conv => whnf
      rw [List.drop_zero, del_take (f := fun x : Pr => AV.st [.sc (.string (strB x.key)), .sc (.string (strB x.val))]) rfl h3 hlo (by omega), ee]
      exact ⟨rfl, rfl⟩
end Go.WL.T5
