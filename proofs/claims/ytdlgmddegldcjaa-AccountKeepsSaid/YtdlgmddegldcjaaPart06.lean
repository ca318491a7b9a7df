/- Accounts: found, put, stepped. No condition. -/
import Derived.Test.YtdlgmddegldcjaaPart05
set_option linter.unusedVariables false
set_option linter.unusedSimpArgs false
namespace Go.WL.T5
open Go.WL Go.Proofs
set_option maxRecDepth 20000
set_option maxHeartbeats 8000000
theorem c_acheck1 {l : List Ac} (h : mayA l = true) (hl : l.length < 4294967296) : FnOK Try.prog D 56 [(AV.sl (.nd [.lf, .lf, .lf]) (accA (l)) .ro)] [] (fun r st => r = (AV.sc (.int .i64 (0))) ∧ st = []) :=
  (c_acheck l hl).mono fun r st ⟨h1, h2⟩ => ⟨by rw [h1, if_pos h], h2⟩
theorem c_acheck0 {l : List Ac} (h : mayA l = false) (hl : l.length < 4294967296) : FnOK Try.prog D 56 [(AV.sl (.nd [.lf, .lf, .lf]) (accA (l)) .ro)] [] (fun r st => r = (AV.sc (.int .i64 (1))) ∧ st = []) :=
  (c_acheck l hl).mono fun r st ⟨h1, h2⟩ => ⟨by rw [h1, h]; rfl, h2⟩
theorem c_afind (l : List Ac) (k : Int) (hs : srtA l) (hl : l.length < 4294967296) : FnOK Try.prog D 119 [(AV.sl (.nd [.lf, .lf, .lf]) (accA (l)) .ro), (AV.sc (.int .i64 (k)))] [] (fun r st => r = .tup [(AV.sc (.int .i64 ((lo Ac.id ilt l k : Int)))), (AV.sc (.bool ((getL Ac.id l k).isSome)))] ∧ st = []) := by
  refine fnok_of_W hmix tabOK Try.func119 rfl rfl (Nat.le_of_ble_eq_true rfl) ?_
  conv => whnf
  refine (c_binAcc l k hs hl).mono fun r st e => ?_
  obtain ⟨rfl, rfl⟩ := e
  conv => whnf
  refine ⟨false, [], ?_⟩
  conv => whnf
  exact ⟨rfl, rfl⟩
theorem c_afindB (l : List Ac) (k : Int) (L : List AV) (cap : Nat) (hs : srtA l) (hl : l.length < 4294967296) (hc : l.length ≤ cap) (hL : L.take l.length = accA l) :
    FnOK Try.prog D 119 [.bs 0 [] (.nd [.lf, .lf, .lf]) 0 l.length cap, (AV.sc (.int .i64 (k)))] [.ar cap (.nd [.lf, .lf, .lf]) L] (fun r st => r = .tup [(AV.sc (.int .i64 ((lo Ac.id ilt l k : Int)))), (AV.sc (.bool ((getL Ac.id l k).isSome)))] ∧ st = [.ar cap (.nd [.lf, .lf, .lf]) L]) := by
  refine fnok_of_Ws [8] hmix tabOK Try.func119 rfl rfl (Nat.le_of_ble_eq_true rfl) ?_
  conv => whnf
  refine (c_binBAcc l k L cap hs hl hc hL).mono fun r st e => ?_
  obtain ⟨rfl, rfl⟩ := e
  conv => whnf
  refine ⟨false, [], ?_⟩
  conv => whnf
  exact ⟨rfl, rfl⟩
theorem c_aget (l : List Ac) (k : Int) (hs : srtA l) (hl : l.length < 4294967296) : FnOK Try.prog D 96 [(AV.sl (.nd [.lf, .lf, .lf]) (accA (l)) .ro), (AV.sc (.int .i64 (k)))] [] (fun r st => r = (AV.st [.sc (.int .i64 (getA l k).id), .sc (.int .i64 (getA l k).n), .sc (.int .i64 (getA l k).b)]) ∧ st = []) := by
  refine fnok_of_W hmix tabOK Try.func96 rfl rfl (Nat.le_of_ble_eq_true rfl) ?_
  conv => whnf
  refine (c_afind l k hs hl).mono fun r st e => ?_
  obtain ⟨rfl, rfl⟩ := e
  conv => whnf
  cases hg : getL Ac.id l k with
  | none =>
    rw [Option.isSome_none]
    conv => whnf
    refine ⟨false, [], ?_⟩
    conv => whnf
    unfold getA
    rw [hg]
    exact ⟨rfl, rfl⟩
  | some x =>
    rw [Option.isSome_some]
    conv => whnf
    have ha := at_get iLin k hs hg
    repeat (refine And.intro (by first | omega) ?_; conv => whnf)
    refine ⟨_, show (accA l)[((lo Ac.id ilt l k : Nat) : Int).toNat]? = some (AV.st [.sc (.int .i64 (x).id), .sc (.int .i64 (x).n), .sc (.int .i64 (x).b)]) by rw [Int.toNat_natCast]; simp [accA, ha], ?_⟩
    conv => whnf
    refine ⟨false, [], ?_⟩
    conv => whnf
    unfold getA
    rw [hg]
    exact ⟨rfl, rfl⟩
theorem c_aGet (l : List Ac) (k : Int) (hl : l.length < 4294967296) : FnOK Try.prog D 57 [(AV.sl (.nd [.lf, .lf, .lf]) (accA (l)) .ro), (AV.sc (.int .i64 (k)))] [] (fun r st => r = (AV.st [.sc (.int .i64 (if mayA l = true ∧ 1 ≤ k ∧ k ≤ 40 then getA l k else ⟨0, 0, 0⟩).id), .sc (.int .i64 (if mayA l = true ∧ 1 ≤ k ∧ k ≤ 40 then getA l k else ⟨0, 0, 0⟩).n), .sc (.int .i64 (if mayA l = true ∧ 1 ≤ k ∧ k ≤ 40 then getA l k else ⟨0, 0, 0⟩).b)]) ∧ st = []) := by
  cases hm : mayA l with
  | false =>
    refine fnok_of_W hmix tabOK Try.func57 rfl rfl (Nat.le_of_ble_eq_true rfl) ?_
    conv => whnf
    refine (c_acheck0 hm hl).mono fun r st e => ?_
    obtain ⟨rfl, rfl⟩ := e
    conv => whnf
    refine ⟨false, [], ?_⟩
    conv => whnf
    refine ⟨?_, rfl⟩
    rw [if_neg (by simp)]
  | true =>
    refine fnok_of_W hmix tabOK Try.func57 rfl rfl (Nat.le_of_ble_eq_true rfl) ?_
    conv => whnf
    refine (c_acheck1 hm hl).mono fun r st e => ?_
    obtain ⟨rfl, rfl⟩ := e
    conv => whnf
    refine (c_aid k).mono fun r st e => ?_
    obtain ⟨rfl, rfl⟩ := e
    conv => whnf
    cases hA : decide (1 ≤ k ∧ k ≤ 40)
    · conv => whnf
      refine ⟨false, [], ?_⟩
      conv => whnf
      refine ⟨?_, rfl⟩
      rw [decide_eq_false_iff_not] at hA
      rw [if_neg (fun h => hA h.2)]
    · conv => whnf
      refine (c_aget l k ((mayA_iff l).1 hm).2 hl).mono fun r st e => ?_
      obtain ⟨rfl, rfl⟩ := e
      conv => whnf
      refine ⟨false, [], ?_⟩
      conv => whnf
      refine ⟨?_, rfl⟩
      rw [decide_eq_true_eq] at hA
      rw [if_pos ⟨rfl, hA⟩]
theorem weakAcs (l : List Ac) : Weak (.sl (.nd [.lf, .lf, .lf]) (accA l) .ex) (AV.sl (.nd [.lf, .lf, .lf]) (accA (l)) .ro) := .ro
theorem dropB {l : List Ac} {k : Int} (hs : srtA l) (h : (getL Ac.id l k).isSome = true) : l.eraseIdx (lo Ac.id ilt l k) = dropL Ac.id l k ∧ lo Ac.id ilt l k < l.length ∧ (dropL Ac.id l k).length = l.length - 1 ∧ lo Ac.id ilt (dropL Ac.id l k) k = lo Ac.id ilt l k ∧ getL Ac.id (dropL Ac.id l k) k = none := by
  obtain ⟨x, hx⟩ := Option.isSome_iff_exists.1 h
  have e := erase_drop iLin hs hx
  obtain ⟨h1, _⟩ := (at_key iLin k hs).2 h
  refine ⟨e, h1, ?_, ?_, ?_⟩
  · rw [← e, List.length_eraseIdx, if_pos h1]
  · unfold lo fLt dropL
    rw [List.filter_filter]
    congr 1
    apply List.filter_congr
    intro y _
    by_cases c : y.id = k
    · simp [c, iLin.irr]
    · simp [c]
  · rw [get_drop iLin hs, if_pos rfl]
theorem put_drop {l : List Ac} {a : Ac} (hs : srtA l) : puL Ac.id ilt (dropL Ac.id l a.id) a = puL Ac.id ilt l a := by
  refine srt_ext iLin (Srt.put iLin hs.filter) (Srt.put iLin hs) fun y => ?_
  rw [mem_put iLin, mem_put iLin, mem_drop]
  constructor
  · rintro (rfl | ⟨⟨h1, h2⟩, h3⟩)
    · exact .inl rfl
    · exact .inr ⟨h1, h3⟩
  · rintro (rfl | ⟨h1, h3⟩)
    · exact .inl rfl
    · exact .inr ⟨⟨h1, h3⟩, h3⟩
theorem c_aput0 (a : Ac) : FnOK Try.prog D 98 [.sl (.nd [.lf, .lf, .lf]) [] .ro, (AV.st [.sc (.int .i64 (a).id), .sc (.int .i64 (a).n), .sc (.int .i64 (a).b)])] [] (fun r st => r = (AV.sl (.nd [.lf, .lf, .lf]) (accA (putA [] a)) .ro) ∧ st = []) := by
  have c0 := (c_afind [] a.id (by simp [srtA, Srt]) (by decide)).weak (.cons (weakAcs []) (Weaks.refl _))
  refine fnok_of_Ws [14, 22, 36] hmix tabOK Try.func98 rfl rfl (Nat.le_of_ble_eq_true rfl) ?_
  conv => whnf
  refine (c_clone0Acc).mono fun r st e => ?_
  obtain ⟨rfl, rfl⟩ := e
  conv => whnf
  refine (c0).mono fun r st e => ?_
  obtain ⟨rfl, rfl⟩ := e
  conv => whnf
  by_cases hn : a.n = 0
  · by_cases hb : a.b = 0
    · rw [hn, hb]
      conv => whnf
      refine ⟨false, [999], ?_⟩
      conv => whnf
      unfold putA
      rw [if_pos ⟨hn, hb⟩]
      exact ⟨rfl, rfl⟩
    · rw [show (a.n == 0) = true by simp [hn]]
      conv => whnf
      rw [show (a.b == 0) = false by simp [hb]]
      conv => whnf
      refine (c_ins0Acc a).mono fun r st e => ?_
      obtain ⟨rfl, rfl⟩ := e
      conv => whnf
      refine ⟨false, [999], ?_⟩
      conv => whnf
      unfold putA
      rw [if_neg (fun e => hb e.2)]
      exact ⟨rfl, rfl⟩
  · rw [show (a.n == 0) = false by simp [hn]]
    conv => whnf
    refine (c_ins0Acc a).mono fun r st e => ?_
    obtain ⟨rfl, rfl⟩ := e
    conv => whnf
    refine ⟨false, [999], ?_⟩
    conv => whnf
    unfold putA
    rw [if_neg (fun e => hn e.1)]
    exact ⟨rfl, rfl⟩
theorem c_aputB (l : List Ac) (a : Ac) (hs : srtA l) (hl : l.length < 1000000) (h0 : l ≠ []) : FnOK Try.prog D 98 [(AV.sl (.nd [.lf, .lf, .lf]) (accA (l)) .ro), (AV.st [.sc (.int .i64 (a).id), .sc (.int .i64 (a).n), .sc (.int .i64 (a).b)])] [] (fun r st => r = (AV.sl (.nd [.lf, .lf, .lf]) (accA (putA l a)) .ro) ∧ st = []) := by
  refine fnok_of_Ws [14, 22, 36] hmix tabOK Try.func98 rfl rfl (Nat.le_of_ble_eq_true rfl) ?_
  conv => whnf
  refine (c_cloneBAcc l (by omega) h0).mono fun r st e => ?_
  obtain ⟨cap, L, h1, h2, h3, rfl, rfl⟩ := e
  conv => whnf
  refine (c_afindB l a.id L cap hs (by omega) h1 h3).mono fun r st e => ?_
  obtain ⟨rfl, rfl⟩ := e
  conv => whnf
  cases hg : (getL Ac.id l a.id).isSome with
  | true =>
    obtain ⟨g1, g2, g3, g4, g5⟩ := dropB hs hg
    have fin : ∀ {L L' : List AV} (_ : ¬ (a.n = 0 ∧ a.b = 0)), L.take (l.length - 1) = accA (dropL Ac.id l a.id) → L'.take (l.length - 1 + 1) = L.take (lo Ac.id ilt l a.id) ++ [(AV.st [.sc (.int .i64 (a).id), .sc (.int .i64 (a).n), .sc (.int .i64 (a).b)])] ++ (L.drop (lo Ac.id ilt l a.id)).take (l.length - 1 - lo Ac.id ilt l a.id) → L'.take (l.length - 1 + 1) = accA (putA l a) := fun hz hL h => by
      rw [ins_take (f := fun x : Ac => AV.st [.sc (.int .i64 x.id), .sc (.int .i64 x.n), .sc (.int .i64 x.b)]) h g3 hL rfl (by omega)]
      have e := ins_put iLin (l := dropL Ac.id l a.id) (x := a) hs.filter g5
      rw [g4] at e
      unfold putA
      rw [if_neg hz, e, put_drop hs]
      rfl
    conv => whnf
    rw [w64 (x := (lo Ac.id ilt l a.id : Int) + 1) (by omega) (by omega)]
    refine (c_delAcc cap l.length (lo Ac.id ilt l a.id) L h2 h1 g2 (by omega)).mono fun r st e => ?_
    obtain ⟨rfl, rfl⟩ := e
    conv => whnf
    have hT : (del1 L (lo Ac.id ilt l a.id) l.length (AV.st [.sc (.int .i64 0), .sc (.int .i64 0), .sc (.int .i64 0)])).take (l.length - 1) = accA (dropL Ac.id l a.id) := by
      rw [del_take (f := fun x : Ac => AV.st [.sc (.int .i64 x.id), .sc (.int .i64 x.n), .sc (.int .i64 x.b)]) rfl h3 g2 (by omega), g1]
      rfl
    have hTl : (del1 L (lo Ac.id ilt l a.id) l.length (AV.st [.sc (.int .i64 0), .sc (.int .i64 0), .sc (.int .i64 0)])).length = cap := by rw [del_len g2 (by omega), h2]
    generalize del1 L (lo Ac.id ilt l a.id) l.length (AV.st [.sc (.int .i64 0), .sc (.int .i64 0), .sc (.int .i64 0)]) = L1 at hT hTl
    by_cases hn : a.n = 0
    · by_cases hb : a.b = 0
      · rw [hn, hb]
        conv => whnf
        refine ⟨false, [999], ?_⟩
        conv => whnf
        unfold putA
        rw [if_pos ⟨hn, hb⟩, List.drop_zero, hT]
        exact ⟨rfl, rfl⟩
      · rw [show (a.n == 0) = true by simp [hn]]
        conv => whnf
        rw [show (a.b == 0) = false by simp [hb]]
        conv => whnf
        refine (c_insAcc cap (l.length - 1) (lo Ac.id ilt l a.id) L1 a hTl (by omega) (by omega) (by omega)).mono fun r st e => ?_
        obtain ⟨cap', L', q1, q2, q3, ⟨rfl, rfl⟩ | ⟨rfl, rfl⟩⟩ := e
        · conv => whnf
          refine ⟨false, [999], ?_⟩
          conv => whnf
          rw [List.drop_zero, fin (fun e => hb e.2) hT q3]
          exact ⟨rfl, rfl⟩
        · conv => whnf
          refine ⟨false, [999], ?_⟩
          conv => whnf
          rw [List.drop_zero, fin (fun e => hb e.2) hT q3]
          exact ⟨rfl, rfl⟩
    · rw [show (a.n == 0) = false by simp [hn]]
      conv => whnf
      refine (c_insAcc cap (l.length - 1) (lo Ac.id ilt l a.id) L1 a hTl (by omega) (by omega) (by omega)).mono fun r st e => ?_
      obtain ⟨cap', L', q1, q2, q3, ⟨rfl, rfl⟩ | ⟨rfl, rfl⟩⟩ := e
      · conv => whnf
        refine ⟨false, [999], ?_⟩
        conv => whnf
        rw [List.drop_zero, fin (fun e => hn e.1) hT q3]
        exact ⟨rfl, rfl⟩
      · conv => whnf
        refine ⟨false, [999], ?_⟩
        conv => whnf
        rw [List.drop_zero, fin (fun e => hn e.1) hT q3]
        exact ⟨rfl, rfl⟩
  | false =>
    have hgn : getL Ac.id l a.id = none := by
      cases e : getL Ac.id l a.id with
      | none => rfl
      | some x => rw [e] at hg; cases hg
    have hlo : lo Ac.id ilt l a.id ≤ l.length := lo_le
    have fin : ∀ {L' : List AV} (_ : ¬ (a.n = 0 ∧ a.b = 0)), L'.take (l.length + 1) = L.take (lo Ac.id ilt l a.id) ++ [(AV.st [.sc (.int .i64 (a).id), .sc (.int .i64 (a).n), .sc (.int .i64 (a).b)])] ++ (L.drop (lo Ac.id ilt l a.id)).take (l.length - lo Ac.id ilt l a.id) → L'.take (l.length + 1) = accA (putA l a) := fun hz h => by
      rw [ins_take (f := fun x : Ac => AV.st [.sc (.int .i64 x.id), .sc (.int .i64 x.n), .sc (.int .i64 x.b)]) h rfl h3 rfl hlo, ins_put iLin hs hgn]
      unfold putA
      rw [if_neg hz]
      rfl
    have hdr : dropL Ac.id l a.id = l := by
      unfold dropL
      rw [List.filter_eq_self]
      intro y hy
      simpa using getL_none hgn y hy
    conv => whnf
    by_cases hn : a.n = 0
    · by_cases hb : a.b = 0
      · rw [hn, hb]
        conv => whnf
        refine ⟨false, [999], ?_⟩
        conv => whnf
        unfold putA
        rw [if_pos ⟨hn, hb⟩, List.drop_zero, h3, hdr]
        exact ⟨rfl, rfl⟩
      · rw [show (a.n == 0) = true by simp [hn]]
        conv => whnf
        rw [show (a.b == 0) = false by simp [hb]]
        conv => whnf
        refine (c_insAcc cap l.length (lo Ac.id ilt l a.id) L a h2 (by omega) hlo (by omega)).mono fun r st e => ?_
        obtain ⟨cap', L', q1, q2, q3, ⟨rfl, rfl⟩ | ⟨rfl, rfl⟩⟩ := e
        · conv => whnf
          refine ⟨false, [999], ?_⟩
          conv => whnf
          rw [List.drop_zero, fin (fun e => hb e.2) q3]
          exact ⟨rfl, rfl⟩
        · conv => whnf
          refine ⟨false, [999], ?_⟩
          conv => whnf
          rw [List.drop_zero, fin (fun e => hb e.2) q3]
          exact ⟨rfl, rfl⟩
    · rw [show (a.n == 0) = false by simp [hn]]
      conv => whnf
      refine (c_insAcc cap l.length (lo Ac.id ilt l a.id) L a h2 (by omega) hlo (by omega)).mono fun r st e => ?_
      obtain ⟨cap', L', q1, q2, q3, ⟨rfl, rfl⟩ | ⟨rfl, rfl⟩⟩ := e
      · conv => whnf
        refine ⟨false, [999], ?_⟩
        conv => whnf
        rw [List.drop_zero, fin (fun e => hn e.1) q3]
        exact ⟨rfl, rfl⟩
      · conv => whnf
        refine ⟨false, [999], ?_⟩
        conv => whnf
        rw [List.drop_zero, fin (fun e => hn e.1) q3]
        exact ⟨rfl, rfl⟩
end Go.WL.T5
