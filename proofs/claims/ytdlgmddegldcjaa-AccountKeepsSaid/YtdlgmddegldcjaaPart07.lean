/- Accounts: steps, payments, sums. No condition. -/
import Derived.Test.YtdlgmddegldcjaaPart06
set_option linter.unusedVariables false
set_option linter.unusedSimpArgs false
namespace Go.WL.T5
open Go.WL Go.Proofs
set_option maxRecDepth 20000
set_option maxHeartbeats 8000000
theorem c_aput (l : List Ac) (a : Ac) (hs : srtA l) (hl : l.length < 1000000) : FnOK Try.prog D 98 [(AV.sl (.nd [.lf, .lf, .lf]) (accA (l)) .ro), (AV.st [.sc (.int .i64 (a).id), .sc (.int .i64 (a).n), .sc (.int .i64 (a).b)])] [] (fun r st => r = (AV.sl (.nd [.lf, .lf, .lf]) (accA (putA l a)) .ro) ∧ st = []) := by
  by_cases h : l = []
  · subst h
    exact c_aput0 a
  · exact c_aputB l a hs hl h
def stepA (l : List Ac) (k : Int) : List Ac × Int :=
  if mayA l = true ∧ 1 ≤ k ∧ k ≤ 40 then (if (getA l k).n = 1099511627776 then ([], 9) else (putA l ⟨k, (getA l k).n + 1, (getA l k).b⟩, 0)) else ([], 1)
theorem c_astep (l : List Ac) (k : Int) (hl : l.length < 1000000) : FnOK Try.prog D 58 [(AV.sl (.nd [.lf, .lf, .lf]) (accA (l)) .ro), (AV.sc (.int .i64 (k)))] [] (fun r st => r = .tup [(AV.sl (.nd [.lf, .lf, .lf]) (accA ((stepA l k).1)) .ro), (AV.sc (.int .i64 ((stepA l k).2)))] ∧ st = []) := by
  cases hm : mayA l with
  | false =>
    have e : stepA l k = ([], 1) := by unfold stepA; rw [if_neg (by rw [hm]; simp)]
    rw [e]
    refine fnok_of_W hmix tabOK Try.func58 rfl rfl (Nat.le_of_ble_eq_true rfl) ?_
    conv => whnf
    refine (c_acheck0 hm (by omega)).mono fun r st e => ?_
    obtain ⟨rfl, rfl⟩ := e
    conv => whnf
    refine ⟨false, [999], ?_⟩
    conv => whnf
    exact ⟨rfl, rfl⟩
  | true =>
    by_cases hk : 1 ≤ k ∧ k ≤ 40
    rotate_left
    · have e : stepA l k = ([], 1) := by unfold stepA; rw [if_neg (fun h => hk h.2)]
      rw [e]
      refine fnok_of_W hmix tabOK Try.func58 rfl rfl (Nat.le_of_ble_eq_true rfl) ?_
      conv => whnf
      refine (c_acheck1 hm (by omega)).mono fun r st e => ?_
      obtain ⟨rfl, rfl⟩ := e
      conv => whnf
      refine (c_aid k).mono fun r st e => ?_
      obtain ⟨rfl, rfl⟩ := e
      conv => whnf
      rw [decide_eq_false hk]
      conv => whnf
      refine ⟨false, [999], ?_⟩
      conv => whnf
      exact ⟨rfl, rfl⟩
    have hid := getA_id l k
    have hg := getA_may hm k
    have e : stepA l k = if (getA l k).n = 1099511627776 then ([], 9) else (putA l ⟨k, (getA l k).n + 1, (getA l k).b⟩, 0) := by unfold stepA; rw [if_pos ⟨hm, hk⟩]
    rw [e]
    have hs := ((mayA_iff l).1 hm).2
    have hcg := c_aget l k hs (by omega)
    generalize getA l k = a at hid hg hcg e
    by_cases hn : a.n = 1099511627776
    · rw [if_pos hn]
      refine fnok_of_W hmix tabOK Try.func58 rfl rfl (Nat.le_of_ble_eq_true rfl) ?_
      conv => whnf
      refine (c_acheck1 hm (by omega)).mono fun r st e => ?_
      obtain ⟨rfl, rfl⟩ := e
      conv => whnf
      refine (c_aid k).mono fun r st e => ?_
      obtain ⟨rfl, rfl⟩ := e
      conv => whnf
      rw [decide_eq_true hk]
      conv => whnf
      refine (hcg).mono fun r st e => ?_
      obtain ⟨rfl, rfl⟩ := e
      conv => whnf
      rw [show (a.n == 1099511627776) = true by simp [hn]]
      conv => whnf
      refine ⟨false, [999], ?_⟩
      conv => whnf
      exact ⟨rfl, rfl⟩
    · rw [if_neg hn]
      refine fnok_of_W hmix tabOK Try.func58 rfl rfl (Nat.le_of_ble_eq_true rfl) ?_
      conv => whnf
      refine (c_acheck1 hm (by omega)).mono fun r st e => ?_
      obtain ⟨rfl, rfl⟩ := e
      conv => whnf
      refine (c_aid k).mono fun r st e => ?_
      obtain ⟨rfl, rfl⟩ := e
      conv => whnf
      rw [decide_eq_true hk]
      conv => whnf
      refine (hcg).mono fun r st e => ?_
      obtain ⟨rfl, rfl⟩ := e
      conv => whnf
      rw [show (a.n == 1099511627776) = false by simp [hn]]
      conv => whnf
      rw [w64 (x := a.n + 1) (by omega) (by omega), hid]
      refine (c_aput l ⟨k, a.n + 1, a.b⟩ hs hl).mono fun r st e => ?_
      obtain ⟨rfl, rfl⟩ := e
      conv => whnf
      refine ⟨false, [999], ?_⟩
      conv => whnf
      exact ⟨rfl, rfl⟩
def payA (l : List Ac) (f t m : Int) : List Ac × Int :=
  if mayA l = true ∧ (1 ≤ f ∧ f ≤ 40) ∧ (1 ≤ t ∧ t ≤ 40) ∧ (0 ≤ m ∧ m ≤ 1099511627776) then
    (if (getA l f).b < m then ([], 13) else if f = t then (l, 0) else if (getA l t).b > 1125899906842624 - m then ([], 14) else
      (putA (putA l ⟨f, (getA l f).n, (getA l f).b - m⟩) ⟨t, (getA l t).n, (getA l t).b + m⟩, 0)) else ([], 1)
theorem put_le (l : List Ac) (a : Ac) (hs : srtA l) : (putA l a).length ≤ l.length + 1 := by
  unfold putA
  split
  · exact Nat.le_succ_of_le (List.length_filter_le _ _)
  · cases hg : getL Ac.id l a.id with
    | none =>
      have e := cut iLin a.id hs (getL_none hg)
      have := congrArg List.length e
      unfold puL
      simp only [List.length_append, List.length_cons] at this ⊢
      omega
    | some x =>
      obtain ⟨h1, h2⟩ := getL_some hg
      have e := cutAt iLin a.id x hs h1 h2
      have := congrArg List.length e
      unfold puL
      simp only [List.length_append, List.length_cons] at this ⊢
      omega
theorem payA_no {l : List Ac} {f t m : Int} (h : ¬ (mayA l = true ∧ (1 ≤ f ∧ f ≤ 40) ∧ (1 ≤ t ∧ t ≤ 40) ∧ (0 ≤ m ∧ m ≤ 1099511627776))) : payA l f t m = ([], 1) := by
  unfold payA
  rw [if_neg h]
theorem c_aclone (l : List Ac) (hl : l.length < 1000000) : FnOK Try.prog D 97 [(AV.sl (.nd [.lf, .lf, .lf]) (accA (l)) .ro)] [] (fun r st => r = (AV.sl (.nd [.lf, .lf, .lf]) (accA (l)) .ro) ∧ st = []) := by
  have hll := lenAc l
  refine fnok_of_Ws [7] hmix tabOK Try.func97 rfl rfl (Nat.le_of_ble_eq_true rfl) ?_
  conv => whnf
  intro b hb
  cases b
  · conv => whnf
    refine Branch.of (fun h2 => ?_) (fun h2 => ?_)
    · conv => whnf
      refine ⟨by rw [hll]; simp; omega, fun cap hc => ?_⟩
      conv => whnf
      refine ⟨false, [999], ?_⟩
      conv => whnf
      refine ⟨?_, rfl⟩
      congr 1
      simp
    · conv => whnf
      refine ⟨false, [999], ?_⟩
      conv => whnf
      refine ⟨?_, rfl⟩
      rw [hll] at h2
      have h3 := ble_no (show Nat.ble 1 l.length = false from h2)
      have : l = [] := List.length_eq_zero_iff.1 (by omega)
      subst this
      rfl
  · have : l = [] := by
      cases l with
      | nil => rfl
      | cons x l => exact absurd (hb (by simp [accA])) (by decide)
    subst this
    conv => whnf
    refine ⟨false, [999], ?_⟩
    conv => whnf
    exact ⟨rfl, rfl⟩
theorem c_apay (l : List Ac) (f t m : Int) (hl : l.length < 900000) (hw : -9223372036854775808 ≤ m ∧ m < 9223372036854775808) : FnOK Try.prog D 54 [(AV.sl (.nd [.lf, .lf, .lf]) (accA (l)) .ro), (AV.sc (.int .i64 (f))), (AV.sc (.int .i64 (t))), (AV.sc (.int .i64 (m)))] [] (fun r st => r = .tup [(AV.sl (.nd [.lf, .lf, .lf]) (accA ((payA l f t m).1)) .ro), (AV.sc (.int .i64 ((payA l f t m).2)))] ∧ st = []) := by
  cases hm : mayA l with
  | false =>
    rw [payA_no (fun h => by rw [hm] at h; cases h.1)]
    refine fnok_of_W hmix tabOK Try.func54 rfl rfl (Nat.le_of_ble_eq_true rfl) ?_
    conv => whnf
    refine (c_acheck0 hm (by omega)).mono fun r st e => ?_
    obtain ⟨rfl, rfl⟩ := e
    conv => whnf
    refine ⟨false, [999], ?_⟩
    conv => whnf
    exact ⟨rfl, rfl⟩
  | true =>
    by_cases hf : 1 ≤ f ∧ f ≤ 40
    rotate_left
    · rw [payA_no (fun h => hf h.2.1)]
      refine fnok_of_W hmix tabOK Try.func54 rfl rfl (Nat.le_of_ble_eq_true rfl) ?_
      conv => whnf
      refine (c_acheck1 hm (by omega)).mono fun r st e => ?_
      obtain ⟨rfl, rfl⟩ := e
      conv => whnf
      refine (c_aid f).mono fun r st e => ?_
      obtain ⟨rfl, rfl⟩ := e
      conv => whnf
      rw [decide_eq_false hf]
      conv => whnf
      refine ⟨false, [999], ?_⟩
      conv => whnf
      exact ⟨rfl, rfl⟩
    by_cases ht : 1 ≤ t ∧ t ≤ 40
    rotate_left
    · rw [payA_no (fun h => ht h.2.2.1)]
      refine fnok_of_W hmix tabOK Try.func54 rfl rfl (Nat.le_of_ble_eq_true rfl) ?_
      conv => whnf
      refine (c_acheck1 hm (by omega)).mono fun r st e => ?_
      obtain ⟨rfl, rfl⟩ := e
      conv => whnf
      refine (c_aid f).mono fun r st e => ?_
      obtain ⟨rfl, rfl⟩ := e
      conv => whnf
      rw [decide_eq_true hf]
      conv => whnf
      refine (c_aid t).mono fun r st e => ?_
      obtain ⟨rfl, rfl⟩ := e
      conv => whnf
      rw [decide_eq_false ht]
      conv => whnf
      refine ⟨false, [999], ?_⟩
      conv => whnf
      exact ⟨rfl, rfl⟩
    by_cases hmm : 0 ≤ m ∧ m ≤ 1099511627776
    rotate_left
    · rw [payA_no (fun h => hmm h.2.2.2)]
      refine fnok_of_W hmix tabOK Try.func54 rfl rfl (Nat.le_of_ble_eq_true rfl) ?_
      conv => whnf
      refine (c_acheck1 hm (by omega)).mono fun r st e => ?_
      obtain ⟨rfl, rfl⟩ := e
      conv => whnf
      refine (c_aid f).mono fun r st e => ?_
      obtain ⟨rfl, rfl⟩ := e
      conv => whnf
      rw [decide_eq_true hf]
      conv => whnf
      refine (c_aid t).mono fun r st e => ?_
      obtain ⟨rfl, rfl⟩ := e
      conv => whnf
      rw [decide_eq_true ht]
      conv => whnf
      refine (c_awithin m 0 1099511627776).mono fun r st e => ?_
      obtain ⟨rfl, rfl⟩ := e
      conv => whnf
      rw [decide_eq_false hmm]
      conv => whnf
      refine ⟨false, [999], ?_⟩
      conv => whnf
      exact ⟨rfl, rfl⟩
    have e : payA l f t m = (if (getA l f).b < m then ([], 13) else if f = t then (l, 0) else if (getA l t).b > 1125899906842624 - m then ([], 14) else
      (putA (putA l ⟨f, (getA l f).n, (getA l f).b - m⟩) ⟨t, (getA l t).n, (getA l t).b + m⟩, 0)) := by unfold payA; rw [if_pos ⟨hm, hf, ht, hmm⟩]
    rw [e]
    clear e
    have hs := ((mayA_iff l).1 hm).2
    have hidf := getA_id l f
    have hidt := getA_id l t
    have hgf := getA_may hm f
    have hgt := getA_may hm t
    have cf := c_aget l f hs (by omega)
    have ct := c_aget l t hs (by omega)
    generalize getA l f = a at hidf hgf cf
    generalize getA l t = b at hidt hgt ct
    have cp := c_aput l ⟨f, a.n, a.b - m⟩ hs (by omega)
    have cq := c_aput (putA l ⟨f, a.n, a.b - m⟩) ⟨t, b.n, b.b + m⟩ (srt_putA hs) (by have := put_le l ⟨f, a.n, a.b - m⟩ hs; omega)
    generalize hP : putA l ⟨f, a.n, a.b - m⟩ = P at cp cq
    generalize putA P ⟨t, b.n, b.b + m⟩ = Q at cq
    clear hP
    refine fnok_of_W hmix tabOK Try.func54 rfl rfl (Nat.le_of_ble_eq_true rfl) ?_
    conv => whnf
    refine (c_acheck1 hm (by omega)).mono fun r st e => ?_
    obtain ⟨rfl, rfl⟩ := e
    conv => whnf
    refine (c_aid f).mono fun r st e => ?_
    obtain ⟨rfl, rfl⟩ := e
    conv => whnf
    rw [decide_eq_true hf]
    conv => whnf
    refine (c_aid t).mono fun r st e => ?_
    obtain ⟨rfl, rfl⟩ := e
    conv => whnf
    rw [decide_eq_true ht]
    conv => whnf
    refine (c_awithin m 0 1099511627776).mono fun r st e => ?_
    obtain ⟨rfl, rfl⟩ := e
    conv => whnf
    rw [decide_eq_true hmm]
    conv => whnf
    refine (cf).mono fun r st e => ?_
    obtain ⟨rfl, rfl⟩ := e
    conv => whnf
    refine (ct).mono fun r st e => ?_
    obtain ⟨rfl, rfl⟩ := e
    conv => whnf
    by_cases h1 : a.b < m
    · rw [if_pos h1, decide_eq_true h1]
      conv => whnf
      refine ⟨false, [999], ?_⟩
      conv => whnf
      exact ⟨rfl, rfl⟩
    rw [if_neg h1, decide_eq_false h1]
    conv => whnf
    by_cases h2 : f = t
    · rw [if_pos h2, show (f == t) = true by simp [h2]]
      conv => whnf
      refine (c_aclone l (by omega)).mono fun r st e => ?_
      obtain ⟨rfl, rfl⟩ := e
      conv => whnf
      refine ⟨false, [999], ?_⟩
      conv => whnf
      exact ⟨rfl, rfl⟩
    rw [if_neg h2, show (f == t) = false by simp [h2]]
    conv => whnf
    rw [w64 (x := 1125899906842624 - m) (by omega) (by omega)]
    by_cases h3 : b.b > 1125899906842624 - m
    · rw [if_pos h3, decide_eq_true h3]
      conv => whnf
      refine ⟨false, [999], ?_⟩
      conv => whnf
      exact ⟨rfl, rfl⟩
    rw [if_neg h3, decide_eq_false h3]
    conv => whnf
    rw [w64 (x := a.b - m) (by omega) (by omega), w64 (x := b.b + m) (by omega) (by omega), hidf, hidt]
    refine ⟨tabF54R12, by decide +kernel, ?_⟩
    conv => whnf
    refine ⟨_, _, cp, ?_⟩
    conv => whnf
    refine ⟨_, _, cq, ?_⟩
    conv => whnf
    refine ⟨false, [999], ?_⟩
    conv => whnf
    exact ⟨rfl, rfl⟩
end Go.WL.T5
