/- Accounts: the document's steps and payments; the laws. No condition. -/
import Derived.Test.YtdlgmddegldcjaaPart09
set_option linter.unusedVariables false
set_option linter.unusedSimpArgs false
namespace Go.WL.T5
open Go.WL Go.Proofs
set_option maxRecDepth 20000
set_option maxHeartbeats 8000000
theorem c_astepR (l : List Ac) (k : Int) (hl : l.length < 1000000) : FnOK Try.prog D 59 [(AV.sl (.nd [.lf, .lf, .lf]) (accA (l)) .ro), (AV.sc (.int .i64 (k)))] [] (fun r st => r = .tup [(AV.sl (.nd [.lf, .lf, .lf]) (accA ((stepA l k).1)) .ro), (AV.sc (.int .i64 ((stepA l k).2)))] ∧ st = []) := by
  cases hm : mayA l with
  | false =>
    have e : stepA l k = ([], 1) := by unfold stepA; rw [if_neg (by rw [hm]; simp)]
    have cm := c_amayR l (by omega)
    rw [hm] at cm
    rw [e]
    refine fnok_of_W hmix tabOK Try.func59 rfl rfl (Nat.le_of_ble_eq_true rfl) ?_
    conv => whnf
    refine (cm).mono fun r st e => ?_
    obtain ⟨rfl, rfl⟩ := e
    conv => whnf
    refine ⟨false, [999], ?_⟩
    conv => whnf
    exact ⟨rfl, rfl⟩
  | true =>
    have cm := c_amayR l (by omega)
    rw [hm] at cm
    by_cases hk1 : k < 1
    · have e : stepA l k = ([], 1) := by unfold stepA; rw [if_neg (fun h => by omega)]
      rw [e]
      refine fnok_of_W hmix tabOK Try.func59 rfl rfl (Nat.le_of_ble_eq_true rfl) ?_
      conv => whnf
      refine (cm).mono fun r st e => ?_
      obtain ⟨rfl, rfl⟩ := e
      conv => whnf
      rw [decide_eq_true hk1]
      conv => whnf
      refine ⟨false, [999], ?_⟩
      conv => whnf
      exact ⟨rfl, rfl⟩
    by_cases hk2 : k > 40
    · have e : stepA l k = ([], 1) := by unfold stepA; rw [if_neg (fun h => by omega)]
      rw [e]
      refine fnok_of_W hmix tabOK Try.func59 rfl rfl (Nat.le_of_ble_eq_true rfl) ?_
      conv => whnf
      refine (cm).mono fun r st e => ?_
      obtain ⟨rfl, rfl⟩ := e
      conv => whnf
      rw [decide_eq_false hk1]
      conv => whnf
      rw [decide_eq_true hk2]
      conv => whnf
      refine ⟨false, [999], ?_⟩
      conv => whnf
      exact ⟨rfl, rfl⟩
    have hk : 1 ≤ k ∧ k ≤ 40 := by omega
    have hid := getA_id l k
    have hg := getA_may hm k
    have e : stepA l k = if (getA l k).n = 1099511627776 then ([], 9) else (putA l ⟨k, (getA l k).n + 1, (getA l k).b⟩, 0) := by unfold stepA; rw [if_pos ⟨hm, hk⟩]
    rw [e]
    have hcg := c_agetR l k (by omega)
    generalize getA l k = a at hid hg hcg e
    have cp := c_aputR l ⟨k, a.n + 1, a.b⟩ (by omega)
    rw [refA_is (a := ⟨k, a.n + 1, a.b⟩) hm hk (show 0 ≤ a.n + 1 by omega) hg.2.2.1] at cp
    by_cases hn : a.n = 1099511627776
    · rw [if_pos hn]
      refine fnok_of_W hmix tabOK Try.func59 rfl rfl (Nat.le_of_ble_eq_true rfl) ?_
      conv => whnf
      refine (cm).mono fun r st e => ?_
      obtain ⟨rfl, rfl⟩ := e
      conv => whnf
      rw [decide_eq_false hk1]
      conv => whnf
      rw [decide_eq_false hk2]
      conv => whnf
      refine (hcg).mono fun r st e => ?_
      obtain ⟨rfl, rfl⟩ := e
      conv => whnf
      rw [decide_eq_true (show a.n ≥ 1099511627776 by omega)]
      conv => whnf
      refine ⟨false, [999], ?_⟩
      conv => whnf
      exact ⟨rfl, rfl⟩
    · rw [if_neg hn]
      refine fnok_of_W hmix tabOK Try.func59 rfl rfl (Nat.le_of_ble_eq_true rfl) ?_
      conv => whnf
      refine (cm).mono fun r st e => ?_
      obtain ⟨rfl, rfl⟩ := e
      conv => whnf
      rw [decide_eq_false hk1]
      conv => whnf
      rw [decide_eq_false hk2]
      conv => whnf
      refine (hcg).mono fun r st e => ?_
      obtain ⟨rfl, rfl⟩ := e
      conv => whnf
      rw [decide_eq_false (show ¬ a.n ≥ 1099511627776 by omega)]
      conv => whnf
      rw [w64 (x := a.n + 1) (by omega) (by omega), hid]
      refine (cp).mono fun r st e => ?_
      obtain ⟨rfl, rfl⟩ := e
      conv => whnf
      refine ⟨false, [999], ?_⟩
      conv => whnf
      exact ⟨rfl, rfl⟩
theorem c_apayR (l : List Ac) (f t m : Int) (hl : l.length < 900000) (hw : -9223372036854775808 ≤ m ∧ m < 9223372036854775808) : FnOK Try.prog D 60 [(AV.sl (.nd [.lf, .lf, .lf]) (accA (l)) .ro), (AV.sc (.int .i64 (f))), (AV.sc (.int .i64 (t))), (AV.sc (.int .i64 (m)))] [] (fun r st => r = .tup [(AV.sl (.nd [.lf, .lf, .lf]) (accA ((payA l f t m).1)) .ro), (AV.sc (.int .i64 ((payA l f t m).2)))] ∧ st = []) := by
  have cm := c_amayR l (by omega)
  by_cases hall : mayA l = true ∧ (1 ≤ f ∧ f ≤ 40) ∧ (1 ≤ t ∧ t ≤ 40) ∧ (0 ≤ m ∧ m ≤ 1099511627776)
  rotate_left
  · rw [payA_no hall]
    cases hm : mayA l with
    | false =>
      rw [hm] at cm
      refine fnok_of_W hmix tabOK Try.func60 rfl rfl (Nat.le_of_ble_eq_true rfl) ?_
      conv => whnf
      refine (cm).mono fun r st e => ?_
      obtain ⟨rfl, rfl⟩ := e
      conv => whnf
      refine ⟨false, [999], ?_⟩
      conv => whnf
      exact ⟨rfl, rfl⟩
    | true =>
      rw [hm] at cm
      rw [hm] at hall
      by_cases h1 : f < 1
      · refine fnok_of_W hmix tabOK Try.func60 rfl rfl (Nat.le_of_ble_eq_true rfl) ?_
        conv => whnf
        refine (cm).mono fun r st e => ?_
        obtain ⟨rfl, rfl⟩ := e
        conv => whnf
        rw [decide_eq_true h1]
        conv => whnf
        refine ⟨false, [999], ?_⟩
        conv => whnf
        exact ⟨rfl, rfl⟩
      by_cases h2 : f > 40
      · refine fnok_of_W hmix tabOK Try.func60 rfl rfl (Nat.le_of_ble_eq_true rfl) ?_
        conv => whnf
        refine (cm).mono fun r st e => ?_
        obtain ⟨rfl, rfl⟩ := e
        conv => whnf
        rw [decide_eq_false h1]
        conv => whnf
        rw [decide_eq_true h2]
        conv => whnf
        refine ⟨false, [999], ?_⟩
        conv => whnf
        exact ⟨rfl, rfl⟩
      by_cases h3 : t < 1
      · refine fnok_of_W hmix tabOK Try.func60 rfl rfl (Nat.le_of_ble_eq_true rfl) ?_
        conv => whnf
        refine (cm).mono fun r st e => ?_
        obtain ⟨rfl, rfl⟩ := e
        conv => whnf
        rw [decide_eq_false h1]
        conv => whnf
        rw [decide_eq_false h2]
        conv => whnf
        rw [decide_eq_true h3]
        conv => whnf
        refine ⟨false, [999], ?_⟩
        conv => whnf
        exact ⟨rfl, rfl⟩
      by_cases h4 : t > 40
      · refine fnok_of_W hmix tabOK Try.func60 rfl rfl (Nat.le_of_ble_eq_true rfl) ?_
        conv => whnf
        refine (cm).mono fun r st e => ?_
        obtain ⟨rfl, rfl⟩ := e
        conv => whnf
        rw [decide_eq_false h1]
        conv => whnf
        rw [decide_eq_false h2]
        conv => whnf
        rw [decide_eq_false h3]
        conv => whnf
        rw [decide_eq_true h4]
        conv => whnf
        refine ⟨false, [999], ?_⟩
        conv => whnf
        exact ⟨rfl, rfl⟩
      by_cases h5 : m < 0
      · refine fnok_of_W hmix tabOK Try.func60 rfl rfl (Nat.le_of_ble_eq_true rfl) ?_
        conv => whnf
        refine (cm).mono fun r st e => ?_
        obtain ⟨rfl, rfl⟩ := e
        conv => whnf
        rw [decide_eq_false h1]
        conv => whnf
        rw [decide_eq_false h2]
        conv => whnf
        rw [decide_eq_false h3]
        conv => whnf
        rw [decide_eq_false h4]
        conv => whnf
        rw [decide_eq_true h5]
        conv => whnf
        refine ⟨false, [999], ?_⟩
        conv => whnf
        exact ⟨rfl, rfl⟩
      have h6 : m > 1099511627776 := by
        apply Classical.byContradiction
        intro h6
        exact hall ⟨rfl, ⟨by omega, by omega⟩, ⟨by omega, by omega⟩, ⟨by omega, by omega⟩⟩
      · refine fnok_of_W hmix tabOK Try.func60 rfl rfl (Nat.le_of_ble_eq_true rfl) ?_
        conv => whnf
        refine (cm).mono fun r st e => ?_
        obtain ⟨rfl, rfl⟩ := e
        conv => whnf
        rw [decide_eq_false h1]
        conv => whnf
        rw [decide_eq_false h2]
        conv => whnf
        rw [decide_eq_false h3]
        conv => whnf
        rw [decide_eq_false h4]
        conv => whnf
        rw [decide_eq_false h5]
        conv => whnf
        rw [decide_eq_true h6]
        conv => whnf
        refine ⟨false, [999], ?_⟩
        conv => whnf
        exact ⟨rfl, rfl⟩
  obtain ⟨hm, hf, ht, hmm⟩ := hall
  rw [hm] at cm
  have e : payA l f t m = (if (getA l f).b < m then ([], 13) else if f = t then (l, 0) else if (getA l t).b > 1125899906842624 - m then ([], 14) else
    (putA (putA l ⟨f, (getA l f).n, (getA l f).b - m⟩) ⟨t, (getA l t).n, (getA l t).b + m⟩, 0)) := by unfold payA; rw [if_pos ⟨hm, hf, ht, hmm⟩]
  rw [e]
  clear e
  have hs := ((mayA_iff l).1 hm).2
  have hidf := getA_id l f
  have hidt := getA_id l t
  have hgf := getA_may hm f
  have hgt := getA_may hm t
  have cf := c_agetR l f (by omega)
  have ct := c_agetR l t (by omega)
  generalize getA l f = a at hidf hgf cf
  generalize getA l t = b at hidt hgt ct
  have cp : ¬ (a.b < m) → FnOK Try.prog D 99 [(AV.sl (.nd [.lf, .lf, .lf]) (accA (l)) .ro), (AV.st [.sc (.int .i64 ((⟨f, a.n, a.b - m⟩ : Ac)).id), .sc (.int .i64 ((⟨f, a.n, a.b - m⟩ : Ac)).n), .sc (.int .i64 ((⟨f, a.n, a.b - m⟩ : Ac)).b)])] [] (fun r st => r = (AV.sl (.nd [.lf, .lf, .lf]) (accA (putA l ⟨f, a.n, a.b - m⟩)) .ro) ∧ st = []) := fun h => by
    have := c_aputR l ⟨f, a.n, a.b - m⟩ (by omega)
    rwa [refA_is (a := ⟨f, a.n, a.b - m⟩) hm hf hgf.1 (show 0 ≤ a.b - m by omega)] at this
  have hml := put_le l ⟨f, a.n, a.b - m⟩ hs
  have hmp : ¬ (a.b < m) → mayA (putA l ⟨f, a.n, a.b - m⟩) = true := fun h => may_putA hm hf ⟨hgf.1, hgf.2.1⟩ ⟨show 0 ≤ a.b - m by omega, show a.b - m ≤ _ by omega⟩
  have cq : ¬ (a.b < m) → FnOK Try.prog D 99 [(AV.sl (.nd [.lf, .lf, .lf]) (accA (putA l ⟨f, a.n, a.b - m⟩)) .ro), (AV.st [.sc (.int .i64 ((⟨t, b.n, b.b + m⟩ : Ac)).id), .sc (.int .i64 ((⟨t, b.n, b.b + m⟩ : Ac)).n), .sc (.int .i64 ((⟨t, b.n, b.b + m⟩ : Ac)).b)])] [] (fun r st => r = (AV.sl (.nd [.lf, .lf, .lf]) (accA (putA (putA l ⟨f, a.n, a.b - m⟩) ⟨t, b.n, b.b + m⟩)) .ro) ∧ st = []) := fun h => by
    have := c_aputR (putA l ⟨f, a.n, a.b - m⟩) ⟨t, b.n, b.b + m⟩ (by omega)
    rwa [refA_is (a := ⟨t, b.n, b.b + m⟩) (hmp h) ht hgt.1 (show 0 ≤ b.b + m by omega)] at this
  generalize putA l ⟨f, a.n, a.b - m⟩ = P at cp cq hmp hml
  generalize putA P ⟨t, b.n, b.b + m⟩ = Q at cq
  refine fnok_of_W hmix tabOK Try.func60 rfl rfl (Nat.le_of_ble_eq_true rfl) ?_
  conv => whnf
  refine (cm).mono fun r st e => ?_
  obtain ⟨rfl, rfl⟩ := e
  conv => whnf
  rw [decide_eq_false (show ¬ f < 1 by omega)]
  conv => whnf
  rw [decide_eq_false (show ¬ f > 40 by omega)]
  conv => whnf
  rw [decide_eq_false (show ¬ t < 1 by omega)]
  conv => whnf
  rw [decide_eq_false (show ¬ t > 40 by omega)]
  conv => whnf
  rw [decide_eq_false (show ¬ m < 0 by omega)]
  conv => whnf
  rw [decide_eq_false (show ¬ m > 1099511627776 by omega)]
  conv => whnf
  refine (cf).mono fun r st e => ?_
  obtain ⟨rfl, rfl⟩ := e
  conv => whnf
  by_cases h1 : a.b < m
  · rw [if_pos h1, decide_eq_true h1]
    conv => whnf
    refine ⟨false, [999], ?_⟩
    conv => whnf
    exact ⟨rfl, rfl⟩
  have cp := cp h1
  have cq := cq h1
  rw [if_neg h1, decide_eq_false h1]
  conv => whnf
  by_cases h2 : f = t
  · rw [if_pos h2, show (f == t) = true by simp [h2]]
    conv => whnf
    refine ⟨false, [999], ?_⟩
    conv => whnf
    exact ⟨rfl, rfl⟩
  rw [if_neg h2, show (f == t) = false by simp [h2]]
  conv => whnf
  refine (ct).mono fun r st e => ?_
  obtain ⟨rfl, rfl⟩ := e
  conv => whnf
  rw [w64 (x := b.b + m) (by omega) (by omega)]
  by_cases h3 : b.b > 1125899906842624 - m
  · rw [if_pos h3, decide_eq_true (show b.b + m > 1125899906842624 by omega)]
    conv => whnf
    refine ⟨false, [999], ?_⟩
    conv => whnf
    exact ⟨rfl, rfl⟩
  rw [if_neg h3, decide_eq_false (show ¬ b.b + m > 1125899906842624 by omega)]
  conv => whnf
  rw [w64 (x := a.b - m) (by omega) (by omega), w64 (x := b.b + m) (by omega) (by omega), hidf, hidt]
  refine ⟨tabF60R13, by decide +kernel, ?_⟩
  conv => whnf
  refine ⟨_, _, cp, ?_⟩
  conv => whnf
  refine ⟨_, _, cq, ?_⟩
  conv => whnf
  refine ⟨false, [999], ?_⟩
  conv => whnf
  exact ⟨rfl, rfl⟩
end Go.WL.T5
