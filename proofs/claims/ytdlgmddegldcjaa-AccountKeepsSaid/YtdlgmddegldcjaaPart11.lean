/- Accounts: awake, and the two laws. No condition. -/
import Derived.Test.YtdlgmddegldcjaaPart10
import Derived.Test.YtdlgmddegldcjaaWordsD
set_option linter.unusedVariables false
set_option linter.unusedSimpArgs false
namespace Go.WL.T5
open Go.WL Go.Proofs
set_option maxRecDepth 20000
set_option maxHeartbeats 8000000
theorem first_may : mayA (firstN 8) = true := by decide +kernel
theorem first_sum : sumA (firstN 8) = 8000 := by decide +kernel
theorem first_get : getA (firstN 8) 3 = ⟨3, 0, 1000⟩ := by decide +kernel
theorem first_len : (firstN 8).length = 8 := by decide +kernel
theorem c_awake22 : FnOK Try.prog D 52 [] [] (fun r st => r = (AV.sc (.bool (true))) ∧ st = []) := by
  have c1 : FnOK Try.prog D 55 [(AV.sl (.nd [.lf, .lf, .lf]) (accA (firstN 8)) .ro)] [] (fun r st => r = (AV.sc (.int .i64 (8000))) ∧ st = []) := by
    have := c_asum (firstN 8) (by rw [first_len]; decide)
    rwa [if_pos first_may, first_sum] at this
  have c2 : FnOK Try.prog D 57 [(AV.sl (.nd [.lf, .lf, .lf]) (accA (firstN 8)) .ro), (AV.sc (.int .i64 (3)))] [] (fun r st => r = (AV.st [.sc (.int .i64 ((⟨3, 0, 1000⟩ : Ac)).id), .sc (.int .i64 ((⟨3, 0, 1000⟩ : Ac)).n), .sc (.int .i64 ((⟨3, 0, 1000⟩ : Ac)).b)]) ∧ st = []) := by
    have := c_aGet (firstN 8) 3 (by rw [first_len]; decide)
    rwa [if_pos ⟨first_may, by decide⟩, first_get] at this
  have c3 := c_acheck1 first_may (by rw [first_len]; decide)
  have c0 := c_afirst
  generalize firstN 8 = F at c0 c1 c2 c3
  refine fnok_of_W hmix tabOK Try.func52 rfl rfl (Nat.le_of_ble_eq_true rfl) ?_
  conv => whnf
  refine (c0).mono fun r st e => ?_
  obtain ⟨rfl, rfl⟩ := e
  conv => whnf
  refine (c1).mono fun r st e => ?_
  obtain ⟨rfl, rfl⟩ := e
  conv => whnf
  refine (c0).mono fun r st e => ?_
  obtain ⟨rfl, rfl⟩ := e
  conv => whnf
  refine (c2).mono fun r st e => ?_
  obtain ⟨rfl, rfl⟩ := e
  conv => whnf
  refine (c0).mono fun r st e => ?_
  obtain ⟨rfl, rfl⟩ := e
  conv => whnf
  refine (c3).mono fun r st e => ?_
  obtain ⟨rfl, rfl⟩ := e
  conv => whnf
  refine ⟨false, [], ?_⟩
  conv => whnf
  exact ⟨rfl, rfl⟩
theorem c_accountpays_aux (l : List Ac) (f t m : Int) (R : Bool) (S P : List Ac × Int) (G : Ac) (n : Int)
    (cw : FnOK Try.prog D 52 [] [] (fun r st => r = (AV.sc (.bool (true))) ∧ st = []))
    (c1 : l.length ≤ 60 → FnOK Try.prog D 58 [(AV.sl (.nd [.lf, .lf, .lf]) (accA (l)) .ro), (AV.sc (.int .i64 (f)))] [] (fun r st => r = .tup [(AV.sl (.nd [.lf, .lf, .lf]) (accA (S.1)) .ro), (AV.sc (.int .i64 (S.2)))] ∧ st = []))
    (c2 : l.length ≤ 60 → FnOK Try.prog D 54 [(AV.sl (.nd [.lf, .lf, .lf]) (accA (l)) .ro), (AV.sc (.int .i64 (f))), (AV.sc (.int .i64 (t))), (AV.sc (.int .i64 (m)))] [] (fun r st => r = .tup [(AV.sl (.nd [.lf, .lf, .lf]) (accA (P.1)) .ro), (AV.sc (.int .i64 (P.2)))] ∧ st = []))
    (c3 : l.length ≤ 60 → FnOK Try.prog D 59 [(AV.sl (.nd [.lf, .lf, .lf]) (accA (l)) .ro), (AV.sc (.int .i64 (f)))] [] (fun r st => r = .tup [(AV.sl (.nd [.lf, .lf, .lf]) (accA (S.1)) .ro), (AV.sc (.int .i64 (S.2)))] ∧ st = []))
    (c4 : l.length ≤ 60 → FnOK Try.prog D 60 [(AV.sl (.nd [.lf, .lf, .lf]) (accA (l)) .ro), (AV.sc (.int .i64 (f))), (AV.sc (.int .i64 (t))), (AV.sc (.int .i64 (m)))] [] (fun r st => r = .tup [(AV.sl (.nd [.lf, .lf, .lf]) (accA (P.1)) .ro), (AV.sc (.int .i64 (P.2)))] ∧ st = []))
    (c5 : l.length ≤ 60 → FnOK Try.prog D 61 [(AV.sl (.nd [.lf, .lf, .lf]) (accA (l)) .ro)] [] (fun r st => r = (AV.sc (.bool (R))) ∧ st = []))
    (c6 : l.length ≤ 60 → FnOK Try.prog D 56 [(AV.sl (.nd [.lf, .lf, .lf]) (accA (l)) .ro)] [] (fun r st => r = (AV.sc (.int .i64 (if R = true then 0 else 1))) ∧ st = []))
    (c7 : l.length ≤ 60 → FnOK Try.prog D 62 [(AV.sl (.nd [.lf, .lf, .lf]) (accA (S.1)) .ro), (AV.sl (.nd [.lf, .lf, .lf]) (accA (S.1)) .ro)] [] (fun r st => r = (AV.sc (.bool (true))) ∧ st = []))
    (c8 : l.length ≤ 60 → FnOK Try.prog D 62 [(AV.sl (.nd [.lf, .lf, .lf]) (accA (P.1)) .ro), (AV.sl (.nd [.lf, .lf, .lf]) (accA (P.1)) .ro)] [] (fun r st => r = (AV.sc (.bool (true))) ∧ st = []))
    (c9 : FnOK Try.prog D 62 [(AV.sl (.nd [.lf, .lf, .lf]) (accA (firstN 8)) .ro), (AV.sl (.nd [.lf, .lf, .lf]) (accA (firstN 8)) .ro)] [] (fun r st => r = (AV.sc (.bool (true))) ∧ st = []))
    (ca : FnOK Try.prog D 53 [] [] (fun r st => r = (AV.sl (.nd [.lf, .lf, .lf]) (accA (firstN 8)) .ro) ∧ st = []))
    (cb : FnOK Try.prog D 63 [] [] (fun r st => r = (AV.sl (.nd [.lf, .lf, .lf]) (accA (firstN 8)) .ro) ∧ st = []))
    (cd : l.length ≤ 60 → FnOK Try.prog D 57 [(AV.sl (.nd [.lf, .lf, .lf]) (accA (l)) .ro), (AV.sc (.int .i64 (t)))] [] (fun r st => r = (AV.st [.sc (.int .i64 (if R = true ∧ 1 ≤ t ∧ t ≤ 40 then G else ⟨0, 0, 0⟩).id), .sc (.int .i64 (if R = true ∧ 1 ≤ t ∧ t ≤ 40 then G else ⟨0, 0, 0⟩).n), .sc (.int .i64 (if R = true ∧ 1 ≤ t ∧ t ≤ 40 then G else ⟨0, 0, 0⟩).b)]) ∧ st = []))
    (ce : l.length ≤ 60 → FnOK Try.prog D 64 [(AV.sl (.nd [.lf, .lf, .lf]) (accA (l)) .ro), (AV.sc (.int .i64 (t)))] [] (fun r st => r = (AV.st [.sc (.int .i64 (G).id), .sc (.int .i64 (G).n), .sc (.int .i64 (G).b)]) ∧ st = []))
    (cf : l.length ≤ 60 → FnOK Try.prog D 55 [(AV.sl (.nd [.lf, .lf, .lf]) (accA (l)) .ro)] [] (fun r st => r = (AV.sc (.int .i64 (if R = true then n else 0))) ∧ st = []))
    (cg : l.length ≤ 60 → R = true → FnOK Try.prog D 65 [(AV.sl (.nd [.lf, .lf, .lf]) (accA (l)) .ro)] [] (fun r st => r = (AV.sc (.int .i64 (n))) ∧ st = [])) :
    FnOK Try.prog D 13 [(AV.sl (.nd [.lf, .lf, .lf]) (accA (l)) .ro), .st [(AV.sc (.int .i64 (f))), (AV.sc (.int .i64 (t))), (AV.sc (.int .i64 (m)))]] [] (fun r _ => r = (AV.sc (.bool (true)))) := by
  have hll := lenAc l
  generalize firstN 8 = F at c9 ca cb
  by_cases h0 : l.length ≤ 60
  rotate_left
  · refine fnok_of_W hmix tabOK Try.func13 rfl rfl (Nat.le_of_ble_eq_true rfl) ?_
    conv => whnf
    rw [hll, decide_eq_true (show (l.length : Int) > 60 by omega)]
    conv => whnf
    refine (cw).mono fun r st e => ?_
    obtain ⟨rfl, rfl⟩ := e
    conv => whnf
    refine ⟨false, [], ?_⟩
    conv => whnf
  have c1 := c1 h0
  have c2 := c2 h0
  have c3 := c3 h0
  have c4 := c4 h0
  have c5 := c5 h0
  have c6 := c6 h0
  have cd := cd h0
  have ce := ce h0
  have c7 := c7 h0
  have c8 := c8 h0
  have cf := cf h0
  cases R with
  | false =>
    rw [if_neg (by simp)] at c6
    rw [if_neg (by simp)] at cd
    rw [if_neg (by simp)] at cf
    refine fnok_of_W hmix tabOK Try.func13 rfl rfl (Nat.le_of_ble_eq_true rfl) ?_
    conv => whnf
    rw [hll, decide_eq_false (show ¬ (l.length : Int) > 60 by omega)]
    conv => whnf
    refine (c1).mono fun r st e => ?_
    obtain ⟨rfl, rfl⟩ := e
    conv => whnf
    refine (c2).mono fun r st e => ?_
    obtain ⟨rfl, rfl⟩ := e
    conv => whnf
    refine (c3).mono fun r st e => ?_
    obtain ⟨rfl, rfl⟩ := e
    conv => whnf
    refine (c4).mono fun r st e => ?_
    obtain ⟨rfl, rfl⟩ := e
    conv => whnf
    refine (c5).mono fun r st e => ?_
    obtain ⟨rfl, rfl⟩ := e
    conv => whnf
    refine (c6).mono fun r st e => ?_
    obtain ⟨rfl, rfl⟩ := e
    conv => whnf
    rw [show (S.2 != S.2) = false by simp]
    conv => whnf
    rw [show (P.2 != P.2) = false by simp]
    conv => whnf
    refine (c7).mono fun r st e => ?_
    obtain ⟨rfl, rfl⟩ := e
    conv => whnf
    refine (c8).mono fun r st e => ?_
    obtain ⟨rfl, rfl⟩ := e
    conv => whnf
    refine (ca).mono fun r st e => ?_
    obtain ⟨rfl, rfl⟩ := e
    conv => whnf
    refine (cb).mono fun r st e => ?_
    obtain ⟨rfl, rfl⟩ := e
    conv => whnf
    refine (c9).mono fun r st e => ?_
    obtain ⟨rfl, rfl⟩ := e
    conv => whnf
    refine (cd).mono fun r st e => ?_
    obtain ⟨rfl, rfl⟩ := e
    conv => whnf
    refine (cf).mono fun r st e => ?_
    obtain ⟨rfl, rfl⟩ := e
    conv => whnf
    refine (cw).mono fun r st e => ?_
    obtain ⟨rfl, rfl⟩ := e
    conv => whnf
    refine ⟨false, [], ?_⟩
    conv => whnf
  | true =>
    rw [if_pos rfl] at c6
    rw [if_pos rfl] at cf
    have cg := cg h0 rfl
    by_cases h1 : t < 1
    · rw [if_neg (by omega)] at cd
      refine fnok_of_W hmix tabOK Try.func13 rfl rfl (Nat.le_of_ble_eq_true rfl) ?_
      conv => whnf
      rw [hll, decide_eq_false (show ¬ (l.length : Int) > 60 by omega)]
      conv => whnf
      refine (c1).mono fun r st e => ?_
      obtain ⟨rfl, rfl⟩ := e
      conv => whnf
      refine (c2).mono fun r st e => ?_
      obtain ⟨rfl, rfl⟩ := e
      conv => whnf
      refine (c3).mono fun r st e => ?_
      obtain ⟨rfl, rfl⟩ := e
      conv => whnf
      refine (c4).mono fun r st e => ?_
      obtain ⟨rfl, rfl⟩ := e
      conv => whnf
      refine (c5).mono fun r st e => ?_
      obtain ⟨rfl, rfl⟩ := e
      conv => whnf
      refine (c6).mono fun r st e => ?_
      obtain ⟨rfl, rfl⟩ := e
      conv => whnf
      rw [show (S.2 != S.2) = false by simp]
      conv => whnf
      rw [show (P.2 != P.2) = false by simp]
      conv => whnf
      refine (c7).mono fun r st e => ?_
      obtain ⟨rfl, rfl⟩ := e
      conv => whnf
      refine (c8).mono fun r st e => ?_
      obtain ⟨rfl, rfl⟩ := e
      conv => whnf
      refine (ca).mono fun r st e => ?_
      obtain ⟨rfl, rfl⟩ := e
      conv => whnf
      refine (cb).mono fun r st e => ?_
      obtain ⟨rfl, rfl⟩ := e
      conv => whnf
      refine (c9).mono fun r st e => ?_
      obtain ⟨rfl, rfl⟩ := e
      conv => whnf
      refine (cd).mono fun r st e => ?_
      obtain ⟨rfl, rfl⟩ := e
      conv => whnf
      rw [decide_eq_true h1]
      conv => whnf
      refine (cw).mono fun r st e => ?_
      obtain ⟨rfl, rfl⟩ := e
      conv => whnf
      refine ⟨false, [], ?_⟩
      conv => whnf
    by_cases h2 : t > 40
    · rw [if_neg (by omega)] at cd
      refine fnok_of_W hmix tabOK Try.func13 rfl rfl (Nat.le_of_ble_eq_true rfl) ?_
      conv => whnf
      rw [hll, decide_eq_false (show ¬ (l.length : Int) > 60 by omega)]
      conv => whnf
      refine (c1).mono fun r st e => ?_
      obtain ⟨rfl, rfl⟩ := e
      conv => whnf
      refine (c2).mono fun r st e => ?_
      obtain ⟨rfl, rfl⟩ := e
      conv => whnf
      refine (c3).mono fun r st e => ?_
      obtain ⟨rfl, rfl⟩ := e
      conv => whnf
      refine (c4).mono fun r st e => ?_
      obtain ⟨rfl, rfl⟩ := e
      conv => whnf
      refine (c5).mono fun r st e => ?_
      obtain ⟨rfl, rfl⟩ := e
      conv => whnf
      refine (c6).mono fun r st e => ?_
      obtain ⟨rfl, rfl⟩ := e
      conv => whnf
      rw [show (S.2 != S.2) = false by simp]
      conv => whnf
      rw [show (P.2 != P.2) = false by simp]
      conv => whnf
      refine (c7).mono fun r st e => ?_
      obtain ⟨rfl, rfl⟩ := e
      conv => whnf
      refine (c8).mono fun r st e => ?_
      obtain ⟨rfl, rfl⟩ := e
      conv => whnf
      refine (ca).mono fun r st e => ?_
      obtain ⟨rfl, rfl⟩ := e
      conv => whnf
      refine (cb).mono fun r st e => ?_
      obtain ⟨rfl, rfl⟩ := e
      conv => whnf
      refine (c9).mono fun r st e => ?_
      obtain ⟨rfl, rfl⟩ := e
      conv => whnf
      refine (cd).mono fun r st e => ?_
      obtain ⟨rfl, rfl⟩ := e
      conv => whnf
      rw [decide_eq_false h1]
      conv => whnf
      rw [decide_eq_true h2]
      conv => whnf
      refine (cw).mono fun r st e => ?_
      obtain ⟨rfl, rfl⟩ := e
      conv => whnf
      refine ⟨false, [], ?_⟩
      conv => whnf
    rw [if_pos ⟨rfl, by omega, by omega⟩] at cd
    refine fnok_of_W hmix tabOK Try.func13 rfl rfl (Nat.le_of_ble_eq_true rfl) ?_
    conv => whnf
    rw [hll, decide_eq_false (show ¬ (l.length : Int) > 60 by omega)]
    conv => whnf
    refine (c1).mono fun r st e => ?_
    obtain ⟨rfl, rfl⟩ := e
    conv => whnf
    refine (c2).mono fun r st e => ?_
    obtain ⟨rfl, rfl⟩ := e
    conv => whnf
    refine (c3).mono fun r st e => ?_
    obtain ⟨rfl, rfl⟩ := e
    conv => whnf
    refine (c4).mono fun r st e => ?_
    obtain ⟨rfl, rfl⟩ := e
    conv => whnf
    refine (c5).mono fun r st e => ?_
    obtain ⟨rfl, rfl⟩ := e
    conv => whnf
    refine (c6).mono fun r st e => ?_
    obtain ⟨rfl, rfl⟩ := e
    conv => whnf
    rw [show (S.2 != S.2) = false by simp]
    conv => whnf
    rw [show (P.2 != P.2) = false by simp]
    conv => whnf
    refine (c7).mono fun r st e => ?_
    obtain ⟨rfl, rfl⟩ := e
    conv => whnf
    refine (c8).mono fun r st e => ?_
    obtain ⟨rfl, rfl⟩ := e
    conv => whnf
    refine (ca).mono fun r st e => ?_
    obtain ⟨rfl, rfl⟩ := e
    conv => whnf
    refine (cb).mono fun r st e => ?_
    obtain ⟨rfl, rfl⟩ := e
    conv => whnf
    refine (c9).mono fun r st e => ?_
    obtain ⟨rfl, rfl⟩ := e
    conv => whnf
    refine (cd).mono fun r st e => ?_
    obtain ⟨rfl, rfl⟩ := e
    conv => whnf
    rw [decide_eq_false h1]
    conv => whnf
    rw [decide_eq_false h2]
    conv => whnf
    refine ⟨tabF13R13, by decide +kernel, ?_⟩
    conv => whnf
    refine ⟨_, _, ce, ?_⟩
    conv => whnf
    rw [ac_eq, decide_eq_true rfl]
    conv => whnf
    refine ⟨_, _, cf, ?_⟩
    conv => whnf
    refine ⟨_, _, cg, ?_⟩
    conv => whnf
    rw [show (n == n) = true by simp]
    conv => whnf
    refine ⟨_, _, cw, ?_⟩
    conv => whnf
    refine ⟨false, [], ?_⟩
    conv => whnf
theorem c_accountpays (l : List Ac) (f t m : Int) (hw : -9223372036854775808 ≤ m ∧ m < 9223372036854775808) :
    FnOK Try.prog D 13 [(AV.sl (.nd [.lf, .lf, .lf]) (accA (l)) .ro), .st [(AV.sc (.int .i64 (f))), (AV.sc (.int .i64 (t))), (AV.sc (.int .i64 (m)))]] [] (fun r _ => r = (AV.sc (.bool (true)))) := by
  have hs : ∀ x : List Ac, x.length < 4294967296 → FnOK Try.prog D 62 [(AV.sl (.nd [.lf, .lf, .lf]) (accA (x)) .ro), (AV.sl (.nd [.lf, .lf, .lf]) (accA (x)) .ro)] [] (fun r st => r = (AV.sc (.bool (true))) ∧ st = []) := fun x hx => by
    have := c_asame x x hx
    rwa [decide_eq_true rfl] at this
  have hp : (stepA l f).1.length ≤ l.length + 1 := by
    unfold stepA
    split
    · rename_i h
      split
      · simp
      · exact put_le _ _ ((mayA_iff l).1 h.1).2
    · simp
  have hq : (payA l f t m).1.length ≤ l.length + 2 := by
    unfold payA
    split
    · rename_i h
      have h2 := ((mayA_iff l).1 h.1).2
      split
      · simp
      · split
        · simp
        · split
          · simp
          · refine Nat.le_trans (put_le _ _ (srt_putA h2)) ?_
            have := put_le l ⟨f, (getA l f).n, (getA l f).b - m⟩ h2
            omega
    · simp
  exact c_accountpays_aux l f t m (mayA l) (stepA l f) (payA l f t m) (getA l t) (sumA l) c_awake22 (fun h => c_astep l f (by omega)) (fun h => c_apay l f t m (by omega) hw)
    (fun h => c_astepR l f (by omega)) (fun h => c_apayR l f t m (by omega) hw) (fun h => c_amayR l (by omega)) (fun h => c_acheck l (by omega)) (fun h => hs _ (by omega)) (fun h => hs _ (by omega)) (hs _ (by rw [first_len]; decide)) c_afirst c_afirstR (fun h => c_aGet l t (by omega))
    (fun h => c_agetR l t (by omega)) (fun h => c_asum l (by omega)) (fun h hm => c_asumR l (by omega) hm)
/-- Who pays whom how much. -/
structure Ask where
  f : Int
  t : Int
  m : Int
def askA (l : List Ask) : List AV := l.map fun x => .st [.sc (.int .i64 x.f), .sc (.int .i64 x.t), .sc (.int .i64 x.m)]
theorem lenAsk (l : List Ask) : (askA l).length = l.length := by simp [askA]
theorem atAsk {l : List Ask} {i : Nat} (h : i < l.length) : (askA l)[((i : Nat) : Int).toNat]? = some (.st [(AV.sc (.int .i64 (l[i].f))), (AV.sc (.int .i64 (l[i].t))), (AV.sc (.int .i64 (l[i].m)))]) := by simp [askA, h]
theorem pay_ok {l : List Ac} {f t m : Int} (hm : mayA l = true) (h : (payA l f t m).2 = 0) :
    mayA (payA l f t m).1 = true ∧ sumA (payA l f t m).1 = sumA l ∧ (∀ k : Int, k ≠ f → k ≠ t → getA (payA l f t m).1 k = getA l k) := by
  have hs := ((mayA_iff l).1 hm).2
  unfold payA at h ⊢
  split
  · rename_i c
    rw [if_pos c] at h
    have hf := getA_may hm f
    have ht := getA_may hm t
    split
    · rename_i d; rw [if_pos d] at h; cases h
    · rename_i d
      rw [if_neg d] at h
      split
      · exact ⟨hm, rfl, fun _ _ _ => rfl⟩
      · rename_i e
        rw [if_neg e] at h
        split
        · rename_i g; rw [if_pos g] at h; cases h
        · rename_i g
          have m1 : mayA (putA l ⟨f, (getA l f).n, (getA l f).b - m⟩) = true := may_putA hm c.2.1 ⟨hf.1, hf.2.1⟩ ⟨show 0 ≤ (getA l f).b - m by omega, show (getA l f).b - m ≤ _ by omega⟩
          have s1 := ((mayA_iff _).1 m1).2
          refine ⟨may_putA m1 c.2.2.1 ⟨ht.1, ht.2.1⟩ ⟨show 0 ≤ (getA l t).b + m by omega, show (getA l t).b + m ≤ _ by omega⟩, ?_, ?_⟩
          · rw [sum_put s1, sum_put hs, get_putA hs]
            dsimp only
            rw [if_neg e]
            omega
          · intro k h1 h2
            rw [get_putA s1, get_putA hs]
            dsimp only
            rw [if_neg (fun x => h2 x.symm), if_neg (fun x => h1 x.symm)]
  · rename_i c; rw [if_neg c] at h; cases h
theorem may_len {l : List Ac} (h : mayA l = true) : l.length ≤ 40 := by
  obtain ⟨hm, hs⟩ := (mayA_iff l).1 h
  have key : ∀ (m : List Ac) (lo : Int), (∀ x ∈ m, lo < x.id ∧ x.id ≤ 40) → srtA m → lo ≤ 40 → (m.length : Int) ≤ 40 - lo := by
    intro m
    induction m with
    | nil => intro lo _ _ h; simp; omega
    | cons x m ih =>
      intro lo h1 h2 h3
      have hx := h1 x (by simp)
      have := ih x.id (fun y hy => ⟨by have := h2.head y hy; simpa [ilt] using this, (h1 y (List.mem_cons_of_mem _ hy)).2⟩) h2.tail hx.2
      rw [List.length_cons]
      omega
  have := key l 0 (fun x hx => by have := may1 (hm x hx); omega) hs (by decide)
  omega
theorem ac_of {v : AV} (h : OfTy (.st [.int .i64, .int .i64, .int .i64]) v) : ∃ x : Ac, v = (AV.st [.sc (.int .i64 (x).id), .sc (.int .i64 (x).n), .sc (.int .i64 (x).b)]) := by
  obtain ⟨_, rfl, y0, _, rfl, ⟨a, rfl, _⟩, y1, _, rfl, ⟨p, rfl, _⟩, y2, _, rfl, ⟨c, rfl, _⟩, rfl⟩ := h
  exact ⟨⟨a, p, c⟩, rfl⟩
theorem acs_map : ∀ xs : List AV, (∀ x ∈ xs, OfTy (.st [.int .i64, .int .i64, .int .i64]) x) → ∃ l : List Ac, xs = accA l
  | [], _ => ⟨[], rfl⟩
  | x :: xs, h => by
    obtain ⟨l, e⟩ := acs_map xs fun y hy => h y (List.mem_cons_of_mem _ hy)
    obtain ⟨a, e2⟩ := ac_of (h x (by simp))
    exact ⟨a :: l, by rw [e, e2]; rfl⟩
theorem asks_map : ∀ xs : List AV, (∀ x ∈ xs, OfTy (.st [.int .i64, .int .i64, .int .i64]) x) → ∃ l : List Ask, xs = askA l ∧ ∀ x ∈ l, -9223372036854775808 ≤ x.m ∧ x.m < 9223372036854775808
  | [], _ => ⟨[], rfl, by simp⟩
  | x :: xs, h => by
    obtain ⟨l, e, hl⟩ := asks_map xs fun y hy => h y (List.mem_cons_of_mem _ hy)
    obtain ⟨_, e2, y0, _, rfl, ⟨a, rfl, _⟩, y1, _, rfl, ⟨p, rfl, _⟩, y2, _, rfl, ⟨c, rfl, hc⟩, rfl⟩ := h x (by simp)
    refine ⟨⟨a, p, c⟩ :: l, by rw [e, e2]; rfl, fun y hy => ?_⟩
    rcases List.mem_cons.1 hy with rfl | hy
    · exact wf_i64 hc
    · exact hl y hy
end Go.WL.T5
