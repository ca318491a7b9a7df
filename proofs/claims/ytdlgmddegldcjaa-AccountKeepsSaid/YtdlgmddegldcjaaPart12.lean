/- AccountKeeps. No condition. -/
import Derived.Test.YtdlgmddegldcjaaPart11
import Derived.Test.YtdlgmddegldcjaaWordsD
set_option linter.unusedVariables false
set_option linter.unusedSimpArgs false
namespace Go.WL.T5
open Go.WL Go.Proofs
set_option maxRecDepth 20000
set_option maxHeartbeats 8000000
theorem c_accountkeeps_aux (l : List Ask) (F : List Ac) (pay : List Ac → Int → Int → Int → List Ac × Int) (hF : mayA F = true ∧ sumA F = 8000)
    (hp : ∀ (s : List Ac) (f t m : Int), mayA s = true → (pay s f t m).2 = 0 → mayA (pay s f t m).1 = true ∧ sumA (pay s f t m).1 = sumA s ∧ (∀ k : Int, k ≠ f → k ≠ t → getA (pay s f t m).1 k = getA s k))
    (cw : FnOK Try.prog D 52 [] [] (fun r st => r = (AV.sc (.bool (true))) ∧ st = []))
    (c0 : FnOK Try.prog D 53 [] [] (fun r st => r = (AV.sl (.nd [.lf, .lf, .lf]) (accA (F)) .ro) ∧ st = []))
    (c1 : ∀ (s : List Ac) (x : Ask), x ∈ l → mayA s = true → FnOK Try.prog D 54 [(AV.sl (.nd [.lf, .lf, .lf]) (accA (s)) .ro), (AV.sc (.int .i64 (x.f))), (AV.sc (.int .i64 (x.t))), (AV.sc (.int .i64 (x.m)))] [] (fun r st => r = .tup [(AV.sl (.nd [.lf, .lf, .lf]) (accA ((pay s x.f x.t x.m).1)) .ro), (AV.sc (.int .i64 ((pay s x.f x.t x.m).2)))] ∧ st = []))
    (c2 : ∀ s : List Ac, mayA s = true → FnOK Try.prog D 55 [(AV.sl (.nd [.lf, .lf, .lf]) (accA (s)) .ro)] [] (fun r st => r = (AV.sc (.int .i64 (sumA s))) ∧ st = []))
    (c3 : ∀ s : List Ac, mayA s = true → FnOK Try.prog D 56 [(AV.sl (.nd [.lf, .lf, .lf]) (accA (s)) .ro)] [] (fun r st => r = (AV.sc (.int .i64 (0))) ∧ st = []))
    (c4 : ∀ (s : List Ac) (k : Nat), mayA s = true → k < 40 → FnOK Try.prog D 57 [(AV.sl (.nd [.lf, .lf, .lf]) (accA (s)) .ro), (AV.sc (.int .i64 ((k : Int) + 1)))] [] (fun r st => r = (AV.st [.sc (.int .i64 (getA s ((k : Int) + 1)).id), .sc (.int .i64 (getA s ((k : Int) + 1)).n), .sc (.int .i64 (getA s ((k : Int) + 1)).b)]) ∧ st = [])) :
    FnOK Try.prog D 12 [.sl (.nd [.lf, .lf, .lf]) (askA l) .ro] [] (fun r _ => r = (AV.sc (.bool (true)))) := by
  have hll := lenAsk l
  by_cases h0 : l.length ≤ 60
  rotate_left
  · refine fnok_of_W hmix tabOK Try.func12 rfl rfl (Nat.le_of_ble_eq_true rfl) ?_
    conv => whnf
    rw [hll, decide_eq_true (show (l.length : Int) > 60 by omega)]
    conv => whnf
    refine (cw).mono fun r st e => ?_
    obtain ⟨rfl, rfl⟩ := e
    conv => whnf
    refine ⟨false, [], ?_⟩
    conv => whnf
  refine fnok_of_W hmix tabOK Try.func12 rfl rfl (Nat.le_of_ble_eq_true rfl) ?_
  conv => whnf
  rw [hll, decide_eq_false (show ¬ (l.length : Int) > 60 by omega)]
  conv => whnf
  refine (c0).mono fun r st e => ?_
  obtain ⟨rfl, rfl⟩ := e
  conv => whnf
  refine ⟨false, [0, 3, 4], fun τ => ∃ (i : Nat) (s : List Ac), i ≤ l.length ∧ mayA s = true ∧ sumA s = 8000 ∧ τ = ⟨80, [(0, .sl (.nd [.lf, .lf, .lf]) (askA l) .ro), (3, (AV.sl (.nd [.lf, .lf, .lf]) (accA (s)) .ro)), (4, (AV.sc (.int .i64 ((i : Int)))))], ⟨[], [], 0⟩⟩, fun τ => l.length - (slotI τ 4).toNat, ?_, ?_⟩
  · conv => whnf
    exact ⟨0, F, by omega, hF.1, hF.2, rfl⟩
  rintro τ ⟨i, s, hi, hm, hs, rfl⟩
  apply enter3
  intro kk kK
  conv => whnf
  rw [hll]
  refine Branch.of (fun h1 => ?_) (fun h1 => ?_) <;> rw [h1] <;> conv => whnf
  · simp only [decide_eq_true_eq] at h1
    have hil : i < l.length := by omega
    have cp := c1 s l[i] (List.getElem_mem hil) hm
    have hq := hp s l[i].f l[i].t l[i].m hm
    generalize pay s l[i].f l[i].t l[i].m = P at cp hq
    refine ⟨tabF12R7, by decide +kernel, ?_⟩
    conv => whnf
    repeat (refine And.intro (by first | omega) ?_; conv => whnf)
    refine ⟨_, atAsk hil, ?_⟩
    conv => whnf
    repeat (refine And.intro (by first | omega) ?_; conv => whnf)
    refine ⟨_, atAsk hil, ?_⟩
    conv => whnf
    repeat (refine And.intro (by first | omega) ?_; conv => whnf)
    refine ⟨_, atAsk hil, ?_⟩
    conv => whnf
    refine ⟨_, _, cp, ?_⟩
    conv => whnf
    cases he : (P.2 != 0)
    · simp only [bne_eq_false_iff_eq] at he
      obtain ⟨q1, q2, q3⟩ := hq he
      conv => whnf
      refine (c2 P.1 q1).mono fun r st e => ?_
      obtain ⟨rfl, rfl⟩ := e
      conv => whnf
      rw [q2, hs]
      conv => whnf
      refine (c3 P.1 q1).mono fun r st e => ?_
      obtain ⟨rfl, rfl⟩ := e
      conv => whnf
      refine ⟨false, [0, 3, 4, 5, 7], fun τ => ∃ (k : Nat), k ≤ 40 ∧ τ = ⟨80, [(0, .sl (.nd [.lf, .lf, .lf]) (askA l) .ro), (3, (AV.sl (.nd [.lf, .lf, .lf]) (accA (s)) .ro)), (4, (AV.sc (.int .i64 ((i : Int))))), (5, (AV.sl (.nd [.lf, .lf, .lf]) (accA (P.1)) .ro)), (7, (AV.sc (.int .i64 ((k : Int) + 1))))], ⟨[], [], 0⟩⟩, fun τ => 41 - (slotI τ 7).toNat, ?_, ?_⟩
      · conv => whnf
        exact ⟨0, by omega, rfl⟩
      rintro τ ⟨k, hk, rfl⟩
      apply enter3
      intro k2 kK2
      conv => whnf
      refine Branch.of (fun h2 => ?_) (fun h2 => ?_) <;> rw [h2] <;> conv => whnf
      · simp only [decide_eq_true_eq] at h2
        have hk40 : k < 40 := by omega
        repeat (refine And.intro (by first | omega) ?_; conv => whnf)
        refine ⟨_, atAsk hil, ?_⟩
        conv => whnf
        cases hf : ((k : Int) + 1 != l[i].f)
        · conv => whnf
          rw [w64 (x := (k : Int) + 1 + 1) (by omega) (by omega)]
          refine kK2 _ _ ?_
          conv => whnf
          refine ⟨⟨k + 1, by omega, by rw [show (k : Int) + 1 + 1 = ((k + 1 : Nat) : Int) + 1 by omega]⟩, ?_⟩
          show 41 - ((k : Int) + 1 + 1).toNat < 41 - ((k : Int) + 1).toNat
          omega
        · conv => whnf
          repeat (refine And.intro (by first | omega) ?_; conv => whnf)
          refine ⟨_, atAsk hil, ?_⟩
          conv => whnf
          cases ht : ((k : Int) + 1 != l[i].t)
          · conv => whnf
            rw [w64 (x := (k : Int) + 1 + 1) (by omega) (by omega)]
            refine kK2 _ _ ?_
            conv => whnf
            refine ⟨⟨k + 1, by omega, by rw [show (k : Int) + 1 + 1 = ((k + 1 : Nat) : Int) + 1 by omega]⟩, ?_⟩
            show 41 - ((k : Int) + 1 + 1).toNat < 41 - ((k : Int) + 1).toNat
            omega
          · conv => whnf
            refine (c4 s k hm hk40).mono fun r st e => ?_
            obtain ⟨rfl, rfl⟩ := e
            conv => whnf
            refine (c4 P.1 k q1 hk40).mono fun r st e => ?_
            obtain ⟨rfl, rfl⟩ := e
            conv => whnf
            rw [q3 ((k : Int) + 1) (by simpa using hf) (by simpa using ht), ac_eq, decide_eq_true rfl]
            conv => whnf
            rw [w64 (x := (k : Int) + 1 + 1) (by omega) (by omega)]
            refine kK2 _ _ ?_
            conv => whnf
            refine ⟨⟨k + 1, by omega, by rw [show (k : Int) + 1 + 1 = ((k + 1 : Nat) : Int) + 1 by omega]⟩, ?_⟩
            show 41 - ((k : Int) + 1 + 1).toNat < 41 - ((k : Int) + 1).toNat
            omega
      · simp only [decide_eq_false_iff_not] at h2
        refine kK2 _ _ ?_
        conv => whnf
        rw [w64 (x := (i : Int) + 1) (by omega) (by omega)]
        refine kK _ _ ?_
        conv => whnf
        refine ⟨⟨i + 1, P.1, by omega, q1, by rw [q2, hs], rfl⟩, ?_⟩
        show l.length - ((i : Int) + 1).toNat < l.length - (i : Int).toNat
        omega
    · conv => whnf
      rw [w64 (x := (i : Int) + 1) (by omega) (by omega)]
      refine kK _ _ ?_
      conv => whnf
      refine ⟨⟨i + 1, s, by omega, hm, hs, rfl⟩, ?_⟩
      show l.length - ((i : Int) + 1).toNat < l.length - (i : Int).toNat
      omega
  · simp only [decide_eq_false_iff_not] at h1
    refine kK _ _ ?_
    conv => whnf
    refine (cw).mono fun r st e => ?_
    obtain ⟨rfl, rfl⟩ := e
    conv => whnf
    refine ⟨false, [], ?_⟩
    conv => whnf
theorem c_accountkeeps (l : List Ask) (hw : ∀ x ∈ l, -9223372036854775808 ≤ x.m ∧ x.m < 9223372036854775808) :
    FnOK Try.prog D 12 [.sl (.nd [.lf, .lf, .lf]) (askA l) .ro] [] (fun r _ => r = (AV.sc (.bool (true)))) := by
  have hlen : ∀ s : List Ac, mayA s = true → s.length ≤ 40 := fun s h => may_len h
  refine c_accountkeeps_aux l (firstN 8) payA ⟨first_may, first_sum⟩ (fun s f t m hm h => pay_ok hm h) c_awake22 c_afirst (fun s x hx hm => c_apay s x.f x.t x.m (by have := hlen s hm; omega) (hw x hx)) (fun s hm => ?_) (fun s hm => c_acheck1 hm (by have := hlen s hm; omega)) (fun s k hm hk => ?_)
  · have := c_asum s (by have := hlen s hm; omega)
    rwa [if_pos hm] at this
  · have := c_aGet s ((k : Int) + 1) (by have := hlen s hm; omega)
    rwa [if_pos ⟨hm, by omega, by omega⟩] at this
end Go.WL.T5
