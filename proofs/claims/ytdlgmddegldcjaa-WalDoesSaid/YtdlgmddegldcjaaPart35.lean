/- The wal: nobody's; a record is there behind a crash. No condition. -/
import Derived.Test.YtdlgmddegldcjaaPart34
import Derived.Test.YtdlgmddegldcjaaPart11
set_option linter.unusedVariables false
set_option linter.unusedSimpArgs false
namespace Go.WL.T5
open Go.WL Go.Proofs
set_option maxRecDepth 20000
set_option maxHeartbeats 8000000
theorem c_putN (v : AV) : FnOK Try.prog D 34 [.sc (.pointer none), v] [] (fun r st => r = (AV.sc (.int .i64 (5))) ∧ st = []) := by
  have cb : FnOK Try.prog D 37 [.sc (.pointer none)] [] (fun r st => r = (AV.sc (.bool (true))) ∧ st = []) := by
    refine fnok_of_W hmix tabOK Try.func37 rfl rfl (Nat.le_of_ble_eq_true rfl) ?_
    conv => whnf
    refine ⟨false, [], ?_⟩
    conv => whnf
    exact ⟨rfl, rfl⟩
  refine fnok_of_W hmix tabOK Try.func34 rfl rfl (Nat.le_of_ble_eq_true rfl) ?_
  conv => whnf
  refine (cb).mono fun r st e => ?_
  obtain ⟨rfl, rfl⟩ := e
  conv => whnf
  refine ⟨false, [], ?_⟩
  conv => whnf
  exact ⟨rfl, rfl⟩
theorem c_wbrokenN : FnOK Try.prog D 37 [.sc (.pointer none)] [] (fun r st => r = (AV.sc (.bool (true))) ∧ st = []) := by
  refine fnok_of_W hmix tabOK Try.func37 rfl rfl (Nat.le_of_ble_eq_true rfl) ?_
  conv => whnf
  refine ⟨false, [], ?_⟩
  conv => whnf
  exact ⟨rfl, rfl⟩
theorem c_wmanyN : FnOK Try.prog D 35 [.sc (.pointer none)] [] (fun r st => r = (AV.sc (.int .i64 (0))) ∧ st = []) := by
  refine fnok_of_W hmix tabOK Try.func35 rfl rfl (Nat.le_of_ble_eq_true rfl) ?_
  conv => whnf
  refine ⟨false, [], ?_⟩
  conv => whnf
  exact ⟨rfl, rfl⟩
theorem c_wbrokenZ : FnOK Try.prog D 37 [.pt 0 []] [.st [.sc (.pointer none), (AV.sc (.int .i64 (0))), (AV.sc (.bool (false)))]] (fun r st => r = (AV.sc (.bool (true))) ∧ st = [.st [.sc (.pointer none), (AV.sc (.int .i64 (0))), (AV.sc (.bool (false)))]]) := by
  refine fnok_of_W hmix tabOK Try.func37 rfl rfl (Nat.le_of_ble_eq_true rfl) ?_
  conv => whnf
  refine ⟨false, [], ?_⟩
  conv => whnf
  exact ⟨rfl, rfl⟩
theorem c_wmanyZ : FnOK Try.prog D 35 [.pt 0 []] [.st [.sc (.pointer none), (AV.sc (.int .i64 (0))), (AV.sc (.bool (false)))]] (fun r st => r = (AV.sc (.int .i64 (0))) ∧ st = [.st [.sc (.pointer none), (AV.sc (.int .i64 (0))), (AV.sc (.bool (false)))]]) := by
  refine fnok_of_W hmix tabOK Try.func35 rfl rfl (Nat.le_of_ble_eq_true rfl) ?_
  conv => whnf
  refine ⟨false, [], ?_⟩
  conv => whnf
  exact ⟨rfl, rfl⟩
theorem c_putZ (v : AV) : FnOK Try.prog D 34 [.pt 0 [], v] [.st [.sc (.pointer none), (AV.sc (.int .i64 (0))), (AV.sc (.bool (false)))]] (fun r st => r = (AV.sc (.int .i64 (5))) ∧ st = [.st [.sc (.pointer none), (AV.sc (.int .i64 (0))), (AV.sc (.bool (false)))]]) := by
  refine fnok_of_W hmix tabOK Try.func34 rfl rfl (Nat.le_of_ble_eq_true rfl) ?_
  conv => whnf
  refine (c_wbrokenZ).mono fun r st e => ?_
  obtain ⟨rfl, rfl⟩ := e
  conv => whnf
  refine ⟨false, [], ?_⟩
  conv => whnf
  exact ⟨rfl, rfl⟩
theorem put_new (room : Int) (l : List (List UInt8)) (hg : goodL l = true) (hl : l ≠ []) (hA : ((recL l).length : Int) ≤ room) (h0 : recL l ≠ []) : putP ⟨[], 0, room, -1, false, []⟩ 0 false l = ((⟨recL l, ((recL l).length : Int), room, -1, false, []⟩ : Pk), (l.length : Int), false, (0 : Int)) := by
  have ha : appP ⟨[], 0, room, -1, false, []⟩ (recL l) = ((⟨recL l, 0, room, -1, false, []⟩ : Pk), (0 : Int)) := by
    unfold appP
    rw [if_neg (by simp), if_neg (by simp only [List.length_nil]; omega), if_neg h0]
    rfl
  have hp : putD ⟨[], 0, room, -1, false, []⟩ (recL l) = ((⟨recL l, ((recL l).length : Int), room, -1, false, []⟩ : Pk), (0 : Int)) := by
    unfold putD
    rw [ha]
    rfl
  unfold putP
  rw [if_neg (by simp), if_neg (by rw [hg]; simp), if_neg hl, hp]
  simp
theorem recL_ne {l : List (List UInt8)} (h : l ≠ []) : recL l ≠ [] := by
  cases l with
  | nil => exact absurd rfl h
  | cons b l =>
    intro e
    have := congrArg List.length e
    rw [recL_cons, List.length_append, rec_len] at this
    simp at this
theorem wfk_b (b : List UInt8) (sf room : Int) (h0 : 0 ≤ sf) (h1 : sf ≤ (b.length : Int)) (h2 : (b.length : Int) ≤ room) (h3 : room ≤ 1048576) : WFk ⟨b, sf, room, -1, false, []⟩ :=
  ⟨by show 0 ≤ room; omega, h3, h2, h0, h1, by show (-1 : Int) ≤ -1; omega, by show (-1 : Int) < 9223372036854775808; omega⟩
theorem c_awake19 : FnOK Try.prog D 32 [] [] (fun r st => r = (AV.sc (.bool (true))) ∧ st = []) := by
  have h2 : (recL [[7], [8]]).length = 18 := by
    rw [recL_cons, recL_cons, List.length_append, List.length_append, rec_len, rec_len]
    rfl
  have hq : putP ⟨[], 0, 100, -1, false, []⟩ 0 false [[7], [8]] = ((⟨recL [[7], [8]], 18, 100, -1, false, []⟩ : Pk), (2 : Int), false, (0 : Int)) := by
    rw [put_new 100 [[7], [8]] (by decide) (by simp) (by rw [h2]; decide) (recL_ne (by simp)), h2]
    rfl
  have hr := recsB_all [[7], [8]] (by simp)
  rw [h2] at hr
  have cp := c_put0 ⟨[], 0, 100, -1, false, []⟩ 0 false [[7], [8]] rfl (by simp [WFk]) (by decide) (by simp) (by decide) (by decide) _ hq
  clear hq
  generalize recL [[7], [8]] = A at hr h2 cp
  have co := fun cap c2 L hL => c_open1 ⟨A, 18, 100, -1, false, []⟩ cap c2 L hL (wfk_b A 18 100 (by decide) (by rw [h2]; decide) (by rw [h2]; decide) (by decide))
  have ho : openP ⟨A, 18, 100, -1, false, []⟩ = ((⟨A, 18, 100, -1, false, []⟩ : Pk), (0 : Int)) := by
    have : (⟨A, (A.length : Int), 100, -1, false, []⟩ : Pk) = ⟨A, 18, 100, -1, false, []⟩ := by rw [h2]; rfl
    unfold openP
    rw [if_neg (by simp), hr, if_neg (by simp only [h2]; decide)]
    show ((⟨A, (A.length : Int), 100, -1, false, []⟩ : Pk), (0 : Int)) = _
    rw [this]
  rw [ho, hr] at co
  have hc : crashP ⟨A, 18, 100, -1, false, []⟩ 0 = ⟨A, 18, 100, -1, false, []⟩ := by
    have e : ((18 : Int) + min (max 0 0) (((A.length : Nat) : Int) - 18)) = 18 := by rw [h2]; decide
    simp only [crashP, List.append_nil, e]
    rw [List.take_of_length_le (by rw [h2]; decide)]
  have cc := c_crashR ⟨A, 18, 100, -1, false, []⟩ 0 (wfk_b A 18 100 (by decide) (by rw [h2]; decide) (by rw [h2]; decide) (by decide)) (by simp only [h2]; decide)
  rw [hc] at cc
  have hA : A ≠ [] := by intro e; rw [e] at h2; cases h2
  refine fnok_of_Ws [7500008] hmix tabOK Try.func32 rfl rfl (Nat.le_of_ble_eq_true rfl) ?_
  conv => whnf
  refine (c_new 100 (by decide) (by decide)).mono fun r st e => ?_
  obtain ⟨rfl, rfl⟩ := e
  conv => whnf
  refine (c_open0 ⟨[], 0, 100, -1, false, []⟩ rfl (by simp [WFk])).mono ?_
  rw [show syncP ⟨[], 0, 100, -1, false, []⟩ = ((⟨[], 0, 100, -1, false, []⟩ : Pk), (0 : Int)) from rfl]
  rintro r st (⟨h, _⟩ | ⟨_, h, _⟩ | ⟨_, _, rfl, rfl⟩)
  · cases h
  · cases h
  conv => whnf
  refine (cp.weak (.cons (Weak.refl _) (.cons (.sl (.inl rfl) (.cons (.sl (m := .ex) (.inl rfl) (Weaks.refl _)) (.cons (.sl (m := .ex) (.inl rfl) (Weaks.refl _)) .nil))) .nil))).mono ?_
  rintro r st ⟨rfl, ⟨h, _⟩ | ⟨cap, c2, L, hL, rfl⟩⟩
  · exact absurd h hA
  conv => whnf
  refine ⟨[(0, [0])], ?_⟩
  conv => whnf
  rw [List.drop_zero, hL.2.2.2]
  refine cc.mono ?_
  rintro r st ⟨rfl, ⟨h, _⟩ | ⟨cap', c2', L', hL', rfl⟩⟩
  · exact absurd h hA
  conv => whnf
  refine (co cap' c2' L' hL').mono ?_
  rintro r st (⟨h, _⟩ | ⟨_, st', h | h | ⟨h, _⟩, rfl, rfl⟩)
  · exact absurd rfl h
  · obtain ⟨cap3, c3, L3, hL3, rfl⟩ := h
    conv => whnf
    refine (c_wmany1 ⟨A, 18, 100, -1, false, []⟩ 2 false cap3 c3 L3).mono fun r st e => ?_
    obtain ⟨rfl, rfl⟩ := e
    conv => whnf
    refine ⟨false, [], ?_⟩
    conv => whnf
    exact ⟨rfl, rfl⟩
  · obtain ⟨cap3, c3, L3, cj, Lj, hL3, rfl⟩ := h
    conv => whnf
    refine (c_wmany1 ⟨A, 18, 100, -1, false, []⟩ 2 false cap3 c3 L3).mono fun r st e => ?_
    obtain ⟨rfl, rfl⟩ := e
    conv => whnf
    refine ⟨false, [], ?_⟩
    conv => whnf
    exact ⟨rfl, rfl⟩
  · exact absurd h hA
end Go.WL.T5
