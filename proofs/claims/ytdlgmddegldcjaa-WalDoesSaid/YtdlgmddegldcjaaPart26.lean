/- The wal: its small functions. No condition. -/
import Derived.Test.YtdlgmddegldcjaaPart25
import Derived.Test.YtdlgmddegldcjaaPart12
set_option linter.unusedVariables false
set_option linter.unusedSimpArgs false
namespace Go.WL.T5
open Go.WL Go.Proofs
set_option maxRecDepth 20000
set_option maxHeartbeats 4000000
theorem c_wbroken0 (k : Pk) (m : Int) (br : Bool) : FnOK Try.prog D 37 [.pt 0 []] [.st [.pt 1 [], (AV.sc (.int .i64 (m))), (AV.sc (.bool (br)))], (AV.st [.sl .lf [] .ex, .sc (.int .i64 (k).sf), .sc (.int .i64 (k).room), .sc (.bool true), .sc (.int .i64 (k).armed), .sc (.bool (k).dead), .sl .lf (by8 (k).h) .ro])] (fun r st => r = (AV.sc (.bool (br))) ∧ st = [.st [.pt 1 [], (AV.sc (.int .i64 (m))), (AV.sc (.bool (br)))], (AV.st [.sl .lf [] .ex, .sc (.int .i64 (k).sf), .sc (.int .i64 (k).room), .sc (.bool true), .sc (.int .i64 (k).armed), .sc (.bool (k).dead), .sl .lf (by8 (k).h) .ro])]) := by
  refine fnok_of_W hmix tabOK Try.func37 rfl rfl (Nat.le_of_ble_eq_true rfl) ?_
  conv => whnf
  refine ⟨false, [], ?_⟩
  conv => whnf
  exact ⟨rfl, rfl⟩
theorem c_wbroken1 (k : Pk) (m : Int) (br : Bool) (cap c2 : Nat) (L : List AV) : FnOK Try.prog D 37 [.pt 0 []] [.st [.pt 1 [], (AV.sc (.int .i64 (m))), (AV.sc (.bool (br)))], (AV.st [.bs 2 [] .lf 0 (k).b.length cap, .sc (.int .i64 (k).sf), .sc (.int .i64 (k).room), .sc (.bool true), .sc (.int .i64 (k).armed), .sc (.bool (k).dead), .sl .lf (by8 (k).h) .ro]), .ar c2 .lf L] (fun r st => r = (AV.sc (.bool (br))) ∧ st = [.st [.pt 1 [], (AV.sc (.int .i64 (m))), (AV.sc (.bool (br)))], (AV.st [.bs 2 [] .lf 0 (k).b.length cap, .sc (.int .i64 (k).sf), .sc (.int .i64 (k).room), .sc (.bool true), .sc (.int .i64 (k).armed), .sc (.bool (k).dead), .sl .lf (by8 (k).h) .ro]), .ar c2 .lf L]) := by
  refine fnok_of_W hmix tabOK Try.func37 rfl rfl (Nat.le_of_ble_eq_true rfl) ?_
  conv => whnf
  refine ⟨false, [], ?_⟩
  conv => whnf
  exact ⟨rfl, rfl⟩
theorem c_wmany0 (k : Pk) (m : Int) (br : Bool) : FnOK Try.prog D 35 [.pt 0 []] [.st [.pt 1 [], (AV.sc (.int .i64 (m))), (AV.sc (.bool (br)))], (AV.st [.sl .lf [] .ex, .sc (.int .i64 (k).sf), .sc (.int .i64 (k).room), .sc (.bool true), .sc (.int .i64 (k).armed), .sc (.bool (k).dead), .sl .lf (by8 (k).h) .ro])] (fun r st => r = (AV.sc (.int .i64 (m))) ∧ st = [.st [.pt 1 [], (AV.sc (.int .i64 (m))), (AV.sc (.bool (br)))], (AV.st [.sl .lf [] .ex, .sc (.int .i64 (k).sf), .sc (.int .i64 (k).room), .sc (.bool true), .sc (.int .i64 (k).armed), .sc (.bool (k).dead), .sl .lf (by8 (k).h) .ro])]) := by
  refine fnok_of_W hmix tabOK Try.func35 rfl rfl (Nat.le_of_ble_eq_true rfl) ?_
  conv => whnf
  refine ⟨false, [], ?_⟩
  conv => whnf
  exact ⟨rfl, rfl⟩
theorem c_wmany1 (k : Pk) (m : Int) (br : Bool) (cap c2 : Nat) (L : List AV) : FnOK Try.prog D 35 [.pt 0 []] [.st [.pt 1 [], (AV.sc (.int .i64 (m))), (AV.sc (.bool (br)))], (AV.st [.bs 2 [] .lf 0 (k).b.length cap, .sc (.int .i64 (k).sf), .sc (.int .i64 (k).room), .sc (.bool true), .sc (.int .i64 (k).armed), .sc (.bool (k).dead), .sl .lf (by8 (k).h) .ro]), .ar c2 .lf L] (fun r st => r = (AV.sc (.int .i64 (m))) ∧ st = [.st [.pt 1 [], (AV.sc (.int .i64 (m))), (AV.sc (.bool (br)))], (AV.st [.bs 2 [] .lf 0 (k).b.length cap, .sc (.int .i64 (k).sf), .sc (.int .i64 (k).room), .sc (.bool true), .sc (.int .i64 (k).armed), .sc (.bool (k).dead), .sl .lf (by8 (k).h) .ro]), .ar c2 .lf L]) := by
  refine fnok_of_W hmix tabOK Try.func35 rfl rfl (Nat.le_of_ble_eq_true rfl) ?_
  conv => whnf
  refine ⟨false, [], ?_⟩
  conv => whnf
  exact ⟨rfl, rfl⟩
theorem c_openN : FnOK Try.prog D 33 [.sc (.pointer none)] [] (fun r st => r = .tup [.sc (.pointer none), .sl .lf [] .ro, (AV.sc (.int .i64 (1)))] ∧ st = []) := by
  refine fnok_of_W hmix tabOK Try.func33 rfl rfl (Nat.le_of_ble_eq_true rfl) ?_
  conv => whnf
  refine (c_allN).mono fun r st e => ?_
  obtain ⟨rfl, rfl⟩ := e
  conv => whnf
  refine ⟨false, [999], ?_⟩
  conv => whnf
  exact ⟨rfl, rfl⟩
/-- An opening of a disk without bytes. -/
theorem c_open0 (k : Pk) (hb0 : k.b = []) (hw : WFk k) : FnOK Try.prog D 33 [.pt 0 []] [(AV.st [.sl .lf [] .ex, .sc (.int .i64 (k).sf), .sc (.int .i64 (k).room), .sc (.bool true), .sc (.int .i64 (k).armed), .sc (.bool (k).dead), .sl .lf (by8 (k).h) .ro])] (fun r st => (k.dead = true ∧ r = .tup [.sc (.pointer none), .sl .lf [] .ro, (AV.sc (.int .i64 (6)))] ∧ st = [(AV.st [.sl .lf [] .ex, .sc (.int .i64 (k).sf), .sc (.int .i64 (k).room), .sc (.bool true), .sc (.int .i64 (k).armed), .sc (.bool (k).dead), .sl .lf (by8 (k).h) .ro])]) ∨ (k.dead = false ∧ (syncP k).2 = 6 ∧ r = .tup [.sc (.pointer none), .sl .lf [] .ro, (AV.sc (.int .i64 (6)))] ∧ st = [(AV.st [.sl .lf [] .ex, .sc (.int .i64 ((syncP k).1).sf), .sc (.int .i64 ((syncP k).1).room), .sc (.bool true), .sc (.int .i64 ((syncP k).1).armed), .sc (.bool ((syncP k).1).dead), .sl .lf (by8 ((syncP k).1).h) .ro])]) ∨ (k.dead = false ∧ (syncP k).2 = 0 ∧ r = .tup [.pt 1 [], .sl .lf [] (.own 0), (AV.sc (.int .i64 (0)))] ∧ st = [(AV.st [.sl .lf [] .ex, .sc (.int .i64 ((syncP k).1).sf), .sc (.int .i64 ((syncP k).1).room), .sc (.bool true), .sc (.int .i64 ((syncP k).1).armed), .sc (.bool ((syncP k).1).dead), .sl .lf (by8 ((syncP k).1).h) .ro]), .st [.pt 0 [], (AV.sc (.int .i64 (0))), (AV.sc (.bool (false)))]])) := by
  have ca := c_all0 k hb0 hw
  have cs := c_sync0 k hw.2.2.2.2.2.1 hw.2.2.2.2.2.2 hb0
  obtain ⟨b, sf, room, armed, dead, h⟩ := k
  simp only at hb0
  subst hb0
  have hs2 : (syncP ⟨[], sf, room, armed, dead, h⟩).2 = 6 ∨ (syncP ⟨[], sf, room, armed, dead, h⟩).2 = 0 := by
    unfold syncP
    split
    · exact .inl rfl
    · split
      · exact .inr rfl
      · exact .inl rfl
  generalize syncP ⟨[], sf, room, armed, dead, h⟩ = q at cs hs2 ⊢
  obtain ⟨k2, e⟩ := q
  simp only at hs2
  cases dead with
  | true =>
    refine fnok_of_W hmix tabOK Try.func33 rfl rfl (Nat.le_of_ble_eq_true rfl) ?_
    conv => whnf
    refine (ca).mono fun r st e => ?_
    obtain ⟨rfl, rfl⟩ := e
    conv => whnf
    refine ⟨false, [999], ?_⟩
    conv => whnf
    exact .inl ⟨rfl, rfl, rfl⟩
  | false =>
    refine fnok_of_W hmix tabOK Try.func33 rfl rfl (Nat.le_of_ble_eq_true rfl) ?_
    conv => whnf
    refine (ca).mono fun r st e => ?_
    obtain ⟨rfl, rfl⟩ := e
    conv => whnf
    refine (c_records [] (by decide)).mono fun r st e => ?_
    obtain ⟨rfl, rfl⟩ := e
    conv => whnf
    refine (cs).mono fun r st e => ?_
    obtain ⟨rfl, rfl⟩ := e
    conv => whnf
    rcases hs2 with rfl | rfl
    · conv => whnf
      refine ⟨false, [999], ?_⟩
      conv => whnf
      exact .inr (.inl ⟨rfl, rfl, rfl, rfl⟩)
    · conv => whnf
      refine ⟨false, [1], ?_⟩
      conv => whnf
      exact .inr (.inr ⟨rfl, rfl, rfl, rfl⟩)
end Go.WL.T5
