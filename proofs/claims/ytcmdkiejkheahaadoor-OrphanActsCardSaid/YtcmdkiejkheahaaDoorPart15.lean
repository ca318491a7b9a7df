/- Which transaction bytes begin with, by the reference. No condition. -/
import Derived.Test.YtcmdkiejkheahaaDoorPart14
import Derived.Test.YtcmdkiejkheahaaDoorPart12
set_option linter.unusedVariables false
set_option linter.unusedSimpArgs false
namespace Go.WL.T6d
open Go.WL Go.Proofs
set_option maxRecDepth 20000
set_option maxHeartbeats 8000000
theorem c_txreadR1 (B : List UInt8) (s a b c e : Nat × Bool) (x y k : Nat) (t X : Tx) (ok : Bool) (hk1 : k = 1) (d : Nat × Bool) (to am : Nat)
    (c4 : FnOK Tryd.prog D 83 [.st [(AV.sl .lf (by8 (B)) .ro), (AV.sc (.int .i64 ((c.1 : Int)))), (AV.sc (.bool (c.2)))], (AV.sc (.int .i64 (40)))] [] (fun r st => r = .tup [.st [(AV.sl .lf (by8 (B)) .ro), (AV.sc (.int .i64 ((d.1 : Int)))), (AV.sc (.bool (d.2)))], (AV.sc (.int .i64 ((to : Int))))] ∧ st = []))
    (c5 : FnOK Tryd.prog D 83 [.st [(AV.sl .lf (by8 (B)) .ro), (AV.sc (.int .i64 ((d.1 : Int)))), (AV.sc (.bool (d.2)))], (AV.sc (.int .i64 (1099511627776)))] [] (fun r st => r = .tup [.st [(AV.sl .lf (by8 (B)) .ro), (AV.sc (.int .i64 ((e.1 : Int)))), (AV.sc (.bool (e.2)))], (AV.sc (.int .i64 ((am : Int))))] ∧ st = []))
    (c1 : FnOK Tryd.prog D 83 [.st [(AV.sl .lf (by8 (B)) .ro), (AV.sc (.int .i64 ((s.1 : Int)))), (AV.sc (.bool (s.2)))], (AV.sc (.int .i64 (40)))] [] (fun r st => r = .tup [.st [(AV.sl .lf (by8 (B)) .ro), (AV.sc (.int .i64 ((a.1 : Int)))), (AV.sc (.bool (a.2)))], (AV.sc (.int .i64 ((x : Int))))] ∧ st = []))
    (c2 : FnOK Tryd.prog D 83 [.st [(AV.sl .lf (by8 (B)) .ro), (AV.sc (.int .i64 ((a.1 : Int)))), (AV.sc (.bool (a.2)))], (AV.sc (.int .i64 (1099511627776)))] [] (fun r st => r = .tup [.st [(AV.sl .lf (by8 (B)) .ro), (AV.sc (.int .i64 ((b.1 : Int)))), (AV.sc (.bool (b.2)))], (AV.sc (.int .i64 ((y : Int))))] ∧ st = []))
    (c3 : FnOK Tryd.prog D 83 [.st [(AV.sl .lf (by8 (B)) .ro), (AV.sc (.int .i64 ((b.1 : Int)))), (AV.sc (.bool (b.2)))], (AV.sc (.int .i64 (3)))] [] (fun r st => r = .tup [.st [(AV.sl .lf (by8 (B)) .ro), (AV.sc (.int .i64 ((c.1 : Int)))), (AV.sc (.bool (c.2)))], (AV.sc (.int .i64 ((k : Int))))] ∧ st = []))
    (ht : t = ⟨x, y, 1, to, am, [], []⟩)
    (hk : t.key.length < 4294967296) (hX : (e.2 = false ∧ mayT t = true ∧ X = t ∧ ok = true) ∨ ((e.2 = true ∨ mayT t = false) ∧ X = tx0 ∧ ok = false)) :
    FnOK Tryd.prog D 84 [.st [(AV.sl .lf (by8 (B)) .ro), (AV.sc (.int .i64 ((s.1 : Int)))), (AV.sc (.bool (s.2)))]] [] (fun r st => r = .tup [.st [(AV.sl .lf (by8 (B)) .ro), (AV.sc (.int .i64 ((e.1 : Int)))), (AV.sc (.bool (e.2)))], .st [(AV.sc (.int .i64 ((X).f))), (AV.sc (.int .i64 ((X).n))), (AV.sc (.int .i64 ((X).k))), (AV.sc (.int .i64 ((X).to))), (AV.sc (.int .i64 ((X).am))), (AV.sc (.string (strB ((X).key)))), (AV.sc (.string (strB ((X).val))))], (AV.sc (.bool (ok)))] ∧ st = []) := by
  have ck := c_mayR t hk
  subst hk1
  subst ht
  refine fnok_of_W hmix tabOK Tryd.func84 rfl rfl (Nat.le_of_ble_eq_true rfl) ?_
  conv => whnf
  refine (c1).mono fun r st e => ?_
  obtain ⟨rfl, rfl⟩ := e
  conv => whnf
  refine (c2).mono fun r st e => ?_
  obtain ⟨rfl, rfl⟩ := e
  conv => whnf
  refine (c3).mono fun r st e => ?_
  obtain ⟨rfl, rfl⟩ := e
  conv => whnf
  refine (c4).mono fun r st e => ?_
  obtain ⟨rfl, rfl⟩ := e
  conv => whnf
  refine (c5).mono fun r st e => ?_
  obtain ⟨rfl, rfl⟩ := e
  conv => whnf
  rcases hX with ⟨h1, h2, rfl, rfl⟩ | ⟨h1, rfl, rfl⟩
  · rw [h1]
    conv => whnf
    rw [h2] at ck
    refine (ck).mono fun r st e => ?_
    obtain ⟨rfl, rfl⟩ := e
    conv => whnf
    refine ⟨tabF84R18, by decide +kernel, ?_⟩
    conv => whnf
    refine ⟨false, [], ?_⟩
    conv => whnf
    exact ⟨rfl, rfl⟩
  · rcases h1 with h1 | h1
    · rw [h1]
      conv => whnf
      refine ⟨false, [], ?_⟩
      conv => whnf
      exact ⟨rfl, rfl⟩
    · cases h2 : e.2
      · conv => whnf
        rw [h1] at ck
        refine (ck).mono fun r st e => ?_
        obtain ⟨rfl, rfl⟩ := e
        conv => whnf
        refine ⟨false, [], ?_⟩
        conv => whnf
        exact ⟨rfl, rfl⟩
      · conv => whnf
        refine ⟨false, [], ?_⟩
        conv => whnf
        exact ⟨rfl, rfl⟩
theorem c_txreadR2 (B : List UInt8) (s a b c e : Nat × Bool) (x y k : Nat) (t X : Tx) (ok : Bool) (hk1 : k = 2) (d : Nat × Bool) (u v : List UInt8)
    (c4 : FnOK Tryd.prog D 116 [.st [(AV.sl .lf (by8 (B)) .ro), (AV.sc (.int .i64 ((c.1 : Int)))), (AV.sc (.bool (c.2)))]] [] (fun r st => r = .tup [.st [(AV.sl .lf (by8 (B)) .ro), (AV.sc (.int .i64 ((d.1 : Int)))), (AV.sc (.bool (d.2)))], (AV.sl .lf (by8 (u)) (.own 0))] ∧ st = []))
    (c5 : FnOK Tryd.prog D 116 [.st [(AV.sl .lf (by8 (B)) .ro), (AV.sc (.int .i64 ((d.1 : Int)))), (AV.sc (.bool (d.2)))]] [] (fun r st => r = .tup [.st [(AV.sl .lf (by8 (B)) .ro), (AV.sc (.int .i64 ((e.1 : Int)))), (AV.sc (.bool (e.2)))], (AV.sl .lf (by8 (v)) (.own 0))] ∧ st = []))
    (c1 : FnOK Tryd.prog D 83 [.st [(AV.sl .lf (by8 (B)) .ro), (AV.sc (.int .i64 ((s.1 : Int)))), (AV.sc (.bool (s.2)))], (AV.sc (.int .i64 (40)))] [] (fun r st => r = .tup [.st [(AV.sl .lf (by8 (B)) .ro), (AV.sc (.int .i64 ((a.1 : Int)))), (AV.sc (.bool (a.2)))], (AV.sc (.int .i64 ((x : Int))))] ∧ st = []))
    (c2 : FnOK Tryd.prog D 83 [.st [(AV.sl .lf (by8 (B)) .ro), (AV.sc (.int .i64 ((a.1 : Int)))), (AV.sc (.bool (a.2)))], (AV.sc (.int .i64 (1099511627776)))] [] (fun r st => r = .tup [.st [(AV.sl .lf (by8 (B)) .ro), (AV.sc (.int .i64 ((b.1 : Int)))), (AV.sc (.bool (b.2)))], (AV.sc (.int .i64 ((y : Int))))] ∧ st = []))
    (c3 : FnOK Tryd.prog D 83 [.st [(AV.sl .lf (by8 (B)) .ro), (AV.sc (.int .i64 ((b.1 : Int)))), (AV.sc (.bool (b.2)))], (AV.sc (.int .i64 (3)))] [] (fun r st => r = .tup [.st [(AV.sl .lf (by8 (B)) .ro), (AV.sc (.int .i64 ((c.1 : Int)))), (AV.sc (.bool (c.2)))], (AV.sc (.int .i64 ((k : Int))))] ∧ st = []))
    (ht : t = ⟨x, y, 2, 0, 0, u, v⟩)
    (hk : t.key.length < 4294967296) (hX : (e.2 = false ∧ mayT t = true ∧ X = t ∧ ok = true) ∨ ((e.2 = true ∨ mayT t = false) ∧ X = tx0 ∧ ok = false)) :
    FnOK Tryd.prog D 84 [.st [(AV.sl .lf (by8 (B)) .ro), (AV.sc (.int .i64 ((s.1 : Int)))), (AV.sc (.bool (s.2)))]] [] (fun r st => r = .tup [.st [(AV.sl .lf (by8 (B)) .ro), (AV.sc (.int .i64 ((e.1 : Int)))), (AV.sc (.bool (e.2)))], .st [(AV.sc (.int .i64 ((X).f))), (AV.sc (.int .i64 ((X).n))), (AV.sc (.int .i64 ((X).k))), (AV.sc (.int .i64 ((X).to))), (AV.sc (.int .i64 ((X).am))), (AV.sc (.string (strB ((X).key)))), (AV.sc (.string (strB ((X).val))))], (AV.sc (.bool (ok)))] ∧ st = []) := by
  have ck := c_mayR t hk
  subst hk1
  subst ht
  refine fnok_of_W hmix tabOK Tryd.func84 rfl rfl (Nat.le_of_ble_eq_true rfl) ?_
  conv => whnf
  refine (c1).mono fun r st e => ?_
  obtain ⟨rfl, rfl⟩ := e
  conv => whnf
  refine (c2).mono fun r st e => ?_
  obtain ⟨rfl, rfl⟩ := e
  conv => whnf
  refine (c3).mono fun r st e => ?_
  obtain ⟨rfl, rfl⟩ := e
  conv => whnf
  refine (c4).mono fun r st e => ?_
  obtain ⟨rfl, rfl⟩ := e
  conv => whnf
  refine ⟨u, rfl, ?_⟩
  conv => whnf
  refine (c5).mono fun r st e => ?_
  obtain ⟨rfl, rfl⟩ := e
  conv => whnf
  refine ⟨v, rfl, ?_⟩
  conv => whnf
  rcases hX with ⟨h1, h2, rfl, rfl⟩ | ⟨h1, rfl, rfl⟩
  · rw [h1]
    conv => whnf
    rw [h2] at ck
    refine (ck).mono fun r st e => ?_
    obtain ⟨rfl, rfl⟩ := e
    conv => whnf
    refine ⟨tabF84R18, by decide +kernel, ?_⟩
    conv => whnf
    refine ⟨false, [], ?_⟩
    conv => whnf
    exact ⟨rfl, rfl⟩
  · rcases h1 with h1 | h1
    · rw [h1]
      conv => whnf
      refine ⟨false, [], ?_⟩
      conv => whnf
      exact ⟨rfl, rfl⟩
    · cases h2 : e.2
      · conv => whnf
        rw [h1] at ck
        refine (ck).mono fun r st e => ?_
        obtain ⟨rfl, rfl⟩ := e
        conv => whnf
        refine ⟨false, [], ?_⟩
        conv => whnf
        exact ⟨rfl, rfl⟩
      · conv => whnf
        refine ⟨false, [], ?_⟩
        conv => whnf
        exact ⟨rfl, rfl⟩
theorem c_txreadR3 (B : List UInt8) (s a b c e : Nat × Bool) (x y k : Nat) (t X : Tx) (ok : Bool) (hk1 : k = 3) (u : List UInt8)
    (c4 : FnOK Tryd.prog D 116 [.st [(AV.sl .lf (by8 (B)) .ro), (AV.sc (.int .i64 ((c.1 : Int)))), (AV.sc (.bool (c.2)))]] [] (fun r st => r = .tup [.st [(AV.sl .lf (by8 (B)) .ro), (AV.sc (.int .i64 ((e.1 : Int)))), (AV.sc (.bool (e.2)))], (AV.sl .lf (by8 (u)) (.own 0))] ∧ st = []))
    (c1 : FnOK Tryd.prog D 83 [.st [(AV.sl .lf (by8 (B)) .ro), (AV.sc (.int .i64 ((s.1 : Int)))), (AV.sc (.bool (s.2)))], (AV.sc (.int .i64 (40)))] [] (fun r st => r = .tup [.st [(AV.sl .lf (by8 (B)) .ro), (AV.sc (.int .i64 ((a.1 : Int)))), (AV.sc (.bool (a.2)))], (AV.sc (.int .i64 ((x : Int))))] ∧ st = []))
    (c2 : FnOK Tryd.prog D 83 [.st [(AV.sl .lf (by8 (B)) .ro), (AV.sc (.int .i64 ((a.1 : Int)))), (AV.sc (.bool (a.2)))], (AV.sc (.int .i64 (1099511627776)))] [] (fun r st => r = .tup [.st [(AV.sl .lf (by8 (B)) .ro), (AV.sc (.int .i64 ((b.1 : Int)))), (AV.sc (.bool (b.2)))], (AV.sc (.int .i64 ((y : Int))))] ∧ st = []))
    (c3 : FnOK Tryd.prog D 83 [.st [(AV.sl .lf (by8 (B)) .ro), (AV.sc (.int .i64 ((b.1 : Int)))), (AV.sc (.bool (b.2)))], (AV.sc (.int .i64 (3)))] [] (fun r st => r = .tup [.st [(AV.sl .lf (by8 (B)) .ro), (AV.sc (.int .i64 ((c.1 : Int)))), (AV.sc (.bool (c.2)))], (AV.sc (.int .i64 ((k : Int))))] ∧ st = []))
    (ht : t = ⟨x, y, 3, 0, 0, u, []⟩)
    (hk : t.key.length < 4294967296) (hX : (e.2 = false ∧ mayT t = true ∧ X = t ∧ ok = true) ∨ ((e.2 = true ∨ mayT t = false) ∧ X = tx0 ∧ ok = false)) :
    FnOK Tryd.prog D 84 [.st [(AV.sl .lf (by8 (B)) .ro), (AV.sc (.int .i64 ((s.1 : Int)))), (AV.sc (.bool (s.2)))]] [] (fun r st => r = .tup [.st [(AV.sl .lf (by8 (B)) .ro), (AV.sc (.int .i64 ((e.1 : Int)))), (AV.sc (.bool (e.2)))], .st [(AV.sc (.int .i64 ((X).f))), (AV.sc (.int .i64 ((X).n))), (AV.sc (.int .i64 ((X).k))), (AV.sc (.int .i64 ((X).to))), (AV.sc (.int .i64 ((X).am))), (AV.sc (.string (strB ((X).key)))), (AV.sc (.string (strB ((X).val))))], (AV.sc (.bool (ok)))] ∧ st = []) := by
  have ck := c_mayR t hk
  subst hk1
  subst ht
  refine fnok_of_W hmix tabOK Tryd.func84 rfl rfl (Nat.le_of_ble_eq_true rfl) ?_
  conv => whnf
  refine (c1).mono fun r st e => ?_
  obtain ⟨rfl, rfl⟩ := e
  conv => whnf
  refine (c2).mono fun r st e => ?_
  obtain ⟨rfl, rfl⟩ := e
  conv => whnf
  refine (c3).mono fun r st e => ?_
  obtain ⟨rfl, rfl⟩ := e
  conv => whnf
  refine (c4).mono fun r st e => ?_
  obtain ⟨rfl, rfl⟩ := e
  conv => whnf
  refine ⟨u, rfl, ?_⟩
  conv => whnf
  rcases hX with ⟨h1, h2, rfl, rfl⟩ | ⟨h1, rfl, rfl⟩
  · rw [h1]
    conv => whnf
    rw [h2] at ck
    refine (ck).mono fun r st e => ?_
    obtain ⟨rfl, rfl⟩ := e
    conv => whnf
    refine ⟨tabF84R18, by decide +kernel, ?_⟩
    conv => whnf
    refine ⟨false, [], ?_⟩
    conv => whnf
    exact ⟨rfl, rfl⟩
  · rcases h1 with h1 | h1
    · rw [h1]
      conv => whnf
      refine ⟨false, [], ?_⟩
      conv => whnf
      exact ⟨rfl, rfl⟩
    · cases h2 : e.2
      · conv => whnf
        rw [h1] at ck
        refine (ck).mono fun r st e => ?_
        obtain ⟨rfl, rfl⟩ := e
        conv => whnf
        refine ⟨false, [], ?_⟩
        conv => whnf
        exact ⟨rfl, rfl⟩
      · conv => whnf
        refine ⟨false, [], ?_⟩
        conv => whnf
        exact ⟨rfl, rfl⟩
theorem c_txreadR0 (B : List UInt8) (s a b c e : Nat × Bool) (x y k : Nat) (t X : Tx) (ok : Bool) (hk1 : k = 0) (he : e = c)
    (c1 : FnOK Tryd.prog D 83 [.st [(AV.sl .lf (by8 (B)) .ro), (AV.sc (.int .i64 ((s.1 : Int)))), (AV.sc (.bool (s.2)))], (AV.sc (.int .i64 (40)))] [] (fun r st => r = .tup [.st [(AV.sl .lf (by8 (B)) .ro), (AV.sc (.int .i64 ((a.1 : Int)))), (AV.sc (.bool (a.2)))], (AV.sc (.int .i64 ((x : Int))))] ∧ st = []))
    (c2 : FnOK Tryd.prog D 83 [.st [(AV.sl .lf (by8 (B)) .ro), (AV.sc (.int .i64 ((a.1 : Int)))), (AV.sc (.bool (a.2)))], (AV.sc (.int .i64 (1099511627776)))] [] (fun r st => r = .tup [.st [(AV.sl .lf (by8 (B)) .ro), (AV.sc (.int .i64 ((b.1 : Int)))), (AV.sc (.bool (b.2)))], (AV.sc (.int .i64 ((y : Int))))] ∧ st = []))
    (c3 : FnOK Tryd.prog D 83 [.st [(AV.sl .lf (by8 (B)) .ro), (AV.sc (.int .i64 ((b.1 : Int)))), (AV.sc (.bool (b.2)))], (AV.sc (.int .i64 (3)))] [] (fun r st => r = .tup [.st [(AV.sl .lf (by8 (B)) .ro), (AV.sc (.int .i64 ((c.1 : Int)))), (AV.sc (.bool (c.2)))], (AV.sc (.int .i64 ((k : Int))))] ∧ st = []))
    (ht : t = ⟨x, y, 0, 0, 0, [], []⟩)
    (hk : t.key.length < 4294967296) (hX : (e.2 = false ∧ mayT t = true ∧ X = t ∧ ok = true) ∨ ((e.2 = true ∨ mayT t = false) ∧ X = tx0 ∧ ok = false)) :
    FnOK Tryd.prog D 84 [.st [(AV.sl .lf (by8 (B)) .ro), (AV.sc (.int .i64 ((s.1 : Int)))), (AV.sc (.bool (s.2)))]] [] (fun r st => r = .tup [.st [(AV.sl .lf (by8 (B)) .ro), (AV.sc (.int .i64 ((e.1 : Int)))), (AV.sc (.bool (e.2)))], .st [(AV.sc (.int .i64 ((X).f))), (AV.sc (.int .i64 ((X).n))), (AV.sc (.int .i64 ((X).k))), (AV.sc (.int .i64 ((X).to))), (AV.sc (.int .i64 ((X).am))), (AV.sc (.string (strB ((X).key)))), (AV.sc (.string (strB ((X).val))))], (AV.sc (.bool (ok)))] ∧ st = []) := by
  have ck := c_mayR t hk
  subst hk1
  subst ht
  subst he
  refine fnok_of_W hmix tabOK Tryd.func84 rfl rfl (Nat.le_of_ble_eq_true rfl) ?_
  conv => whnf
  refine (c1).mono fun r st e => ?_
  obtain ⟨rfl, rfl⟩ := e
  conv => whnf
  refine (c2).mono fun r st e => ?_
  obtain ⟨rfl, rfl⟩ := e
  conv => whnf
  refine (c3).mono fun r st e => ?_
  obtain ⟨rfl, rfl⟩ := e
  conv => whnf
  rcases hX with ⟨h1, h2, rfl, rfl⟩ | ⟨h1, rfl, rfl⟩
  · rw [h1]
    conv => whnf
    rw [h2] at ck
    refine (ck).mono fun r st e => ?_
    obtain ⟨rfl, rfl⟩ := e
    conv => whnf
    refine ⟨tabF84R18, by decide +kernel, ?_⟩
    conv => whnf
    refine ⟨false, [], ?_⟩
    conv => whnf
    exact ⟨rfl, rfl⟩
  · rcases h1 with h1 | h1
    · rw [h1]
      conv => whnf
      refine ⟨false, [], ?_⟩
      conv => whnf
      exact ⟨rfl, rfl⟩
    · cases h2 : e.2
      · conv => whnf
        rw [h1] at ck
        refine (ck).mono fun r st e => ?_
        obtain ⟨rfl, rfl⟩ := e
        conv => whnf
        refine ⟨false, [], ?_⟩
        conv => whnf
        exact ⟨rfl, rfl⟩
      · conv => whnf
        refine ⟨false, [], ?_⟩
        conv => whnf
        exact ⟨rfl, rfl⟩
/-- A place in bytes, and whether something was wrong. -/
abbrev PS := Nat × Bool
def upR (B : List UInt8) (s : PS) (top : Int) : Nat × PS := ((fupto B s.1 s.2 top).1, (fupto B s.1 s.2 top).2.1, (fupto B s.1 s.2 top).2.2)
def texR (B : List UInt8) (s : PS) : List UInt8 × PS := ((ftext B s.1 s.2).1, (ftext B s.1 s.2).2.1, (ftext B s.1 s.2).2.2)
def rs (B : List UInt8) (s : PS) : RS := (B.drop s.1, s.2)
theorem up_rs (B : List UInt8) (s : PS) (top : Int) : up (rs B s) top = ((upR B s top).1, rs B (upR B s top).2) := by
  unfold up upR rs
  rw [fupto_rupto]
theorem tex_rs (B : List UInt8) (s : PS) : tex (rs B s) = ((texR B s).1, rs B (texR B s).2) := by
  unfold tex texR rs
  rw [ftext_rtext]
def rawR (B : List UInt8) (s : PS) : Tx × PS :=
  let a := upR B s 40
  let b := upR B a.2 1099511627776
  let c := upR B b.2 3
  if c.1 = 1 then
    let d := upR B c.2 40
    let e := upR B d.2 1099511627776
    (⟨a.1, b.1, c.1, d.1, e.1, [], []⟩, e.2)
  else if c.1 = 2 then
    let d := texR B c.2
    let e := texR B d.2
    (⟨a.1, b.1, c.1, 0, 0, d.1, e.1⟩, e.2)
  else if c.1 = 3 then
    let d := texR B c.2
    (⟨a.1, b.1, c.1, 0, 0, d.1, []⟩, d.2)
  else (⟨a.1, b.1, c.1, 0, 0, [], []⟩, c.2)
theorem raw_rs (B : List UInt8) (s : PS) : rawF (rs B s) = ((rawR B s).1, rs B (rawR B s).2) := by
  unfold rawF rawR
  simp only [up_rs, tex_rs]
  split
  · rfl
  · split
    · rfl
    · split
      · rfl
      · rfl
theorem c_upR (B : List UInt8) (s : PS) (top : Int) (ht : -9223372036854775808 ≤ top ∧ top < 9223372036854775808) (hB : B.length < 1000000000) (hs : s.1 ≤ B.length) : FnOK Tryd.prog D 83 [.st [(AV.sl .lf (by8 (B)) .ro), (AV.sc (.int .i64 ((s.1 : Int)))), (AV.sc (.bool (s.2)))], (AV.sc (.int .i64 (top)))] [] (fun r st => r = .tup [.st [(AV.sl .lf (by8 (B)) .ro), (AV.sc (.int .i64 (((upR B s top).2.1 : Int)))), (AV.sc (.bool ((upR B s top).2.2)))], (AV.sc (.int .i64 (((upR B s top).1 : Int))))] ∧ st = []) := c_readupto B s.1 s.2 top ht (by omega) hs
theorem c_texR (B : List UInt8) (s : PS) (hB : B.length < 1000000000) (hs : s.1 ≤ B.length) : FnOK Tryd.prog D 116 [.st [(AV.sl .lf (by8 (B)) .ro), (AV.sc (.int .i64 ((s.1 : Int)))), (AV.sc (.bool (s.2)))]] [] (fun r st => r = .tup [.st [(AV.sl .lf (by8 (B)) .ro), (AV.sc (.int .i64 (((texR B s).2.1 : Int)))), (AV.sc (.bool ((texR B s).2.2)))], (AV.sl .lf (by8 ((texR B s).1)) (.own 0))] ∧ st = []) := c_readtext B s.1 s.2 (by omega) hs
theorem c_txreadR (B : List UInt8) (s : PS) (hB : B.length < 1000000000) (hs : s.1 ≤ B.length) : FnOK Tryd.prog D 84 [.st [(AV.sl .lf (by8 (B)) .ro), (AV.sc (.int .i64 ((s.1 : Int)))), (AV.sc (.bool (s.2)))]] [] (fun r st => r = .tup [.st [(AV.sl .lf (by8 (B)) .ro), (AV.sc (.int .i64 (((rawR B s).2.1 : Int)))), (AV.sc (.bool ((rawR B s).2.2)))], (AV.st [.sc (.int .i64 (outT (rs B s)).f), .sc (.int .i64 (outT (rs B s)).n), .sc (.int .i64 (outT (rs B s)).k), .sc (.int .i64 (outT (rs B s)).to), .sc (.int .i64 (outT (rs B s)).am), .sc (.string (strB (outT (rs B s)).key)), .sc (.string (strB (outT (rs B s)).val))]), (AV.sc (.bool (readOK (rs B s))))] ∧ st = []) := by
  have la : (upR B s 40).2.1 ≤ B.length := fupto_at B s.1 s.2 40 hs
  have lb : (upR B (upR B s 40).2 1099511627776).2.1 ≤ B.length := fupto_at B _ _ _ la
  have lc : (upR B (upR B (upR B s 40).2 1099511627776).2 3).2.1 ≤ B.length := fupto_at B _ _ _ lb
  have c1 := c_upR B s 40 (by decide) hB hs
  have c2 := c_upR B (upR B s 40).2 1099511627776 (by decide) hB la
  have c3 := c_upR B (upR B (upR B s 40).2 1099511627776).2 3 (by decide) hB lb
  have hk3 : (upR B (upR B (upR B s 40).2 1099511627776).2 3).1 ≤ 3 := by
    have := fupto_le B (upR B (upR B s 40).2 1099511627776).2.1 (upR B (upR B s 40).2 1099511627776).2.2 3 (by decide)
    simp only [upR] at *
    omega
  have hX : ((rawR B s).2.2 = false ∧ mayT (rawR B s).1 = true ∧ outT (rs B s) = (rawR B s).1 ∧ readOK (rs B s) = true) ∨ (((rawR B s).2.2 = true ∨ mayT (rawR B s).1 = false) ∧ outT (rs B s) = tx0 ∧ readOK (rs B s) = false) := by
    unfold outT readOK
    rw [raw_rs]
    simp only [rs]
    by_cases h1 : (rawR B s).2.2 = true
    · simp [h1]
    · by_cases h2 : mayT (rawR B s).1 = true
      · simp [h1, h2]
      · simp [h1, h2]
  have e : rawR B s = (let a := upR B s 40
    let b := upR B a.2 1099511627776
    let c := upR B b.2 3
    if c.1 = 1 then
      let d := upR B c.2 40
      let e := upR B d.2 1099511627776
      (⟨a.1, b.1, c.1, d.1, e.1, [], []⟩, e.2)
    else if c.1 = 2 then
      let d := texR B c.2
      let e := texR B d.2
      (⟨a.1, b.1, c.1, 0, 0, d.1, e.1⟩, e.2)
    else if c.1 = 3 then
      let d := texR B c.2
      (⟨a.1, b.1, c.1, 0, 0, d.1, []⟩, d.2)
    else (⟨a.1, b.1, c.1, 0, 0, [], []⟩, c.2)) := rfl
  simp only at e
  generalize rawR B s = F at e hX
  generalize outT (rs B s) = X at hX
  generalize readOK (rs B s) = ok at hX
  obtain ⟨t, z⟩ := F
  generalize upR B s 40 = A at *
  generalize upR B A.2 1099511627776 = BB at *
  generalize upR B BB.2 3 = C at *
  obtain ⟨x, a⟩ := A
  obtain ⟨y, b⟩ := BB
  obtain ⟨k, c⟩ := C
  simp only at *
  have hk4 : k = 0 ∨ k = 1 ∨ k = 2 ∨ k = 3 := by omega
  have tl : ∀ s : PS, (texR B s).1.length ≤ B.length := fun s => ftext_len B s.1 s.2
  rcases hk4 with rfl | rfl | rfl | rfl
  · rw [if_neg (by decide), if_neg (by decide), if_neg (by decide)] at e
    obtain ⟨rfl, rfl⟩ := Prod.mk.inj e
    exact c_txreadR0 B s a b z z x y 0 _ X ok rfl rfl c1 c2 c3 rfl (by show 0 < 4294967296; decide) hX
  · rw [if_pos rfl] at e
    have ld : (upR B c 40).2.1 ≤ B.length := fupto_at B _ _ _ lc
    have c4 := c_upR B c 40 (by decide) hB lc
    have c5 := c_upR B (upR B c 40).2 1099511627776 (by decide) hB ld
    obtain ⟨rfl, rfl⟩ := Prod.mk.inj e
    exact c_txreadR1 B s a b c _ x y 1 _ X ok rfl _ _ _ c4 c5 c1 c2 c3 rfl (by show 0 < 4294967296; decide) hX
  · rw [if_neg (by decide), if_pos rfl] at e
    have ld : (texR B c).2.1 ≤ B.length := ftext_at B _ _ lc
    have l1 := tl c
    have c4 := c_texR B c hB lc
    have c5 := c_texR B (texR B c).2 hB ld
    obtain ⟨rfl, rfl⟩ := Prod.mk.inj e
    exact c_txreadR2 B s a b c _ x y 2 _ X ok rfl _ _ _ c4 c5 c1 c2 c3 rfl (by show (texR B c).1.length < _; omega) hX
  · rw [if_neg (by decide), if_neg (by decide), if_pos rfl] at e
    have l1 := tl c
    have c4 := c_texR B c hB lc
    obtain ⟨rfl, rfl⟩ := Prod.mk.inj e
    exact c_txreadR3 B s a b c _ x y 3 _ X ok rfl _ c4 c1 c2 c3 rfl (by show (texR B c).1.length < _; omega) hX
end Go.WL.T6d
