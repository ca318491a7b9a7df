/- Which transaction bytes begin with, by the program. No condition. -/
import Derived.Test.YtcmdkiejkheahaaDoorPart09
import Derived.Test.YtcmdkiejkheahaaDoorPart13
set_option linter.unusedVariables false
set_option linter.unusedSimpArgs false
namespace Go.WL.T6d
open Go.WL Go.Proofs
set_option maxRecDepth 20000
set_option maxHeartbeats 8000000
def tx0 : Tx := ⟨0, 0, 0, 0, 0, [], []⟩
/-- What is left of a reader's bytes, and whether something was wrong, behind a number up to one; behind a text. -/
abbrev RS := List UInt8 × Bool
def up (s : RS) (top : Int) : Nat × RS := ((rupto s.1 s.2 top).1, (rupto s.1 s.2 top).2.1, (rupto s.1 s.2 top).2.2)
def tex (s : RS) : List UInt8 × RS := ((rtext s.1 s.2).1, (rtext s.1 s.2).2.1, (rtext s.1 s.2).2.2)
def rawF (s : RS) : Tx × RS :=
  let a := up s 40
  let b := up a.2 1099511627776
  let c := up b.2 3
  if c.1 = 1 then
    let d := up c.2 40
    let e := up d.2 1099511627776
    (⟨a.1, b.1, c.1, d.1, e.1, [], []⟩, e.2)
  else if c.1 = 2 then
    let d := tex c.2
    let e := tex d.2
    (⟨a.1, b.1, c.1, 0, 0, d.1, e.1⟩, e.2)
  else if c.1 = 3 then
    let d := tex c.2
    (⟨a.1, b.1, c.1, 0, 0, d.1, []⟩, d.2)
  else (⟨a.1, b.1, c.1, 0, 0, [], []⟩, c.2)
def readOK (s : RS) : Bool := !(rawF s).2.2 && mayT (rawF s).1
theorem up_len (s : RS) (top : Int) : (up s top).2.1.length ≤ s.1.length := rupto_len s.1 s.2 top
theorem c_txread1 (s a b c e : RS) (x y k : Nat) (t X : Tx) (ok : Bool) (hk1 : k = 1) (d : RS) (to am : Nat)
    (c4 : FnOK Tryd.prog D 76 [.pt 0 [], (AV.sc (.int .i64 (40)))] [.st [(AV.sl .lf (by8 (c.1)) .ro), (AV.sc (.bool (c.2)))]] (fun r st => r = (AV.sc (.int .i64 ((to : Int)))) ∧ st = [.st [(AV.sl .lf (by8 (d.1)) .ro), (AV.sc (.bool (d.2)))]]))
    (c5 : FnOK Tryd.prog D 76 [.pt 0 [], (AV.sc (.int .i64 (1099511627776)))] [.st [(AV.sl .lf (by8 (d.1)) .ro), (AV.sc (.bool (d.2)))]] (fun r st => r = (AV.sc (.int .i64 ((am : Int)))) ∧ st = [.st [(AV.sl .lf (by8 (e.1)) .ro), (AV.sc (.bool (e.2)))]]))
    (c1 : FnOK Tryd.prog D 76 [.pt 0 [], (AV.sc (.int .i64 (40)))] [.st [(AV.sl .lf (by8 (s.1)) .ro), (AV.sc (.bool (s.2)))]] (fun r st => r = (AV.sc (.int .i64 ((x : Int)))) ∧ st = [.st [(AV.sl .lf (by8 (a.1)) .ro), (AV.sc (.bool (a.2)))]]))
    (c2 : FnOK Tryd.prog D 76 [.pt 0 [], (AV.sc (.int .i64 (1099511627776)))] [.st [(AV.sl .lf (by8 (a.1)) .ro), (AV.sc (.bool (a.2)))]] (fun r st => r = (AV.sc (.int .i64 ((y : Int)))) ∧ st = [.st [(AV.sl .lf (by8 (b.1)) .ro), (AV.sc (.bool (b.2)))]]))
    (c3 : FnOK Tryd.prog D 76 [.pt 0 [], (AV.sc (.int .i64 (3)))] [.st [(AV.sl .lf (by8 (b.1)) .ro), (AV.sc (.bool (b.2)))]] (fun r st => r = (AV.sc (.int .i64 ((k : Int)))) ∧ st = [.st [(AV.sl .lf (by8 (c.1)) .ro), (AV.sc (.bool (c.2)))]]))
    (ht : t = ⟨x, y, 1, to, am, [], []⟩)
    (hk : t.key.length < 4294967296) (hX : (e.2 = false ∧ mayT t = true ∧ X = t ∧ ok = true) ∨ ((e.2 = true ∨ mayT t = false) ∧ X = tx0 ∧ ok = false)) :
    FnOK Tryd.prog D 21 [.pt 0 []] [.st [(AV.sl .lf (by8 (s.1)) .ro), (AV.sc (.bool (s.2)))]] (fun r st => r = .tup [.st [(AV.sc (.int .i64 (X.f))), (AV.sc (.int .i64 (X.n))), (AV.sc (.int .i64 (X.k))), (AV.sc (.int .i64 (X.to))), (AV.sc (.int .i64 (X.am))), (AV.sc (.string (strB (X.key)))), (AV.sc (.string (strB (X.val))))], (AV.sc (.bool (ok)))] ∧ st = [.st [(AV.sl .lf (by8 (e.1)) .ro), (AV.sc (.bool (e.2)))]]) := by
  have ck := c_txcheck t hk
  subst hk1
  subst ht
  refine fnok_of_W hmix tabOK Tryd.func21 rfl rfl (Nat.le_of_ble_eq_true rfl) ?_
  conv => whnf
  refine (c1).mono fun r st e => ?_
  obtain ⟨rfl, rfl⟩ := e
  conv => whnf
  refine (c2).mono fun r st e => ?_
  obtain ⟨rfl, rfl⟩ := e
  conv => whnf
  refine (c3).mono fun r st e => ?_
  obtain ⟨rfl, rfl⟩ := e
  conv => whnf
  refine (c4).mono fun r st e => ?_
  obtain ⟨rfl, rfl⟩ := e
  conv => whnf
  refine (c5).mono fun r st e => ?_
  obtain ⟨rfl, rfl⟩ := e
  conv => whnf
  refine (c_wrong e.1 e.2).mono fun r st e => ?_
  obtain ⟨rfl, rfl⟩ := e
  conv => whnf
  rcases hX with ⟨h1, h2, rfl, rfl⟩ | ⟨h1, rfl, rfl⟩
  · rw [h1]
    conv => whnf
    rw [h2] at ck
    refine (ck).mono fun r st e => ?_
    obtain ⟨rfl, rfl⟩ := e
    conv => whnf
    refine ⟨false, [], ?_⟩
    conv => whnf
    exact ⟨rfl, rfl⟩
  · rcases h1 with h1 | h1
    · rw [h1]
      conv => whnf
      refine ⟨false, [], ?_⟩
      conv => whnf
      exact ⟨rfl, rfl⟩
    · cases h2 : e.2
      · conv => whnf
        rw [h1] at ck
        refine (ck).mono fun r st e => ?_
        obtain ⟨rfl, rfl⟩ := e
        conv => whnf
        refine ⟨false, [], ?_⟩
        conv => whnf
        exact ⟨rfl, rfl⟩
      · conv => whnf
        refine ⟨false, [], ?_⟩
        conv => whnf
        exact ⟨rfl, rfl⟩
theorem c_txread2 (s a b c e : RS) (x y k : Nat) (t X : Tx) (ok : Bool) (hk1 : k = 2) (d : RS) (u v : List UInt8)
    (c4 : FnOK Tryd.prog D 77 [.pt 0 []] [.st [(AV.sl .lf (by8 (c.1)) .ro), (AV.sc (.bool (c.2)))]] (fun r st => r = (AV.sl .lf (by8 (u)) (.own 0)) ∧ st = [.st [(AV.sl .lf (by8 (d.1)) .ro), (AV.sc (.bool (d.2)))]]))
    (c5 : FnOK Tryd.prog D 77 [.pt 0 []] [.st [(AV.sl .lf (by8 (d.1)) .ro), (AV.sc (.bool (d.2)))]] (fun r st => r = (AV.sl .lf (by8 (v)) (.own 0)) ∧ st = [.st [(AV.sl .lf (by8 (e.1)) .ro), (AV.sc (.bool (e.2)))]]))
    (c1 : FnOK Tryd.prog D 76 [.pt 0 [], (AV.sc (.int .i64 (40)))] [.st [(AV.sl .lf (by8 (s.1)) .ro), (AV.sc (.bool (s.2)))]] (fun r st => r = (AV.sc (.int .i64 ((x : Int)))) ∧ st = [.st [(AV.sl .lf (by8 (a.1)) .ro), (AV.sc (.bool (a.2)))]]))
    (c2 : FnOK Tryd.prog D 76 [.pt 0 [], (AV.sc (.int .i64 (1099511627776)))] [.st [(AV.sl .lf (by8 (a.1)) .ro), (AV.sc (.bool (a.2)))]] (fun r st => r = (AV.sc (.int .i64 ((y : Int)))) ∧ st = [.st [(AV.sl .lf (by8 (b.1)) .ro), (AV.sc (.bool (b.2)))]]))
    (c3 : FnOK Tryd.prog D 76 [.pt 0 [], (AV.sc (.int .i64 (3)))] [.st [(AV.sl .lf (by8 (b.1)) .ro), (AV.sc (.bool (b.2)))]] (fun r st => r = (AV.sc (.int .i64 ((k : Int)))) ∧ st = [.st [(AV.sl .lf (by8 (c.1)) .ro), (AV.sc (.bool (c.2)))]]))
    (ht : t = ⟨x, y, 2, 0, 0, u, v⟩)
    (hk : t.key.length < 4294967296) (hX : (e.2 = false ∧ mayT t = true ∧ X = t ∧ ok = true) ∨ ((e.2 = true ∨ mayT t = false) ∧ X = tx0 ∧ ok = false)) :
    FnOK Tryd.prog D 21 [.pt 0 []] [.st [(AV.sl .lf (by8 (s.1)) .ro), (AV.sc (.bool (s.2)))]] (fun r st => r = .tup [.st [(AV.sc (.int .i64 (X.f))), (AV.sc (.int .i64 (X.n))), (AV.sc (.int .i64 (X.k))), (AV.sc (.int .i64 (X.to))), (AV.sc (.int .i64 (X.am))), (AV.sc (.string (strB (X.key)))), (AV.sc (.string (strB (X.val))))], (AV.sc (.bool (ok)))] ∧ st = [.st [(AV.sl .lf (by8 (e.1)) .ro), (AV.sc (.bool (e.2)))]]) := by
  have ck := c_txcheck t hk
  subst hk1
  subst ht
  refine fnok_of_W hmix tabOK Tryd.func21 rfl rfl (Nat.le_of_ble_eq_true rfl) ?_
  conv => whnf
  refine (c1).mono fun r st e => ?_
  obtain ⟨rfl, rfl⟩ := e
  conv => whnf
  refine (c2).mono fun r st e => ?_
  obtain ⟨rfl, rfl⟩ := e
  conv => whnf
  refine (c3).mono fun r st e => ?_
  obtain ⟨rfl, rfl⟩ := e
  conv => whnf
  refine ⟨tabF21R6, by decide +kernel, ?_⟩
  conv => whnf
  refine ⟨_, _, c4, ?_⟩
  conv => whnf
  refine ⟨u, rfl, ?_⟩
  conv => whnf
  refine ⟨_, _, c5, ?_⟩
  conv => whnf
  refine ⟨v, rfl, ?_⟩
  conv => whnf
  refine (c_wrong e.1 e.2).mono fun r st e => ?_
  obtain ⟨rfl, rfl⟩ := e
  conv => whnf
  rcases hX with ⟨h1, h2, rfl, rfl⟩ | ⟨h1, rfl, rfl⟩
  · rw [h1]
    conv => whnf
    rw [h2] at ck
    refine (ck).mono fun r st e => ?_
    obtain ⟨rfl, rfl⟩ := e
    conv => whnf
    refine ⟨false, [], ?_⟩
    conv => whnf
    exact ⟨rfl, rfl⟩
  · rcases h1 with h1 | h1
    · rw [h1]
      conv => whnf
      refine ⟨false, [], ?_⟩
      conv => whnf
      exact ⟨rfl, rfl⟩
    · cases h2 : e.2
      · conv => whnf
        rw [h1] at ck
        refine (ck).mono fun r st e => ?_
        obtain ⟨rfl, rfl⟩ := e
        conv => whnf
        refine ⟨false, [], ?_⟩
        conv => whnf
        exact ⟨rfl, rfl⟩
      · conv => whnf
        refine ⟨false, [], ?_⟩
        conv => whnf
        exact ⟨rfl, rfl⟩
theorem c_txread3 (s a b c e : RS) (x y k : Nat) (t X : Tx) (ok : Bool) (hk1 : k = 3) (u : List UInt8)
    (c4 : FnOK Tryd.prog D 77 [.pt 0 []] [.st [(AV.sl .lf (by8 (c.1)) .ro), (AV.sc (.bool (c.2)))]] (fun r st => r = (AV.sl .lf (by8 (u)) (.own 0)) ∧ st = [.st [(AV.sl .lf (by8 (e.1)) .ro), (AV.sc (.bool (e.2)))]]))
    (c1 : FnOK Tryd.prog D 76 [.pt 0 [], (AV.sc (.int .i64 (40)))] [.st [(AV.sl .lf (by8 (s.1)) .ro), (AV.sc (.bool (s.2)))]] (fun r st => r = (AV.sc (.int .i64 ((x : Int)))) ∧ st = [.st [(AV.sl .lf (by8 (a.1)) .ro), (AV.sc (.bool (a.2)))]]))
    (c2 : FnOK Tryd.prog D 76 [.pt 0 [], (AV.sc (.int .i64 (1099511627776)))] [.st [(AV.sl .lf (by8 (a.1)) .ro), (AV.sc (.bool (a.2)))]] (fun r st => r = (AV.sc (.int .i64 ((y : Int)))) ∧ st = [.st [(AV.sl .lf (by8 (b.1)) .ro), (AV.sc (.bool (b.2)))]]))
    (c3 : FnOK Tryd.prog D 76 [.pt 0 [], (AV.sc (.int .i64 (3)))] [.st [(AV.sl .lf (by8 (b.1)) .ro), (AV.sc (.bool (b.2)))]] (fun r st => r = (AV.sc (.int .i64 ((k : Int)))) ∧ st = [.st [(AV.sl .lf (by8 (c.1)) .ro), (AV.sc (.bool (c.2)))]]))
    (ht : t = ⟨x, y, 3, 0, 0, u, []⟩)
    (hk : t.key.length < 4294967296) (hX : (e.2 = false ∧ mayT t = true ∧ X = t ∧ ok = true) ∨ ((e.2 = true ∨ mayT t = false) ∧ X = tx0 ∧ ok = false)) :
    FnOK Tryd.prog D 21 [.pt 0 []] [.st [(AV.sl .lf (by8 (s.1)) .ro), (AV.sc (.bool (s.2)))]] (fun r st => r = .tup [.st [(AV.sc (.int .i64 (X.f))), (AV.sc (.int .i64 (X.n))), (AV.sc (.int .i64 (X.k))), (AV.sc (.int .i64 (X.to))), (AV.sc (.int .i64 (X.am))), (AV.sc (.string (strB (X.key)))), (AV.sc (.string (strB (X.val))))], (AV.sc (.bool (ok)))] ∧ st = [.st [(AV.sl .lf (by8 (e.1)) .ro), (AV.sc (.bool (e.2)))]]) := by
  have ck := c_txcheck t hk
  subst hk1
  subst ht
  refine fnok_of_W hmix tabOK Tryd.func21 rfl rfl (Nat.le_of_ble_eq_true rfl) ?_
  conv => whnf
  refine (c1).mono fun r st e => ?_
  obtain ⟨rfl, rfl⟩ := e
  conv => whnf
  refine (c2).mono fun r st e => ?_
  obtain ⟨rfl, rfl⟩ := e
  conv => whnf
  refine (c3).mono fun r st e => ?_
  obtain ⟨rfl, rfl⟩ := e
  conv => whnf
  refine (c4).mono fun r st e => ?_
  obtain ⟨rfl, rfl⟩ := e
  conv => whnf
  refine ⟨u, rfl, ?_⟩
  conv => whnf
  refine (c_wrong e.1 e.2).mono fun r st e => ?_
  obtain ⟨rfl, rfl⟩ := e
  conv => whnf
  rcases hX with ⟨h1, h2, rfl, rfl⟩ | ⟨h1, rfl, rfl⟩
  · rw [h1]
    conv => whnf
    rw [h2] at ck
    refine (ck).mono fun r st e => ?_
    obtain ⟨rfl, rfl⟩ := e
    conv => whnf
    refine ⟨false, [], ?_⟩
    conv => whnf
    exact ⟨rfl, rfl⟩
  · rcases h1 with h1 | h1
    · rw [h1]
      conv => whnf
      refine ⟨false, [], ?_⟩
      conv => whnf
      exact ⟨rfl, rfl⟩
    · cases h2 : e.2
      · conv => whnf
        rw [h1] at ck
        refine (ck).mono fun r st e => ?_
        obtain ⟨rfl, rfl⟩ := e
        conv => whnf
        refine ⟨false, [], ?_⟩
        conv => whnf
        exact ⟨rfl, rfl⟩
      · conv => whnf
        refine ⟨false, [], ?_⟩
        conv => whnf
        exact ⟨rfl, rfl⟩
theorem c_txread0 (s a b c e : RS) (x y k : Nat) (t X : Tx) (ok : Bool) (hk1 : k = 0) (he : e = c)
    (c1 : FnOK Tryd.prog D 76 [.pt 0 [], (AV.sc (.int .i64 (40)))] [.st [(AV.sl .lf (by8 (s.1)) .ro), (AV.sc (.bool (s.2)))]] (fun r st => r = (AV.sc (.int .i64 ((x : Int)))) ∧ st = [.st [(AV.sl .lf (by8 (a.1)) .ro), (AV.sc (.bool (a.2)))]]))
    (c2 : FnOK Tryd.prog D 76 [.pt 0 [], (AV.sc (.int .i64 (1099511627776)))] [.st [(AV.sl .lf (by8 (a.1)) .ro), (AV.sc (.bool (a.2)))]] (fun r st => r = (AV.sc (.int .i64 ((y : Int)))) ∧ st = [.st [(AV.sl .lf (by8 (b.1)) .ro), (AV.sc (.bool (b.2)))]]))
    (c3 : FnOK Tryd.prog D 76 [.pt 0 [], (AV.sc (.int .i64 (3)))] [.st [(AV.sl .lf (by8 (b.1)) .ro), (AV.sc (.bool (b.2)))]] (fun r st => r = (AV.sc (.int .i64 ((k : Int)))) ∧ st = [.st [(AV.sl .lf (by8 (c.1)) .ro), (AV.sc (.bool (c.2)))]]))
    (ht : t = ⟨x, y, 0, 0, 0, [], []⟩)
    (hk : t.key.length < 4294967296) (hX : (e.2 = false ∧ mayT t = true ∧ X = t ∧ ok = true) ∨ ((e.2 = true ∨ mayT t = false) ∧ X = tx0 ∧ ok = false)) :
    FnOK Tryd.prog D 21 [.pt 0 []] [.st [(AV.sl .lf (by8 (s.1)) .ro), (AV.sc (.bool (s.2)))]] (fun r st => r = .tup [.st [(AV.sc (.int .i64 (X.f))), (AV.sc (.int .i64 (X.n))), (AV.sc (.int .i64 (X.k))), (AV.sc (.int .i64 (X.to))), (AV.sc (.int .i64 (X.am))), (AV.sc (.string (strB (X.key)))), (AV.sc (.string (strB (X.val))))], (AV.sc (.bool (ok)))] ∧ st = [.st [(AV.sl .lf (by8 (e.1)) .ro), (AV.sc (.bool (e.2)))]]) := by
  have ck := c_txcheck t hk
  subst hk1
  subst ht
  subst he
  refine fnok_of_W hmix tabOK Tryd.func21 rfl rfl (Nat.le_of_ble_eq_true rfl) ?_
  conv => whnf
  refine (c1).mono fun r st e => ?_
  obtain ⟨rfl, rfl⟩ := e
  conv => whnf
  refine (c2).mono fun r st e => ?_
  obtain ⟨rfl, rfl⟩ := e
  conv => whnf
  refine (c3).mono fun r st e => ?_
  obtain ⟨rfl, rfl⟩ := e
  conv => whnf
  refine (c_wrong e.1 e.2).mono fun r st e => ?_
  obtain ⟨rfl, rfl⟩ := e
  conv => whnf
  rcases hX with ⟨h1, h2, rfl, rfl⟩ | ⟨h1, rfl, rfl⟩
  · rw [h1]
    conv => whnf
    rw [h2] at ck
    refine (ck).mono fun r st e => ?_
    obtain ⟨rfl, rfl⟩ := e
    conv => whnf
    refine ⟨false, [], ?_⟩
    conv => whnf
    exact ⟨rfl, rfl⟩
  · rcases h1 with h1 | h1
    · rw [h1]
      conv => whnf
      refine ⟨false, [], ?_⟩
      conv => whnf
      exact ⟨rfl, rfl⟩
    · cases h2 : e.2
      · conv => whnf
        rw [h1] at ck
        refine (ck).mono fun r st e => ?_
        obtain ⟨rfl, rfl⟩ := e
        conv => whnf
        refine ⟨false, [], ?_⟩
        conv => whnf
        exact ⟨rfl, rfl⟩
      · conv => whnf
        refine ⟨false, [], ?_⟩
        conv => whnf
        exact ⟨rfl, rfl⟩
def outT (s : RS) : Tx := if readOK s then (rawF s).1 else tx0
theorem c_up (s : RS) (top : Int) (ht : -9223372036854775808 ≤ top ∧ top < 9223372036854775808) (hs : s.1.length < 1000000000) : FnOK Tryd.prog D 76 [.pt 0 [], (AV.sc (.int .i64 (top)))] [.st [(AV.sl .lf (by8 (s.1)) .ro), (AV.sc (.bool (s.2)))]] (fun r st => r = (AV.sc (.int .i64 (((up s top).1 : Int)))) ∧ st = [.st [(AV.sl .lf (by8 ((up s top).2.1)) .ro), (AV.sc (.bool ((up s top).2.2)))]]) := c_upto s.1 s.2 top ht (by omega)
theorem c_tex (s : RS) (hs : s.1.length < 1000000000) : FnOK Tryd.prog D 77 [.pt 0 []] [.st [(AV.sl .lf (by8 (s.1)) .ro), (AV.sc (.bool (s.2)))]] (fun r st => r = (AV.sl .lf (by8 ((tex s).1)) (.own 0)) ∧ st = [.st [(AV.sl .lf (by8 ((tex s).2.1)) .ro), (AV.sc (.bool ((tex s).2.2)))]]) := c_rtext s.1 s.2 (by omega)
theorem tex_len (s : RS) : (tex s).2.1.length ≤ s.1.length ∧ (tex s).1.length ≤ s.1.length := by
  have h := rupto_len s.1 false 65536
  unfold tex rtext
  split
  · simp
  · simp only [List.length_drop, List.length_take]
    omega
theorem c_txread (s : RS) (hs : s.1.length < 1000000000) : FnOK Tryd.prog D 21 [.pt 0 []] [.st [(AV.sl .lf (by8 (s.1)) .ro), (AV.sc (.bool (s.2)))]] (fun r st => r = .tup [(AV.st [.sc (.int .i64 (outT s).f), .sc (.int .i64 (outT s).n), .sc (.int .i64 (outT s).k), .sc (.int .i64 (outT s).to), .sc (.int .i64 (outT s).am), .sc (.string (strB (outT s).key)), .sc (.string (strB (outT s).val))]), (AV.sc (.bool (readOK s)))] ∧ st = [.st [(AV.sl .lf (by8 ((rawF s).2.1)) .ro), (AV.sc (.bool ((rawF s).2.2)))]]) := by
  have la := up_len s 40
  have lb := up_len (up s 40).2 1099511627776
  have lc := up_len (up (up s 40).2 1099511627776).2 3
  have c1 := c_up s 40 (by decide) hs
  have c2 := c_up (up s 40).2 1099511627776 (by decide) (by omega)
  have c3 := c_up (up (up s 40).2 1099511627776).2 3 (by decide) (by omega)
  have hk3 : (up (up (up s 40).2 1099511627776).2 3).1 ≤ 3 := by
    have := rupto_le (up (up s 40).2 1099511627776).2.1 (up (up s 40).2 1099511627776).2.2 3 (by decide)
    simp only [up] at *
    omega
  have hX : ((rawF s).2.2 = false ∧ mayT (rawF s).1 = true ∧ outT s = (rawF s).1 ∧ readOK s = true) ∨ (((rawF s).2.2 = true ∨ mayT (rawF s).1 = false) ∧ outT s = tx0 ∧ readOK s = false) := by
    unfold outT readOK
    cases (rawF s).2.2 <;> cases mayT (rawF s).1 <;> simp
  have e : rawF s = (let a := up s 40
    let b := up a.2 1099511627776
    let c := up b.2 3
    if c.1 = 1 then
      let d := up c.2 40
      let e := up d.2 1099511627776
      (⟨a.1, b.1, c.1, d.1, e.1, [], []⟩, e.2)
    else if c.1 = 2 then
      let d := tex c.2
      let e := tex d.2
      (⟨a.1, b.1, c.1, 0, 0, d.1, e.1⟩, e.2)
    else if c.1 = 3 then
      let d := tex c.2
      (⟨a.1, b.1, c.1, 0, 0, d.1, []⟩, d.2)
    else (⟨a.1, b.1, c.1, 0, 0, [], []⟩, c.2)) := rfl
  simp only at e
  generalize rawF s = F at e hX
  generalize outT s = X at hX
  generalize readOK s = ok at hX
  obtain ⟨t, z⟩ := F
  generalize up s 40 = A at *
  generalize up A.2 1099511627776 = B at *
  generalize up B.2 3 = C at *
  obtain ⟨x, a⟩ := A
  obtain ⟨y, b⟩ := B
  obtain ⟨k, c⟩ := C
  simp only at *
  have hk4 : k = 0 ∨ k = 1 ∨ k = 2 ∨ k = 3 := by omega
  rcases hk4 with rfl | rfl | rfl | rfl
  · rw [if_neg (by decide), if_neg (by decide), if_neg (by decide)] at e
    obtain ⟨rfl, rfl⟩ := Prod.mk.inj e
    exact c_txread0 s a b z z x y 0 _ X ok rfl rfl c1 c2 c3 rfl (by show 0 < 4294967296; decide) hX
  · rw [if_pos rfl] at e
    have ld := up_len c 40
    have c4 := c_up c 40 (by decide) (by omega)
    have c5 := c_up (up c 40).2 1099511627776 (by decide) (by omega)
    obtain ⟨rfl, rfl⟩ := Prod.mk.inj e
    exact c_txread1 s a b c _ x y 1 _ X ok rfl _ _ _ c4 c5 c1 c2 c3 rfl (by show 0 < 4294967296; decide) hX
  · rw [if_neg (by decide), if_pos rfl] at e
    have ld := tex_len c
    have c4 := c_tex c (by omega)
    have c5 := c_tex (tex c).2 (by omega)
    obtain ⟨rfl, rfl⟩ := Prod.mk.inj e
    exact c_txread2 s a b c _ x y 2 _ X ok rfl _ _ _ c4 c5 c1 c2 c3 rfl (by show (tex c).1.length < _; omega) hX
  · rw [if_neg (by decide), if_neg (by decide), if_pos rfl] at e
    have ld := tex_len c
    have c4 := c_tex c (by omega)
    obtain ⟨rfl, rfl⟩ := Prod.mk.inj e
    exact c_txread3 s a b c _ x y 3 _ X ok rfl _ c4 c1 c2 c3 rfl (by show (tex c).1.length < _; omega) hX
end Go.WL.T6d
