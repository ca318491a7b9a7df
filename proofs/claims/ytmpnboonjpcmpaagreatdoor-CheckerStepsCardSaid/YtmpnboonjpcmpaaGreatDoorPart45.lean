/- Light clients: a step, by the program and by the reference. No condition. -/
import Derived.Test.YtmpnboonjpcmpaaGreatDoorPart40
import Derived.Test.YtmpnboonjpcmpaaGreatDoorPart42
set_option linter.unusedVariables false
set_option linter.unusedSimpArgs false
namespace Go.WL.T7z
open Go.WL Go.Proofs
set_option maxRecDepth 20000
set_option maxHeartbeats 8000000
structure Cl where
  n : Int
  g : List UInt8
  v : Int
  h : Int
  deriving DecidableEq
def fitsC (c : Cl) (b : Bl) : Bool := mayB b && decide (c.v < b.v) && decide (b.h - 1 = c.h) && (b.p == c.g)
def behC (c : Cl) (b : Bl) : Cl := if fitsC c b = true then ⟨c.n, blH b, b.v, b.h⟩ else c
def mayC (c : Cl) : Bool := decide (quo c.n ≠ 0) && decide (0 ≤ c.v ∧ c.v ≤ 1099511627776) && decide (0 ≤ c.h ∧ c.h ≤ c.v) && (decide (0 < c.v) || (c.g == z32))
theorem quo_pos (n : Int) : 0 ≤ quo n := by
  unfold quo
  split <;> omega
end Go.WL.T7z
namespace Go.WL.T7z
open Go.WL Go.Proofs
set_option maxRecDepth 20000
set_option maxHeartbeats 8000000
def blsA (l : List Bl) : List AV := l.map fun b => (AV.st [.ar 32 .lf (by8 (b).p), .sc (.int .i64 (b).v), .sc (.int .i64 (b).h), .sc (.int .i64 (b).by_), .sl (.nd [.lf, .lf, .lf, .lf, .lf, .lf, .lf]) (txsA (b).txs) .ro])
theorem lenB (l : List Bl) : (blsA l).length = l.length := by simp [blsA]
theorem atB {l : List Bl} {i : Nat} (h : i < l.length) : (blsA l)[((i : Nat) : Int).toNat]? = some (AV.st [.ar 32 .lf (by8 (l[i]).p), .sc (.int .i64 (l[i]).v), .sc (.int .i64 (l[i]).h), .sc (.int .i64 (l[i]).by_), .sl (.nd [.lf, .lf, .lf, .lf, .lf, .lf, .lf]) (txsA (l[i]).txs) .ro]) := by
  rw [Int.toNat_natCast]
  simp [blsA, h]
def c0 : Cl := ⟨0, z32, 0, 0⟩
def alongC : Cl → List Bl → Option Cl
  | c, [] => some c
  | c, b :: l => if fitsC c b = true then alongC (behC c b) l else none
theorem alongC_cons (c : Cl) (b : Bl) (l : List Bl) : alongC c (b :: l) = if fitsC c b = true then alongC (behC c b) l else none := rfl
abbrev okB (b : Bl) : Prop := b.txs.length < 4294967296 ∧ shortK b.txs ∧ b.p.length = 32
theorem okB_of {b : Bl} (h : lightB b) (hp : b.p.length = 32) : okB b := ⟨by have := h.1; omega, fun t ht => by have := (h.2 t ht).1; omega, hp⟩
abbrev okBs (l : List Bl) : Prop := ∀ b ∈ l, okB b
/-- A step: the client behind it, and what is told. -/
def stepC (may : Bool) (last : Int) (al : Option Cl) (rc : Bool) (c : Cl) (l : List Bl) (a : At) : Cl × Int :=
  if may = false ∨ l = [] then (c0, 1) else if last ≤ c.v then (c0, 11) else match al with
    | none => (c0, 1)
    | some o => if rc = true ∧ a.k = 3 ∧ a.h = o.g ∧ a.v = o.v then (o, 0) else (c0, 7)
def lastV (l : List Bl) : Int := match l.getLast? with
  | some b => b.v
  | none => 0
theorem lastV_at {l : List Bl} (h : 0 < l.length) : ∃ b : Bl, (blsA l)[((l.length : Int) - 1).toNat]? = some (AV.st [.ar 32 .lf (by8 (b).p), .sc (.int .i64 (b).v), .sc (.int .i64 (b).h), .sc (.int .i64 (b).by_), .sl (.nd [.lf, .lf, .lf, .lf, .lf, .lf, .lf]) (txsA (b).txs) .ro]) ∧ b.v = lastV l := by
  have h1 : l.length - 1 < l.length := by omega
  have := atB h1
  rw [show (((l.length - 1 : Nat) : Int)) = (l.length : Int) - 1 by omega] at this
  refine ⟨_, this, ?_⟩
  unfold lastV
  rw [List.getLast?_eq_getElem?, List.getElem?_eq_getElem h1]
end Go.WL.T7z
