/- The disk: copies; bytes that are appended. No condition. -/
import Derived.Test.YtdlgmddegldcjaaPart08
set_option linter.unusedVariables false
set_option linter.unusedSimpArgs false
namespace Go.WL.T5
open Go.WL Go.Proofs
set_option maxRecDepth 20000
set_option maxHeartbeats 4000000
/-- Bytes in a box of c2 places, of which cap are the slice's. -/
def OKL (b : List UInt8) (cap c2 : Nat) (L : List AV) : Prop := b.length ≤ cap ∧ cap ≤ c2 ∧ L.length = c2 ∧ L.take b.length = by8 b
def P0 (k : Pk) (st : List AV) : Prop := (k.b = [] ∧ st = [(AV.st [.sl .lf [] .ex, .sc (.int .i64 (k).sf), .sc (.int .i64 (k).room), .sc (.bool true), .sc (.int .i64 (k).armed), .sc (.bool (k).dead), .sl .lf (by8 (k).h) .ro])]) ∨ ∃ cap c2 L, OKL k.b cap c2 L ∧ st = [(AV.st [.bs 1 [] .lf 0 (k).b.length cap, .sc (.int .i64 (k).sf), .sc (.int .i64 (k).room), .sc (.bool true), .sc (.int .i64 (k).armed), .sc (.bool (k).dead), .sl .lf (by8 (k).h) .ro]), .ar c2 .lf L]
def P1 (k : Pk) (st : List AV) : Prop := (∃ cap c2 L, OKL k.b cap c2 L ∧ st = [(AV.st [.bs 1 [] .lf 0 (k).b.length cap, .sc (.int .i64 (k).sf), .sc (.int .i64 (k).room), .sc (.bool true), .sc (.int .i64 (k).armed), .sc (.bool (k).dead), .sl .lf (by8 (k).h) .ro]), .ar c2 .lf L]) ∨ (∃ cap c2 L cj Lj, OKL k.b cap c2 L ∧ st = [(AV.st [.bs 2 [] .lf 0 (k).b.length cap, .sc (.int .i64 (k).sf), .sc (.int .i64 (k).room), .sc (.bool true), .sc (.int .i64 (k).armed), .sc (.bool (k).dead), .sl .lf (by8 (k).h) .ro]), .ar cj .lf Lj, .ar c2 .lf L]) ∨ (k.b = [] ∧ ∃ cj Lj, st = [(AV.st [.sl .lf [] .ex, .sc (.int .i64 (k).sf), .sc (.int .i64 (k).room), .sc (.bool true), .sc (.int .i64 (k).armed), .sc (.bool (k).dead), .sl .lf (by8 (k).h) .ro]), .ar cj .lf Lj])
theorem c_cloneL (b : List UInt8) (cap c2 : Nat) (L : List AV) (hL : OKL b cap c2 L) (hb : b.length < 4294967296) : FnOK Try.prog D 78 [.bs 0 [] .lf 0 b.length cap] [.ar c2 .lf L] (fun r st => r = (AV.sl .lf (by8 (b)) .ro) ∧ st = [.ar c2 .lf L]) := by
  obtain ⟨h1, h2, h3, h4⟩ := hL
  refine fnok_of_W hmix tabOK Try.func78 rfl rfl (Nat.le_of_ble_eq_true rfl) ?_
  conv => whnf
  rw [List.drop_zero, h4]
  refine ⟨by rw [len8]; simp; omega, ?_⟩
  conv => whnf
  refine ⟨false, [999], ?_⟩
  conv => whnf
  exact ⟨rfl, rfl⟩
theorem okl_app (b : List UInt8) (cap : Nat) (zs : List AV) (h : b.length ≤ cap) (hz : zs.length = cap - b.length) : OKL b cap cap (by8 b ++ zs) :=
  ⟨h, Nat.le_refl _, by rw [List.length_append, len8]; omega, by rw [List.take_left' (len8 b)]⟩
theorem c_cloneX (b : List UInt8) (cap c2 : Nat) (L : List AV) (hL : OKL b cap c2 L) (hb : b.length < 4294967296) (h0 : b ≠ []) : FnOK Try.prog D 78 [.bs 0 [] .lf 0 b.length cap] [.ar c2 .lf L] (fun r st => ∃ cp Lp, OKL b cp cp Lp ∧ r = .bs 1 [] .lf 0 b.length cp ∧ st = [.ar c2 .lf L, .ar cp .lf Lp]) := by
  obtain ⟨h1, h2, h3, h4⟩ := hL
  have hp : 0 < b.length := List.length_pos_iff.2 h0
  refine fnok_of_Ws [7] hmix tabOK Try.func78 rfl rfl (Nat.le_of_ble_eq_true rfl) ?_
  conv => whnf
  rw [List.drop_zero, h4]
  refine Branch.yes (by rw [len8]; simpa [Nat.blt_eq] using hp) ?_
  refine ⟨by rw [len8]; simp; omega, fun cp hc => ?_⟩
  rw [len8] at hc
  conv => whnf
  refine ⟨false, [1], ?_⟩
  conv => whnf
  have hc' : b.length ≤ cp := by simp at hc; omega
  refine ⟨cp, _, okl_app b cp _ hc' ?_, ?_, rfl⟩
  · rw [List.length_replicate, len8]; simp
  · rw [len8]; simp
theorem c_cloneX0 (cap c2 : Nat) (L : List AV) : FnOK Try.prog D 78 [.bs 0 [] .lf 0 0 cap] [.ar c2 .lf L] (fun r st => r = .sl .lf [] .ex ∧ st = [.ar c2 .lf L]) := by
  refine fnok_of_Ws [7] hmix tabOK Try.func78 rfl rfl (Nat.le_of_ble_eq_true rfl) ?_
  conv => whnf
  refine ⟨false, [], ?_⟩
  conv => whnf
  exact ⟨rfl, rfl⟩
end Go.WL.T5
