/- All bytes of a disk, in a row of their own. No condition. -/
import Derived.Test.YtdlgmddegldcjaaPart19
import Derived.Test.YtdlgmddegldcjaaWordsD
import Derived.Test.YtdlgmddegldcjaaPart10
set_option linter.unusedVariables false
set_option linter.unusedSimpArgs false
namespace Go.WL.T5
open Go.WL Go.Proofs
theorem ac_of {v : AV} (h : OfTy (.st [.int .i64, .sl .lf (.int .u8), .int .i64]) v) : ∃ a : Ac, v = (AV.st [.sc (.int .i64 (a).d), .sl .lf (by8 (a).b) .ro, .sc (.int .i64 (a).n)]) ∧ a.n < 9223372036854775808 := by
  obtain ⟨xs, rfl, x0, _, rfl, ⟨d, rfl, _⟩, x1, _, rfl, h1, x2, _, rfl, ⟨n, rfl, hn⟩, rfl⟩ := h
  obtain ⟨b, rfl, _⟩ := bytes_of h1
  exact ⟨⟨d, b, n⟩, rfl, (wf_i64 hn).2⟩
theorem acs_map : ∀ xs : List AV, (∀ x ∈ xs, OfTy (.st [.int .i64, .sl .lf (.int .u8), .int .i64]) x) → ∃ l : List Ac, xs = acA l ∧ ∀ a ∈ l, a.n < 9223372036854775808
  | [], _ => ⟨[], rfl, fun a ha => by simp at ha⟩
  | x :: xs, h => by
    obtain ⟨l, e, hl⟩ := acs_map xs fun y hy => h y (List.mem_cons_of_mem _ hy)
    obtain ⟨a, e2, ha⟩ := ac_of (h x (by simp))
    refine ⟨a :: l, by rw [e, e2]; rfl, fun y hy => ?_⟩
    rcases List.mem_cons.1 hy with rfl | hy
    · exact ha
    · exact hl y hy
theorem acts_of {v : AV} (h : OfTy (.sl (.nd [.lf, .lf, .lf]) (.st [.int .i64, .sl .lf (.int .u8), .int .i64])) v) : ∃ l : List Ac, v = (AV.sl (.nd [.lf, .lf, .lf]) (acA (l)) .ro) ∧ l.length ≤ 9223372036854775807 ∧ ∀ a ∈ l, a.n < 9223372036854775808 := by
  obtain ⟨xs, rfl, h1, h2⟩ := h
  obtain ⟨l, rfl, hl⟩ := acs_map xs h2
  rw [ac_len] at h1
  exact ⟨l, rfl, by have : maxLen = 9223372036854775807 := rfl; omega, hl⟩
end Go.WL.T5
namespace Go.WL.T5
open Go.WL Go.Proofs
set_option maxRecDepth 20000
set_option maxHeartbeats 4000000
theorem c_cloneLO (b : List UInt8) (cap c2 : Nat) (L : List AV) (hL : OKL b cap c2 L) (hb : b.length < 4294967296) : FnOK Try.prog D 78 [.bs 0 [] .lf 0 b.length cap] [.ar c2 .lf L] (fun r st => r = (AV.sl .lf (by8 (b)) (.own 0)) ∧ st = [.ar c2 .lf L]) := by
  obtain ⟨h1, h2, h3, h4⟩ := hL
  refine fnok_of_W hmix tabOK Try.func78 rfl rfl (Nat.le_of_ble_eq_true rfl) ?_
  conv => whnf
  rw [List.drop_zero, h4]
  refine ⟨by rw [len8]; simp; omega, ?_⟩
  conv => whnf
  refine ⟨true, [], ?_⟩
  conv => whnf
  exact ⟨rfl, rfl⟩
theorem c_allO0 (k : Pk) (hb0 : k.b = []) (hw : WFk k) (hd : k.dead = false) : FnOK Try.prog D 22 [.pt 0 []] [(AV.st [.sl .lf [] .ex, .sc (.int .i64 (k).sf), .sc (.int .i64 (k).room), .sc (.bool true), .sc (.int .i64 (k).armed), .sc (.bool (k).dead), .sl .lf (by8 (k).h) .ro])] (fun r st => r = .tup [(AV.sl .lf (by8 (k.b)) (.own 0)), (AV.sc (.int .i64 (0)))] ∧ st = [(AV.st [.sl .lf [] .ex, .sc (.int .i64 (k).sf), .sc (.int .i64 (k).room), .sc (.bool true), .sc (.int .i64 (k).armed), .sc (.bool (k).dead), .sl .lf (by8 (k).h) .ro])]) := by
  obtain ⟨b, sf, room, armed, dead, h⟩ := k
  obtain ⟨w1, w2, w3, w4, w5, w6, w7⟩ := hw
  simp only at w1 w2 w3 w4 w5 w6 w7 hd hb0
  subst hd
  subst hb0
  refine fnok_of_Ws [14] hmix tabOK Try.func22 rfl rfl (Nat.le_of_ble_eq_true rfl) ?_
  conv => whnf
  refine (c_off0 ⟨_, sf, room, armed, false, h⟩).mono fun r st e => ?_
  obtain ⟨rfl, rfl⟩ := e
  conv => whnf
  refine ((c_clone0 [] (by decide)).weak (.cons (.sl (m := .ex) (.inl rfl) (Weaks.refl _)) .nil)).mono fun r st e => ?_
  obtain ⟨rfl, rfl⟩ := e
  conv => whnf
  refine ⟨false, [], ?_⟩
  conv => whnf
  exact ⟨rfl, rfl⟩
theorem c_allD0 (k : Pk) (hd : k.dead = true) : FnOK Try.prog D 22 [.pt 0 []] [(AV.st [.sl .lf [] .ex, .sc (.int .i64 (k).sf), .sc (.int .i64 (k).room), .sc (.bool true), .sc (.int .i64 (k).armed), .sc (.bool (k).dead), .sl .lf (by8 (k).h) .ro])] (fun r st => r = .tup [.sl .lf [] .ex, (AV.sc (.int .i64 (6)))] ∧ st = [(AV.st [.sl .lf [] .ex, .sc (.int .i64 (k).sf), .sc (.int .i64 (k).room), .sc (.bool true), .sc (.int .i64 (k).armed), .sc (.bool (k).dead), .sl .lf (by8 (k).h) .ro])]) := by
  obtain ⟨b, sf, room, armed, dead, h⟩ := k
  simp only at hd
  subst hd
  refine fnok_of_Ws [14] hmix tabOK Try.func22 rfl rfl (Nat.le_of_ble_eq_true rfl) ?_
  conv => whnf
  refine (c_off0 ⟨_, sf, room, armed, true, h⟩).mono fun r st e => ?_
  obtain ⟨rfl, rfl⟩ := e
  conv => whnf
  refine ⟨false, [], ?_⟩
  conv => whnf
  exact ⟨rfl, rfl⟩
theorem c_allO1 (k : Pk) (cap c2 : Nat) (L : List AV) (hL : OKL k.b cap c2 L) (hw : WFk k) (hd : k.dead = false) : FnOK Try.prog D 22 [.pt 0 []] [(AV.st [.bs 1 [] .lf 0 (k).b.length cap, .sc (.int .i64 (k).sf), .sc (.int .i64 (k).room), .sc (.bool true), .sc (.int .i64 (k).armed), .sc (.bool (k).dead), .sl .lf (by8 (k).h) .ro]), .ar c2 .lf L] (fun r st => r = .tup [(AV.sl .lf (by8 (k.b)) (.own 0)), (AV.sc (.int .i64 (0)))] ∧ st = [(AV.st [.bs 1 [] .lf 0 (k).b.length cap, .sc (.int .i64 (k).sf), .sc (.int .i64 (k).room), .sc (.bool true), .sc (.int .i64 (k).armed), .sc (.bool (k).dead), .sl .lf (by8 (k).h) .ro]), .ar c2 .lf L]) := by
  obtain ⟨b, sf, room, armed, dead, h⟩ := k
  obtain ⟨w1, w2, w3, w4, w5, w6, w7⟩ := hw
  simp only at w1 w2 w3 w4 w5 w6 w7 hd hL
  subst hd
  have hL0 := hL
  obtain ⟨l1, l2, l3, l4⟩ := hL
  refine fnok_of_Ws [14] hmix tabOK Try.func22 rfl rfl (Nat.le_of_ble_eq_true rfl) ?_
  conv => whnf
  refine (c_off1 ⟨_, sf, room, armed, false, h⟩ cap c2 L).mono fun r st e => ?_
  obtain ⟨rfl, rfl⟩ := e
  conv => whnf
  refine (c_cloneLO b cap c2 L hL0 (by omega)).mono fun r st e => ?_
  obtain ⟨rfl, rfl⟩ := e
  conv => whnf
  refine ⟨false, [], ?_⟩
  conv => whnf
  exact ⟨rfl, rfl⟩
theorem c_allD1 (k : Pk) (cap c2 : Nat) (L : List AV) (hd : k.dead = true) : FnOK Try.prog D 22 [.pt 0 []] [(AV.st [.bs 1 [] .lf 0 (k).b.length cap, .sc (.int .i64 (k).sf), .sc (.int .i64 (k).room), .sc (.bool true), .sc (.int .i64 (k).armed), .sc (.bool (k).dead), .sl .lf (by8 (k).h) .ro]), .ar c2 .lf L] (fun r st => r = .tup [.sl .lf [] .ex, (AV.sc (.int .i64 (6)))] ∧ st = [(AV.st [.bs 1 [] .lf 0 (k).b.length cap, .sc (.int .i64 (k).sf), .sc (.int .i64 (k).room), .sc (.bool true), .sc (.int .i64 (k).armed), .sc (.bool (k).dead), .sl .lf (by8 (k).h) .ro]), .ar c2 .lf L]) := by
  obtain ⟨b, sf, room, armed, dead, h⟩ := k
  simp only at hd
  subst hd
  refine fnok_of_Ws [14] hmix tabOK Try.func22 rfl rfl (Nat.le_of_ble_eq_true rfl) ?_
  conv => whnf
  refine (c_off1 ⟨_, sf, room, armed, true, h⟩ cap c2 L).mono fun r st e => ?_
  obtain ⟨rfl, rfl⟩ := e
  conv => whnf
  refine ⟨false, [], ?_⟩
  conv => whnf
  exact ⟨rfl, rfl⟩
end Go.WL.T5
