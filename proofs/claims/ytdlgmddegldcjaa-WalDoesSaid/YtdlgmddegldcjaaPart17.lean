/- Is a disk as it must be? No condition. -/
import Derived.Test.YtdlgmddegldcjaaPart15
import Derived.Test.YtdlgmddegldcjaaPart03
set_option linter.unusedVariables false
set_option linter.unusedSimpArgs false
namespace Go.WL.T5
open Go.WL Go.Proofs
set_option maxRecDepth 20000
set_option maxHeartbeats 8000000
theorem c_like0 (p : Pk) (r : Rk) (hb0 : p.b = []) (hp : WFk p) (hr : WFr r) (h1 : p.dead = r.dead) (h2 : p.sf = r.s.length) (h3 : p.b = r.s ++ r.m) : FnOK Try.prog D 20 [.pt 0 [], (AV.st [.sl .lf (by8 (r).s) .ro, .sl .lf (by8 (r).m) .ro, .sl .lf (by8 (r).h) .ro, .sc (.int .i64 (r).room), .sc (.int .i64 (r).armed), .sc (.bool (r).dead)])] [(AV.st [.sl .lf [] .ex, .sc (.int .i64 (p).sf), .sc (.int .i64 (p).room), .sc (.bool true), .sc (.int .i64 (p).armed), .sc (.bool (p).dead), .sl .lf (by8 (p).h) .ro])] (fun q st => q = (AV.sc (.bool (true))) ∧ st = [(AV.st [.sl .lf [] .ex, .sc (.int .i64 (p).sf), .sc (.int .i64 (p).room), .sc (.bool true), .sc (.int .i64 (p).armed), .sc (.bool (p).dead), .sl .lf (by8 (p).h) .ro])]) := by
  have cd := c_dead0 p
  have cs := c_safe0 p
  have ca := c_all0 p hb0 hp
  have cr := c_rall r hr
  have hb8 : p.b.length < 9223372036854775807 := by
    have := hp.2.2.1
    have := hp.2.1
    omega
  obtain ⟨s, m, h, room, armed, dead⟩ := r
  obtain ⟨pb, psf, proom, parmed, pdead, ph⟩ := p
  simp only at h1 h2 h3
  subst h1 h2 h3
  refine fnok_of_W hmix tabOK Try.func20 rfl rfl (Nat.le_of_ble_eq_true rfl) ?_
  conv => whnf
  refine ⟨tabF20R1, by decide +kernel, ?_⟩
  conv => whnf
  refine ⟨_, _, cd, ?_⟩
  conv => whnf
  cases pdead with
  | true =>
    conv => whnf
    refine ⟨_, _, cs, ?_⟩
    conv => whnf
    rw [len8, show ((s.length : Int) != (s.length : Int)) = false from bne_self_eq_false _]
    conv => whnf
    refine (ca).mono fun r st e => ?_
    obtain ⟨rfl, rfl⟩ := e
    conv => whnf
    refine ⟨false, [], ?_⟩
    conv => whnf
    exact ⟨rfl, rfl⟩
  | false =>
    conv => whnf
    refine ⟨_, _, cs, ?_⟩
    conv => whnf
    rw [len8, show ((s.length : Int) != (s.length : Int)) = false from bne_self_eq_false _]
    conv => whnf
    refine (ca).mono fun r st e => ?_
    obtain ⟨rfl, rfl⟩ := e
    conv => whnf
    refine (cr).mono fun r st e => ?_
    obtain ⟨rfl, rfl⟩ := e
    conv => whnf
    refine (c_same (s ++ m) (s ++ m) hb8 (m1 := .ro) (m2 := .ro) (.inr rfl) (.inr rfl)).mono fun r st e => ?_
    obtain ⟨rfl, rfl⟩ := e
    conv => whnf
    rw [beq_self_eq_true]
    refine ⟨false, [], ?_⟩
    conv => whnf
    exact ⟨rfl, rfl⟩
theorem c_like1 (p : Pk) (r : Rk) (cap c2 : Nat) (L : List AV) (hL : OKL p.b cap c2 L) (hp : WFk p) (hr : WFr r) (h1 : p.dead = r.dead) (h2 : p.sf = r.s.length) (h3 : p.b = r.s ++ r.m) : FnOK Try.prog D 20 [.pt 0 [], (AV.st [.sl .lf (by8 (r).s) .ro, .sl .lf (by8 (r).m) .ro, .sl .lf (by8 (r).h) .ro, .sc (.int .i64 (r).room), .sc (.int .i64 (r).armed), .sc (.bool (r).dead)])] [(AV.st [.bs 1 [] .lf 0 (p).b.length cap, .sc (.int .i64 (p).sf), .sc (.int .i64 (p).room), .sc (.bool true), .sc (.int .i64 (p).armed), .sc (.bool (p).dead), .sl .lf (by8 (p).h) .ro]), .ar c2 .lf L] (fun q st => q = (AV.sc (.bool (true))) ∧ st = [(AV.st [.bs 1 [] .lf 0 (p).b.length cap, .sc (.int .i64 (p).sf), .sc (.int .i64 (p).room), .sc (.bool true), .sc (.int .i64 (p).armed), .sc (.bool (p).dead), .sl .lf (by8 (p).h) .ro]), .ar c2 .lf L]) := by
  have cd := c_dead1 p cap c2 L
  have cs := c_safe1 p cap c2 L
  have ca := c_all1 p cap c2 L hL hp
  have cr := c_rall r hr
  have hb8 : p.b.length < 9223372036854775807 := by
    have := hp.2.2.1
    have := hp.2.1
    omega
  obtain ⟨s, m, h, room, armed, dead⟩ := r
  obtain ⟨pb, psf, proom, parmed, pdead, ph⟩ := p
  simp only at h1 h2 h3
  subst h1 h2 h3
  refine fnok_of_W hmix tabOK Try.func20 rfl rfl (Nat.le_of_ble_eq_true rfl) ?_
  conv => whnf
  refine ⟨tabF20R1, by decide +kernel, ?_⟩
  conv => whnf
  refine ⟨_, _, cd, ?_⟩
  conv => whnf
  cases pdead with
  | true =>
    conv => whnf
    refine ⟨_, _, cs, ?_⟩
    conv => whnf
    rw [len8, show ((s.length : Int) != (s.length : Int)) = false from bne_self_eq_false _]
    conv => whnf
    refine (ca).mono fun r st e => ?_
    obtain ⟨rfl, rfl⟩ := e
    conv => whnf
    refine ⟨false, [], ?_⟩
    conv => whnf
    exact ⟨rfl, rfl⟩
  | false =>
    conv => whnf
    refine ⟨_, _, cs, ?_⟩
    conv => whnf
    rw [len8, show ((s.length : Int) != (s.length : Int)) = false from bne_self_eq_false _]
    conv => whnf
    refine (ca).mono fun r st e => ?_
    obtain ⟨rfl, rfl⟩ := e
    conv => whnf
    refine (cr).mono fun r st e => ?_
    obtain ⟨rfl, rfl⟩ := e
    conv => whnf
    refine (c_same (s ++ m) (s ++ m) hb8 (m1 := .ro) (m2 := .ro) (.inr rfl) (.inr rfl)).mono fun r st e => ?_
    obtain ⟨rfl, rfl⟩ := e
    conv => whnf
    rw [beq_self_eq_true]
    refine ⟨false, [], ?_⟩
    conv => whnf
    exact ⟨rfl, rfl⟩
end Go.WL.T5
