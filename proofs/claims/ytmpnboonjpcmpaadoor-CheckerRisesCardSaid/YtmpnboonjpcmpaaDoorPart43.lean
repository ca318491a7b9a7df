/- Seals, accumulations, requests as a law's arguments. No condition. -/
import Derived.Test.YtmpnboonjpcmpaaDoorPart42
set_option linter.unusedVariables false
set_option linter.unusedSimpArgs false
namespace Go.WL.T7
open Go.WL Go.Proofs
set_option maxRecDepth 20000
theorem sea_of {v : AV} (h : OfTy (.st [.int .i64, .int .i64, .int .i64, .ar 32 .lf (.int .u8)]) v) : ∃ s : Se, v = (AV.st [.sc (.int .i64 (s).v), .sc (.int .i64 (s).ph), .sc (.int .i64 (s).pv), .ar 32 .lf (by8 (s).pg)]) := by
  obtain ⟨_, rfl, y0, _, rfl, ⟨v, rfl, _⟩, y1, _, rfl, ⟨p, rfl, _⟩, y2, _, rfl, ⟨q, rfl, _⟩, y3, _, rfl, k3, rfl⟩ := h
  obtain ⟨g, rfl, _⟩ := arr_of k3
  exact ⟨⟨v, p, q, g⟩, rfl⟩
theorem acu_of {v : AV} (h : OfTy (.st [.int .i64, .int .i64, .int .i64, .ar 32 .lf (.int .u8), .sl .lf (.int .i64), .ar 32 .lf (.int .u8)]) v) : ∃ a : Ac, v = (AV.st [.sc (.int .i64 (a).by_), .sc (.int .i64 (a).v), .sc (.int .i64 (a).pv), .ar 32 .lf (by8 (a).pg), .sl .lf (ints .i64 (a).fr) .ro, .ar 32 .lf (by8 (a).tag)]) ∧ a.wf := by
  obtain ⟨_, rfl, y0, _, rfl, ⟨y, rfl, _⟩, y1, _, rfl, ⟨v, rfl, _⟩, y2, _, rfl, ⟨q, rfl, _⟩, y3, _, rfl, k3, y4, _, rfl, k4, y5, _, rfl, k5, rfl⟩ := h
  obtain ⟨g, rfl, h1⟩ := arr_of k3
  obtain ⟨f, rfl, _, _⟩ := ints_of k4
  obtain ⟨t, rfl, h2⟩ := arr_of k5
  exact ⟨⟨y, v, q, g, f, t⟩, rfl, h1, h2⟩
theorem sp_of {v : AV} (h : OfTy (.st [.int .i64, .int .i64, .st [.ar 32 .lf (.int .u8), .int .i64, .int .i64, .int .i64, .sl (.nd [.lf, .lf, .lf, .lf, .lf, .lf, .lf]) (.st [.int .i64, .int .i64, .int .i64, .int .i64, .int .i64, .str, .str])], .st [.int .i64, .int .i64, .int .i64, .ar 32 .lf (.int .u8), .sl .lf (.int .i64), .ar 32 .lf (.int .u8)], .st [.st [.int .i64, .int .i64, .int .i64, .int .i64, .ar 32 .lf (.int .u8), .int .i64, .ar 32 .lf (.int .u8), .ar 32 .lf (.int .u8)], .sl (.nd [.lf, .ar 32 .lf]) (.st [.int .i64, .ar 32 .lf (.int .u8)])]]) v) :
    ∃ x : Sp, v = .st [(AV.sc (.int .i64 (x.d))), (AV.sc (.int .i64 (x.v))), (AV.st [.ar 32 .lf (by8 (x.b).p), .sc (.int .i64 (x.b).v), .sc (.int .i64 (x.b).h), .sc (.int .i64 (x.b).by_), .sl (.nd [.lf, .lf, .lf, .lf, .lf, .lf, .lf]) (txsA (x.b).txs) .ro]), (AV.st [.sc (.int .i64 (x.a).by_), .sc (.int .i64 (x.a).v), .sc (.int .i64 (x.a).pv), .ar 32 .lf (by8 (x.a).pg), .sl .lf (ints .i64 (x.a).fr) .ro, .ar 32 .lf (by8 (x.a).tag)]), .st [(AV.st [.sc (.int .i64 (x.t).by_), .sc (.int .i64 (x.t).k), .sc (.int .i64 (x.t).v), .sc (.int .i64 (x.t).ph), .ar 32 .lf (by8 (x.t).h), .sc (.int .i64 (x.t).pv), .ar 32 .lf (by8 (x.t).pg), .ar 32 .lf (by8 (x.t).tag)]), (AV.sl (.nd [.lf, .ar 32 .lf]) (sigsA (x.l)) .ro)]] ∧ x.b.p.length = 32 ∧ x.a.wf ∧ x.t.wf ∧ sigOK x.l := by
  obtain ⟨_, rfl, y0, _, rfl, ⟨d, rfl, _⟩, y1, _, rfl, ⟨v, rfl, _⟩, y2, _, rfl, k2, y3, _, rfl, k3, y4, _, rfl, k4, rfl⟩ := h
  obtain ⟨b, rfl, hb⟩ := bl_of k2
  obtain ⟨a, rfl, ha⟩ := acu_of k3
  obtain ⟨t, l, rfl, ht, hl⟩ := cert_of k4
  exact ⟨⟨d, v, b, a, t, l⟩, rfl, hb, ha, ht, hl⟩
end Go.WL.T7
