/- Blocks whose parents are not there yet: acts, as an argument. No condition. -/
import Derived.Test.YtcmdkiejkheahaaDoorPart42
import Derived.Test.YtcmdkiejkheahaaDoorPart43
import Derived.Test.YtcmdkiejkheahaaDoorWordsD
set_option linter.unusedVariables false
set_option linter.unusedSimpArgs false
namespace Go.WL.T6d
open Go.WL Go.Proofs
theorem oc_of {v : AV} (h : OfTy (.st [.int .i64, .st [.ar 32 .lf (.int .u8), .int .i64, .int .i64, .int .i64, .sl (.nd [.lf, .lf, .lf, .lf, .lf, .lf, .lf]) (.st [.int .i64, .int .i64, .int .i64, .int .i64, .int .i64, .str, .str])], .int .i64]) v) : ∃ a : Oc, v = (AV.st [.sc (.int .i64 (a).d), (AV.st [.ar 32 .lf (by8 (a).b.p), .sc (.int .i64 (a).b.v), .sc (.int .i64 (a).b.h), .sc (.int .i64 (a).b.by_), .sl (.nd [.lf, .lf, .lf, .lf, .lf, .lf, .lf]) (txsA (a).b.txs) .ro]), .sc (.int .i64 (a).n)]) ∧ a.b.p.length = 32 := by
  obtain ⟨xs, rfl, x0, _, rfl, ⟨d, rfl, _⟩, x1, _, rfl, h1, x2, _, rfl, ⟨n, rfl, _⟩, rfl⟩ := h
  obtain ⟨b, rfl, hb⟩ := bl_of h1
  exact ⟨⟨d, b, n⟩, rfl, hb⟩
theorem ocs_map : ∀ xs : List AV, (∀ x ∈ xs, OfTy (.st [.int .i64, .st [.ar 32 .lf (.int .u8), .int .i64, .int .i64, .int .i64, .sl (.nd [.lf, .lf, .lf, .lf, .lf, .lf, .lf]) (.st [.int .i64, .int .i64, .int .i64, .int .i64, .int .i64, .str, .str])], .int .i64]) x) → ∃ l : List Oc, xs = ocA l ∧ ∀ a ∈ l, a.b.p.length = 32
  | [], _ => ⟨[], rfl, fun a h => by simp at h⟩
  | x :: xs, h => by
    obtain ⟨l, e, hl⟩ := ocs_map xs fun y hy => h y (List.mem_cons_of_mem _ hy)
    obtain ⟨a, e2, ha⟩ := oc_of (h x (by simp))
    refine ⟨a :: l, by rw [e, e2]; rfl, fun c hc => ?_⟩
    rcases List.mem_cons.1 hc with rfl | hc
    · exact ha
    · exact hl c hc
theorem ocs_of {v : AV} (h : OfTy (.sl (.nd [.lf, .nd [.ar 32 .lf, .lf, .lf, .lf, .lf], .lf]) (.st [.int .i64, .st [.ar 32 .lf (.int .u8), .int .i64, .int .i64, .int .i64, .sl (.nd [.lf, .lf, .lf, .lf, .lf, .lf, .lf]) (.st [.int .i64, .int .i64, .int .i64, .int .i64, .int .i64, .str, .str])], .int .i64])) v) : ∃ l : List Oc, v = (AV.sl (.nd [.lf, .nd [.ar 32 .lf, .lf, .lf, .lf, .lf], .lf]) (ocA (l)) .ro) ∧ ∀ a ∈ l, a.b.p.length = 32 := by
  obtain ⟨xs, rfl, _, h2⟩ := h
  obtain ⟨l, rfl, hl⟩ := ocs_map xs h2
  exact ⟨l, rfl, hl⟩
end Go.WL.T6d
