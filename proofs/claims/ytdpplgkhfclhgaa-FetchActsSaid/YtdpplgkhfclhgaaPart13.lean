/- Acts of a fetcher, as an argument. No condition. -/
import Derived.Test.YtdpplgkhfclhgaaPart11
import Derived.Test.YtdpplgkhfclhgaaWordsD
set_option linter.unusedVariables false
set_option linter.unusedSimpArgs false
namespace Go.WL.T8
open Go.WL Go.Proofs
theorem fa_of {v : AV} (h : OfTy (.st [.int .i64, .int .u8, .int .i64]) v) : ∃ x : Fc, v = (AV.st [.sc (.int .i64 (x).d), .sc (.int .u8 ((x).b.toNat : Int)), .sc (.int .i64 (x).of_)]) := by
  obtain ⟨xs, rfl, x0, _, rfl, ⟨d, rfl, _⟩, x1, _, rfl, ⟨y, rfl, hy⟩, x2, _, rfl, ⟨o, rfl, _⟩, rfl⟩ := h
  obtain ⟨n, rfl⟩ : ∃ n : UInt8, y = (n.toNat : Int) := by
    have hy2 : 0 ≤ y ∧ y < 256 := by simp [Lit.wf, IntKind.min, IntKind.max, IntKind.signed, IntKind.bits] at hy; omega
    refine ⟨UInt8.ofNat y.toNat, ?_⟩
    rw [UInt8.toNat_ofNat']
    omega
  exact ⟨⟨d, n, o⟩, rfl⟩
theorem fas_map : ∀ xs : List AV, (∀ x ∈ xs, OfTy (.st [.int .i64, .int .u8, .int .i64]) x) → ∃ l : List Fc, xs = faA l
  | [], _ => ⟨[], rfl⟩
  | x :: xs, h => by
    obtain ⟨l, e⟩ := fas_map xs fun y hy => h y (List.mem_cons_of_mem _ hy)
    obtain ⟨a, e2⟩ := fa_of (h x (by simp))
    exact ⟨a :: l, by rw [e, e2]; rfl⟩
theorem fas_of {v : AV} (h : OfTy (.sl (.nd [.lf, .lf, .lf]) (.st [.int .i64, .int .u8, .int .i64])) v) : ∃ l : List Fc, v = (AV.sl (.nd [.lf, .lf, .lf]) (faA (l)) .ro) ∧ l.length ≤ 9223372036854775807 := by
  obtain ⟨xs, rfl, h1, h2⟩ := h
  obtain ⟨l, rfl⟩ := fas_map xs h2
  rw [fa_len] at h1
  exact ⟨l, rfl, by have : maxLen = 9223372036854775807 := rfl; omega⟩
end Go.WL.T8
