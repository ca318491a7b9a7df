/- What any acts tell, and leave: the arguments. No condition. -/
import Derived.Test.YtdlgmddegldcjaaPart19
import Derived.Test.YtdlgmddegldcjaaWordsD
set_option linter.unusedVariables false
set_option linter.unusedSimpArgs false
namespace Go.WL.T5
open Go.WL Go.Proofs
theorem ac_of {v : AV} (h : OfTy (.st [.int .i64, .sl .lf (.int .u8), .int .i64]) v) : ∃ a : Ac, v = (AV.st [.sc (.int .i64 (a).d), .sl .lf (by8 (a).b) .ro, .sc (.int .i64 (a).n)]) ∧ a.n < 9223372036854775808 := by
  obtain ⟨xs, rfl, x0, _, rfl, ⟨d, rfl, _⟩, x1, _, rfl, h1, x2, _, rfl, ⟨n, rfl, hn⟩, rfl⟩ := h
  obtain ⟨b, rfl, _⟩ := bytes_of h1
  exact ⟨⟨d, b, n⟩, rfl, (wf_i64 hn).2⟩
theorem acs_map : ∀ xs : List AV, (∀ x ∈ xs, OfTy (.st [.int .i64, .sl .lf (.int .u8), .int .i64]) x) → ∃ l : List Ac, xs = acA l ∧ ∀ a ∈ l, a.n < 9223372036854775808
  | [], _ => ⟨[], rfl, fun a ha => by simp at ha⟩
  | x :: xs, h => by
    obtain ⟨l, e, hl⟩ := acs_map xs fun y hy => h y (List.mem_cons_of_mem _ hy)
    obtain ⟨a, e2, ha⟩ := ac_of (h x (by simp))
    refine ⟨a :: l, by rw [e, e2]; rfl, fun y hy => ?_⟩
    rcases List.mem_cons.1 hy with rfl | hy
    · exact ha
    · exact hl y hy
theorem acts_of {v : AV} (h : OfTy (.sl (.nd [.lf, .lf, .lf]) (.st [.int .i64, .sl .lf (.int .u8), .int .i64])) v) : ∃ l : List Ac, v = (AV.sl (.nd [.lf, .lf, .lf]) (acA (l)) .ro) ∧ l.length ≤ 9223372036854775807 ∧ ∀ a ∈ l, a.n < 9223372036854775808 := by
  obtain ⟨xs, rfl, h1, h2⟩ := h
  obtain ⟨l, rfl, hl⟩ := acs_map xs h2
  rw [ac_len] at h1
  exact ⟨l, rfl, by have : maxLen = 9223372036854775807 := rfl; omega, hl⟩
end Go.WL.T5
