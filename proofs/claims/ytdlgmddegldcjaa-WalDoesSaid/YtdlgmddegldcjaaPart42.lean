/- Acts of a wal, as an argument. No condition. -/
import Derived.Test.YtdlgmddegldcjaaPart19
import Derived.Test.YtdlgmddegldcjaaWordsD
import Derived.Test.YtdlgmddegldcjaaPart36
set_option linter.unusedVariables false
set_option linter.unusedSimpArgs false
namespace Go.WL.T5
open Go.WL Go.Proofs
theorem ac_of {v : AV} (h : OfTy (.st [.int .i64, .sl .lf (.int .u8), .int .i64]) v) : ∃ a : Ac, v = (AV.st [.sc (.int .i64 (a).d), .sl .lf (by8 (a).b) .ro, .sc (.int .i64 (a).n)]) ∧ a.n < 9223372036854775808 := by
  obtain ⟨xs, rfl, x0, _, rfl, ⟨d, rfl, _⟩, x1, _, rfl, h1, x2, _, rfl, ⟨n, rfl, hn⟩, rfl⟩ := h
  obtain ⟨b, rfl, _⟩ := bytes_of h1
  exact ⟨⟨d, b, n⟩, rfl, (wf_i64 hn).2⟩
theorem acs_map : ∀ xs : List AV, (∀ x ∈ xs, OfTy (.st [.int .i64, .sl .lf (.int .u8), .int .i64]) x) → ∃ l : List Ac, xs = acA l ∧ ∀ a ∈ l, a.n < 9223372036854775808
  | [], _ => ⟨[], rfl, fun a ha => by simp at ha⟩
  | x :: xs, h => by
    obtain ⟨l, e, hl⟩ := acs_map xs fun y hy => h y (List.mem_cons_of_mem _ hy)
    obtain ⟨a, e2, ha⟩ := ac_of (h x (by simp))
    refine ⟨a :: l, by rw [e, e2]; rfl, fun y hy => ?_⟩
    rcases List.mem_cons.1 hy with rfl | hy
    · exact ha
    · exact hl y hy
theorem acts_of {v : AV} (h : OfTy (.sl (.nd [.lf, .lf, .lf]) (.st [.int .i64, .sl .lf (.int .u8), .int .i64])) v) : ∃ l : List Ac, v = (AV.sl (.nd [.lf, .lf, .lf]) (acA (l)) .ro) ∧ l.length ≤ 9223372036854775807 ∧ ∀ a ∈ l, a.n < 9223372036854775808 := by
  obtain ⟨xs, rfl, h1, h2⟩ := h
  obtain ⟨l, rfl, hl⟩ := acs_map xs h2
  rw [ac_len] at h1
  exact ⟨l, rfl, by have : maxLen = 9223372036854775807 := rfl; omega, hl⟩
end Go.WL.T5
namespace Go.WL.T5
open Go.WL Go.Proofs
theorem wc_of {v : AV} (h : OfTy (.st [.int .i64, .sl .lf (.sl .lf (.int .u8)), .st [.int .i64, .sl .lf (.int .u8), .int .i64], .int .u8]) v) : ∃ w : Wc, v = (AV.st [.sc (.int .i64 (w).d), .sl .lf ((w).l.map fun b => AV.sl .lf (by8 b) .ro) .ro, AV.st [.sc (.int .i64 (w).a.d), .sl .lf (by8 (w).a.b) .ro, .sc (.int .i64 (w).a.n)], .sc (.int .u8 ((w).y.toNat : Int))]) ∧ w.a.n < 9223372036854775808 := by
  obtain ⟨xs, rfl, x0, _, rfl, ⟨d, rfl, _⟩, x1, _, rfl, h1, x2, _, rfl, h2, x3, _, rfl, ⟨y, rfl, hy⟩, rfl⟩ := h
  obtain ⟨l, rfl, _⟩ := lists_of h1
  obtain ⟨a, rfl, ha⟩ := ac_of h2
  obtain ⟨n, rfl⟩ : ∃ n : UInt8, y = (n.toNat : Int) := by
    have hy2 : 0 ≤ y ∧ y < 256 := by simp [Lit.wf, IntKind.min, IntKind.max, IntKind.signed, IntKind.bits] at hy; omega
    refine ⟨UInt8.ofNat y.toNat, ?_⟩
    rw [UInt8.toNat_ofNat']
    omega
  exact ⟨⟨d, l, a, n⟩, rfl, ha⟩
theorem wcs_map : ∀ xs : List AV, (∀ x ∈ xs, OfTy (.st [.int .i64, .sl .lf (.sl .lf (.int .u8)), .st [.int .i64, .sl .lf (.int .u8), .int .i64], .int .u8]) x) → ∃ l : List Wc, xs = wcA l ∧ ∀ w ∈ l, w.a.n < 9223372036854775808
  | [], _ => ⟨[], rfl, fun a ha => by simp at ha⟩
  | x :: xs, h => by
    obtain ⟨l, e, hl⟩ := wcs_map xs fun y hy => h y (List.mem_cons_of_mem _ hy)
    obtain ⟨a, e2, ha⟩ := wc_of (h x (by simp))
    refine ⟨a :: l, by rw [e, e2]; rfl, fun y hy => ?_⟩
    rcases List.mem_cons.1 hy with rfl | hy
    · exact ha
    · exact hl y hy
theorem wcs_of {v : AV} (h : OfTy (.sl (.nd [.lf, .lf, .nd [.lf, .lf, .lf], .lf]) (.st [.int .i64, .sl .lf (.sl .lf (.int .u8)), .st [.int .i64, .sl .lf (.int .u8), .int .i64], .int .u8])) v) : ∃ l : List Wc, v = (AV.sl (.nd [.lf, .lf, .nd [.lf, .lf, .lf], .lf]) (wcA (l)) .ro) ∧ l.length ≤ 9223372036854775807 ∧ ∀ w ∈ l, w.a.n < 9223372036854775808 := by
  obtain ⟨xs, rfl, h1, h2⟩ := h
  obtain ⟨l, rfl, hl⟩ := wcs_map xs h2
  rw [wc_len] at h1
  exact ⟨l, rfl, by have : maxLen = 9223372036854775807 := rfl; omega, hl⟩
end Go.WL.T5
