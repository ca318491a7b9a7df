/- Lists of lists of blocks, of certificates, as a law's arguments. No condition. -/
import Derived.Test.YtmpnboonjpcmpaaDoorPart44
import Derived.Test.YtmpnboonjpcmpaaDoorPart46
set_option linter.unusedVariables false
set_option linter.unusedSimpArgs false
namespace Go.WL.T7b
open Go.WL Go.Proofs
set_option maxRecDepth 20000
theorem bbl_map : ∀ xs : List AV, (∀ x ∈ xs, OfTy (.sl (.nd [.ar 32 .lf, .lf, .lf, .lf, .lf]) (.st [.ar 32 .lf (.int .u8), .int .i64, .int .i64, .int .i64, .sl (.nd [.lf, .lf, .lf, .lf, .lf, .lf, .lf]) (.st [.int .i64, .int .i64, .int .i64, .int .i64, .int .i64, .str, .str])])) x) →
    ∃ l : List (List Bl), xs = bblA l ∧ ∀ (i : Nat) (h : i < l.length), l[i].length ≤ maxLen ∧ ∀ b ∈ l[i], b.p.length = 32
  | [], _ => ⟨[], rfl, fun i h => by simp at h⟩
  | x :: xs, h => by
    obtain ⟨l, e, hl⟩ := bbl_map xs fun y hy => h y (List.mem_cons_of_mem _ hy)
    obtain ⟨b, e2, h1, h2⟩ := bls_of (h x (by simp))
    refine ⟨b :: l, by rw [e, e2]; rfl, fun i hi => ?_⟩
    cases i with
    | zero => exact ⟨h1, h2⟩
    | succ i => exact hl i (by simpa using hi)
theorem certs_map : ∀ xs : List AV, (∀ x ∈ xs, OfTy (.st [.st [.int .i64, .int .i64, .int .i64, .int .i64, .ar 32 .lf (.int .u8), .int .i64, .ar 32 .lf (.int .u8), .ar 32 .lf (.int .u8)], .sl (.nd [.lf, .ar 32 .lf]) (.st [.int .i64, .ar 32 .lf (.int .u8)])]) x) →
    ∃ l : List Ct, xs = certsA l ∧ ∀ y ∈ l, y.a.wf ∧ sigOK y.s
  | [], _ => ⟨[], rfl, fun i h => by simp at h⟩
  | x :: xs, h => by
    obtain ⟨l, e, hl⟩ := certs_map xs fun y hy => h y (List.mem_cons_of_mem _ hy)
    obtain ⟨a, s, e2, h1, h2⟩ := cert_of (h x (by simp))
    refine ⟨⟨a, s⟩ :: l, by rw [e, e2]; rfl, fun y hy => ?_⟩
    rcases List.mem_cons.1 hy with rfl | hy
    · exact ⟨h1, h2⟩
    · exact hl y hy
end Go.WL.T7b
