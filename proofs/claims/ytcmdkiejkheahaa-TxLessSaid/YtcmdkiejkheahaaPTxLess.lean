/- What 'tithing/tithinglaw06.TxLess' states: whatever the input, it returns true, and the input reads as it did. No condition. -/
import Derived.Test.YtcmdkiejkheahaaRows
import Derived.Test.YtcmdkiejkheahaaWordsC
import Derived.Test.YtcmdkiejkheahaaPart18
set_option linter.unusedVariables false
set_option linter.unusedSimpArgs false
namespace Go.Proofs.Ytcmdkiejkheahaa.txLess
open Go.ChangeShapes Go.WideShapes Go.ChangeAt Go.RowKit Go.WL Go.WL.T6

theorem own : ownKnob Try.prog.godebug = none := by kernel_rfl
theorem laidOut : laidOutB Try.prog = true := by kernel_rfl
set_option maxRecDepth 100000 in
theorem lifted (os : Os) (started : os.Started) (H : Type) (enc : TypeId × Value → H) :
    ReturnsInHanded {} Try.checked os 3 .any (Rows.txLessSpec.pre6 enc Try.prog Try.f3 Rows.txLessRow.domain false) (Rows.txLessSpec.post enc Try.prog Try.f3 false true false false) :=
  law_lifted (C := Try.checked) tabOK rfl own laidOut (by kernel_rfl) Try.func3 rfl rfl (s := Rows.txLessSpec) (bt := 4) (ts := [23, 23, 23]) (tys := [.st [.int .i64, .int .i64, .int .i64, .int .i64, .int .i64, .str, .str], .st [.int .i64, .int .i64, .int .i64, .int .i64, .int .i64, .str, .str], .st [.int .i64, .int .i64, .int .i64, .int .i64, .int .i64, .str, .str]]) rfl Try.underlying4 rfl (by kernel_rfl) rfl rfl
    (fun H ds h => by match ds, h with | [d1, d2, d3], _ => rfl) started
    (ChangeSpec.witness6 (enc := enc) (C := Try.checked) false ⟨#[], #[.agg #[.int .i64 0, .int .i64 0, .int .i64 0, .int .i64 0, .int .i64 0, .string ⟨#[]⟩, .string ⟨#[]⟩], .agg #[.int .i64 0, .int .i64 0, .int .i64 0, .int .i64 0, .int .i64 0, .string ⟨#[]⟩, .string ⟨#[]⟩], .agg #[.int .i64 0, .int .i64 0, .int .i64 0, .int .i64 0, .int .i64 0, .string ⟨#[]⟩, .string ⟨#[]⟩]], []⟩ 8 (by kernel_rfl) (by kernel_rfl) (by kernel_rfl) (by kernel_rfl))
    (fun xs h => by
      obtain ⟨x0, _, rfl, h0, x1, _, rfl, h1, x2, _, rfl, h2, rfl⟩ := h
      obtain ⟨a, rfl⟩ := tx_of h0
      obtain ⟨b, rfl⟩ := tx_of h1
      obtain ⟨c, rfl⟩ := tx_of h2
      exact c_txless a b c)
theorem over : Rows.txLessRow.holds Try.pinned (OpenSpec.ofChange Rows.txLessSpec) :=
  OpenClaim.holds_of_wide 3 Try.f3 rfl rfl rfl rfl rfl rfl rfl ⟨rfl, rfl, rfl, rfl, rfl⟩ rfl rfl rfl rfl rfl (by kernel_rfl) Try.func3 (by kernel_rfl)
    (of_decide_eq_true (by kernel_rfl)) (by unfold Func.isWrapper; first | (rw [if_pos (by decide +kernel)]; kernel_rfl) | (rw [if_neg (by decide +kernel)]; exact ⟨rfl, rfl⟩))
    (fun os started H enc _ => lifted os started H enc)

theorem proved : Rows.TxLessSaid := over
end Go.Proofs.Ytcmdkiejkheahaa.txLess
