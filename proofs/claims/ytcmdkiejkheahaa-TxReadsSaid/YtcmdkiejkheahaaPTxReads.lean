/- What 'tithing/tithinglaw06.TxReads' states: whatever the input, it returns true, and the input reads as it did. No condition. -/
import Derived.Test.YtcmdkiejkheahaaRows
import Derived.Test.YtcmdkiejkheahaaWordsC
import Derived.Test.YtcmdkiejkheahaaPart18
set_option linter.unusedVariables false
set_option linter.unusedSimpArgs false
namespace Go.Proofs.Ytcmdkiejkheahaa.txReads
open Go.ChangeShapes Go.WideShapes Go.ChangeAt Go.RowKit Go.WL Go.WL.T6

theorem own : ownKnob Try.prog.godebug = none := by kernel_rfl
theorem laidOut : laidOutB Try.prog = true := by kernel_rfl
set_option maxRecDepth 100000 in
theorem lifted (os : Os) (started : os.Started) (H : Type) (enc : TypeId × Value → H) :
    ReturnsInHanded {} Try.checked os 4 .any (Rows.txReadsSpec.pre6 enc Try.prog Try.f4 Rows.txReadsRow.domain false) (Rows.txReadsSpec.post enc Try.prog Try.f4 false true false false) :=
  law_lifted (C := Try.checked) tabOK rfl own laidOut (by kernel_rfl) Try.func4 rfl rfl (s := Rows.txReadsSpec) (bt := 4) (ts := [27]) (tys := [.sl .lf (.int .u8)]) rfl Try.underlying4 rfl (by kernel_rfl) rfl rfl
    (fun H ds h => by match ds, h with | [d1], _ => rfl) started
    (ChangeSpec.witness6 (enc := enc) (C := Try.checked) false ⟨#[], #[.slice none 0 0], []⟩ 8 (by kernel_rfl) (by kernel_rfl) (by kernel_rfl) (by kernel_rfl))
    (fun xs h => by
      obtain ⟨x0, _, rfl, h0, rfl⟩ := h
      obtain ⟨b, rfl, _⟩ := bytes_of h0
      exact c_txreads b)
theorem over : Rows.txReadsRow.holds Try.pinned (OpenSpec.ofChange Rows.txReadsSpec) :=
  OpenClaim.holds_of_wide 4 Try.f4 rfl rfl rfl rfl rfl rfl rfl ⟨rfl, rfl, rfl, rfl, rfl⟩ rfl rfl rfl rfl rfl (by kernel_rfl) Try.func4 (by kernel_rfl)
    (of_decide_eq_true (by kernel_rfl)) (by unfold Func.isWrapper; first | (rw [if_pos (by decide +kernel)]; kernel_rfl) | (rw [if_neg (by decide +kernel)]; exact ⟨rfl, rfl⟩))
    (fun os started H enc _ => lifted os started H enc)

theorem proved : Rows.TxReadsSaid := over
end Go.Proofs.Ytcmdkiejkheahaa.txReads
