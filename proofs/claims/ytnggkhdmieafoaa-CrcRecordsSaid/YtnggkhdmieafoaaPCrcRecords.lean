/- What 'tithing/tithinglaw05.CrcRecords' states: whatever the input, it returns true, and the input reads as it did. No condition. -/
import Derived.Test.YtnggkhdmieafoaaRows
import Derived.Test.YtnggkhdmieafoaaWordsC
import Derived.Test.YtnggkhdmieafoaaPartA
set_option linter.unusedVariables false
set_option linter.unusedSimpArgs false
namespace Go.Proofs.Ytnggkhdmieafoaa.crcRecords
open Go.ChangeShapes Go.WideShapes Go.ChangeAt Go.RowKit Go.WL Go.WL.T1

theorem own : ownKnob Try.prog.godebug = none := by kernel_rfl
theorem laidOut : laidOutB Try.prog = true := by kernel_rfl
set_option maxRecDepth 100000 in
theorem lifted (os : Os) (started : os.Started) (H : Type) (enc : TypeId × Value → H) :
    ReturnsInHanded {} Try.checked os 7 .any (Rows.crcRecordsSpec.pre6 enc Try.prog Try.f7 Rows.crcRecordsRow.domain false) (Rows.crcRecordsSpec.post enc Try.prog Try.f7 false true false false) :=
  law_lifted (C := Try.checked) tabOK rfl own laidOut (by kernel_rfl) Try.func7 rfl rfl (s := Rows.crcRecordsSpec) (bt := 4) (ts := [22, 22]) (tys := [.sl .lf (.int .u8), .sl .lf (.int .u8)]) rfl Try.underlying4 rfl (by kernel_rfl) rfl rfl
    (fun H ds h => by match ds, h with | [d1, d2], _ => rfl) started
    (ChangeSpec.witness6 (enc := enc) (C := Try.checked) false ⟨#[], #[.slice none 0 0, .slice none 0 0], []⟩ 8 (by kernel_rfl) (by kernel_rfl) (by kernel_rfl) (by kernel_rfl))
    (fun xs h => by
      obtain ⟨x0, _, rfl, h0, x1, _, rfl, h1, rfl⟩ := h
      obtain ⟨b, rfl, hb⟩ := bytes_of h0
      obtain ⟨c, rfl, hc⟩ := bytes_of h1
      exact c_reclaw b c)
theorem over : Rows.crcRecordsRow.holds Try.pinned (OpenSpec.ofChange Rows.crcRecordsSpec) :=
  OpenClaim.holds_of_wide 7 Try.f7 rfl rfl rfl rfl rfl rfl rfl ⟨rfl, rfl, rfl, rfl, rfl⟩ rfl rfl rfl rfl rfl (by kernel_rfl) Try.func7 (by kernel_rfl)
    (of_decide_eq_true (by kernel_rfl)) (by unfold Func.isWrapper; first | (rw [if_pos (by decide +kernel)]; kernel_rfl) | (rw [if_neg (by decide +kernel)]; exact ⟨rfl, rfl⟩))
    (fun os started H enc _ => lifted os started H enc)

theorem proved : Rows.CrcRecordsSaid := over
end Go.Proofs.Ytnggkhdmieafoaa.crcRecords
