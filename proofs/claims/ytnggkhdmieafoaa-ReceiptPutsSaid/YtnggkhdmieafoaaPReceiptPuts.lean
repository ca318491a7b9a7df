/- What 'tithing/tithinglaw25.ReceiptPuts' states: whatever the input, it returns true, and the input reads as it did. No condition. -/
import Derived.Test.YtnggkhdmieafoaaRows
import Derived.Test.YtnggkhdmieafoaaWordsC
import Derived.Test.YtnggkhdmieafoaaPartA
set_option linter.unusedVariables false
set_option linter.unusedSimpArgs false
namespace Go.Proofs.Ytnggkhdmieafoaa.receiptPuts
open Go.ChangeShapes Go.WideShapes Go.ChangeAt Go.RowKit Go.WL Go.WL.T1

theorem own : ownKnob Try.prog.godebug = none := by kernel_rfl
theorem laidOut : laidOutB Try.prog = true := by kernel_rfl
set_option maxRecDepth 100000 in
theorem lifted (os : Os) (started : os.Started) (H : Type) (enc : TypeId × Value → H) :
    ReturnsInHanded {} Try.checked os 14 .any (Rows.receiptPutsSpec.pre6 enc Try.prog Try.f14 Rows.receiptPutsRow.domain false) (Rows.receiptPutsSpec.post enc Try.prog Try.f14 false true false false) :=
  law_lifted (C := Try.checked) tabOK rfl own laidOut (by kernel_rfl) Try.func14 rfl rfl (s := Rows.receiptPutsSpec) (bt := 4) (ts := [120, 22]) (tys := [.st [.ar 32 .lf (.int .u8), .int .i64, .int .i64, .int .i64], .sl .lf (.int .u8)]) rfl Try.underlying4 rfl (by kernel_rfl) rfl rfl
    (fun H ds h => by match ds, h with | [d1, d2], _ => rfl) started
    (ChangeSpec.witness6 (enc := enc) (C := Try.checked) false ⟨#[], #[.agg #[.int .u8 0, .int .u8 0, .int .u8 0, .int .u8 0, .int .u8 0, .int .u8 0, .int .u8 0, .int .u8 0, .int .u8 0, .int .u8 0, .int .u8 0, .int .u8 0, .int .u8 0, .int .u8 0, .int .u8 0, .int .u8 0, .int .u8 0, .int .u8 0, .int .u8 0, .int .u8 0, .int .u8 0, .int .u8 0, .int .u8 0, .int .u8 0, .int .u8 0, .int .u8 0, .int .u8 0, .int .u8 0, .int .u8 0, .int .u8 0, .int .u8 0, .int .u8 0, .int .i64 0, .int .i64 0, .int .i64 0], .slice none 0 0], []⟩ 8 (by kernel_rfl) (by kernel_rfl) (by kernel_rfl) (by kernel_rfl))
    (fun xs h => by
      obtain ⟨x0, _, rfl, ⟨_, rfl, y0, _, rfl, h2, y1, _, rfl, ⟨a, rfl, _⟩, y2, _, rfl, ⟨p, rfl, _⟩, y3, _, rfl, ⟨c, rfl, _⟩, rfl⟩, x1, _, rfl, h0, rfl⟩ := h
      obtain ⟨b, rfl, _⟩ := bytes_of h0
      obtain ⟨g, rfl, hg⟩ := arr_of h2
      exact c_rlaw g b a p c hg)
theorem over : Rows.receiptPutsRow.holds Try.pinned (OpenSpec.ofChange Rows.receiptPutsSpec) :=
  OpenClaim.holds_of_wide 14 Try.f14 rfl rfl rfl rfl rfl rfl rfl ⟨rfl, rfl, rfl, rfl, rfl⟩ rfl rfl rfl rfl rfl (by kernel_rfl) Try.func14 (by kernel_rfl)
    (of_decide_eq_true (by kernel_rfl)) (by unfold Func.isWrapper; first | (rw [if_pos (by decide +kernel)]; kernel_rfl) | (rw [if_neg (by decide +kernel)]; exact ⟨rfl, rfl⟩))
    (fun os started H enc _ => lifted os started H enc)

theorem proved : Rows.ReceiptPutsSaid := over
end Go.Proofs.Ytnggkhdmieafoaa.receiptPuts
