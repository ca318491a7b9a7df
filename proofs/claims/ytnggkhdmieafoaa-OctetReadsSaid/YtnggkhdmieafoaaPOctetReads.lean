/- What 'tithing/tithinglaw01.OctetReads' states: whatever the input, it returns true, and the input reads as it did. No condition. -/
import Derived.Test.YtnggkhdmieafoaaRows
import Derived.Test.YtnggkhdmieafoaaWordsC
import Derived.Test.YtnggkhdmieafoaaPartA
set_option linter.unusedVariables false
set_option linter.unusedSimpArgs false
namespace Go.Proofs.Ytnggkhdmieafoaa.octetReads
open Go.ChangeShapes Go.WideShapes Go.ChangeAt Go.RowKit Go.WL Go.WL.T1

theorem own : ownKnob Try.prog.godebug = none := by kernel_rfl
theorem laidOut : laidOutB Try.prog = true := by kernel_rfl
set_option maxRecDepth 100000 in
theorem lifted (os : Os) (started : os.Started) (H : Type) (enc : TypeId × Value → H) :
    ReturnsInHanded {} Try.checked os 10 .any (Rows.octetReadsSpec.pre6 enc Try.prog Try.f10 Rows.octetReadsRow.domain false) (Rows.octetReadsSpec.post enc Try.prog Try.f10 false true false false) :=
  law_lifted (C := Try.checked) tabOK rfl own laidOut (by kernel_rfl) Try.func10 rfl rfl (s := Rows.octetReadsSpec) (bt := 4) (ts := [22, 35]) (tys := [.sl .lf (.int .u8), .sl .lf (.int .i64)]) rfl Try.underlying4 rfl (by kernel_rfl) rfl rfl
    (fun H ds h => by match ds, h with | [d1, d2], _ => rfl) started
    (ChangeSpec.witness6 (enc := enc) (C := Try.checked) false ⟨#[], #[.slice none 0 0, .slice none 0 0], []⟩ 8 (by kernel_rfl) (by kernel_rfl) (by kernel_rfl) (by kernel_rfl))
    (fun xs h => by
      obtain ⟨x0, _, rfl, h0, x1, _, rfl, h1, rfl⟩ := h
      obtain ⟨b, rfl, _⟩ := bytes_of h0
      obtain ⟨l, rfl, _, hl⟩ := ints_of h1
      exact c_readslaw b l fun n hn => wf_i64 (hl n hn))
theorem over : Rows.octetReadsRow.holds Try.pinned (OpenSpec.ofChange Rows.octetReadsSpec) :=
  OpenClaim.holds_of_wide 10 Try.f10 rfl rfl rfl rfl rfl rfl rfl ⟨rfl, rfl, rfl, rfl, rfl⟩ rfl rfl rfl rfl rfl (by kernel_rfl) Try.func10 (by kernel_rfl)
    (of_decide_eq_true (by kernel_rfl)) (by unfold Func.isWrapper; first | (rw [if_pos (by decide +kernel)]; kernel_rfl) | (rw [if_neg (by decide +kernel)]; exact ⟨rfl, rfl⟩))
    (fun os started H enc _ => lifted os started H enc)

theorem proved : Rows.OctetReadsSaid := over
end Go.Proofs.Ytnggkhdmieafoaa.octetReads
