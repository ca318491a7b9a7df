/- What 'tithing/tithinglaw01.OctetPuts' states: whatever the input, it returns true, and the input reads as it did. No condition. -/
import Derived.Test.YtnggkhdmieafoaaRows
import Derived.Test.YtnggkhdmieafoaaWordsC
import Derived.Test.YtnggkhdmieafoaaPartA
set_option linter.unusedVariables false
set_option linter.unusedSimpArgs false
namespace Go.Proofs.Ytnggkhdmieafoaa.octetPuts
open Go.ChangeShapes Go.WideShapes Go.ChangeAt Go.RowKit Go.WL Go.WL.T1

theorem own : ownKnob Try.prog.godebug = none := by kernel_rfl
theorem laidOut : laidOutB Try.prog = true := by kernel_rfl
set_option maxRecDepth 100000 in
theorem lifted (os : Os) (started : os.Started) (H : Type) (enc : TypeId × Value → H) :
    ReturnsInHanded {} Try.checked os 6 .any (Rows.octetPutsSpec.pre6 enc Try.prog Try.f6 Rows.octetPutsRow.domain false) (Rows.octetPutsSpec.post enc Try.prog Try.f6 false true false false) :=
  law_lifted (C := Try.checked) tabOK rfl own laidOut (by kernel_rfl) Try.func6 rfl rfl (s := Rows.octetPutsSpec) (bt := 4) (ts := [22, 43]) (tys := [.sl .lf (.int .u8), .st [.int .u64, .sl .lf (.int .u8), .ar 32 .lf (.int .u8)]]) rfl Try.underlying4 rfl (by kernel_rfl) rfl rfl
    (fun H ds h => by match ds, h with | [d1, d2], _ => rfl) started
    (ChangeSpec.witness6 (enc := enc) (C := Try.checked) false ⟨#[], #[.slice none 0 0, .agg #[.int .u64 0, .slice none 0 0, .int .u8 0, .int .u8 0, .int .u8 0, .int .u8 0, .int .u8 0, .int .u8 0, .int .u8 0, .int .u8 0, .int .u8 0, .int .u8 0, .int .u8 0, .int .u8 0, .int .u8 0, .int .u8 0, .int .u8 0, .int .u8 0, .int .u8 0, .int .u8 0, .int .u8 0, .int .u8 0, .int .u8 0, .int .u8 0, .int .u8 0, .int .u8 0, .int .u8 0, .int .u8 0, .int .u8 0, .int .u8 0, .int .u8 0, .int .u8 0, .int .u8 0, .int .u8 0]], []⟩ 8 (by kernel_rfl) (by kernel_rfl) (by kernel_rfl) (by kernel_rfl))
    (fun xs h => by
      obtain ⟨x0, _, rfl, h0, x1, _, rfl, ⟨_, rfl, y0, _, rfl, ⟨i, rfl, hi⟩, y1, _, rfl, h1, y2, _, rfl, h2, rfl⟩, rfl⟩ := h
      obtain ⟨b, rfl, _⟩ := bytes_of h0
      obtain ⟨t, rfl, _⟩ := bytes_of h1
      obtain ⟨g, rfl, hg⟩ := arr_of h2
      obtain ⟨n, rfl, hn⟩ := nat_u64 hi
      exact c_olaw b t g n hn hg)
theorem over : Rows.octetPutsRow.holds Try.pinned (OpenSpec.ofChange Rows.octetPutsSpec) :=
  OpenClaim.holds_of_wide 6 Try.f6 rfl rfl rfl rfl rfl rfl rfl ⟨rfl, rfl, rfl, rfl, rfl⟩ rfl rfl rfl rfl rfl (by kernel_rfl) Try.func6 (by kernel_rfl)
    (of_decide_eq_true (by kernel_rfl)) (by unfold Func.isWrapper; first | (rw [if_pos (by decide +kernel)]; kernel_rfl) | (rw [if_neg (by decide +kernel)]; exact ⟨rfl, rfl⟩))
    (fun os started H enc _ => lifted os started H enc)

theorem proved : Rows.OctetPutsSaid := over
end Go.Proofs.Ytnggkhdmieafoaa.octetPuts
