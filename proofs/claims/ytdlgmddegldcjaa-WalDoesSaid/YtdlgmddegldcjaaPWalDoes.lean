/- What 'tithing/tithinglaw19.WalDoes' states: whatever the input, it returns true, and the input reads as it did. No condition. -/
import Derived.Test.YtdlgmddegldcjaaRows
import Derived.Test.YtdlgmddegldcjaaWordsD
import Derived.Test.YtdlgmddegldcjaaPart41
import Derived.Test.YtdlgmddegldcjaaPart42
set_option linter.unusedVariables false
set_option linter.unusedSimpArgs false
namespace Go.Proofs.Ytdlgmddegldcjaa.walDoes
open Go.ChangeShapes Go.WideShapes Go.ChangeAt Go.RowKit Go.WL Go.WL.T5

theorem own : ownKnob Try.prog.godebug = none := by kernel_rfl
theorem laidOut : laidOutB Try.prog = true := by kernel_rfl
set_option maxRecDepth 100000 in
theorem lifted (os : Os) (started : os.Started) (H : Type) (enc : TypeId × Value → H) :
    ReturnsInHanded {} Try.checked os 8 .any (Rows.walDoesSpec.pre6 enc Try.prog Try.f8 Rows.walDoesRow.domain false) (Rows.walDoesSpec.post enc Try.prog Try.f8 false true false false) :=
  law_lifted (C := Try.checked) tabOK rfl own laidOut (by kernel_rfl) Try.func8 rfl rfl (s := Rows.walDoesSpec) (bt := 4) (ts := [3, 51]) (tys := [.int .i64, .sl (.nd [.lf, .lf, (.nd [.lf, .lf, .lf]), .lf]) (.st [.int .i64, .sl .lf (.sl .lf (.int .u8)), .st [.int .i64, .sl .lf (.int .u8), .int .i64], .int .u8])]) rfl Try.underlying4 rfl (by kernel_rfl) rfl rfl
    (fun H ds h => by match ds, h with | [d1, d2], _ => rfl) started
    (ChangeSpec.witness6 (enc := enc) (C := Try.checked) false ⟨#[], #[.int .i64 0, .slice none 0 0], []⟩ 8 (by kernel_rfl) (by kernel_rfl) (by kernel_rfl) (by kernel_rfl))
    (fun xs h => by
      obtain ⟨x0, _, rfl, ⟨room, rfl, _⟩, x1, _, rfl, h1, rfl⟩ := h
      obtain ⟨l, rfl, hl, hn⟩ := wcs_of h1
      exact (c_waldoes room l hl hn).mono fun _ _ e => e.1)
theorem over : Rows.walDoesRow.holds Try.pinned (OpenSpec.ofChange Rows.walDoesSpec) :=
  OpenClaim.holds_of_wide 8 Try.f8 rfl rfl rfl rfl rfl rfl rfl ⟨rfl, rfl, rfl, rfl, rfl⟩ rfl rfl rfl rfl rfl (by kernel_rfl) Try.func8 (by kernel_rfl)
    (of_decide_eq_true (by kernel_rfl)) (by unfold Func.isWrapper; first | (rw [if_pos (by decide +kernel)]; kernel_rfl) | (rw [if_neg (by decide +kernel)]; exact ⟨rfl, rfl⟩))
    (fun os started H enc _ => lifted os started H enc)

theorem proved : Rows.WalDoesSaid := over
end Go.Proofs.Ytdlgmddegldcjaa.walDoes
