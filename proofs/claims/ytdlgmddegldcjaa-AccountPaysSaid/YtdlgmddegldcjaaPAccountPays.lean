/- What 'tithing/tithinglaw22.AccountPays' states: whatever the input, it returns true, and the input reads as it did. No condition. -/
import Derived.Test.YtdlgmddegldcjaaRows
import Derived.Test.YtdlgmddegldcjaaWordsD
import Derived.Test.YtdlgmddegldcjaaPart11
set_option linter.unusedVariables false
set_option linter.unusedSimpArgs false
namespace Go.Proofs.Ytdlgmddegldcjaa.accountPays
open Go.ChangeShapes Go.WideShapes Go.ChangeAt Go.RowKit Go.WL Go.WL.T5

theorem own : ownKnob Try.prog.godebug = none := by kernel_rfl
theorem laidOut : laidOutB Try.prog = true := by kernel_rfl
set_option maxRecDepth 100000 in
theorem lifted (os : Os) (started : os.Started) (H : Type) (enc : TypeId × Value → H) :
    ReturnsInHanded {} Try.checked os 13 .any (Rows.accountPaysSpec.pre6 enc Try.prog Try.f13 Rows.accountPaysRow.domain false) (Rows.accountPaysSpec.post enc Try.prog Try.f13 false true false false) :=
  law_lifted (C := Try.checked) tabOK rfl own laidOut (by kernel_rfl) Try.func13 rfl rfl (s := Rows.accountPaysSpec) (bt := 4) (ts := [91, 96]) (tys := [.sl (.nd [.lf, .lf, .lf]) (.st [.int .i64, .int .i64, .int .i64]), .st [.int .i64, .int .i64, .int .i64]]) rfl Try.underlying4 rfl (by kernel_rfl) rfl rfl
    (fun H ds h => by match ds, h with | [d1, d2], _ => rfl) started
    (ChangeSpec.witness6 (enc := enc) (C := Try.checked) false ⟨#[], #[.slice none 0 0, .agg #[.int .i64 0, .int .i64 0, .int .i64 0]], []⟩ 8 (by kernel_rfl) (by kernel_rfl) (by kernel_rfl) (by kernel_rfl))
    (fun xs h => by
      obtain ⟨x0, _, rfl, ⟨xs, rfl, _, k2⟩, x1, _, rfl, h1, rfl⟩ := h
      obtain ⟨l, rfl⟩ := acs_map xs k2
      obtain ⟨_, rfl, y0, _, rfl, ⟨f, rfl, _⟩, y1, _, rfl, ⟨t, rfl, _⟩, y2, _, rfl, ⟨m, rfl, hm⟩, rfl⟩ := h1
      exact c_accountpays l f t m (wf_i64 hm))
theorem over : Rows.accountPaysRow.holds Try.pinned (OpenSpec.ofChange Rows.accountPaysSpec) :=
  OpenClaim.holds_of_wide 13 Try.f13 rfl rfl rfl rfl rfl rfl rfl ⟨rfl, rfl, rfl, rfl, rfl⟩ rfl rfl rfl rfl rfl (by kernel_rfl) Try.func13 (by kernel_rfl)
    (of_decide_eq_true (by kernel_rfl)) (by unfold Func.isWrapper; first | (rw [if_pos (by decide +kernel)]; kernel_rfl) | (rw [if_neg (by decide +kernel)]; exact ⟨rfl, rfl⟩))
    (fun os started H enc _ => lifted os started H enc)

theorem proved : Rows.AccountPaysSaid := over
end Go.Proofs.Ytdlgmddegldcjaa.accountPays
