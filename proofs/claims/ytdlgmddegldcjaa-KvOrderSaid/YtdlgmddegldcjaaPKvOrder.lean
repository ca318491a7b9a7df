/- What 'tithing/tithinglaw23.KvOrder' states: whatever the input, it returns true, and the input reads as it did. No condition. -/
import Derived.Test.YtdlgmddegldcjaaRows
import Derived.Test.YtdlgmddegldcjaaWordsD
import Derived.Test.YtdlgmddegldcjaaPart14
set_option linter.unusedVariables false
set_option linter.unusedSimpArgs false
namespace Go.Proofs.Ytdlgmddegldcjaa.kvOrder
open Go.ChangeShapes Go.WideShapes Go.ChangeAt Go.RowKit Go.WL Go.WL.T5

theorem own : ownKnob Try.prog.godebug = none := by kernel_rfl
theorem laidOut : laidOutB Try.prog = true := by kernel_rfl
set_option maxRecDepth 100000 in
theorem lifted (os : Os) (started : os.Started) (H : Type) (enc : TypeId × Value → H) :
    ReturnsInHanded {} Try.checked os 9 .any (Rows.kvOrderSpec.pre6 enc Try.prog Try.f9 Rows.kvOrderRow.domain false) (Rows.kvOrderSpec.post enc Try.prog Try.f9 false true false false) :=
  law_lifted (C := Try.checked) tabOK rfl own laidOut (by kernel_rfl) Try.func9 rfl rfl (s := Rows.kvOrderSpec) (bt := 4) (ts := [76, 79]) (tys := [.sl (.nd [.lf, .lf]) (.st [.str, .str]), .ar 2 (.nd [.lf, .lf]) (.st [.str, .str])]) rfl Try.underlying4 rfl (by kernel_rfl) rfl rfl
    (fun H ds h => by match ds, h with | [d1, d2], _ => rfl) started
    (ChangeSpec.witness6 (enc := enc) (C := Try.checked) false ⟨#[], #[.slice none 0 0, .agg #[.string ⟨#[]⟩, .string ⟨#[]⟩, .string ⟨#[]⟩, .string ⟨#[]⟩]], []⟩ 8 (by kernel_rfl) (by kernel_rfl) (by kernel_rfl) (by kernel_rfl))
    (fun xs h => by
      obtain ⟨x0, _, rfl, ⟨xs, rfl, _, k2⟩, x1, _, rfl, h1, rfl⟩ := h
      obtain ⟨l, rfl⟩ := prs_map xs k2
      obtain ⟨p, q, rfl⟩ := pair_of h1
      exact c_kvorder l p q)
theorem over : Rows.kvOrderRow.holds Try.pinned (OpenSpec.ofChange Rows.kvOrderSpec) :=
  OpenClaim.holds_of_wide 9 Try.f9 rfl rfl rfl rfl rfl rfl rfl ⟨rfl, rfl, rfl, rfl, rfl⟩ rfl rfl rfl rfl rfl (by kernel_rfl) Try.func9 (by kernel_rfl)
    (of_decide_eq_true (by kernel_rfl)) (by unfold Func.isWrapper; first | (rw [if_pos (by decide +kernel)]; kernel_rfl) | (rw [if_neg (by decide +kernel)]; exact ⟨rfl, rfl⟩))
    (fun os started H enc _ => lifted os started H enc)

theorem proved : Rows.KvOrderSaid := over
end Go.Proofs.Ytdlgmddegldcjaa.kvOrder
