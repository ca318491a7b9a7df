/- What 'tithing/tithinglaw19.WalSpoilt' states: whatever the input, it returns true, and the input reads as it did. No condition. -/
import Derived.Test.YtdlgmddegldcjaaRows
import Derived.Test.YtdlgmddegldcjaaWordsD
import Derived.Test.YtdlgmddegldcjaaPart33
set_option linter.unusedVariables false
set_option linter.unusedSimpArgs false
namespace Go.Proofs.Ytdlgmddegldcjaa.walSpoilt
open Go.ChangeShapes Go.WideShapes Go.ChangeAt Go.RowKit Go.WL Go.WL.T5

theorem own : ownKnob Try.prog.godebug = none := by kernel_rfl
theorem laidOut : laidOutB Try.prog = true := by kernel_rfl
set_option maxRecDepth 100000 in
theorem lifted (os : Os) (started : os.Started) (H : Type) (enc : TypeId × Value → H) :
    ReturnsInHanded {} Try.checked os 7 .any (Rows.walSpoiltSpec.pre6 enc Try.prog Try.f7 Rows.walSpoiltRow.domain false) (Rows.walSpoiltSpec.post enc Try.prog Try.f7 false true false false) :=
  law_lifted (C := Try.checked) tabOK rfl own laidOut (by kernel_rfl) Try.func7 rfl rfl (s := Rows.walSpoiltSpec) (bt := 4) (ts := [54, 64]) (tys := [.sl .lf (.sl .lf (.int .u8)), .st [.int .u8, .ar 4 .lf (.int .u8), .int .u16]]) rfl Try.underlying4 rfl (by kernel_rfl) rfl rfl
    (fun H ds h => by match ds, h with | [d1, d2], _ => rfl) started
    (ChangeSpec.witness6 (enc := enc) (C := Try.checked) false ⟨#[], #[.slice none 0 0, .agg #[.int .u8 0, .int .u8 0, .int .u8 0, .int .u8 0, .int .u8 0, .int .u16 0]], []⟩ 8 (by kernel_rfl) (by kernel_rfl) (by kernel_rfl) (by kernel_rfl))
    (fun xs h => by
      obtain ⟨x0, _, rfl, h0, x1, _, rfl, ⟨_, rfl, y0, _, rfl, ⟨a, rfl, ha⟩, y1, _, rfl, h2, y2, _, rfl, ⟨fr, rfl, hf⟩, rfl⟩, rfl⟩ := h
      obtain ⟨l, rfl, hl⟩ := lists_of h0
      obtain ⟨ts, rfl, hts⟩ := arr_of h2
      obtain ⟨a, rfl⟩ : ∃ n : Nat, a = (n : Int) := ⟨a.toNat, by simp [Lit.wf, IntKind.min, IntKind.max, IntKind.signed, IntKind.bits] at ha; omega⟩
      obtain ⟨fr, rfl⟩ : ∃ n : Nat, fr = (n : Int) := ⟨fr.toNat, by simp [Lit.wf, IntKind.min, IntKind.max, IntKind.signed, IntKind.bits] at hf; omega⟩
      exact (c_walspoilt l a fr ts hts (by simp [Lit.wf, IntKind.min, IntKind.max, IntKind.signed, IntKind.bits] at ha; omega) (by simp [Lit.wf, IntKind.min, IntKind.max, IntKind.signed, IntKind.bits] at hf; omega) (by have : maxLen = 9223372036854775807 := rfl; omega)).mono fun _ _ e => e.1)
theorem over : Rows.walSpoiltRow.holds Try.pinned (OpenSpec.ofChange Rows.walSpoiltSpec) :=
  OpenClaim.holds_of_wide 7 Try.f7 rfl rfl rfl rfl rfl rfl rfl ⟨rfl, rfl, rfl, rfl, rfl⟩ rfl rfl rfl rfl rfl (by kernel_rfl) Try.func7 (by kernel_rfl)
    (of_decide_eq_true (by kernel_rfl)) (by unfold Func.isWrapper; first | (rw [if_pos (by decide +kernel)]; kernel_rfl) | (rw [if_neg (by decide +kernel)]; exact ⟨rfl, rfl⟩))
    (fun os started H enc _ => lifted os started H enc)

theorem proved : Rows.WalSpoiltSaid := over
end Go.Proofs.Ytdlgmddegldcjaa.walSpoilt
