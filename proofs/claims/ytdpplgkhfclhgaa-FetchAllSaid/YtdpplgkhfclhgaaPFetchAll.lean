/- What 'tithing/tithinglaw33.FetchAll' states: whatever the input, it returns true, and the input reads as it did. No condition. -/
import Derived.Test.YtdpplgkhfclhgaaRows
import Derived.Test.YtdpplgkhfclhgaaWordsD
import Derived.Test.YtdpplgkhfclhgaaPart12
set_option linter.unusedVariables false
set_option linter.unusedSimpArgs false
namespace Go.Proofs.Ytdpplgkhfclhgaa.fetchAll
open Go.ChangeShapes Go.WideShapes Go.ChangeAt Go.RowKit Go.WL Go.WL.T8

theorem own : ownKnob Try.prog.godebug = none := by kernel_rfl
theorem laidOut : laidOutB Try.prog = true := by kernel_rfl
set_option maxRecDepth 100000 in
theorem lifted (os : Os) (started : os.Started) (H : Type) (enc : TypeId × Value → H) :
    ReturnsInHanded {} Try.checked os 5 .any (Rows.fetchAllSpec.pre6 enc Try.prog Try.f5 Rows.fetchAllRow.domain false) (Rows.fetchAllSpec.post enc Try.prog Try.f5 false true false false) :=
  law_lifted (C := Try.checked) tabOK rfl own laidOut (by kernel_rfl) Try.func5 rfl rfl (s := Rows.fetchAllSpec) (bt := 4) (ts := [3, 3, 3]) (tys := [.int .i64, .int .i64, .int .i64]) rfl Try.underlying4 rfl (by kernel_rfl) rfl rfl
    (fun H ds h => by match ds, h with | [d1, d2, d3], _ => rfl) started
    (ChangeSpec.witness6 (enc := enc) (C := Try.checked) false ⟨#[], #[.int .i64 0, .int .i64 0, .int .i64 0], []⟩ 8 (by kernel_rfl) (by kernel_rfl) (by kernel_rfl) (by kernel_rfl))
    (fun xs h => by
      obtain ⟨x0, _, rfl, ⟨me, rfl, _⟩, x1, _, rfl, ⟨n, rfl, _⟩, x2, _, rfl, ⟨o, rfl, _⟩, rfl⟩ := h
      exact (c_fetchall me n o).mono fun _ _ e => e.1)
theorem over : Rows.fetchAllRow.holds Try.pinned (OpenSpec.ofChange Rows.fetchAllSpec) :=
  OpenClaim.holds_of_wide 5 Try.f5 rfl rfl rfl rfl rfl rfl rfl ⟨rfl, rfl, rfl, rfl, rfl⟩ rfl rfl rfl rfl rfl (by kernel_rfl) Try.func5 (by kernel_rfl)
    (of_decide_eq_true (by kernel_rfl)) (by unfold Func.isWrapper; first | (rw [if_pos (by decide +kernel)]; kernel_rfl) | (rw [if_neg (by decide +kernel)]; exact ⟨rfl, rfl⟩))
    (fun os started H enc _ => lifted os started H enc)

theorem proved : Rows.FetchAllSaid := over
end Go.Proofs.Ytdpplgkhfclhgaa.fetchAll
