/- What 'tithing/tithinglaw30.LeaderTurns' states: whatever the input, it returns true, and the input reads as it did. No condition. -/
import Derived.Test.YtnggkhdmieafoaaRows
import Derived.Test.YtnggkhdmieafoaaWordsC
import Derived.Test.YtnggkhdmieafoaaPartA
set_option linter.unusedVariables false
set_option linter.unusedSimpArgs false
namespace Go.Proofs.Ytnggkhdmieafoaa.leaderTurns
open Go.ChangeShapes Go.WideShapes Go.ChangeAt Go.RowKit Go.WL Go.WL.T1

theorem own : ownKnob Try.prog.godebug = none := by kernel_rfl
theorem laidOut : laidOutB Try.prog = true := by kernel_rfl
set_option maxRecDepth 100000 in
theorem lifted (os : Os) (started : os.Started) (H : Type) (enc : TypeId × Value → H) :
    ReturnsInHanded {} Try.checked os 5 .any (Rows.leaderTurnsSpec.pre6 enc Try.prog Try.f5 Rows.leaderTurnsRow.domain false) (Rows.leaderTurnsSpec.post enc Try.prog Try.f5 false true false false) :=
  law_lifted (C := Try.checked) tabOK rfl own laidOut (by kernel_rfl) Try.func5 rfl rfl (s := Rows.leaderTurnsSpec) (bt := 4) (ts := [3, 3, 35]) (tys := [.int .i64, .int .i64, .sl .lf (.int .i64)]) rfl Try.underlying4 rfl (by kernel_rfl) rfl rfl
    (fun H ds h => by match ds, h with | [d1, d2, d3], _ => rfl) started
    (ChangeSpec.witness6 (enc := enc) (C := Try.checked) false ⟨#[], #[.int .i64 0, .int .i64 0, .slice none 0 0], []⟩ 8 (by kernel_rfl) (by kernel_rfl) (by kernel_rfl) (by kernel_rfl))
    (fun xs h => by
      obtain ⟨x0, _, rfl, ⟨v, rfl, hv⟩, x1, _, rfl, ⟨n, rfl, _⟩, x2, _, rfl, h2, rfl⟩ := h
      obtain ⟨l, rfl, _, _⟩ := ints_of h2
      exact c_turns v n l (wf_i64 hv))
theorem over : Rows.leaderTurnsRow.holds Try.pinned (OpenSpec.ofChange Rows.leaderTurnsSpec) :=
  OpenClaim.holds_of_wide 5 Try.f5 rfl rfl rfl rfl rfl rfl rfl ⟨rfl, rfl, rfl, rfl, rfl⟩ rfl rfl rfl rfl rfl (by kernel_rfl) Try.func5 (by kernel_rfl)
    (of_decide_eq_true (by kernel_rfl)) (by unfold Func.isWrapper; first | (rw [if_pos (by decide +kernel)]; kernel_rfl) | (rw [if_neg (by decide +kernel)]; exact ⟨rfl, rfl⟩))
    (fun os started H enc _ => lifted os started H enc)

theorem proved : Rows.LeaderTurnsSaid := over
end Go.Proofs.Ytnggkhdmieafoaa.leaderTurns
