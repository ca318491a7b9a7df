/- LeaderOf's statement. No condition. -/
import Derived.Test.YtnggkhdmieafoaaRows
import Derived.Test.YtnggkhdmieafoaaWordsC
import Derived.Test.YtnggkhdmieafoaaPartA
namespace Go.Proofs.Ytnggkhdmieafoaa.leaderOf
open Go.ChangeShapes Go.WideShapes Go.ChangeAt Go.RowKit Go.WL Go.WL.T1

theorem own : ownKnob Try.prog.godebug = none := by kernel_rfl
theorem laidOut : laidOutB Try.prog = true := by kernel_rfl
theorem bounds {i : Int} (h : (Lit.int .i64 i).wf = true) : -9223372036854775808 ≤ i ∧ i < 9223372036854775808 := by
  simp [Lit.wf, IntKind.min, IntKind.max, IntKind.signed, IntKind.bits] at h
  omega
set_option maxRecDepth 100000 in
theorem lifted (os : Os) (started : os.Started) (H : Type) (enc : TypeId × Value → H) :
    ReturnsInHanded {} Try.checked os 4 .any (Rows.leaderOfSpec.pre6 enc Try.prog Try.f4 Rows.leaderOfRow.domain false) (Rows.leaderOfSpec.post enc Try.prog Try.f4 false true false false) :=
  law_lifted (C := Try.checked) tabOK rfl own laidOut (by kernel_rfl) Try.func4 rfl rfl (s := Rows.leaderOfSpec) (bt := 4) (ts := [3, 3, 30]) (tys := [.int .i64, .int .i64, .st [.int .i64, .int .i64]]) rfl Try.underlying4 rfl (by kernel_rfl) rfl rfl
    (fun H ds h => by match ds, h with | [d1, d2, d3], _ => rfl) started
    (ChangeSpec.witness6 (enc := enc) (C := Try.checked) false ⟨#[], #[.int .i64 0, .int .i64 0, .agg #[.int .i64 0, .int .i64 0]], []⟩ 8 (by kernel_rfl) (by kernel_rfl) (by kernel_rfl) (by kernel_rfl))
    (fun xs h => by
      obtain ⟨x0, _, rfl, ⟨v, rfl, hv⟩, x1, _, rfl, ⟨n, rfl, _⟩, x2, _, rfl, ⟨_, rfl, y0, _, rfl, ⟨i, rfl, _⟩, y1, _, rfl, ⟨t, rfl, ht⟩, rfl⟩, rfl⟩ := h
      exact c_law v n i t (bounds hv) (bounds ht))
theorem over : Rows.leaderOfRow.holds Try.pinned (OpenSpec.ofChange Rows.leaderOfSpec) :=
  OpenClaim.holds_of_wide 4 Try.f4 rfl rfl rfl rfl rfl rfl rfl ⟨rfl, rfl, rfl, rfl, rfl⟩ rfl rfl rfl rfl rfl (by kernel_rfl) Try.func4 (by kernel_rfl)
    (of_decide_eq_true (by kernel_rfl)) (by unfold Func.isWrapper; first | (rw [if_pos (by decide +kernel)]; kernel_rfl) | (rw [if_neg (by decide +kernel)]; exact ⟨rfl, rfl⟩))
    (fun os started H enc _ => lifted os started H enc)

theorem proved : Rows.LeaderOfSaid := over
end Go.Proofs.Ytnggkhdmieafoaa.leaderOf
