/- What 'tithing/tithinglaw05.CrcTurns' states: whatever the input, it returns true, and the input reads as it did. No condition. -/
import Derived.Test.YtdpplgkhfclhgaaRows
import Derived.Test.YtdpplgkhfclhgaaWordsD
import Derived.Test.YtdpplgkhfclhgaaPart15
set_option linter.unusedVariables false
set_option linter.unusedSimpArgs false
namespace Go.Proofs.Ytdpplgkhfclhgaa.crcTurns
open Go.ChangeShapes Go.WideShapes Go.ChangeAt Go.RowKit Go.WL Go.WL.T8

theorem own : ownKnob Try.prog.godebug = none := by kernel_rfl
theorem laidOut : laidOutB Try.prog = true := by kernel_rfl
set_option maxRecDepth 100000 in
theorem lifted (os : Os) (started : os.Started) (H : Type) (enc : TypeId × Value → H) :
    ReturnsInHanded {} Try.checked os 3 .any (Rows.crcTurnsSpec.pre6 enc Try.prog Try.f3 Rows.crcTurnsRow.domain false) (Rows.crcTurnsSpec.post enc Try.prog Try.f3 false true false false) :=
  law_lifted (C := Try.checked) tabOK rfl own laidOut (by kernel_rfl) Try.func3 rfl rfl (s := Rows.crcTurnsSpec) (bt := 4) (ts := [22, 23, 24]) (tys := [.sl .lf (.int .u8), .int .u16, .int .u32]) rfl Try.underlying4 rfl (by kernel_rfl) rfl rfl
    (fun H ds h => by match ds, h with | [d1, d2, d3], _ => rfl) started
    (ChangeSpec.witness6 (enc := enc) (C := Try.checked) false ⟨#[], #[.slice none 0 0, .int .u16 0, .int .u32 0], []⟩ 8 (by kernel_rfl) (by kernel_rfl) (by kernel_rfl) (by kernel_rfl))
    (fun xs h => by
      obtain ⟨x0, _, rfl, h0, x1, _, rfl, ⟨a, rfl, ha⟩, x2, _, rfl, ⟨n, rfl, hn⟩, rfl⟩ := h
      obtain ⟨b, rfl, hb⟩ := bytes_of h0
      have ha2 := wf_u16 ha
      have hn2 := wf_u32 hn
      obtain ⟨a, rfl⟩ : ∃ m : Nat, a = (m : Int) := ⟨a.toNat, by omega⟩
      obtain ⟨n, rfl⟩ : ∃ m : Nat, n = (m : Int) := ⟨n.toNat, by omega⟩
      exact (c_crcturns b a n (by omega) (by omega)).mono fun _ _ e => e.1)
theorem over : Rows.crcTurnsRow.holds Try.pinned (OpenSpec.ofChange Rows.crcTurnsSpec) :=
  OpenClaim.holds_of_wide 3 Try.f3 rfl rfl rfl rfl rfl rfl rfl ⟨rfl, rfl, rfl, rfl, rfl⟩ rfl rfl rfl rfl rfl (by kernel_rfl) Try.func3 (by kernel_rfl)
    (of_decide_eq_true (by kernel_rfl)) (by unfold Func.isWrapper; first | (rw [if_pos (by decide +kernel)]; kernel_rfl) | (rw [if_neg (by decide +kernel)]; exact ⟨rfl, rfl⟩))
    (fun os started H enc _ => lifted os started H enc)

theorem proved : Rows.CrcTurnsSaid := over
end Go.Proofs.Ytdpplgkhfclhgaa.crcTurns
