/- What 'tithing/tithinglaw21.OrphanActs' states: whatever the input, it returns true, and the input reads as it did; with what it lists tied to the program's text. No condition. -/
import Derived.Test.YtcmdkiejkheahaaDoorTie
import Derived.Test.YtcmdkiejkheahaaDoorCards
import Derived.SevenTiedAt
import Derived.ProofKit
import Derived.OpenShut
import Derived.Test.YtcmdkiejkheahaaDoorWordsD
import Derived.Test.YtcmdkiejkheahaaDoorPart02
import Derived.Test.YtcmdkiejkheahaaDoorPart44
set_option linter.unusedVariables false
set_option linter.unusedSimpArgs false
namespace Go.Proofs.YtcmdkiejkheahaaDoor.orphanActs
open Go Go.ChangeShapes Go.WideShapes Go.ChangeAt Go.RowKit Go.WL Go.WL.T6d

theorem own : ownKnob Tryd.prog.godebug = none := by kernel_rfl
theorem laidOut : laidOutB Tryd.prog = true := by kernel_rfl
theorem door_met (os : Os) (args : Array Value) : laidMetH Tryd.prog ld ((World.doorLaid Tryd.prog 400 os).forCall (fun _ _ => 0) ⟨#[], args, []⟩).memory :=
  laidMetH_of_parts3 (fuel := 8) (laidMet_of_run' 8 (by kernel_rfl) (by kernel_rfl)) (by kernel_rfl) (by kernel_rfl)
set_option maxRecDepth 100000 in
theorem lifted (os : Os) (started : os.Started) (H : Type) (enc : TypeId × Value → H) :
    ReturnsInHanded {} Tryd.checked os 9 .any (fun w args => (Rows.orphanActsSpec.pre enc Tryd.prog Tryd.f9 [] false w args ∧ laidMetH Tryd.prog ld w) ∧ sizedMet enc Tryd.prog Tryd.f9 (OpenSpec.ofChange Rows.orphanActsSpec) false w args)
      (Rows.orphanActsSpec.post enc Tryd.prog Tryd.f9 false true false false) :=
  law_lifted_laid (C := Tryd.checked) tabOK hgl own laidOut (by kernel_rfl) Tryd.func9 rfl rfl (s := Rows.orphanActsSpec) (bt := 4) (ts := [95]) (tys := [.sl (.nd [.lf, (.nd [(.ar 32 .lf), .lf, .lf, .lf, .lf]), .lf]) (.st [.int .i64, .st [.ar 32 .lf (.int .u8), .int .i64, .int .i64, .int .i64, .sl (.nd [.lf, .lf, .lf, .lf, .lf, .lf, .lf]) (.st [.int .i64, .int .i64, .int .i64, .int .i64, .int .i64, .str, .str])], .int .i64])]) rfl Tryd.underlying4 rfl (by kernel_rfl) rfl rfl
    (fun H ds h => by match ds, h with | [d1], _ => rfl) started
    (ChangeSpec.witness_shaped (enc := enc) (C := Tryd.checked) (os := os) (X := fun w _ => laidMetH Tryd.prog ld w) false (World.doorLaid Tryd.prog 400 os) #[.slice none 0 0] 8 rfl (World.shaped_of_RefB (by kernel_rfl) (by kernel_rfl)) (by kernel_rfl) (by kernel_rfl) (by kernel_rfl) (door_met os _))
    (fun xs h => by
      obtain ⟨x0, _, rfl, h1, rfl⟩ := h
      obtain ⟨l, rfl, hl⟩ := ocs_of h1
      exact (c_orphacts l hl).mono fun _ _ e => e.1)
theorem over : Rows.orphanActsRow.holds Tryd.pinned (OpenSpec.ofChange Rows.orphanActsSpec) :=
  OpenClaim.holds_of_wide 9 Tryd.f9 rfl rfl rfl rfl rfl rfl rfl ⟨rfl, rfl, rfl, rfl, rfl⟩ rfl rfl rfl rfl rfl (by kernel_rfl) Tryd.func9 (by kernel_rfl)
    (of_decide_eq_true (by kernel_rfl)) (by unfold Func.isWrapper; first | (rw [if_pos (by decide +kernel)]; kernel_rfl) | (rw [if_neg (by decide +kernel)]; exact ⟨rfl, rfl⟩))
    (fun os started H enc _ => lifted os started H enc)

theorem proved : Rows.OrphanActsCardSaid :=
  Claim7.holds_tied_plain_at .later [] [.data, .data] true (true, "c71ad578947da17f41addc89d9a3f33d8f5b78ac0b3c80166d89b413cc47b078") false
    over (fun _ h => by cases h) (by kernel_rfl) (fun _ h => by cases h) orphanActs_row_tie rfl ⟨rfl, rfl⟩ (by kernel_rfl) rfl
    (fun f fn hf hfn => by
      obtain rfl : f = 9 := Option.some.inj ((show Tryd.prog.funcNamed "tithing/tithinglaw21.OrphanActs" = some 9 by kernel_rfl).symm.trans hf) |>.symm
      obtain rfl : fn = Tryd.f9 := (Option.some.inj (Tryd.func9.symm.trans hfn)).symm
      exact ⟨by kernel_rfl, fun j t ht => by
        rw [Tryd.params9] at ht
        have hm : t ∈ [95] := by simpa using Array.mem_of_getElem? ht
        have hall : ([95].all fun u => !Tryd.prog.wantsStandIn u) = true := by kernel_rfl
        exact (show Tryd.prog.wantsStandIn t = false by simpa using List.all_eq_true.1 hall t hm)⟩)
    (by kernel_rfl)
end Go.Proofs.YtcmdkiejkheahaaDoor.orphanActs
