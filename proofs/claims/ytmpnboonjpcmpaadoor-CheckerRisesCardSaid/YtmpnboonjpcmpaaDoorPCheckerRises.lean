/- What 'tithing/tithinglaw15.CheckerRises' states: whatever the input, it returns true, and the input reads as it did; with what it lists tied to the program's text. No condition. -/
import Derived.Test.YtmpnboonjpcmpaaDoorTie
import Derived.Test.YtmpnboonjpcmpaaDoorCards
import Derived.SevenTiedAt
import Derived.ProofKit
import Derived.OpenShut
import Derived.Test.YtmpnboonjpcmpaaDoorWordsD
import Derived.Test.YtmpnboonjpcmpaaDoorPart03
import Derived.Test.YtmpnboonjpcmpaaDoorPart44
set_option linter.unusedVariables false
set_option linter.unusedSimpArgs false
namespace Go.Proofs.YtmpnboonjpcmpaaDoor.checkerRises
open Go Go.ChangeShapes Go.WideShapes Go.ChangeAt Go.RowKit Go.WL Go.WL.T7

theorem own : ownKnob Tryd.prog.godebug = none := by kernel_rfl
theorem laidOut : laidOutB Tryd.prog = true := by kernel_rfl
theorem door_met (os : Os) (args : Array Value) : laidMetH Tryd.prog ld ((World.doorLaid Tryd.prog 400 os).forCall (fun _ _ => 0) ⟨#[], args, []⟩).memory :=
  laidMetH_of_parts3 (fuel := 8) (laidMet_of_run' 8 (by kernel_rfl) (by kernel_rfl)) (by kernel_rfl) (by kernel_rfl)
set_option maxRecDepth 100000 in
theorem lifted (os : Os) (started : os.Started) (H : Type) (enc : TypeId × Value → H) :
    ReturnsInHanded {} Tryd.checked os 9 .any (fun w args => (Rows.checkerRisesSpec.pre enc Tryd.prog Tryd.f9 [] false w args ∧ laidMetH Tryd.prog ld w) ∧ sizedMet enc Tryd.prog Tryd.f9 (OpenSpec.ofChange Rows.checkerRisesSpec) false w args)
      (Rows.checkerRisesSpec.post enc Tryd.prog Tryd.f9 false true false false) :=
  law_lifted_laid (C := Tryd.checked) tabOK hgl own laidOut (by kernel_rfl) Tryd.func9 rfl rfl (s := Rows.checkerRisesSpec) (bt := 4) (ts := [3, 109]) (tys := [.int .i64, .sl (.nd [.lf, .lf, (.nd [(.ar 32 .lf), .lf, .lf, .lf, .lf]), (.nd [.lf, .lf, .lf, (.ar 32 .lf), .lf, (.ar 32 .lf)]), (.nd [(.nd [.lf, .lf, .lf, .lf, (.ar 32 .lf), .lf, (.ar 32 .lf), (.ar 32 .lf)]), .lf])]) (.st [.int .i64, .int .i64, .st [.ar 32 .lf (.int .u8), .int .i64, .int .i64, .int .i64, .sl (.nd [.lf, .lf, .lf, .lf, .lf, .lf, .lf]) (.st [.int .i64, .int .i64, .int .i64, .int .i64, .int .i64, .str, .str])], .st [.int .i64, .int .i64, .int .i64, .ar 32 .lf (.int .u8), .sl .lf (.int .i64), .ar 32 .lf (.int .u8)], .st [.st [.int .i64, .int .i64, .int .i64, .int .i64, .ar 32 .lf (.int .u8), .int .i64, .ar 32 .lf (.int .u8), .ar 32 .lf (.int .u8)], .sl (.nd [.lf, (.ar 32 .lf)]) (.st [.int .i64, .ar 32 .lf (.int .u8)])]])]) rfl Tryd.underlying4 rfl (by kernel_rfl) rfl rfl
    (fun H ds h => by match ds, h with | [d1, d2], _ => rfl) started
    (ChangeSpec.witness_shaped (enc := enc) (C := Tryd.checked) (os := os) (X := fun w _ => laidMetH Tryd.prog ld w) false (World.doorLaid Tryd.prog 400 os) #[.int .i64 0, .slice none 0 0] 8 rfl (World.shaped_of_RefB (by kernel_rfl) (by kernel_rfl)) (by kernel_rfl) (by kernel_rfl) (by kernel_rfl) (door_met os _))
    (fun xs h => by
      obtain ⟨x0, _, rfl, ⟨n, rfl, _⟩, x1, _, rfl, ⟨xs, rfl, h1, h2⟩, rfl⟩ := h
      obtain ⟨l, rfl, hl⟩ := sps_map xs h2
      exact c_ckrises n l (by simpa [spsA] using h1) hl)
theorem over : Rows.checkerRisesRow.holds Tryd.pinned (OpenSpec.ofChange Rows.checkerRisesSpec) :=
  OpenClaim.holds_of_wide 9 Tryd.f9 rfl rfl rfl rfl rfl rfl rfl ⟨rfl, rfl, rfl, rfl, rfl⟩ rfl rfl rfl rfl rfl (by kernel_rfl) Tryd.func9 (by kernel_rfl)
    (of_decide_eq_true (by kernel_rfl)) (by unfold Func.isWrapper; first | (rw [if_pos (by decide +kernel)]; kernel_rfl) | (rw [if_neg (by decide +kernel)]; exact ⟨rfl, rfl⟩))
    (fun os started H enc _ => lifted os started H enc)

theorem proved : Rows.CheckerRisesCardSaid :=
  Claim7.holds_tied_plain_at .later [] [.data, .data] true (true, "35d3294a0e3a1b5399d4695da2a4aacecc4453918f370e43c31af1dd8f8d13b1") false
    over (fun _ h => by cases h) (by kernel_rfl) (fun _ h => by cases h) checkerRises_row_tie rfl ⟨rfl, rfl⟩ (by kernel_rfl) rfl
    (fun f fn hf hfn => by
      obtain rfl : f = 9 := Option.some.inj ((show Tryd.prog.funcNamed "tithing/tithinglaw15.CheckerRises" = some 9 by kernel_rfl).symm.trans hf) |>.symm
      obtain rfl : fn = Tryd.f9 := (Option.some.inj (Tryd.func9.symm.trans hfn)).symm
      exact ⟨by kernel_rfl, fun j t ht => by
        rw [Tryd.params9] at ht
        have hm : t ∈ [3, 109] := by simpa using Array.mem_of_getElem? ht
        have hall : ([3, 109].all fun u => !Tryd.prog.wantsStandIn u) = true := by kernel_rfl
        exact (show Tryd.prog.wantsStandIn t = false by simpa using List.all_eq_true.1 hall t hm)⟩)
    (by kernel_rfl)
end Go.Proofs.YtmpnboonjpcmpaaDoor.checkerRises
