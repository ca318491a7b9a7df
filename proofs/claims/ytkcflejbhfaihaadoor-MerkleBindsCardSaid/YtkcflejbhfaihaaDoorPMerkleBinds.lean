/- What 'tithing/tithinglaw26.MerkleBinds' states: whatever the input, it returns true, and the input reads as it did; with what it lists tied to the program's text. No condition. -/
import Derived.Test.YtkcflejbhfaihaaDoorTie
import Derived.Test.YtkcflejbhfaihaaDoorCards
import Derived.SevenTiedAt
import Derived.ProofKit
import Derived.OpenShut
import Derived.Test.YtkcflejbhfaihaaDoorWordsC
import Derived.Test.YtkcflejbhfaihaaDoorPart03
import Derived.Test.YtkcflejbhfaihaaDoorPart29
set_option linter.unusedVariables false
set_option linter.unusedSimpArgs false
namespace Go.Proofs.YtkcflejbhfaihaaDoor.merkleBinds
open Go Go.ChangeShapes Go.WideShapes Go.ChangeAt Go.RowKit Go.WL Go.WL.T4

theorem own : ownKnob Tryd.prog.godebug = none := by kernel_rfl
theorem laidOut : laidOutB Tryd.prog = true := by kernel_rfl
theorem door_met (os : Os) (args : Array Value) : laidMetH Tryd.prog ld ((World.doorLaid Tryd.prog 400 os).forCall (fun _ _ => 0) ⟨#[], args, []⟩).memory :=
  laidMetH_of_parts3 (fuel := 8) (laidMet_of_run' 8 (by kernel_rfl) (by kernel_rfl)) (by kernel_rfl) (by kernel_rfl)
set_option maxRecDepth 100000 in
theorem lifted (os : Os) (started : os.Started) (H : Type) (enc : TypeId × Value → H) :
    ReturnsInHanded {} Tryd.checked os 13 .any (fun w args => (Rows.merkleBindsSpec.pre enc Tryd.prog Tryd.f13 [] false w args ∧ laidMetH Tryd.prog ld w) ∧ sizedMet enc Tryd.prog Tryd.f13 (OpenSpec.ofChange Rows.merkleBindsSpec) false w args)
      (Rows.merkleBindsSpec.post enc Tryd.prog Tryd.f13 false true false false) :=
  law_lifted_laid (C := Tryd.checked) tabOK hgl own laidOut (by kernel_rfl) Tryd.func13 rfl rfl (s := Rows.merkleBindsSpec) (bt := 4) (ts := [69, 81, 71]) (tys := [.sl .lf (.sl .lf (.int .u8)), .st [.int .i64, .int .i64, .sl .lf (.int .u8)], .sl (.ar 32 .lf) (.ar 32 .lf (.int .u8))]) rfl Tryd.underlying4 rfl (by kernel_rfl) rfl rfl
    (fun H ds h => by match ds, h with | [d1, d2, d3], _ => rfl) started
    (ChangeSpec.witness_shaped (enc := enc) (C := Tryd.checked) (os := os) (X := fun w _ => laidMetH Tryd.prog ld w) false (World.doorLaid Tryd.prog 400 os) #[.slice none 0 0, .agg #[.int .i64 0, .int .i64 0, .slice none 0 0], .slice none 0 0] 8 rfl (World.shaped_of_RefB (by kernel_rfl) (by kernel_rfl)) (by kernel_rfl) (by kernel_rfl) (by kernel_rfl) (door_met os _))
    (fun xs h => by
      obtain ⟨x0, _, rfl, h0, x1, _, rfl, ⟨_, rfl, y0, _, rfl, ⟨m, rfl, _⟩, y1, _, rfl, ⟨a, rfl, _⟩, y2, _, rfl, h2, rfl⟩, x2, _, rfl, h3, rfl⟩ := h
      obtain ⟨l, rfl, _⟩ := lists_of h0
      obtain ⟨t, rfl, _⟩ := bytes_of h2
      obtain ⟨pr, rfl, hpr⟩ := arrs_of h3
      exact c_mbinds l m a t pr hpr)
theorem over : Rows.merkleBindsRow.holds Tryd.pinned (OpenSpec.ofChange Rows.merkleBindsSpec) :=
  OpenClaim.holds_of_wide 13 Tryd.f13 rfl rfl rfl rfl rfl rfl rfl ⟨rfl, rfl, rfl, rfl, rfl⟩ rfl rfl rfl rfl rfl (by kernel_rfl) Tryd.func13 (by kernel_rfl)
    (of_decide_eq_true (by kernel_rfl)) (by unfold Func.isWrapper; first | (rw [if_pos (by decide +kernel)]; kernel_rfl) | (rw [if_neg (by decide +kernel)]; exact ⟨rfl, rfl⟩))
    (fun os started H enc _ => lifted os started H enc)

theorem proved : Rows.MerkleBindsCardSaid :=
  Claim7.holds_tied_plain_at .later [] [.data, .data] true (true, "9025c0d47b99342deb5c8dd7a074a52b35ec2414d4b499584f3c0e60d9656208") false
    over (fun _ h => by cases h) (by kernel_rfl) (fun _ h => by cases h) merkleBinds_row_tie rfl ⟨rfl, rfl⟩ (by kernel_rfl) rfl
    (fun f fn hf hfn => by
      obtain rfl : f = 13 := Option.some.inj ((show Tryd.prog.funcNamed "tithing/tithinglaw26.MerkleBinds" = some 13 by kernel_rfl).symm.trans hf) |>.symm
      obtain rfl : fn = Tryd.f13 := (Option.some.inj (Tryd.func13.symm.trans hfn)).symm
      exact ⟨by kernel_rfl, fun j t ht => by
        rw [Tryd.params13] at ht
        have hm : t ∈ [69, 81, 71] := by simpa using Array.mem_of_getElem? ht
        have hall : ([69, 81, 71].all fun u => !Tryd.prog.wantsStandIn u) = true := by kernel_rfl
        exact (show Tryd.prog.wantsStandIn t = false by simpa using List.all_eq_true.1 hall t hm)⟩)
    (by kernel_rfl)
end Go.Proofs.YtkcflejbhfaihaaDoor.merkleBinds
