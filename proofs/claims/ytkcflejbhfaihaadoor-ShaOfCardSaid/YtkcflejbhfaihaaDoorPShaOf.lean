/- What 'tithing/tithinglaw02.ShaOf' states: whatever the input, it returns true, and the input reads as it did; with what it lists tied to the program's text. No condition. -/
import Derived.Test.YtkcflejbhfaihaaDoorTie
import Derived.Test.YtkcflejbhfaihaaDoorCards
import Derived.SevenTiedAt
import Derived.ProofKit
import Derived.OpenShut
import Derived.Test.YtkcflejbhfaihaaDoorWordsC
import Derived.Test.YtkcflejbhfaihaaDoorPart03
import Derived.Test.YtkcflejbhfaihaaDoorPart16
set_option linter.unusedVariables false
set_option linter.unusedSimpArgs false
namespace Go.Proofs.YtkcflejbhfaihaaDoor.shaOf
open Go Go.ChangeShapes Go.WideShapes Go.ChangeAt Go.RowKit Go.WL Go.WL.T4

theorem own : ownKnob Tryd.prog.godebug = none := by kernel_rfl
theorem laidOut : laidOutB Tryd.prog = true := by kernel_rfl
theorem door_met (os : Os) (args : Array Value) : laidMetH Tryd.prog ld ((World.doorLaid Tryd.prog 400 os).forCall (fun _ _ => 0) ⟨#[], args, []⟩).memory :=
  laidMetH_of_parts3 (fuel := 8) (laidMet_of_run' 8 (by kernel_rfl) (by kernel_rfl)) (by kernel_rfl) (by kernel_rfl)
set_option maxRecDepth 100000 in
theorem lifted (os : Os) (started : os.Started) (H : Type) (enc : TypeId × Value → H) :
    ReturnsInHanded {} Tryd.checked os 3 .any (fun w args => (Rows.shaOfSpec.pre enc Tryd.prog Tryd.f3 [] false w args ∧ laidMetH Tryd.prog ld w) ∧ sizedMet enc Tryd.prog Tryd.f3 (OpenSpec.ofChange Rows.shaOfSpec) false w args)
      (Rows.shaOfSpec.post enc Tryd.prog Tryd.f3 false true false false) :=
  law_lifted_laid (C := Tryd.checked) tabOK hgl own laidOut (by kernel_rfl) Tryd.func3 rfl rfl (s := Rows.shaOfSpec) (bt := 4) (ts := [22, 23, 23]) (tys := [.sl .lf (.int .u8), .int .u16, .int .u16]) rfl Tryd.underlying4 rfl (by kernel_rfl) rfl rfl
    (fun H ds h => by match ds, h with | [d1, d2, d3], _ => rfl) started
    (ChangeSpec.witness_shaped (enc := enc) (C := Tryd.checked) (os := os) (X := fun w _ => laidMetH Tryd.prog ld w) false (World.doorLaid Tryd.prog 400 os) #[.slice none 0 0, .int .u16 0, .int .u16 0] 8 rfl (World.shaped_of_RefB (by kernel_rfl) (by kernel_rfl)) (by kernel_rfl) (by kernel_rfl) (by kernel_rfl) (door_met os _))
    (fun xs h => by
      obtain ⟨x0, _, rfl, h0, x1, _, rfl, ⟨x, rfl, hx⟩, x2, _, rfl, ⟨y, rfl, hy⟩, rfl⟩ := h
      obtain ⟨b, rfl, _⟩ := bytes_of h0
      have hx2 : 0 ≤ x ∧ x < 65536 := wf_u16 hx
      have hy2 : 0 ≤ y ∧ y < 65536 := wf_u16 hy
      obtain ⟨n, rfl⟩ := Int.eq_ofNat_of_zero_le hx2.1
      obtain ⟨m, rfl⟩ := Int.eq_ofNat_of_zero_le hy2.1
      exact c_shaOf b n m (by omega) (by omega))
theorem over : Rows.shaOfRow.holds Tryd.pinned (OpenSpec.ofChange Rows.shaOfSpec) :=
  OpenClaim.holds_of_wide 3 Tryd.f3 rfl rfl rfl rfl rfl rfl rfl ⟨rfl, rfl, rfl, rfl, rfl⟩ rfl rfl rfl rfl rfl (by kernel_rfl) Tryd.func3 (by kernel_rfl)
    (of_decide_eq_true (by kernel_rfl)) (by unfold Func.isWrapper; first | (rw [if_pos (by decide +kernel)]; kernel_rfl) | (rw [if_neg (by decide +kernel)]; exact ⟨rfl, rfl⟩))
    (fun os started H enc _ => lifted os started H enc)

theorem proved : Rows.ShaOfCardSaid :=
  Claim7.holds_tied_plain_at .later [] [.data, .data] true (true, "9025c0d47b99342deb5c8dd7a074a52b35ec2414d4b499584f3c0e60d9656208") false
    over (fun _ h => by cases h) (by kernel_rfl) (fun _ h => by cases h) shaOf_row_tie rfl ⟨rfl, rfl⟩ (by kernel_rfl) rfl
    (fun f fn hf hfn => by
      obtain rfl : f = 3 := Option.some.inj ((show Tryd.prog.funcNamed "tithing/tithinglaw02.ShaOf" = some 3 by kernel_rfl).symm.trans hf) |>.symm
      obtain rfl : fn = Tryd.f3 := (Option.some.inj (Tryd.func3.symm.trans hfn)).symm
      exact ⟨by kernel_rfl, fun j t ht => by
        rw [Tryd.params3] at ht
        have hm : t ∈ [22, 23, 23] := by simpa using Array.mem_of_getElem? ht
        have hall : ([22, 23, 23].all fun u => !Tryd.prog.wantsStandIn u) = true := by kernel_rfl
        exact (show Tryd.prog.wantsStandIn t = false by simpa using List.all_eq_true.1 hall t hm)⟩)
    (by kernel_rfl)
end Go.Proofs.YtkcflejbhfaihaaDoor.shaOf
