/-
  DERIVED. GIVEN WITH THE SEED: THE CARDS: each row of YtmpnboonjpcmpaaDoorRows.lean that lists a variable, with what it lists TIED to the program's text (the seventh form; the later family's looks); each row that meets fmt, with fmt's text TOLD by the authors' own Lean function (tested against real Go, not proved from fmt's source: count such statements apart). THE CARD IS WHAT COUNTS. Prove the row's statement (the work); the ties are given (YtmpnboonjpcmpaaDoorTie.lean); close each card by the builder's one call (the guide's Derived/Test/ToyasCard.lean, 'card_holds'). Laid BY PROGRAM, IN A SANDBOX (cutbox-door.mjs). By AI agents, Wed Nov 11 2026. No macro, syntax, notation, axiom, sorry.
-/
import Derived.Test.YtmpnboonjpcmpaaDoorRows
import GoSem.ClaimSeven
namespace Go.Proofs.YtmpnboonjpcmpaaDoor
namespace Rows

/-- THE TIED CARD OF 'tithinglaw20.TreeActs'. -/
def treeActsCard : Claim7 := { stood := { row := treeActsRow, standIns := [], harness := (true, "35d3294a0e3a1b5399d4695da2a4aacecc4453918f370e43c31af1dd8f8d13b1"), looks := false }, kinds := [], alts := [], laidByText := true, laidKinds := [.data, .data], laidTests := true, laidLooks := .later }
def TreeActsCardSaid : Prop := Claim7.holds Tryd.pinned (.plain (OpenSpec.ofChange treeActsSpec)) treeActsCard

/-- THE TIED CARD OF 'tithinglaw20.TreeAncestors'. -/
def treeAncestorsCard : Claim7 := { stood := { row := treeAncestorsRow, standIns := [], harness := (true, "35d3294a0e3a1b5399d4695da2a4aacecc4453918f370e43c31af1dd8f8d13b1"), looks := false }, kinds := [], alts := [], laidByText := true, laidKinds := [.data, .data], laidTests := true, laidLooks := .later }
def TreeAncestorsCardSaid : Prop := Claim7.holds Tryd.pinned (.plain (OpenSpec.ofChange treeAncestorsSpec)) treeAncestorsCard

/-- THE TIED CARD OF 'tithinglaw46.SnapPuts'. -/
def snapPutsCard : Claim7 := { stood := { row := snapPutsRow, standIns := [], harness := (true, "35d3294a0e3a1b5399d4695da2a4aacecc4453918f370e43c31af1dd8f8d13b1"), looks := false }, kinds := [], alts := [], laidByText := true, laidKinds := [.data, .data], laidTests := true, laidLooks := .later }
def SnapPutsCardSaid : Prop := Claim7.holds Tryd.pinned (.plain (OpenSpec.ofChange snapPutsSpec)) snapPutsCard

/-- THE TIED CARD OF 'tithinglaw46.SnapPieces'. -/
def snapPiecesCard : Claim7 := { stood := { row := snapPiecesRow, standIns := [], harness := (true, "35d3294a0e3a1b5399d4695da2a4aacecc4453918f370e43c31af1dd8f8d13b1"), looks := false }, kinds := [], alts := [], laidByText := true, laidKinds := [.data, .data], laidTests := true, laidLooks := .later }
def SnapPiecesCardSaid : Prop := Claim7.holds Tryd.pinned (.plain (OpenSpec.ofChange snapPiecesSpec)) snapPiecesCard

/-- THE TIED CARD OF 'tithinglaw44.LightSteps'. -/
def lightStepsCard : Claim7 := { stood := { row := lightStepsRow, standIns := [], harness := (true, "35d3294a0e3a1b5399d4695da2a4aacecc4453918f370e43c31af1dd8f8d13b1"), looks := false }, kinds := [], alts := [], laidByText := true, laidKinds := [.data, .data], laidTests := true, laidLooks := .later }
def LightStepsCardSaid : Prop := Claim7.holds Tryd.pinned (.plain (OpenSpec.ofChange lightStepsSpec)) lightStepsCard

/-- THE TIED CARD OF 'tithinglaw44.LightRises'. -/
def lightRisesCard : Claim7 := { stood := { row := lightRisesRow, standIns := [], harness := (true, "35d3294a0e3a1b5399d4695da2a4aacecc4453918f370e43c31af1dd8f8d13b1"), looks := false }, kinds := [], alts := [], laidByText := true, laidKinds := [.data], laidTests := true, laidLooks := .later }
def LightRisesCardSaid : Prop := Claim7.holds Tryd.pinned (.plain (OpenSpec.ofChange lightRisesSpec)) lightRisesCard

/-- THE TIED CARD OF 'tithinglaw15.CheckerRises'. -/
def checkerRisesCard : Claim7 := { stood := { row := checkerRisesRow, standIns := [], harness := (true, "35d3294a0e3a1b5399d4695da2a4aacecc4453918f370e43c31af1dd8f8d13b1"), looks := false }, kinds := [], alts := [], laidByText := true, laidKinds := [.data, .data], laidTests := true, laidLooks := .later }
def CheckerRisesCardSaid : Prop := Claim7.holds Tryd.pinned (.plain (OpenSpec.ofChange checkerRisesSpec)) checkerRisesCard

/-- THE SECOND FORM's CARD OF 'tithinglaw20.TreeActs'. -/
def treeActsUptoCard : Claim7 := { stood := { row := treeActsUptoRow, standIns := [], harness := (true, "35d3294a0e3a1b5399d4695da2a4aacecc4453918f370e43c31af1dd8f8d13b1"), looks := false }, kinds := [], alts := [], laidByText := true, laidKinds := [.data, .data], laidTests := true, laidLooks := .later }
def TreeActsUptoCardSaid : Prop := Claim7.holds Tryd.pinned (.plain (OpenSpec.upto treeActsSpec)) treeActsUptoCard

/-- THE SECOND FORM's CARD OF 'tithinglaw20.TreeAncestors'. -/
def treeAncestorsUptoCard : Claim7 := { stood := { row := treeAncestorsUptoRow, standIns := [], harness := (true, "35d3294a0e3a1b5399d4695da2a4aacecc4453918f370e43c31af1dd8f8d13b1"), looks := false }, kinds := [], alts := [], laidByText := true, laidKinds := [.data, .data], laidTests := true, laidLooks := .later }
def TreeAncestorsUptoCardSaid : Prop := Claim7.holds Tryd.pinned (.plain (OpenSpec.upto treeAncestorsSpec)) treeAncestorsUptoCard

/-- THE SECOND FORM's CARD OF 'tithinglaw46.SnapPuts'. -/
def snapPutsUptoCard : Claim7 := { stood := { row := snapPutsUptoRow, standIns := [], harness := (true, "35d3294a0e3a1b5399d4695da2a4aacecc4453918f370e43c31af1dd8f8d13b1"), looks := false }, kinds := [], alts := [], laidByText := true, laidKinds := [.data, .data], laidTests := true, laidLooks := .later }
def SnapPutsUptoCardSaid : Prop := Claim7.holds Tryd.pinned (.plain (OpenSpec.upto snapPutsSpec)) snapPutsUptoCard

/-- THE SECOND FORM's CARD OF 'tithinglaw46.SnapPieces'. -/
def snapPiecesUptoCard : Claim7 := { stood := { row := snapPiecesUptoRow, standIns := [], harness := (true, "35d3294a0e3a1b5399d4695da2a4aacecc4453918f370e43c31af1dd8f8d13b1"), looks := false }, kinds := [], alts := [], laidByText := true, laidKinds := [.data, .data], laidTests := true, laidLooks := .later }
def SnapPiecesUptoCardSaid : Prop := Claim7.holds Tryd.pinned (.plain (OpenSpec.upto snapPiecesSpec)) snapPiecesUptoCard

/-- THE SECOND FORM's CARD OF 'tithinglaw44.LightSteps'. -/
def lightStepsUptoCard : Claim7 := { stood := { row := lightStepsUptoRow, standIns := [], harness := (true, "35d3294a0e3a1b5399d4695da2a4aacecc4453918f370e43c31af1dd8f8d13b1"), looks := false }, kinds := [], alts := [], laidByText := true, laidKinds := [.data, .data], laidTests := true, laidLooks := .later }
def LightStepsUptoCardSaid : Prop := Claim7.holds Tryd.pinned (.plain (OpenSpec.upto lightStepsSpec)) lightStepsUptoCard

/-- THE SECOND FORM's CARD OF 'tithinglaw44.LightRises'. -/
def lightRisesUptoCard : Claim7 := { stood := { row := lightRisesUptoRow, standIns := [], harness := (true, "35d3294a0e3a1b5399d4695da2a4aacecc4453918f370e43c31af1dd8f8d13b1"), looks := false }, kinds := [], alts := [], laidByText := true, laidKinds := [.data], laidTests := true, laidLooks := .later }
def LightRisesUptoCardSaid : Prop := Claim7.holds Tryd.pinned (.plain (OpenSpec.upto lightRisesSpec)) lightRisesUptoCard

/-- THE SECOND FORM's CARD OF 'tithinglaw15.CheckerRises'. -/
def checkerRisesUptoCard : Claim7 := { stood := { row := checkerRisesUptoRow, standIns := [], harness := (true, "35d3294a0e3a1b5399d4695da2a4aacecc4453918f370e43c31af1dd8f8d13b1"), looks := false }, kinds := [], alts := [], laidByText := true, laidKinds := [.data, .data], laidTests := true, laidLooks := .later }
def CheckerRisesUptoCardSaid : Prop := Claim7.holds Tryd.pinned (.plain (OpenSpec.upto checkerRisesSpec)) checkerRisesUptoCard
end Rows
end Go.Proofs.YtmpnboonjpcmpaaDoor
