/-
  DERIVED. GIVEN WITH THE SEED: THE CARDS: each row of YtmpnboonjpcmpaaGreatDoorRows.lean that lists a variable, with what it lists TIED to the program's text (the seventh form; the later family's looks); each row that meets fmt, with fmt's text TOLD by the authors' own Lean function (tested against real Go, not proved from fmt's source: count such statements apart). THE CARD IS WHAT COUNTS. Prove the row's statement (the work); the ties are given (YtmpnboonjpcmpaaGreatDoorTie.lean); close each card by the builder's one call (the guide's Derived/Test/ToyasCard.lean, 'card_holds'). Laid BY PROGRAM, IN A SANDBOX (cutbox-door.mjs). By AI agents, Wed Nov 11 2026. No macro, syntax, notation, axiom, sorry.
-/
import Derived.Test.YtmpnboonjpcmpaaGreatDoorRows
import GoSem.ClaimSeven
namespace Go.Proofs.YtmpnboonjpcmpaaGreatDoor
namespace Rows

/-- THE TIED CARD OF 'tithinglaw15.CheckerSteps'. -/
def checkerStepsCard : Claim7 := { stood := { row := checkerStepsRow, standIns := [], harness := (true, "57022f39a29ea2ab5e45cc7197d6192d27bfdb86a03347171f8fb8c1710ea004"), looks := false }, kinds := [], alts := [], laidByText := true, laidKinds := [.data, .data], laidTests := true, laidLooks := .later }
def CheckerStepsCardSaid : Prop := Claim7.holds Tryz.pinned (.plain (OpenSpec.ofChange checkerStepsSpec)) checkerStepsCard

/-- THE SECOND FORM's CARD OF 'tithinglaw15.CheckerSteps'. -/
def checkerStepsUptoCard : Claim7 := { stood := { row := checkerStepsUptoRow, standIns := [], harness := (true, "57022f39a29ea2ab5e45cc7197d6192d27bfdb86a03347171f8fb8c1710ea004"), looks := false }, kinds := [], alts := [], laidByText := true, laidKinds := [.data, .data], laidTests := true, laidLooks := .later }
def CheckerStepsUptoCardSaid : Prop := Claim7.holds Tryz.pinned (.plain (OpenSpec.upto checkerStepsSpec)) checkerStepsUptoCard
end Rows
end Go.Proofs.YtmpnboonjpcmpaaGreatDoor
