/-
  DERIVED. GIVEN WITH THE SEED: THE CARDS: each row of YtcmdkiejkheahaaDoorRows.lean that lists a variable, with what it lists TIED to the program's text (the seventh form; the later family's looks); each row that meets fmt, with fmt's text TOLD by the authors' own Lean function (tested against real Go, not proved from fmt's source: count such statements apart). THE CARD IS WHAT COUNTS. Prove the row's statement (the work); the ties are given (YtcmdkiejkheahaaDoorTie.lean); close each card by the builder's one call (the guide's Derived/Test/ToyasCard.lean, 'card_holds'). Laid BY PROGRAM, IN A SANDBOX (cutbox-door.mjs). By AI agents, Wed Nov 11 2026. No macro, syntax, notation, axiom, sorry.
-/
import Derived.Test.YtcmdkiejkheahaaDoorRows
import GoSem.ClaimSeven
namespace Go.Proofs.YtcmdkiejkheahaaDoor
namespace Rows

/-- THE TIED CARD OF 'tithinglaw06.TxPuts'. -/
def txPutsCard : Claim7 := { stood := { row := txPutsRow, standIns := [], harness := (true, "c71ad578947da17f41addc89d9a3f33d8f5b78ac0b3c80166d89b413cc47b078"), looks := false }, kinds := [], alts := [], laidByText := true, laidKinds := [.data, .data], laidTests := true, laidLooks := .later }
def TxPutsCardSaid : Prop := Claim7.holds Tryd.pinned (.plain (OpenSpec.ofChange txPutsSpec)) txPutsCard

/-- THE TIED CARD OF 'tithinglaw07.BlockGets'. -/
def blockGetsCard : Claim7 := { stood := { row := blockGetsRow, standIns := [], harness := (true, "c71ad578947da17f41addc89d9a3f33d8f5b78ac0b3c80166d89b413cc47b078"), looks := false }, kinds := [], alts := [], laidByText := true, laidKinds := [.data], laidTests := true, laidLooks := .later }
def BlockGetsCardSaid : Prop := Claim7.holds Tryd.pinned (.plain (OpenSpec.ofChange blockGetsSpec)) blockGetsCard

/-- THE TIED CARD OF 'tithinglaw07.BlockPuts'. -/
def blockPutsCard : Claim7 := { stood := { row := blockPutsRow, standIns := [], harness := (true, "c71ad578947da17f41addc89d9a3f33d8f5b78ac0b3c80166d89b413cc47b078"), looks := false }, kinds := [], alts := [], laidByText := true, laidKinds := [.data, .data], laidTests := true, laidLooks := .later }
def BlockPutsCardSaid : Prop := Claim7.holds Tryd.pinned (.plain (OpenSpec.ofChange blockPutsSpec)) blockPutsCard

/-- THE TIED CARD OF 'tithinglaw07.BlockCopies'. -/
def blockCopiesCard : Claim7 := { stood := { row := blockCopiesRow, standIns := [], harness := (true, "c71ad578947da17f41addc89d9a3f33d8f5b78ac0b3c80166d89b413cc47b078"), looks := false }, kinds := [], alts := [], laidByText := true, laidKinds := [.data, .data], laidTests := true, laidLooks := .later }
def BlockCopiesCardSaid : Prop := Claim7.holds Tryd.pinned (.plain (OpenSpec.ofChange blockCopiesSpec)) blockCopiesCard

/-- THE TIED CARD OF 'tithinglaw25.ReceiptMakes'. -/
def receiptMakesCard : Claim7 := { stood := { row := receiptMakesRow, standIns := [], harness := (true, "c71ad578947da17f41addc89d9a3f33d8f5b78ac0b3c80166d89b413cc47b078"), looks := false }, kinds := [], alts := [], laidByText := true, laidKinds := [.data, .data], laidTests := true, laidLooks := .later }
def ReceiptMakesCardSaid : Prop := Claim7.holds Tryd.pinned (.plain (OpenSpec.ofChange receiptMakesSpec)) receiptMakesCard

/-- THE TIED CARD OF 'tithinglaw48.IndexFinds'. -/
def indexFindsCard : Claim7 := { stood := { row := indexFindsRow, standIns := [], harness := (true, "c71ad578947da17f41addc89d9a3f33d8f5b78ac0b3c80166d89b413cc47b078"), looks := false }, kinds := [], alts := [], laidByText := true, laidKinds := [.data, .data], laidTests := true, laidLooks := .later }
def IndexFindsCardSaid : Prop := Claim7.holds Tryd.pinned (.plain (OpenSpec.ofChange indexFindsSpec)) indexFindsCard

/-- THE TIED CARD OF 'tithinglaw21.OrphanActs'. -/
def orphanActsCard : Claim7 := { stood := { row := orphanActsRow, standIns := [], harness := (true, "c71ad578947da17f41addc89d9a3f33d8f5b78ac0b3c80166d89b413cc47b078"), looks := false }, kinds := [], alts := [], laidByText := true, laidKinds := [.data, .data], laidTests := true, laidLooks := .later }
def OrphanActsCardSaid : Prop := Claim7.holds Tryd.pinned (.plain (OpenSpec.ofChange orphanActsSpec)) orphanActsCard

/-- THE TIED CARD OF 'tithinglaw21.OrphanNobody'. -/
def orphanNobodyCard : Claim7 := { stood := { row := orphanNobodyRow, standIns := [], harness := (true, "c71ad578947da17f41addc89d9a3f33d8f5b78ac0b3c80166d89b413cc47b078"), looks := false }, kinds := [], alts := [], laidByText := true, laidKinds := [.data], laidTests := true, laidLooks := .later }
def OrphanNobodyCardSaid : Prop := Claim7.holds Tryd.pinned (.plain (OpenSpec.ofChange orphanNobodySpec)) orphanNobodyCard

/-- THE SECOND FORM's CARD OF 'tithinglaw06.TxPuts'. -/
def txPutsUptoCard : Claim7 := { stood := { row := txPutsUptoRow, standIns := [], harness := (true, "c71ad578947da17f41addc89d9a3f33d8f5b78ac0b3c80166d89b413cc47b078"), looks := false }, kinds := [], alts := [], laidByText := true, laidKinds := [.data, .data], laidTests := true, laidLooks := .later }
def TxPutsUptoCardSaid : Prop := Claim7.holds Tryd.pinned (.plain (OpenSpec.upto txPutsSpec)) txPutsUptoCard

/-- THE SECOND FORM's CARD OF 'tithinglaw07.BlockGets'. -/
def blockGetsUptoCard : Claim7 := { stood := { row := blockGetsUptoRow, standIns := [], harness := (true, "c71ad578947da17f41addc89d9a3f33d8f5b78ac0b3c80166d89b413cc47b078"), looks := false }, kinds := [], alts := [], laidByText := true, laidKinds := [.data], laidTests := true, laidLooks := .later }
def BlockGetsUptoCardSaid : Prop := Claim7.holds Tryd.pinned (.plain (OpenSpec.upto blockGetsSpec)) blockGetsUptoCard

/-- THE SECOND FORM's CARD OF 'tithinglaw07.BlockPuts'. -/
def blockPutsUptoCard : Claim7 := { stood := { row := blockPutsUptoRow, standIns := [], harness := (true, "c71ad578947da17f41addc89d9a3f33d8f5b78ac0b3c80166d89b413cc47b078"), looks := false }, kinds := [], alts := [], laidByText := true, laidKinds := [.data, .data], laidTests := true, laidLooks := .later }
def BlockPutsUptoCardSaid : Prop := Claim7.holds Tryd.pinned (.plain (OpenSpec.upto blockPutsSpec)) blockPutsUptoCard

/-- THE SECOND FORM's CARD OF 'tithinglaw07.BlockCopies'. -/
def blockCopiesUptoCard : Claim7 := { stood := { row := blockCopiesUptoRow, standIns := [], harness := (true, "c71ad578947da17f41addc89d9a3f33d8f5b78ac0b3c80166d89b413cc47b078"), looks := false }, kinds := [], alts := [], laidByText := true, laidKinds := [.data, .data], laidTests := true, laidLooks := .later }
def BlockCopiesUptoCardSaid : Prop := Claim7.holds Tryd.pinned (.plain (OpenSpec.upto blockCopiesSpec)) blockCopiesUptoCard

/-- THE SECOND FORM's CARD OF 'tithinglaw25.ReceiptMakes'. -/
def receiptMakesUptoCard : Claim7 := { stood := { row := receiptMakesUptoRow, standIns := [], harness := (true, "c71ad578947da17f41addc89d9a3f33d8f5b78ac0b3c80166d89b413cc47b078"), looks := false }, kinds := [], alts := [], laidByText := true, laidKinds := [.data, .data], laidTests := true, laidLooks := .later }
def ReceiptMakesUptoCardSaid : Prop := Claim7.holds Tryd.pinned (.plain (OpenSpec.upto receiptMakesSpec)) receiptMakesUptoCard

/-- THE SECOND FORM's CARD OF 'tithinglaw48.IndexFinds'. -/
def indexFindsUptoCard : Claim7 := { stood := { row := indexFindsUptoRow, standIns := [], harness := (true, "c71ad578947da17f41addc89d9a3f33d8f5b78ac0b3c80166d89b413cc47b078"), looks := false }, kinds := [], alts := [], laidByText := true, laidKinds := [.data, .data], laidTests := true, laidLooks := .later }
def IndexFindsUptoCardSaid : Prop := Claim7.holds Tryd.pinned (.plain (OpenSpec.upto indexFindsSpec)) indexFindsUptoCard

/-- THE SECOND FORM's CARD OF 'tithinglaw21.OrphanActs'. -/
def orphanActsUptoCard : Claim7 := { stood := { row := orphanActsUptoRow, standIns := [], harness := (true, "c71ad578947da17f41addc89d9a3f33d8f5b78ac0b3c80166d89b413cc47b078"), looks := false }, kinds := [], alts := [], laidByText := true, laidKinds := [.data, .data], laidTests := true, laidLooks := .later }
def OrphanActsUptoCardSaid : Prop := Claim7.holds Tryd.pinned (.plain (OpenSpec.upto orphanActsSpec)) orphanActsUptoCard

/-- THE SECOND FORM's CARD OF 'tithinglaw21.OrphanNobody'. -/
def orphanNobodyUptoCard : Claim7 := { stood := { row := orphanNobodyUptoRow, standIns := [], harness := (true, "c71ad578947da17f41addc89d9a3f33d8f5b78ac0b3c80166d89b413cc47b078"), looks := false }, kinds := [], alts := [], laidByText := true, laidKinds := [.data], laidTests := true, laidLooks := .later }
def OrphanNobodyUptoCardSaid : Prop := Claim7.holds Tryd.pinned (.plain (OpenSpec.upto orphanNobodySpec)) orphanNobodyUptoCard
end Rows
end Go.Proofs.YtcmdkiejkheahaaDoor
