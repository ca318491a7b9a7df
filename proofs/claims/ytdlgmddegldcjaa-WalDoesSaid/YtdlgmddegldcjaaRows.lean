/-
  No cell of these rows narrows 'for every input' (looked for: loops, veiled, ifaces, maps, wideKeys, modest, calm, conditions, laid).
  DERIVED. THE GIVEN ROWS OF THIS SEAT. 12 by the template 'for every input the law returns true; each argument reads behind the call as it read before'; 0 by the template 'total and deterministic' (their statements: YtdlgmddegldcjaaTotals.lean).
  GIVEN WITH THE SEED: the statements are not yours to turn. If you find one false, say at which input.
  Laid BY PROGRAM, IN A SANDBOX (cutbox-rows.mjs): the forced cells as the released guide's own fill.sh prints them over the translation 84dec2e75d968294… (all of the seat's roots in one cut). By AI agents, Wed Nov 11 2026. No macro, syntax, notation, axiom, sorry.
-/
import Derived.Test.YtdlgmddegldcjaaChecked
import GoSem.Claim
import GoSem.ClaimJoined
import GoSem.ClaimMapViews
import Derived.JoinedTies
import Derived.KernelRfl
namespace Go.Proofs.Ytdlgmddegldcjaa
/- THE CELL 'sum', in the pinned program and in every row, IS THE sha256 OF THE DUMP (.gsa) THAT YtdlgmddegldcjaaProg.lean LOADS. Nothing in Lean hashes anything: it is a label: what it is worth is what the hold of that sum in a sandbox is worth. -/
noncomputable def Try.pinned : Pinned := { name := "ytdlgmddegldcjaa", sum := "84dec2e75d96829452272dc5f1ef19c0eaec314d0ff33462aa4ddbf6a987a073", checked := Try.checked }
namespace Rows
def none {H : Type} : Left H := { results := [], args := [] }

/-- 'tithinglaw18.DiskActs': WHATEVER THE INPUT: true; the input reads as it did. -/
def diskActsSpec : ChangeSpec := { name := "diskActs", fn := fun _ => fun
  | [d1, d2] => { results := [.lit (.bool true)], args := [d1, d2] }
  | _ => none }
def diskActsRow : OpenClaim := { program := "ytdlgmddegldcjaa", sum := "84dec2e75d96829452272dc5f1ef19c0eaec314d0ff33462aa4ddbf6a987a073", func := "tithing/tithinglaw18.DiskActs", spec := "diskActs", apart := false }
def DiskActsSaid : Prop := diskActsRow.holds Try.pinned (OpenSpec.ofChange diskActsSpec)

/-- ITS FALSE NEIGHBOUR: 'it returns false'. Refute it at one input. -/
def diskActsWrong : ChangeSpec := { name := "diskActs", fn := fun _ => fun
  | [d1, d2] => { results := [.lit (.bool false)], args := [d1, d2] }
  | _ => none }
def DiskActsWrongFalsely : Prop := diskActsRow.holds Try.pinned (OpenSpec.ofChange diskActsWrong)

/-- 'tithinglaw18.DiskFirm': WHATEVER THE INPUT: true; the input reads as it did. -/
def diskFirmSpec : ChangeSpec := { name := "diskFirm", fn := fun _ => fun
  | [d] => { results := [.lit (.bool true)], args := [d] }
  | _ => none }
def diskFirmRow : OpenClaim := { program := "ytdlgmddegldcjaa", sum := "84dec2e75d96829452272dc5f1ef19c0eaec314d0ff33462aa4ddbf6a987a073", func := "tithing/tithinglaw18.DiskFirm", spec := "diskFirm", apart := false }
def DiskFirmSaid : Prop := diskFirmRow.holds Try.pinned (OpenSpec.ofChange diskFirmSpec)

/-- ITS FALSE NEIGHBOUR: 'it returns false'. Refute it at one input. -/
def diskFirmWrong : ChangeSpec := { name := "diskFirm", fn := fun _ => fun
  | [d] => { results := [.lit (.bool false)], args := [d] }
  | _ => none }
def DiskFirmWrongFalsely : Prop := diskFirmRow.holds Try.pinned (OpenSpec.ofChange diskFirmWrong)

/-- 'tithinglaw18.DiskNobody': WHATEVER THE INPUT: true; the input reads as it did. -/
def diskNobodySpec : ChangeSpec := { name := "diskNobody", fn := fun _ => fun
  | [d1, d2, d3] => { results := [.lit (.bool true)], args := [d1, d2, d3] }
  | _ => none }
def diskNobodyRow : OpenClaim := { program := "ytdlgmddegldcjaa", sum := "84dec2e75d96829452272dc5f1ef19c0eaec314d0ff33462aa4ddbf6a987a073", func := "tithing/tithinglaw18.DiskNobody", spec := "diskNobody", apart := false }
def DiskNobodySaid : Prop := diskNobodyRow.holds Try.pinned (OpenSpec.ofChange diskNobodySpec)

/-- ITS FALSE NEIGHBOUR: 'it returns false'. Refute it at one input. -/
def diskNobodyWrong : ChangeSpec := { name := "diskNobody", fn := fun _ => fun
  | [d1, d2, d3] => { results := [.lit (.bool false)], args := [d1, d2, d3] }
  | _ => none }
def DiskNobodyWrongFalsely : Prop := diskNobodyRow.holds Try.pinned (OpenSpec.ofChange diskNobodyWrong)

/-- 'tithinglaw19.WalKeeps': WHATEVER THE INPUT: true; the input reads as it did. -/
def walKeepsSpec : ChangeSpec := { name := "walKeeps", fn := fun _ => fun
  | [d] => { results := [.lit (.bool true)], args := [d] }
  | _ => none }
def walKeepsRow : OpenClaim := { program := "ytdlgmddegldcjaa", sum := "84dec2e75d96829452272dc5f1ef19c0eaec314d0ff33462aa4ddbf6a987a073", func := "tithing/tithinglaw19.WalKeeps", spec := "walKeeps", apart := false }
def WalKeepsSaid : Prop := walKeepsRow.holds Try.pinned (OpenSpec.ofChange walKeepsSpec)

/-- ITS FALSE NEIGHBOUR: 'it returns false'. Refute it at one input. -/
def walKeepsWrong : ChangeSpec := { name := "walKeeps", fn := fun _ => fun
  | [d] => { results := [.lit (.bool false)], args := [d] }
  | _ => none }
def WalKeepsWrongFalsely : Prop := walKeepsRow.holds Try.pinned (OpenSpec.ofChange walKeepsWrong)

/-- 'tithinglaw19.WalSpoilt': WHATEVER THE INPUT: true; the input reads as it did. -/
def walSpoiltSpec : ChangeSpec := { name := "walSpoilt", fn := fun _ => fun
  | [d1, d2] => { results := [.lit (.bool true)], args := [d1, d2] }
  | _ => none }
def walSpoiltRow : OpenClaim := { program := "ytdlgmddegldcjaa", sum := "84dec2e75d96829452272dc5f1ef19c0eaec314d0ff33462aa4ddbf6a987a073", func := "tithing/tithinglaw19.WalSpoilt", spec := "walSpoilt", apart := false }
def WalSpoiltSaid : Prop := walSpoiltRow.holds Try.pinned (OpenSpec.ofChange walSpoiltSpec)

/-- ITS FALSE NEIGHBOUR: 'it returns false'. Refute it at one input. -/
def walSpoiltWrong : ChangeSpec := { name := "walSpoilt", fn := fun _ => fun
  | [d1, d2] => { results := [.lit (.bool false)], args := [d1, d2] }
  | _ => none }
def WalSpoiltWrongFalsely : Prop := walSpoiltRow.holds Try.pinned (OpenSpec.ofChange walSpoiltWrong)

/-- 'tithinglaw19.WalDoes': WHATEVER THE INPUT: true; the input reads as it did. -/
def walDoesSpec : ChangeSpec := { name := "walDoes", fn := fun _ => fun
  | [d1, d2] => { results := [.lit (.bool true)], args := [d1, d2] }
  | _ => none }
def walDoesRow : OpenClaim := { program := "ytdlgmddegldcjaa", sum := "84dec2e75d96829452272dc5f1ef19c0eaec314d0ff33462aa4ddbf6a987a073", func := "tithing/tithinglaw19.WalDoes", spec := "walDoes", apart := false }
def WalDoesSaid : Prop := walDoesRow.holds Try.pinned (OpenSpec.ofChange walDoesSpec)

/-- ITS FALSE NEIGHBOUR: 'it returns false'. Refute it at one input. -/
def walDoesWrong : ChangeSpec := { name := "walDoes", fn := fun _ => fun
  | [d1, d2] => { results := [.lit (.bool false)], args := [d1, d2] }
  | _ => none }
def WalDoesWrongFalsely : Prop := walDoesRow.holds Try.pinned (OpenSpec.ofChange walDoesWrong)

/-- 'tithinglaw23.KvOrder': WHATEVER THE INPUT: true; the input reads as it did. -/
def kvOrderSpec : ChangeSpec := { name := "kvOrder", fn := fun _ => fun
  | [d1, d2] => { results := [.lit (.bool true)], args := [d1, d2] }
  | _ => none }
def kvOrderRow : OpenClaim := { program := "ytdlgmddegldcjaa", sum := "84dec2e75d96829452272dc5f1ef19c0eaec314d0ff33462aa4ddbf6a987a073", func := "tithing/tithinglaw23.KvOrder", spec := "kvOrder", inPlace := ["internal/bytealg.abigen_runtime_cmpstring", "slices.overlaps[tithing/api.Pair]"], unfollowed := true, recurses := true, apart := false }
def KvOrderSaid : Prop := kvOrderRow.holds Try.pinned (OpenSpec.ofChange kvOrderSpec)

/-- ITS FALSE NEIGHBOUR: 'it returns false'. Refute it at one input. -/
def kvOrderWrong : ChangeSpec := { name := "kvOrder", fn := fun _ => fun
  | [d1, d2] => { results := [.lit (.bool false)], args := [d1, d2] }
  | _ => none }
def KvOrderWrongFalsely : Prop := kvOrderRow.holds Try.pinned (OpenSpec.ofChange kvOrderWrong)

/-- 'tithinglaw23.KvPuts': WHATEVER THE INPUT: true; the input reads as it did. -/
def kvPutsSpec : ChangeSpec := { name := "kvPuts", fn := fun _ => fun
  | [d1, d2, d3] => { results := [.lit (.bool true)], args := [d1, d2, d3] }
  | _ => none }
def kvPutsRow : OpenClaim := { program := "ytdlgmddegldcjaa", sum := "84dec2e75d96829452272dc5f1ef19c0eaec314d0ff33462aa4ddbf6a987a073", func := "tithing/tithinglaw23.KvPuts", spec := "kvPuts", inPlace := ["internal/bytealg.abigen_runtime_cmpstring", "slices.overlaps[tithing/api.Pair]"], unfollowed := true, recurses := true, apart := false }
def KvPutsSaid : Prop := kvPutsRow.holds Try.pinned (OpenSpec.ofChange kvPutsSpec)

/-- ITS FALSE NEIGHBOUR: 'it returns false'. Refute it at one input. -/
def kvPutsWrong : ChangeSpec := { name := "kvPuts", fn := fun _ => fun
  | [d1, d2, d3] => { results := [.lit (.bool false)], args := [d1, d2, d3] }
  | _ => none }
def KvPutsWrongFalsely : Prop := kvPutsRow.holds Try.pinned (OpenSpec.ofChange kvPutsWrong)

/-- 'tithinglaw23.KvOthers': WHATEVER THE INPUT: true; the input reads as it did. -/
def kvOthersSpec : ChangeSpec := { name := "kvOthers", fn := fun _ => fun
  | [d1, d2] => { results := [.lit (.bool true)], args := [d1, d2] }
  | _ => none }
def kvOthersRow : OpenClaim := { program := "ytdlgmddegldcjaa", sum := "84dec2e75d96829452272dc5f1ef19c0eaec314d0ff33462aa4ddbf6a987a073", func := "tithing/tithinglaw23.KvOthers", spec := "kvOthers", inPlace := ["internal/bytealg.abigen_runtime_cmpstring", "slices.overlaps[tithing/api.Pair]"], unfollowed := true, recurses := true, apart := false }
def KvOthersSaid : Prop := kvOthersRow.holds Try.pinned (OpenSpec.ofChange kvOthersSpec)

/-- ITS FALSE NEIGHBOUR: 'it returns false'. Refute it at one input. -/
def kvOthersWrong : ChangeSpec := { name := "kvOthers", fn := fun _ => fun
  | [d1, d2] => { results := [.lit (.bool false)], args := [d1, d2] }
  | _ => none }
def KvOthersWrongFalsely : Prop := kvOthersRow.holds Try.pinned (OpenSpec.ofChange kvOthersWrong)

/-- 'tithinglaw22.AccountKeeps': WHATEVER THE INPUT: true; the input reads as it did. -/
def accountKeepsSpec : ChangeSpec := { name := "accountKeeps", fn := fun _ => fun
  | [d] => { results := [.lit (.bool true)], args := [d] }
  | _ => none }
def accountKeepsRow : OpenClaim := { program := "ytdlgmddegldcjaa", sum := "84dec2e75d96829452272dc5f1ef19c0eaec314d0ff33462aa4ddbf6a987a073", func := "tithing/tithinglaw22.AccountKeeps", spec := "accountKeeps", inPlace := ["slices.overlaps[tithing/api.Account]"], unfollowed := true, recurses := true, apart := false }
def AccountKeepsSaid : Prop := accountKeepsRow.holds Try.pinned (OpenSpec.ofChange accountKeepsSpec)

/-- ITS FALSE NEIGHBOUR: 'it returns false'. Refute it at one input. -/
def accountKeepsWrong : ChangeSpec := { name := "accountKeeps", fn := fun _ => fun
  | [d] => { results := [.lit (.bool false)], args := [d] }
  | _ => none }
def AccountKeepsWrongFalsely : Prop := accountKeepsRow.holds Try.pinned (OpenSpec.ofChange accountKeepsWrong)

/-- 'tithinglaw22.AccountPays': WHATEVER THE INPUT: true; the input reads as it did. -/
def accountPaysSpec : ChangeSpec := { name := "accountPays", fn := fun _ => fun
  | [d1, d2] => { results := [.lit (.bool true)], args := [d1, d2] }
  | _ => none }
def accountPaysRow : OpenClaim := { program := "ytdlgmddegldcjaa", sum := "84dec2e75d96829452272dc5f1ef19c0eaec314d0ff33462aa4ddbf6a987a073", func := "tithing/tithinglaw22.AccountPays", spec := "accountPays", inPlace := ["slices.overlaps[tithing/api.Account]"], unfollowed := true, recurses := true, apart := false }
def AccountPaysSaid : Prop := accountPaysRow.holds Try.pinned (OpenSpec.ofChange accountPaysSpec)

/-- ITS FALSE NEIGHBOUR: 'it returns false'. Refute it at one input. -/
def accountPaysWrong : ChangeSpec := { name := "accountPays", fn := fun _ => fun
  | [d1, d2] => { results := [.lit (.bool false)], args := [d1, d2] }
  | _ => none }
def AccountPaysWrongFalsely : Prop := accountPaysRow.holds Try.pinned (OpenSpec.ofChange accountPaysWrong)

/-- 'tithinglaw27.PoolFull': WHATEVER THE INPUT: true; the input reads as it did. -/
def poolFullSpec : ChangeSpec := { name := "poolFull", fn := fun _ => fun
  | [d1, d2] => { results := [.lit (.bool true)], args := [d1, d2] }
  | _ => none }
def poolFullRow : OpenClaim := { program := "ytdlgmddegldcjaa", sum := "84dec2e75d96829452272dc5f1ef19c0eaec314d0ff33462aa4ddbf6a987a073", func := "tithing/tithinglaw27.PoolFull", spec := "poolFull", unfollowed := true, recurses := true, apart := false }
def PoolFullSaid : Prop := poolFullRow.holds Try.pinned (OpenSpec.ofChange poolFullSpec)

/-- ITS FALSE NEIGHBOUR: 'it returns false'. Refute it at one input. -/
def poolFullWrong : ChangeSpec := { name := "poolFull", fn := fun _ => fun
  | [d1, d2] => { results := [.lit (.bool false)], args := [d1, d2] }
  | _ => none }
def PoolFullWrongFalsely : Prop := poolFullRow.holds Try.pinned (OpenSpec.ofChange poolFullWrong)

/- THE SECOND FORM. 'bulk': how many values and letters a reading holds, each counted each time it is reached (what is shared counts as often as it is met; a slice's spare places count too). A statement '..UptoSaid' is the law's where the arguments, and the package variables that the reading takes, are together of bulk at most 1048576: NARROWER than '..Said'. Prove '..Said' where nothing that the law and all that it calls make is longer than what came in: it says more and counts as full. Else prove '..UptoSaid'. A law counts once. -/
mutual
def uptoBulk {H : Type} : DataW H → Nat
  | .lit (.string bytes) => bytes.length + 1
  | .lit _ => 1
  | .nil => 1
  | .ptr d => uptoBulk d + 1
  | .slice elems spare => uptoBulkAll elems + uptoBulkAll spare + 1
  | .agg parts => uptoBulkAll parts + 1
  | .iface _ d => uptoBulk d + 1
  | .map entries => uptoBulkEntries entries + 1
  | .held _ => 1
def uptoBulkAll {H : Type} : List (DataW H) → Nat
  | [] => 0
  | d :: r => uptoBulk d + uptoBulkAll r
def uptoBulkEntries {H : Type} : List (Lit × DataW H) → Nat
  | [] => 0
  | x :: r => uptoBulkEntry x + uptoBulkEntries r
def uptoBulkEntry {H : Type} : Lit × DataW H → Nat
  | (.string bytes, d) => bytes.length + uptoBulk d + 1
  | (_, d) => uptoBulk d + 1
 end
def uptoSmall : (H : Type) → List (DataW H) → Bool := fun _ ds => decide (uptoBulkAll ds ≤ 1048576)
def OpenSpec.upto (s : _root_.Go.ChangeSpec) : _root_.Go.OpenSpec := { _root_.Go.OpenSpec.ofChange s with cond := some uptoSmall }

/-- 'tithinglaw18.DiskActs', WHERE WHAT IT READS IS OF BULK AT MOST 1048576: true; the input reads as it did. -/
def diskActsUptoRow : OpenClaim := { program := "ytdlgmddegldcjaa", sum := "84dec2e75d96829452272dc5f1ef19c0eaec314d0ff33462aa4ddbf6a987a073", func := "tithing/tithinglaw18.DiskActs", spec := "diskActs", apart := false, narrowed := true }
def DiskActsUptoSaid : Prop := diskActsUptoRow.holds Try.pinned (OpenSpec.upto diskActsSpec)

/-- 'tithinglaw18.DiskFirm', WHERE WHAT IT READS IS OF BULK AT MOST 1048576: true; the input reads as it did. -/
def diskFirmUptoRow : OpenClaim := { program := "ytdlgmddegldcjaa", sum := "84dec2e75d96829452272dc5f1ef19c0eaec314d0ff33462aa4ddbf6a987a073", func := "tithing/tithinglaw18.DiskFirm", spec := "diskFirm", apart := false, narrowed := true }
def DiskFirmUptoSaid : Prop := diskFirmUptoRow.holds Try.pinned (OpenSpec.upto diskFirmSpec)

/-- 'tithinglaw18.DiskNobody', WHERE WHAT IT READS IS OF BULK AT MOST 1048576: true; the input reads as it did. -/
def diskNobodyUptoRow : OpenClaim := { program := "ytdlgmddegldcjaa", sum := "84dec2e75d96829452272dc5f1ef19c0eaec314d0ff33462aa4ddbf6a987a073", func := "tithing/tithinglaw18.DiskNobody", spec := "diskNobody", apart := false, narrowed := true }
def DiskNobodyUptoSaid : Prop := diskNobodyUptoRow.holds Try.pinned (OpenSpec.upto diskNobodySpec)

/-- 'tithinglaw19.WalKeeps', WHERE WHAT IT READS IS OF BULK AT MOST 1048576: true; the input reads as it did. -/
def walKeepsUptoRow : OpenClaim := { program := "ytdlgmddegldcjaa", sum := "84dec2e75d96829452272dc5f1ef19c0eaec314d0ff33462aa4ddbf6a987a073", func := "tithing/tithinglaw19.WalKeeps", spec := "walKeeps", apart := false, narrowed := true }
def WalKeepsUptoSaid : Prop := walKeepsUptoRow.holds Try.pinned (OpenSpec.upto walKeepsSpec)

/-- 'tithinglaw19.WalSpoilt', WHERE WHAT IT READS IS OF BULK AT MOST 1048576: true; the input reads as it did. -/
def walSpoiltUptoRow : OpenClaim := { program := "ytdlgmddegldcjaa", sum := "84dec2e75d96829452272dc5f1ef19c0eaec314d0ff33462aa4ddbf6a987a073", func := "tithing/tithinglaw19.WalSpoilt", spec := "walSpoilt", apart := false, narrowed := true }
def WalSpoiltUptoSaid : Prop := walSpoiltUptoRow.holds Try.pinned (OpenSpec.upto walSpoiltSpec)

/-- 'tithinglaw19.WalDoes', WHERE WHAT IT READS IS OF BULK AT MOST 1048576: true; the input reads as it did. -/
def walDoesUptoRow : OpenClaim := { program := "ytdlgmddegldcjaa", sum := "84dec2e75d96829452272dc5f1ef19c0eaec314d0ff33462aa4ddbf6a987a073", func := "tithing/tithinglaw19.WalDoes", spec := "walDoes", apart := false, narrowed := true }
def WalDoesUptoSaid : Prop := walDoesUptoRow.holds Try.pinned (OpenSpec.upto walDoesSpec)

/-- 'tithinglaw23.KvOrder', WHERE WHAT IT READS IS OF BULK AT MOST 1048576: true; the input reads as it did. -/
def kvOrderUptoRow : OpenClaim := { program := "ytdlgmddegldcjaa", sum := "84dec2e75d96829452272dc5f1ef19c0eaec314d0ff33462aa4ddbf6a987a073", func := "tithing/tithinglaw23.KvOrder", spec := "kvOrder", inPlace := ["internal/bytealg.abigen_runtime_cmpstring", "slices.overlaps[tithing/api.Pair]"], unfollowed := true, recurses := true, apart := false, narrowed := true }
def KvOrderUptoSaid : Prop := kvOrderUptoRow.holds Try.pinned (OpenSpec.upto kvOrderSpec)

/-- 'tithinglaw23.KvPuts', WHERE WHAT IT READS IS OF BULK AT MOST 1048576: true; the input reads as it did. -/
def kvPutsUptoRow : OpenClaim := { program := "ytdlgmddegldcjaa", sum := "84dec2e75d96829452272dc5f1ef19c0eaec314d0ff33462aa4ddbf6a987a073", func := "tithing/tithinglaw23.KvPuts", spec := "kvPuts", inPlace := ["internal/bytealg.abigen_runtime_cmpstring", "slices.overlaps[tithing/api.Pair]"], unfollowed := true, recurses := true, apart := false, narrowed := true }
def KvPutsUptoSaid : Prop := kvPutsUptoRow.holds Try.pinned (OpenSpec.upto kvPutsSpec)

/-- 'tithinglaw23.KvOthers', WHERE WHAT IT READS IS OF BULK AT MOST 1048576: true; the input reads as it did. -/
def kvOthersUptoRow : OpenClaim := { program := "ytdlgmddegldcjaa", sum := "84dec2e75d96829452272dc5f1ef19c0eaec314d0ff33462aa4ddbf6a987a073", func := "tithing/tithinglaw23.KvOthers", spec := "kvOthers", inPlace := ["internal/bytealg.abigen_runtime_cmpstring", "slices.overlaps[tithing/api.Pair]"], unfollowed := true, recurses := true, apart := false, narrowed := true }
def KvOthersUptoSaid : Prop := kvOthersUptoRow.holds Try.pinned (OpenSpec.upto kvOthersSpec)

/-- 'tithinglaw22.AccountKeeps', WHERE WHAT IT READS IS OF BULK AT MOST 1048576: true; the input reads as it did. -/
def accountKeepsUptoRow : OpenClaim := { program := "ytdlgmddegldcjaa", sum := "84dec2e75d96829452272dc5f1ef19c0eaec314d0ff33462aa4ddbf6a987a073", func := "tithing/tithinglaw22.AccountKeeps", spec := "accountKeeps", inPlace := ["slices.overlaps[tithing/api.Account]"], unfollowed := true, recurses := true, apart := false, narrowed := true }
def AccountKeepsUptoSaid : Prop := accountKeepsUptoRow.holds Try.pinned (OpenSpec.upto accountKeepsSpec)

/-- 'tithinglaw22.AccountPays', WHERE WHAT IT READS IS OF BULK AT MOST 1048576: true; the input reads as it did. -/
def accountPaysUptoRow : OpenClaim := { program := "ytdlgmddegldcjaa", sum := "84dec2e75d96829452272dc5f1ef19c0eaec314d0ff33462aa4ddbf6a987a073", func := "tithing/tithinglaw22.AccountPays", spec := "accountPays", inPlace := ["slices.overlaps[tithing/api.Account]"], unfollowed := true, recurses := true, apart := false, narrowed := true }
def AccountPaysUptoSaid : Prop := accountPaysUptoRow.holds Try.pinned (OpenSpec.upto accountPaysSpec)

/-- 'tithinglaw27.PoolFull', WHERE WHAT IT READS IS OF BULK AT MOST 1048576: true; the input reads as it did. -/
def poolFullUptoRow : OpenClaim := { program := "ytdlgmddegldcjaa", sum := "84dec2e75d96829452272dc5f1ef19c0eaec314d0ff33462aa4ddbf6a987a073", func := "tithing/tithinglaw27.PoolFull", spec := "poolFull", unfollowed := true, recurses := true, apart := false, narrowed := true }
def PoolFullUptoSaid : Prop := poolFullUptoRow.holds Try.pinned (OpenSpec.upto poolFullSpec)

end Rows
end Go.Proofs.Ytdlgmddegldcjaa
