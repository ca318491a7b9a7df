/-
  No cell of these rows narrows 'for every input' (looked for: loops, veiled, ifaces, maps, wideKeys, modest, calm, conditions, laid).
  DERIVED. THE GIVEN ROWS OF THIS SEAT. 12 by the template 'for every input the law returns true; each argument reads behind the call as it read before'; 0 by the template 'total and deterministic' (their statements: YtnggkhdmieafoaaTotals.lean).
  GIVEN WITH THE SEED: the statements are not yours to turn. If you find one false, say at which input.
  Laid BY PROGRAM, IN A SANDBOX (cutbox-rows.mjs): the forced cells as the released guide's own fill.sh prints them over the translation 6f61b032bd074468… (all of the seat's roots in one cut). By AI agents, Wed Nov 11 2026. No macro, syntax, notation, axiom, sorry.
-/
import Derived.Test.YtnggkhdmieafoaaChecked
import GoSem.Claim
import GoSem.ClaimJoined
import GoSem.ClaimMapViews
import Derived.JoinedTies
import Derived.KernelRfl
namespace Go.Proofs.Ytnggkhdmieafoaa
/- THE CELL 'sum', in the pinned program and in every row, IS THE sha256 OF THE DUMP (.gsa) THAT YtnggkhdmieafoaaProg.lean LOADS. Nothing in Lean hashes anything: it is a label: what it is worth is what the hold of that sum in a sandbox is worth. -/
noncomputable def Try.pinned : Pinned := { name := "ytnggkhdmieafoaa", sum := "6f61b032bd0744686c5bc0dd8f29975e2dfb6306e24dc6085b520a42e3afc2b6", checked := Try.checked }
namespace Rows
def none {H : Type} : Left H := { results := [], args := [] }

/-- 'tithinglaw05.CrcOf': WHATEVER THE INPUT: true; the input reads as it did. -/
def crcOfSpec : ChangeSpec := { name := "crcOf", fn := fun _ => fun
  | [d1, d2, d3] => { results := [.lit (.bool true)], args := [d1, d2, d3] }
  | _ => none }
def crcOfRow : OpenClaim := { program := "ytnggkhdmieafoaa", sum := "6f61b032bd0744686c5bc0dd8f29975e2dfb6306e24dc6085b520a42e3afc2b6", func := "tithing/tithinglaw05.CrcOf", spec := "crcOf", apart := false }
def CrcOfSaid : Prop := crcOfRow.holds Try.pinned (OpenSpec.ofChange crcOfSpec)

/-- ITS FALSE NEIGHBOUR: 'it returns false'. Refute it at one input. -/
def crcOfWrong : ChangeSpec := { name := "crcOf", fn := fun _ => fun
  | [d1, d2, d3] => { results := [.lit (.bool false)], args := [d1, d2, d3] }
  | _ => none }
def CrcOfWrongFalsely : Prop := crcOfRow.holds Try.pinned (OpenSpec.ofChange crcOfWrong)

/-- 'tithinglaw30.LeaderOf': WHATEVER THE INPUT: true; the input reads as it did. -/
def leaderOfSpec : ChangeSpec := { name := "leaderOf", fn := fun _ => fun
  | [d1, d2, d3] => { results := [.lit (.bool true)], args := [d1, d2, d3] }
  | _ => none }
def leaderOfRow : OpenClaim := { program := "ytnggkhdmieafoaa", sum := "6f61b032bd0744686c5bc0dd8f29975e2dfb6306e24dc6085b520a42e3afc2b6", func := "tithing/tithinglaw30.LeaderOf", spec := "leaderOf", apart := false }
def LeaderOfSaid : Prop := leaderOfRow.holds Try.pinned (OpenSpec.ofChange leaderOfSpec)

/-- ITS FALSE NEIGHBOUR: 'it returns false'. Refute it at one input. -/
def leaderOfWrong : ChangeSpec := { name := "leaderOf", fn := fun _ => fun
  | [d1, d2, d3] => { results := [.lit (.bool false)], args := [d1, d2, d3] }
  | _ => none }
def LeaderOfWrongFalsely : Prop := leaderOfRow.holds Try.pinned (OpenSpec.ofChange leaderOfWrong)

/-- 'tithinglaw30.LeaderTurns': WHATEVER THE INPUT: true; the input reads as it did. -/
def leaderTurnsSpec : ChangeSpec := { name := "leaderTurns", fn := fun _ => fun
  | [d1, d2, d3] => { results := [.lit (.bool true)], args := [d1, d2, d3] }
  | _ => none }
def leaderTurnsRow : OpenClaim := { program := "ytnggkhdmieafoaa", sum := "6f61b032bd0744686c5bc0dd8f29975e2dfb6306e24dc6085b520a42e3afc2b6", func := "tithing/tithinglaw30.LeaderTurns", spec := "leaderTurns", apart := false }
def LeaderTurnsSaid : Prop := leaderTurnsRow.holds Try.pinned (OpenSpec.ofChange leaderTurnsSpec)

/-- ITS FALSE NEIGHBOUR: 'it returns false'. Refute it at one input. -/
def leaderTurnsWrong : ChangeSpec := { name := "leaderTurns", fn := fun _ => fun
  | [d1, d2, d3] => { results := [.lit (.bool false)], args := [d1, d2, d3] }
  | _ => none }
def LeaderTurnsWrongFalsely : Prop := leaderTurnsRow.holds Try.pinned (OpenSpec.ofChange leaderTurnsWrong)

/-- 'tithinglaw01.OctetPuts': WHATEVER THE INPUT: true; the input reads as it did. -/
def octetPutsSpec : ChangeSpec := { name := "octetPuts", fn := fun _ => fun
  | [d1, d2] => { results := [.lit (.bool true)], args := [d1, d2] }
  | _ => none }
def octetPutsRow : OpenClaim := { program := "ytnggkhdmieafoaa", sum := "6f61b032bd0744686c5bc0dd8f29975e2dfb6306e24dc6085b520a42e3afc2b6", func := "tithing/tithinglaw01.OctetPuts", spec := "octetPuts", recurses := true, apart := false }
def OctetPutsSaid : Prop := octetPutsRow.holds Try.pinned (OpenSpec.ofChange octetPutsSpec)

/-- ITS FALSE NEIGHBOUR: 'it returns false'. Refute it at one input. -/
def octetPutsWrong : ChangeSpec := { name := "octetPuts", fn := fun _ => fun
  | [d1, d2] => { results := [.lit (.bool false)], args := [d1, d2] }
  | _ => none }
def OctetPutsWrongFalsely : Prop := octetPutsRow.holds Try.pinned (OpenSpec.ofChange octetPutsWrong)

/-- 'tithinglaw05.CrcRecords': WHATEVER THE INPUT: true; the input reads as it did. -/
def crcRecordsSpec : ChangeSpec := { name := "crcRecords", fn := fun _ => fun
  | [d1, d2] => { results := [.lit (.bool true)], args := [d1, d2] }
  | _ => none }
def crcRecordsRow : OpenClaim := { program := "ytnggkhdmieafoaa", sum := "6f61b032bd0744686c5bc0dd8f29975e2dfb6306e24dc6085b520a42e3afc2b6", func := "tithing/tithinglaw05.CrcRecords", spec := "crcRecords", apart := false }
def CrcRecordsSaid : Prop := crcRecordsRow.holds Try.pinned (OpenSpec.ofChange crcRecordsSpec)

/-- ITS FALSE NEIGHBOUR: 'it returns false'. Refute it at one input. -/
def crcRecordsWrong : ChangeSpec := { name := "crcRecords", fn := fun _ => fun
  | [d1, d2] => { results := [.lit (.bool false)], args := [d1, d2] }
  | _ => none }
def CrcRecordsWrongFalsely : Prop := crcRecordsRow.holds Try.pinned (OpenSpec.ofChange crcRecordsWrong)

/-- 'tithinglaw05.CrcTurns': WHATEVER THE INPUT: true; the input reads as it did. -/
def crcTurnsSpec : ChangeSpec := { name := "crcTurns", fn := fun _ => fun
  | [d1, d2, d3] => { results := [.lit (.bool true)], args := [d1, d2, d3] }
  | _ => none }
def crcTurnsRow : OpenClaim := { program := "ytnggkhdmieafoaa", sum := "6f61b032bd0744686c5bc0dd8f29975e2dfb6306e24dc6085b520a42e3afc2b6", func := "tithing/tithinglaw05.CrcTurns", spec := "crcTurns", apart := false }
def CrcTurnsSaid : Prop := crcTurnsRow.holds Try.pinned (OpenSpec.ofChange crcTurnsSpec)

/-- ITS FALSE NEIGHBOUR: 'it returns false'. Refute it at one input. -/
def crcTurnsWrong : ChangeSpec := { name := "crcTurns", fn := fun _ => fun
  | [d1, d2, d3] => { results := [.lit (.bool false)], args := [d1, d2, d3] }
  | _ => none }
def CrcTurnsWrongFalsely : Prop := crcTurnsRow.holds Try.pinned (OpenSpec.ofChange crcTurnsWrong)

/-- 'tithinglaw01.OctetBack': WHATEVER THE INPUT: true; the input reads as it did. -/
def octetBackSpec : ChangeSpec := { name := "octetBack", fn := fun _ => fun
  | [d] => { results := [.lit (.bool true)], args := [d] }
  | _ => none }
def octetBackRow : OpenClaim := { program := "ytnggkhdmieafoaa", sum := "6f61b032bd0744686c5bc0dd8f29975e2dfb6306e24dc6085b520a42e3afc2b6", func := "tithing/tithinglaw01.OctetBack", spec := "octetBack", apart := false }
def OctetBackSaid : Prop := octetBackRow.holds Try.pinned (OpenSpec.ofChange octetBackSpec)

/-- ITS FALSE NEIGHBOUR: 'it returns false'. Refute it at one input. -/
def octetBackWrong : ChangeSpec := { name := "octetBack", fn := fun _ => fun
  | [d] => { results := [.lit (.bool false)], args := [d] }
  | _ => none }
def OctetBackWrongFalsely : Prop := octetBackRow.holds Try.pinned (OpenSpec.ofChange octetBackWrong)

/-- 'tithinglaw01.OctetReads': WHATEVER THE INPUT: true; the input reads as it did. -/
def octetReadsSpec : ChangeSpec := { name := "octetReads", fn := fun _ => fun
  | [d1, d2] => { results := [.lit (.bool true)], args := [d1, d2] }
  | _ => none }
def octetReadsRow : OpenClaim := { program := "ytnggkhdmieafoaa", sum := "6f61b032bd0744686c5bc0dd8f29975e2dfb6306e24dc6085b520a42e3afc2b6", func := "tithing/tithinglaw01.OctetReads", spec := "octetReads", recurses := true, apart := false }
def OctetReadsSaid : Prop := octetReadsRow.holds Try.pinned (OpenSpec.ofChange octetReadsSpec)

/-- ITS FALSE NEIGHBOUR: 'it returns false'. Refute it at one input. -/
def octetReadsWrong : ChangeSpec := { name := "octetReads", fn := fun _ => fun
  | [d1, d2] => { results := [.lit (.bool false)], args := [d1, d2] }
  | _ => none }
def OctetReadsWrongFalsely : Prop := octetReadsRow.holds Try.pinned (OpenSpec.ofChange octetReadsWrong)

/-- 'tithinglaw33.FetchActs': WHATEVER THE INPUT: true; the input reads as it did. -/
def fetchActsSpec : ChangeSpec := { name := "fetchActs", fn := fun _ => fun
  | [d1, d2, d3] => { results := [.lit (.bool true)], args := [d1, d2, d3] }
  | _ => none }
def fetchActsRow : OpenClaim := { program := "ytnggkhdmieafoaa", sum := "6f61b032bd0744686c5bc0dd8f29975e2dfb6306e24dc6085b520a42e3afc2b6", func := "tithing/tithinglaw33.FetchActs", spec := "fetchActs", unfollowed := true, recurses := true, apart := false }
def FetchActsSaid : Prop := fetchActsRow.holds Try.pinned (OpenSpec.ofChange fetchActsSpec)

/-- ITS FALSE NEIGHBOUR: 'it returns false'. Refute it at one input. -/
def fetchActsWrong : ChangeSpec := { name := "fetchActs", fn := fun _ => fun
  | [d1, d2, d3] => { results := [.lit (.bool false)], args := [d1, d2, d3] }
  | _ => none }
def FetchActsWrongFalsely : Prop := fetchActsRow.holds Try.pinned (OpenSpec.ofChange fetchActsWrong)

/-- 'tithinglaw33.FetchAll': WHATEVER THE INPUT: true; the input reads as it did. -/
def fetchAllSpec : ChangeSpec := { name := "fetchAll", fn := fun _ => fun
  | [d1, d2, d3] => { results := [.lit (.bool true)], args := [d1, d2, d3] }
  | _ => none }
def fetchAllRow : OpenClaim := { program := "ytnggkhdmieafoaa", sum := "6f61b032bd0744686c5bc0dd8f29975e2dfb6306e24dc6085b520a42e3afc2b6", func := "tithing/tithinglaw33.FetchAll", spec := "fetchAll", unfollowed := true, recurses := true, apart := false }
def FetchAllSaid : Prop := fetchAllRow.holds Try.pinned (OpenSpec.ofChange fetchAllSpec)

/-- ITS FALSE NEIGHBOUR: 'it returns false'. Refute it at one input. -/
def fetchAllWrong : ChangeSpec := { name := "fetchAll", fn := fun _ => fun
  | [d1, d2, d3] => { results := [.lit (.bool false)], args := [d1, d2, d3] }
  | _ => none }
def FetchAllWrongFalsely : Prop := fetchAllRow.holds Try.pinned (OpenSpec.ofChange fetchAllWrong)

/-- 'tithinglaw01.OctetOne': WHATEVER THE INPUT: true; the input reads as it did. -/
def octetOneSpec : ChangeSpec := { name := "octetOne", fn := fun _ => fun
  | [d] => { results := [.lit (.bool true)], args := [d] }
  | _ => none }
def octetOneRow : OpenClaim := { program := "ytnggkhdmieafoaa", sum := "6f61b032bd0744686c5bc0dd8f29975e2dfb6306e24dc6085b520a42e3afc2b6", func := "tithing/tithinglaw01.OctetOne", spec := "octetOne", apart := false }
def OctetOneSaid : Prop := octetOneRow.holds Try.pinned (OpenSpec.ofChange octetOneSpec)

/-- ITS FALSE NEIGHBOUR: 'it returns false'. Refute it at one input. -/
def octetOneWrong : ChangeSpec := { name := "octetOne", fn := fun _ => fun
  | [d] => { results := [.lit (.bool false)], args := [d] }
  | _ => none }
def OctetOneWrongFalsely : Prop := octetOneRow.holds Try.pinned (OpenSpec.ofChange octetOneWrong)

/-- 'tithinglaw25.ReceiptPuts': WHATEVER THE INPUT: true; the input reads as it did. -/
def receiptPutsSpec : ChangeSpec := { name := "receiptPuts", fn := fun _ => fun
  | [d1, d2] => { results := [.lit (.bool true)], args := [d1, d2] }
  | _ => none }
def receiptPutsRow : OpenClaim := { program := "ytnggkhdmieafoaa", sum := "6f61b032bd0744686c5bc0dd8f29975e2dfb6306e24dc6085b520a42e3afc2b6", func := "tithing/tithinglaw25.ReceiptPuts", spec := "receiptPuts", recurses := true, apart := false }
def ReceiptPutsSaid : Prop := receiptPutsRow.holds Try.pinned (OpenSpec.ofChange receiptPutsSpec)

/-- ITS FALSE NEIGHBOUR: 'it returns false'. Refute it at one input. -/
def receiptPutsWrong : ChangeSpec := { name := "receiptPuts", fn := fun _ => fun
  | [d1, d2] => { results := [.lit (.bool false)], args := [d1, d2] }
  | _ => none }
def ReceiptPutsWrongFalsely : Prop := receiptPutsRow.holds Try.pinned (OpenSpec.ofChange receiptPutsWrong)

/- THE SECOND FORM. 'bulk': how many values and letters a reading holds, each counted each time it is reached (what is shared counts as often as it is met; a slice's spare places count too). A statement '..UptoSaid' is the law's where the arguments, and the package variables that the reading takes, are together of bulk at most 1048576: NARROWER than '..Said'. Prove '..Said' where nothing that the law and all that it calls make is longer than what came in: it says more and counts as full. Else prove '..UptoSaid'. A law counts once. -/
mutual
def uptoBulk {H : Type} : DataW H → Nat
  | .lit (.string bytes) => bytes.length + 1
  | .lit _ => 1
  | .nil => 1
  | .ptr d => uptoBulk d + 1
  | .slice elems spare => uptoBulkAll elems + uptoBulkAll spare + 1
  | .agg parts => uptoBulkAll parts + 1
  | .iface _ d => uptoBulk d + 1
  | .map entries => uptoBulkEntries entries + 1
  | .held _ => 1
def uptoBulkAll {H : Type} : List (DataW H) → Nat
  | [] => 0
  | d :: r => uptoBulk d + uptoBulkAll r
def uptoBulkEntries {H : Type} : List (Lit × DataW H) → Nat
  | [] => 0
  | x :: r => uptoBulkEntry x + uptoBulkEntries r
def uptoBulkEntry {H : Type} : Lit × DataW H → Nat
  | (.string bytes, d) => bytes.length + uptoBulk d + 1
  | (_, d) => uptoBulk d + 1
 end
def uptoSmall : (H : Type) → List (DataW H) → Bool := fun _ ds => decide (uptoBulkAll ds ≤ 1048576)
def OpenSpec.upto (s : _root_.Go.ChangeSpec) : _root_.Go.OpenSpec := { _root_.Go.OpenSpec.ofChange s with cond := some uptoSmall }

/-- 'tithinglaw05.CrcOf', WHERE WHAT IT READS IS OF BULK AT MOST 1048576: true; the input reads as it did. -/
def crcOfUptoRow : OpenClaim := { program := "ytnggkhdmieafoaa", sum := "6f61b032bd0744686c5bc0dd8f29975e2dfb6306e24dc6085b520a42e3afc2b6", func := "tithing/tithinglaw05.CrcOf", spec := "crcOf", apart := false, narrowed := true }
def CrcOfUptoSaid : Prop := crcOfUptoRow.holds Try.pinned (OpenSpec.upto crcOfSpec)

/-- 'tithinglaw30.LeaderOf', WHERE WHAT IT READS IS OF BULK AT MOST 1048576: true; the input reads as it did. -/
def leaderOfUptoRow : OpenClaim := { program := "ytnggkhdmieafoaa", sum := "6f61b032bd0744686c5bc0dd8f29975e2dfb6306e24dc6085b520a42e3afc2b6", func := "tithing/tithinglaw30.LeaderOf", spec := "leaderOf", apart := false, narrowed := true }
def LeaderOfUptoSaid : Prop := leaderOfUptoRow.holds Try.pinned (OpenSpec.upto leaderOfSpec)

/-- 'tithinglaw30.LeaderTurns', WHERE WHAT IT READS IS OF BULK AT MOST 1048576: true; the input reads as it did. -/
def leaderTurnsUptoRow : OpenClaim := { program := "ytnggkhdmieafoaa", sum := "6f61b032bd0744686c5bc0dd8f29975e2dfb6306e24dc6085b520a42e3afc2b6", func := "tithing/tithinglaw30.LeaderTurns", spec := "leaderTurns", apart := false, narrowed := true }
def LeaderTurnsUptoSaid : Prop := leaderTurnsUptoRow.holds Try.pinned (OpenSpec.upto leaderTurnsSpec)

/-- 'tithinglaw01.OctetPuts', WHERE WHAT IT READS IS OF BULK AT MOST 1048576: true; the input reads as it did. -/
def octetPutsUptoRow : OpenClaim := { program := "ytnggkhdmieafoaa", sum := "6f61b032bd0744686c5bc0dd8f29975e2dfb6306e24dc6085b520a42e3afc2b6", func := "tithing/tithinglaw01.OctetPuts", spec := "octetPuts", recurses := true, apart := false, narrowed := true }
def OctetPutsUptoSaid : Prop := octetPutsUptoRow.holds Try.pinned (OpenSpec.upto octetPutsSpec)

/-- 'tithinglaw05.CrcRecords', WHERE WHAT IT READS IS OF BULK AT MOST 1048576: true; the input reads as it did. -/
def crcRecordsUptoRow : OpenClaim := { program := "ytnggkhdmieafoaa", sum := "6f61b032bd0744686c5bc0dd8f29975e2dfb6306e24dc6085b520a42e3afc2b6", func := "tithing/tithinglaw05.CrcRecords", spec := "crcRecords", apart := false, narrowed := true }
def CrcRecordsUptoSaid : Prop := crcRecordsUptoRow.holds Try.pinned (OpenSpec.upto crcRecordsSpec)

/-- 'tithinglaw05.CrcTurns', WHERE WHAT IT READS IS OF BULK AT MOST 1048576: true; the input reads as it did. -/
def crcTurnsUptoRow : OpenClaim := { program := "ytnggkhdmieafoaa", sum := "6f61b032bd0744686c5bc0dd8f29975e2dfb6306e24dc6085b520a42e3afc2b6", func := "tithing/tithinglaw05.CrcTurns", spec := "crcTurns", apart := false, narrowed := true }
def CrcTurnsUptoSaid : Prop := crcTurnsUptoRow.holds Try.pinned (OpenSpec.upto crcTurnsSpec)

/-- 'tithinglaw01.OctetBack', WHERE WHAT IT READS IS OF BULK AT MOST 1048576: true; the input reads as it did. -/
def octetBackUptoRow : OpenClaim := { program := "ytnggkhdmieafoaa", sum := "6f61b032bd0744686c5bc0dd8f29975e2dfb6306e24dc6085b520a42e3afc2b6", func := "tithing/tithinglaw01.OctetBack", spec := "octetBack", apart := false, narrowed := true }
def OctetBackUptoSaid : Prop := octetBackUptoRow.holds Try.pinned (OpenSpec.upto octetBackSpec)

/-- 'tithinglaw01.OctetReads', WHERE WHAT IT READS IS OF BULK AT MOST 1048576: true; the input reads as it did. -/
def octetReadsUptoRow : OpenClaim := { program := "ytnggkhdmieafoaa", sum := "6f61b032bd0744686c5bc0dd8f29975e2dfb6306e24dc6085b520a42e3afc2b6", func := "tithing/tithinglaw01.OctetReads", spec := "octetReads", recurses := true, apart := false, narrowed := true }
def OctetReadsUptoSaid : Prop := octetReadsUptoRow.holds Try.pinned (OpenSpec.upto octetReadsSpec)

/-- 'tithinglaw33.FetchActs', WHERE WHAT IT READS IS OF BULK AT MOST 1048576: true; the input reads as it did. -/
def fetchActsUptoRow : OpenClaim := { program := "ytnggkhdmieafoaa", sum := "6f61b032bd0744686c5bc0dd8f29975e2dfb6306e24dc6085b520a42e3afc2b6", func := "tithing/tithinglaw33.FetchActs", spec := "fetchActs", unfollowed := true, recurses := true, apart := false, narrowed := true }
def FetchActsUptoSaid : Prop := fetchActsUptoRow.holds Try.pinned (OpenSpec.upto fetchActsSpec)

/-- 'tithinglaw33.FetchAll', WHERE WHAT IT READS IS OF BULK AT MOST 1048576: true; the input reads as it did. -/
def fetchAllUptoRow : OpenClaim := { program := "ytnggkhdmieafoaa", sum := "6f61b032bd0744686c5bc0dd8f29975e2dfb6306e24dc6085b520a42e3afc2b6", func := "tithing/tithinglaw33.FetchAll", spec := "fetchAll", unfollowed := true, recurses := true, apart := false, narrowed := true }
def FetchAllUptoSaid : Prop := fetchAllUptoRow.holds Try.pinned (OpenSpec.upto fetchAllSpec)

/-- 'tithinglaw01.OctetOne', WHERE WHAT IT READS IS OF BULK AT MOST 1048576: true; the input reads as it did. -/
def octetOneUptoRow : OpenClaim := { program := "ytnggkhdmieafoaa", sum := "6f61b032bd0744686c5bc0dd8f29975e2dfb6306e24dc6085b520a42e3afc2b6", func := "tithing/tithinglaw01.OctetOne", spec := "octetOne", apart := false, narrowed := true }
def OctetOneUptoSaid : Prop := octetOneUptoRow.holds Try.pinned (OpenSpec.upto octetOneSpec)

/-- 'tithinglaw25.ReceiptPuts', WHERE WHAT IT READS IS OF BULK AT MOST 1048576: true; the input reads as it did. -/
def receiptPutsUptoRow : OpenClaim := { program := "ytnggkhdmieafoaa", sum := "6f61b032bd0744686c5bc0dd8f29975e2dfb6306e24dc6085b520a42e3afc2b6", func := "tithing/tithinglaw25.ReceiptPuts", spec := "receiptPuts", recurses := true, apart := false, narrowed := true }
def ReceiptPutsUptoSaid : Prop := receiptPutsUptoRow.holds Try.pinned (OpenSpec.upto receiptPutsSpec)

end Rows
end Go.Proofs.Ytnggkhdmieafoaa
