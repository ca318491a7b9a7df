/-
  No cell of these rows narrows 'for every input' (looked for: loops, veiled, ifaces, maps, wideKeys, modest, calm, conditions, laid).
  DERIVED. THE GIVEN ROWS OF THIS SEAT. 3 by the template 'for every input the law returns true; each argument reads behind the call as it read before'; 0 by the template 'total and deterministic' (their statements: YtdpplgkhfclhgaaTotals.lean).
  GIVEN WITH THE SEED: the statements are not yours to turn. If you find one false, say at which input.
  Laid BY PROGRAM, IN A SANDBOX (cutbox-rows.mjs): the forced cells as the released guide's own fill.sh prints them over the translation efd6c679e5ab1e43… (all of the seat's roots in one cut). By AI agents, Wed Nov 11 2026. No macro, syntax, notation, axiom, sorry.
-/
import Derived.Test.YtdpplgkhfclhgaaChecked
import GoSem.Claim
import GoSem.ClaimJoined
import GoSem.ClaimMapViews
import Derived.JoinedTies
import Derived.KernelRfl
namespace Go.Proofs.Ytdpplgkhfclhgaa
/- THE CELL 'sum', in the pinned program and in every row, IS THE sha256 OF THE DUMP (.gsa) THAT YtdpplgkhfclhgaaProg.lean LOADS. Nothing in Lean hashes anything: it is a label: what it is worth is what the hold of that sum in a sandbox is worth. -/
noncomputable def Try.pinned : Pinned := { name := "ytdpplgkhfclhgaa", sum := "efd6c679e5ab1e4347833eea51907a719c93b8a12443167c630a137ca32c7875", checked := Try.checked }
namespace Rows
def none {H : Type} : Left H := { results := [], args := [] }

/-- 'tithinglaw05.CrcTurns': WHATEVER THE INPUT: true; the input reads as it did. -/
def crcTurnsSpec : ChangeSpec := { name := "crcTurns", fn := fun _ => fun
  | [d1, d2, d3] => { results := [.lit (.bool true)], args := [d1, d2, d3] }
  | _ => none }
def crcTurnsRow : OpenClaim := { program := "ytdpplgkhfclhgaa", sum := "efd6c679e5ab1e4347833eea51907a719c93b8a12443167c630a137ca32c7875", func := "tithing/tithinglaw05.CrcTurns", spec := "crcTurns", apart := false }
def CrcTurnsSaid : Prop := crcTurnsRow.holds Try.pinned (OpenSpec.ofChange crcTurnsSpec)

/-- ITS FALSE NEIGHBOUR: 'it returns false'. Refute it at one input. -/
def crcTurnsWrong : ChangeSpec := { name := "crcTurns", fn := fun _ => fun
  | [d1, d2, d3] => { results := [.lit (.bool false)], args := [d1, d2, d3] }
  | _ => none }
def CrcTurnsWrongFalsely : Prop := crcTurnsRow.holds Try.pinned (OpenSpec.ofChange crcTurnsWrong)

/-- 'tithinglaw33.FetchActs': WHATEVER THE INPUT: true; the input reads as it did. -/
def fetchActsSpec : ChangeSpec := { name := "fetchActs", fn := fun _ => fun
  | [d1, d2, d3] => { results := [.lit (.bool true)], args := [d1, d2, d3] }
  | _ => none }
def fetchActsRow : OpenClaim := { program := "ytdpplgkhfclhgaa", sum := "efd6c679e5ab1e4347833eea51907a719c93b8a12443167c630a137ca32c7875", func := "tithing/tithinglaw33.FetchActs", spec := "fetchActs", unfollowed := true, recurses := true, apart := false }
def FetchActsSaid : Prop := fetchActsRow.holds Try.pinned (OpenSpec.ofChange fetchActsSpec)

/-- ITS FALSE NEIGHBOUR: 'it returns false'. Refute it at one input. -/
def fetchActsWrong : ChangeSpec := { name := "fetchActs", fn := fun _ => fun
  | [d1, d2, d3] => { results := [.lit (.bool false)], args := [d1, d2, d3] }
  | _ => none }
def FetchActsWrongFalsely : Prop := fetchActsRow.holds Try.pinned (OpenSpec.ofChange fetchActsWrong)

/-- 'tithinglaw33.FetchAll': WHATEVER THE INPUT: true; the input reads as it did. -/
def fetchAllSpec : ChangeSpec := { name := "fetchAll", fn := fun _ => fun
  | [d1, d2, d3] => { results := [.lit (.bool true)], args := [d1, d2, d3] }
  | _ => none }
def fetchAllRow : OpenClaim := { program := "ytdpplgkhfclhgaa", sum := "efd6c679e5ab1e4347833eea51907a719c93b8a12443167c630a137ca32c7875", func := "tithing/tithinglaw33.FetchAll", spec := "fetchAll", unfollowed := true, recurses := true, apart := false }
def FetchAllSaid : Prop := fetchAllRow.holds Try.pinned (OpenSpec.ofChange fetchAllSpec)

/-- ITS FALSE NEIGHBOUR: 'it returns false'. Refute it at one input. -/
def fetchAllWrong : ChangeSpec := { name := "fetchAll", fn := fun _ => fun
  | [d1, d2, d3] => { results := [.lit (.bool false)], args := [d1, d2, d3] }
  | _ => none }
def FetchAllWrongFalsely : Prop := fetchAllRow.holds Try.pinned (OpenSpec.ofChange fetchAllWrong)

/- THE SECOND FORM. 'bulk': how many values and letters a reading holds, each counted each time it is reached (what is shared counts as often as it is met; a slice's spare places count too). A statement '..UptoSaid' is the law's where the arguments, and the package variables that the reading takes, are together of bulk at most 1048576: NARROWER than '..Said'. Prove '..Said' where nothing that the law and all that it calls make is longer than what came in: it says more and counts as full. Else prove '..UptoSaid'. A law counts once. -/
mutual
def uptoBulk {H : Type} : DataW H → Nat
  | .lit (.string bytes) => bytes.length + 1
  | .lit _ => 1
  | .nil => 1
  | .ptr d => uptoBulk d + 1
  | .slice elems spare => uptoBulkAll elems + uptoBulkAll spare + 1
  | .agg parts => uptoBulkAll parts + 1
  | .iface _ d => uptoBulk d + 1
  | .map entries => uptoBulkEntries entries + 1
  | .held _ => 1
def uptoBulkAll {H : Type} : List (DataW H) → Nat
  | [] => 0
  | d :: r => uptoBulk d + uptoBulkAll r
def uptoBulkEntries {H : Type} : List (Lit × DataW H) → Nat
  | [] => 0
  | x :: r => uptoBulkEntry x + uptoBulkEntries r
def uptoBulkEntry {H : Type} : Lit × DataW H → Nat
  | (.string bytes, d) => bytes.length + uptoBulk d + 1
  | (_, d) => uptoBulk d + 1
 end
def uptoSmall : (H : Type) → List (DataW H) → Bool := fun _ ds => decide (uptoBulkAll ds ≤ 1048576)
def OpenSpec.upto (s : _root_.Go.ChangeSpec) : _root_.Go.OpenSpec := { _root_.Go.OpenSpec.ofChange s with cond := some uptoSmall }

/-- 'tithinglaw05.CrcTurns', WHERE WHAT IT READS IS OF BULK AT MOST 1048576: true; the input reads as it did. -/
def crcTurnsUptoRow : OpenClaim := { program := "ytdpplgkhfclhgaa", sum := "efd6c679e5ab1e4347833eea51907a719c93b8a12443167c630a137ca32c7875", func := "tithing/tithinglaw05.CrcTurns", spec := "crcTurns", apart := false, narrowed := true }
def CrcTurnsUptoSaid : Prop := crcTurnsUptoRow.holds Try.pinned (OpenSpec.upto crcTurnsSpec)

/-- 'tithinglaw33.FetchActs', WHERE WHAT IT READS IS OF BULK AT MOST 1048576: true; the input reads as it did. -/
def fetchActsUptoRow : OpenClaim := { program := "ytdpplgkhfclhgaa", sum := "efd6c679e5ab1e4347833eea51907a719c93b8a12443167c630a137ca32c7875", func := "tithing/tithinglaw33.FetchActs", spec := "fetchActs", unfollowed := true, recurses := true, apart := false, narrowed := true }
def FetchActsUptoSaid : Prop := fetchActsUptoRow.holds Try.pinned (OpenSpec.upto fetchActsSpec)

/-- 'tithinglaw33.FetchAll', WHERE WHAT IT READS IS OF BULK AT MOST 1048576: true; the input reads as it did. -/
def fetchAllUptoRow : OpenClaim := { program := "ytdpplgkhfclhgaa", sum := "efd6c679e5ab1e4347833eea51907a719c93b8a12443167c630a137ca32c7875", func := "tithing/tithinglaw33.FetchAll", spec := "fetchAll", unfollowed := true, recurses := true, apart := false, narrowed := true }
def FetchAllUptoSaid : Prop := fetchAllUptoRow.holds Try.pinned (OpenSpec.upto fetchAllSpec)

end Rows
end Go.Proofs.Ytdpplgkhfclhgaa
