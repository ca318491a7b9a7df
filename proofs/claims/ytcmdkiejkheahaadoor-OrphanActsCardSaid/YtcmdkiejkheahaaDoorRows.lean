/-
  NARROWER THAN 'FOR EVERY INPUT', by the rows' own cells (each row's printed sentence says how): TxPuts: laid · BlockGets: laid · BlockPuts: laid · BlockCopies: laid · ReceiptMakes: laid · IndexFinds: laid · OrphanActs: laid · OrphanNobody: laid.
  DERIVED. THE GIVEN ROWS OF THIS SEAT. 8 by the template 'for every input the law returns true; each argument reads behind the call as it read before'; 0 by the template 'total and deterministic' (their statements: YtcmdkiejkheahaaDoorTotals.lean).
  GIVEN WITH THE SEED: the statements are not yours to turn. If you find one false, say at which input.
  Laid BY PROGRAM, IN A SANDBOX (cutbox-rows.mjs): the forced cells as the released guide's own fill.sh prints them over the translation 787a8da280a1cca9… (all of the seat's roots in one cut). By AI agents, Wed Nov 11 2026. No macro, syntax, notation, axiom, sorry.
-/
import Derived.Test.YtcmdkiejkheahaaDoorChecked
import GoSem.Claim
import GoSem.ClaimJoined
import GoSem.ClaimMapViews
import Derived.JoinedTies
import Derived.KernelRfl
namespace Go.Proofs.YtcmdkiejkheahaaDoor
/- THE CELL 'sum', in the pinned program and in every row, IS THE sha256 OF THE DUMP (.gsa) THAT YtcmdkiejkheahaaDoorProg.lean LOADS. Nothing in Lean hashes anything: it is a label: what it is worth is what the hold of that sum in a sandbox is worth. -/
noncomputable def Tryd.pinned : Pinned := { name := "ytcmdkiejkheahaadoor", sum := "787a8da280a1cca9ebd96f69d37f0d3e123373b12918b602f5a56969845a5407", checked := Tryd.checked }
namespace Rows
def none {H : Type} : Left H := { results := [], args := [] }

/- WHAT THE LISTED PACKAGE-LEVEL VARIABLES READ AS WHEN THE CALL BEGINS. Each datum BY PROGRAM (the guide's laid-datum.mjs) off the statement by which the dump's own 'gosem.cut.vars' lays the variable. In a bare row this is a premise. The card (YtcmdkiejkheahaaDoorCards.lean) ties it to the program's text. -/
def laid_tithing_tithingref02_constants {H : Type} : DataW H := .agg [.lit (.int .u32 1116352408), .lit (.int .u32 1899447441), .lit (.int .u32 3049323471), .lit (.int .u32 3921009573), .lit (.int .u32 961987163), .lit (.int .u32 1508970993), .lit (.int .u32 2453635748), .lit (.int .u32 2870763221), .lit (.int .u32 3624381080), .lit (.int .u32 310598401), .lit (.int .u32 607225278), .lit (.int .u32 1426881987), .lit (.int .u32 1925078388), .lit (.int .u32 2162078206), .lit (.int .u32 2614888103), .lit (.int .u32 3248222580), .lit (.int .u32 3835390401), .lit (.int .u32 4022224774), .lit (.int .u32 264347078), .lit (.int .u32 604807628), .lit (.int .u32 770255983), .lit (.int .u32 1249150122), .lit (.int .u32 1555081692), .lit (.int .u32 1996064986), .lit (.int .u32 2554220882), .lit (.int .u32 2821834349), .lit (.int .u32 2952996808), .lit (.int .u32 3210313671), .lit (.int .u32 3336571891), .lit (.int .u32 3584528711), .lit (.int .u32 113926993), .lit (.int .u32 338241895), .lit (.int .u32 666307205), .lit (.int .u32 773529912), .lit (.int .u32 1294757372), .lit (.int .u32 1396182291), .lit (.int .u32 1695183700), .lit (.int .u32 1986661051), .lit (.int .u32 2177026350), .lit (.int .u32 2456956037), .lit (.int .u32 2730485921), .lit (.int .u32 2820302411), .lit (.int .u32 3259730800), .lit (.int .u32 3345764771), .lit (.int .u32 3516065817), .lit (.int .u32 3600352804), .lit (.int .u32 4094571909), .lit (.int .u32 275423344), .lit (.int .u32 430227734), .lit (.int .u32 506948616), .lit (.int .u32 659060556), .lit (.int .u32 883997877), .lit (.int .u32 958139571), .lit (.int .u32 1322822218), .lit (.int .u32 1537002063), .lit (.int .u32 1747873779), .lit (.int .u32 1955562222), .lit (.int .u32 2024104815), .lit (.int .u32 2227730452), .lit (.int .u32 2361852424), .lit (.int .u32 2428436474), .lit (.int .u32 2756734187), .lit (.int .u32 3204031479), .lit (.int .u32 3329325298)]
def laid_tithing_sha_constants {H : Type} : DataW H := .agg [.lit (.int .u32 1116352408), .lit (.int .u32 1899447441), .lit (.int .u32 3049323471), .lit (.int .u32 3921009573), .lit (.int .u32 961987163), .lit (.int .u32 1508970993), .lit (.int .u32 2453635748), .lit (.int .u32 2870763221), .lit (.int .u32 3624381080), .lit (.int .u32 310598401), .lit (.int .u32 607225278), .lit (.int .u32 1426881987), .lit (.int .u32 1925078388), .lit (.int .u32 2162078206), .lit (.int .u32 2614888103), .lit (.int .u32 3248222580), .lit (.int .u32 3835390401), .lit (.int .u32 4022224774), .lit (.int .u32 264347078), .lit (.int .u32 604807628), .lit (.int .u32 770255983), .lit (.int .u32 1249150122), .lit (.int .u32 1555081692), .lit (.int .u32 1996064986), .lit (.int .u32 2554220882), .lit (.int .u32 2821834349), .lit (.int .u32 2952996808), .lit (.int .u32 3210313671), .lit (.int .u32 3336571891), .lit (.int .u32 3584528711), .lit (.int .u32 113926993), .lit (.int .u32 338241895), .lit (.int .u32 666307205), .lit (.int .u32 773529912), .lit (.int .u32 1294757372), .lit (.int .u32 1396182291), .lit (.int .u32 1695183700), .lit (.int .u32 1986661051), .lit (.int .u32 2177026350), .lit (.int .u32 2456956037), .lit (.int .u32 2730485921), .lit (.int .u32 2820302411), .lit (.int .u32 3259730800), .lit (.int .u32 3345764771), .lit (.int .u32 3516065817), .lit (.int .u32 3600352804), .lit (.int .u32 4094571909), .lit (.int .u32 275423344), .lit (.int .u32 430227734), .lit (.int .u32 506948616), .lit (.int .u32 659060556), .lit (.int .u32 883997877), .lit (.int .u32 958139571), .lit (.int .u32 1322822218), .lit (.int .u32 1537002063), .lit (.int .u32 1747873779), .lit (.int .u32 1955562222), .lit (.int .u32 2024104815), .lit (.int .u32 2227730452), .lit (.int .u32 2361852424), .lit (.int .u32 2428436474), .lit (.int .u32 2756734187), .lit (.int .u32 3204031479), .lit (.int .u32 3329325298)]

/-- 'tithinglaw06.TxPuts': WHATEVER THE INPUT: true; the input reads as it did. -/
def txPutsSpec : ChangeSpec := { name := "txPuts", fn := fun _ => fun
  | [d1, d2, d3] => { results := [.lit (.bool true)], args := [d1, d2, d3] }
  | _ => none }
def txPutsRow : OpenClaim := { program := "ytcmdkiejkheahaadoor", sum := "787a8da280a1cca9ebd96f69d37f0d3e123373b12918b602f5a56969845a5407", func := "tithing/tithinglaw06.TxPuts", spec := "txPuts", recurses := true, named := ["tithing/sha.constants", "tithing/tithingref02.constants"], plainKeys := false, apart := false, laid := [("tithing/tithingref02.constants", laid_tithing_tithingref02_constants), ("tithing/sha.constants", laid_tithing_sha_constants)] }
def TxPutsSaid : Prop := txPutsRow.holds Tryd.pinned (OpenSpec.ofChange txPutsSpec)

/-- ITS FALSE NEIGHBOUR: 'it returns false'. Refute it at one input. -/
def txPutsWrong : ChangeSpec := { name := "txPuts", fn := fun _ => fun
  | [d1, d2, d3] => { results := [.lit (.bool false)], args := [d1, d2, d3] }
  | _ => none }
def TxPutsWrongFalsely : Prop := txPutsRow.holds Tryd.pinned (OpenSpec.ofChange txPutsWrong)

/-- 'tithinglaw07.BlockGets': WHATEVER THE INPUT: true; the input reads as it did. -/
def blockGetsSpec : ChangeSpec := { name := "blockGets", fn := fun _ => fun
  | [d] => { results := [.lit (.bool true)], args := [d] }
  | _ => none }
def blockGetsRow : OpenClaim := { program := "ytcmdkiejkheahaadoor", sum := "787a8da280a1cca9ebd96f69d37f0d3e123373b12918b602f5a56969845a5407", func := "tithing/tithinglaw07.BlockGets", spec := "blockGets", unfollowed := true, recurses := true, named := ["tithing/sha.constants"], plainKeys := false, apart := false, laid := [("tithing/sha.constants", laid_tithing_sha_constants)] }
def BlockGetsSaid : Prop := blockGetsRow.holds Tryd.pinned (OpenSpec.ofChange blockGetsSpec)

/-- ITS FALSE NEIGHBOUR: 'it returns false'. Refute it at one input. -/
def blockGetsWrong : ChangeSpec := { name := "blockGets", fn := fun _ => fun
  | [d] => { results := [.lit (.bool false)], args := [d] }
  | _ => none }
def BlockGetsWrongFalsely : Prop := blockGetsRow.holds Tryd.pinned (OpenSpec.ofChange blockGetsWrong)

/-- 'tithinglaw07.BlockPuts': WHATEVER THE INPUT: true; the input reads as it did. -/
def blockPutsSpec : ChangeSpec := { name := "blockPuts", fn := fun _ => fun
  | [d1, d2] => { results := [.lit (.bool true)], args := [d1, d2] }
  | _ => none }
def blockPutsRow : OpenClaim := { program := "ytcmdkiejkheahaadoor", sum := "787a8da280a1cca9ebd96f69d37f0d3e123373b12918b602f5a56969845a5407", func := "tithing/tithinglaw07.BlockPuts", spec := "blockPuts", unfollowed := true, recurses := true, named := ["tithing/sha.constants", "tithing/tithingref02.constants"], plainKeys := false, apart := false, laid := [("tithing/tithingref02.constants", laid_tithing_tithingref02_constants), ("tithing/sha.constants", laid_tithing_sha_constants)] }
def BlockPutsSaid : Prop := blockPutsRow.holds Tryd.pinned (OpenSpec.ofChange blockPutsSpec)

/-- ITS FALSE NEIGHBOUR: 'it returns false'. Refute it at one input. -/
def blockPutsWrong : ChangeSpec := { name := "blockPuts", fn := fun _ => fun
  | [d1, d2] => { results := [.lit (.bool false)], args := [d1, d2] }
  | _ => none }
def BlockPutsWrongFalsely : Prop := blockPutsRow.holds Tryd.pinned (OpenSpec.ofChange blockPutsWrong)

/-- 'tithinglaw07.BlockCopies': WHATEVER THE INPUT: true; the input reads as it did. -/
def blockCopiesSpec : ChangeSpec := { name := "blockCopies", fn := fun _ => fun
  | [d1, d2, d3] => { results := [.lit (.bool true)], args := [d1, d2, d3] }
  | _ => none }
def blockCopiesRow : OpenClaim := { program := "ytcmdkiejkheahaadoor", sum := "787a8da280a1cca9ebd96f69d37f0d3e123373b12918b602f5a56969845a5407", func := "tithing/tithinglaw07.BlockCopies", spec := "blockCopies", unfollowed := true, recurses := true, named := ["tithing/sha.constants", "tithing/tithingref02.constants"], plainKeys := false, apart := false, laid := [("tithing/tithingref02.constants", laid_tithing_tithingref02_constants), ("tithing/sha.constants", laid_tithing_sha_constants)] }
def BlockCopiesSaid : Prop := blockCopiesRow.holds Tryd.pinned (OpenSpec.ofChange blockCopiesSpec)

/-- ITS FALSE NEIGHBOUR: 'it returns false'. Refute it at one input. -/
def blockCopiesWrong : ChangeSpec := { name := "blockCopies", fn := fun _ => fun
  | [d1, d2, d3] => { results := [.lit (.bool false)], args := [d1, d2, d3] }
  | _ => none }
def BlockCopiesWrongFalsely : Prop := blockCopiesRow.holds Tryd.pinned (OpenSpec.ofChange blockCopiesWrong)

/-- 'tithinglaw25.ReceiptMakes': WHATEVER THE INPUT: true; the input reads as it did. -/
def receiptMakesSpec : ChangeSpec := { name := "receiptMakes", fn := fun _ => fun
  | [d1, d2, d3] => { results := [.lit (.bool true)], args := [d1, d2, d3] }
  | _ => none }
def receiptMakesRow : OpenClaim := { program := "ytcmdkiejkheahaadoor", sum := "787a8da280a1cca9ebd96f69d37f0d3e123373b12918b602f5a56969845a5407", func := "tithing/tithinglaw25.ReceiptMakes", spec := "receiptMakes", unfollowed := true, recurses := true, named := ["tithing/sha.constants", "tithing/tithingref02.constants"], plainKeys := false, apart := false, laid := [("tithing/tithingref02.constants", laid_tithing_tithingref02_constants), ("tithing/sha.constants", laid_tithing_sha_constants)] }
def ReceiptMakesSaid : Prop := receiptMakesRow.holds Tryd.pinned (OpenSpec.ofChange receiptMakesSpec)

/-- ITS FALSE NEIGHBOUR: 'it returns false'. Refute it at one input. -/
def receiptMakesWrong : ChangeSpec := { name := "receiptMakes", fn := fun _ => fun
  | [d1, d2, d3] => { results := [.lit (.bool false)], args := [d1, d2, d3] }
  | _ => none }
def ReceiptMakesWrongFalsely : Prop := receiptMakesRow.holds Tryd.pinned (OpenSpec.ofChange receiptMakesWrong)

/-- 'tithinglaw48.IndexFinds': WHATEVER THE INPUT: true; the input reads as it did. -/
def indexFindsSpec : ChangeSpec := { name := "indexFinds", fn := fun _ => fun
  | [d1, d2] => { results := [.lit (.bool true)], args := [d1, d2] }
  | _ => none }
def indexFindsRow : OpenClaim := { program := "ytcmdkiejkheahaadoor", sum := "787a8da280a1cca9ebd96f69d37f0d3e123373b12918b602f5a56969845a5407", func := "tithing/tithinglaw48.IndexFinds", spec := "indexFinds", unfollowed := true, recurses := true, named := ["tithing/sha.constants", "tithing/tithingref02.constants"], plainKeys := false, apart := false, laid := [("tithing/tithingref02.constants", laid_tithing_tithingref02_constants), ("tithing/sha.constants", laid_tithing_sha_constants)] }
def IndexFindsSaid : Prop := indexFindsRow.holds Tryd.pinned (OpenSpec.ofChange indexFindsSpec)

/-- ITS FALSE NEIGHBOUR: 'it returns false'. Refute it at one input. -/
def indexFindsWrong : ChangeSpec := { name := "indexFinds", fn := fun _ => fun
  | [d1, d2] => { results := [.lit (.bool false)], args := [d1, d2] }
  | _ => none }
def IndexFindsWrongFalsely : Prop := indexFindsRow.holds Tryd.pinned (OpenSpec.ofChange indexFindsWrong)

/-- 'tithinglaw21.OrphanActs': WHATEVER THE INPUT: true; the input reads as it did. -/
def orphanActsSpec : ChangeSpec := { name := "orphanActs", fn := fun _ => fun
  | [d] => { results := [.lit (.bool true)], args := [d] }
  | _ => none }
def orphanActsRow : OpenClaim := { program := "ytcmdkiejkheahaadoor", sum := "787a8da280a1cca9ebd96f69d37f0d3e123373b12918b602f5a56969845a5407", func := "tithing/tithinglaw21.OrphanActs", spec := "orphanActs", unfollowed := true, recurses := true, named := ["tithing/sha.constants", "tithing/tithingref02.constants"], plainKeys := false, apart := false, laid := [("tithing/tithingref02.constants", laid_tithing_tithingref02_constants), ("tithing/sha.constants", laid_tithing_sha_constants)] }
def OrphanActsSaid : Prop := orphanActsRow.holds Tryd.pinned (OpenSpec.ofChange orphanActsSpec)

/-- ITS FALSE NEIGHBOUR: 'it returns false'. Refute it at one input. -/
def orphanActsWrong : ChangeSpec := { name := "orphanActs", fn := fun _ => fun
  | [d] => { results := [.lit (.bool false)], args := [d] }
  | _ => none }
def OrphanActsWrongFalsely : Prop := orphanActsRow.holds Tryd.pinned (OpenSpec.ofChange orphanActsWrong)

/-- 'tithinglaw21.OrphanNobody': WHATEVER THE INPUT: true; the input reads as it did. -/
def orphanNobodySpec : ChangeSpec := { name := "orphanNobody", fn := fun _ => fun
  | [d1, d2] => { results := [.lit (.bool true)], args := [d1, d2] }
  | _ => none }
def orphanNobodyRow : OpenClaim := { program := "ytcmdkiejkheahaadoor", sum := "787a8da280a1cca9ebd96f69d37f0d3e123373b12918b602f5a56969845a5407", func := "tithing/tithinglaw21.OrphanNobody", spec := "orphanNobody", unfollowed := true, recurses := true, named := ["tithing/sha.constants"], plainKeys := false, apart := false, laid := [("tithing/sha.constants", laid_tithing_sha_constants)] }
def OrphanNobodySaid : Prop := orphanNobodyRow.holds Tryd.pinned (OpenSpec.ofChange orphanNobodySpec)

/-- ITS FALSE NEIGHBOUR: 'it returns false'. Refute it at one input. -/
def orphanNobodyWrong : ChangeSpec := { name := "orphanNobody", fn := fun _ => fun
  | [d1, d2] => { results := [.lit (.bool false)], args := [d1, d2] }
  | _ => none }
def OrphanNobodyWrongFalsely : Prop := orphanNobodyRow.holds Tryd.pinned (OpenSpec.ofChange orphanNobodyWrong)

/- THE SECOND FORM. 'bulk': how many values and letters a reading holds, each counted each time it is reached (what is shared counts as often as it is met; a slice's spare places count too). A statement '..UptoSaid' is the law's where the arguments, and the package variables that the reading takes, are together of bulk at most 1048576: NARROWER than '..Said'. Prove '..Said' where nothing that the law and all that it calls make is longer than what came in: it says more and counts as full. Else prove '..UptoSaid'. A law counts once. -/
mutual
def uptoBulk {H : Type} : DataW H → Nat
  | .lit (.string bytes) => bytes.length + 1
  | .lit _ => 1
  | .nil => 1
  | .ptr d => uptoBulk d + 1
  | .slice elems spare => uptoBulkAll elems + uptoBulkAll spare + 1
  | .agg parts => uptoBulkAll parts + 1
  | .iface _ d => uptoBulk d + 1
  | .map entries => uptoBulkEntries entries + 1
  | .held _ => 1
def uptoBulkAll {H : Type} : List (DataW H) → Nat
  | [] => 0
  | d :: r => uptoBulk d + uptoBulkAll r
def uptoBulkEntries {H : Type} : List (Lit × DataW H) → Nat
  | [] => 0
  | x :: r => uptoBulkEntry x + uptoBulkEntries r
def uptoBulkEntry {H : Type} : Lit × DataW H → Nat
  | (.string bytes, d) => bytes.length + uptoBulk d + 1
  | (_, d) => uptoBulk d + 1
 end
def uptoSmall : (H : Type) → List (DataW H) → Bool := fun _ ds => decide (uptoBulkAll ds ≤ 1048576)
def OpenSpec.upto (s : _root_.Go.ChangeSpec) : _root_.Go.OpenSpec := { _root_.Go.OpenSpec.ofChange s with cond := some uptoSmall }

/-- 'tithinglaw06.TxPuts', WHERE WHAT IT READS IS OF BULK AT MOST 1048576: true; the input reads as it did. -/
def txPutsUptoRow : OpenClaim := { program := "ytcmdkiejkheahaadoor", sum := "787a8da280a1cca9ebd96f69d37f0d3e123373b12918b602f5a56969845a5407", func := "tithing/tithinglaw06.TxPuts", spec := "txPuts", recurses := true, named := ["tithing/sha.constants", "tithing/tithingref02.constants"], plainKeys := false, apart := false, laid := [("tithing/tithingref02.constants", laid_tithing_tithingref02_constants), ("tithing/sha.constants", laid_tithing_sha_constants)], narrowed := true }
def TxPutsUptoSaid : Prop := txPutsUptoRow.holds Tryd.pinned (OpenSpec.upto txPutsSpec)

/-- 'tithinglaw07.BlockGets', WHERE WHAT IT READS IS OF BULK AT MOST 1048576: true; the input reads as it did. -/
def blockGetsUptoRow : OpenClaim := { program := "ytcmdkiejkheahaadoor", sum := "787a8da280a1cca9ebd96f69d37f0d3e123373b12918b602f5a56969845a5407", func := "tithing/tithinglaw07.BlockGets", spec := "blockGets", unfollowed := true, recurses := true, named := ["tithing/sha.constants"], plainKeys := false, apart := false, laid := [("tithing/sha.constants", laid_tithing_sha_constants)], narrowed := true }
def BlockGetsUptoSaid : Prop := blockGetsUptoRow.holds Tryd.pinned (OpenSpec.upto blockGetsSpec)

/-- 'tithinglaw07.BlockPuts', WHERE WHAT IT READS IS OF BULK AT MOST 1048576: true; the input reads as it did. -/
def blockPutsUptoRow : OpenClaim := { program := "ytcmdkiejkheahaadoor", sum := "787a8da280a1cca9ebd96f69d37f0d3e123373b12918b602f5a56969845a5407", func := "tithing/tithinglaw07.BlockPuts", spec := "blockPuts", unfollowed := true, recurses := true, named := ["tithing/sha.constants", "tithing/tithingref02.constants"], plainKeys := false, apart := false, laid := [("tithing/tithingref02.constants", laid_tithing_tithingref02_constants), ("tithing/sha.constants", laid_tithing_sha_constants)], narrowed := true }
def BlockPutsUptoSaid : Prop := blockPutsUptoRow.holds Tryd.pinned (OpenSpec.upto blockPutsSpec)

/-- 'tithinglaw07.BlockCopies', WHERE WHAT IT READS IS OF BULK AT MOST 1048576: true; the input reads as it did. -/
def blockCopiesUptoRow : OpenClaim := { program := "ytcmdkiejkheahaadoor", sum := "787a8da280a1cca9ebd96f69d37f0d3e123373b12918b602f5a56969845a5407", func := "tithing/tithinglaw07.BlockCopies", spec := "blockCopies", unfollowed := true, recurses := true, named := ["tithing/sha.constants", "tithing/tithingref02.constants"], plainKeys := false, apart := false, laid := [("tithing/tithingref02.constants", laid_tithing_tithingref02_constants), ("tithing/sha.constants", laid_tithing_sha_constants)], narrowed := true }
def BlockCopiesUptoSaid : Prop := blockCopiesUptoRow.holds Tryd.pinned (OpenSpec.upto blockCopiesSpec)

/-- 'tithinglaw25.ReceiptMakes', WHERE WHAT IT READS IS OF BULK AT MOST 1048576: true; the input reads as it did. -/
def receiptMakesUptoRow : OpenClaim := { program := "ytcmdkiejkheahaadoor", sum := "787a8da280a1cca9ebd96f69d37f0d3e123373b12918b602f5a56969845a5407", func := "tithing/tithinglaw25.ReceiptMakes", spec := "receiptMakes", unfollowed := true, recurses := true, named := ["tithing/sha.constants", "tithing/tithingref02.constants"], plainKeys := false, apart := false, laid := [("tithing/tithingref02.constants", laid_tithing_tithingref02_constants), ("tithing/sha.constants", laid_tithing_sha_constants)], narrowed := true }
def ReceiptMakesUptoSaid : Prop := receiptMakesUptoRow.holds Tryd.pinned (OpenSpec.upto receiptMakesSpec)

/-- 'tithinglaw48.IndexFinds', WHERE WHAT IT READS IS OF BULK AT MOST 1048576: true; the input reads as it did. -/
def indexFindsUptoRow : OpenClaim := { program := "ytcmdkiejkheahaadoor", sum := "787a8da280a1cca9ebd96f69d37f0d3e123373b12918b602f5a56969845a5407", func := "tithing/tithinglaw48.IndexFinds", spec := "indexFinds", unfollowed := true, recurses := true, named := ["tithing/sha.constants", "tithing/tithingref02.constants"], plainKeys := false, apart := false, laid := [("tithing/tithingref02.constants", laid_tithing_tithingref02_constants), ("tithing/sha.constants", laid_tithing_sha_constants)], narrowed := true }
def IndexFindsUptoSaid : Prop := indexFindsUptoRow.holds Tryd.pinned (OpenSpec.upto indexFindsSpec)

/-- 'tithinglaw21.OrphanActs', WHERE WHAT IT READS IS OF BULK AT MOST 1048576: true; the input reads as it did. -/
def orphanActsUptoRow : OpenClaim := { program := "ytcmdkiejkheahaadoor", sum := "787a8da280a1cca9ebd96f69d37f0d3e123373b12918b602f5a56969845a5407", func := "tithing/tithinglaw21.OrphanActs", spec := "orphanActs", unfollowed := true, recurses := true, named := ["tithing/sha.constants", "tithing/tithingref02.constants"], plainKeys := false, apart := false, laid := [("tithing/tithingref02.constants", laid_tithing_tithingref02_constants), ("tithing/sha.constants", laid_tithing_sha_constants)], narrowed := true }
def OrphanActsUptoSaid : Prop := orphanActsUptoRow.holds Tryd.pinned (OpenSpec.upto orphanActsSpec)

/-- 'tithinglaw21.OrphanNobody', WHERE WHAT IT READS IS OF BULK AT MOST 1048576: true; the input reads as it did. -/
def orphanNobodyUptoRow : OpenClaim := { program := "ytcmdkiejkheahaadoor", sum := "787a8da280a1cca9ebd96f69d37f0d3e123373b12918b602f5a56969845a5407", func := "tithing/tithinglaw21.OrphanNobody", spec := "orphanNobody", unfollowed := true, recurses := true, named := ["tithing/sha.constants"], plainKeys := false, apart := false, laid := [("tithing/sha.constants", laid_tithing_sha_constants)], narrowed := true }
def OrphanNobodyUptoSaid : Prop := orphanNobodyUptoRow.holds Tryd.pinned (OpenSpec.upto orphanNobodySpec)

end Rows
end Go.Proofs.YtcmdkiejkheahaaDoor
