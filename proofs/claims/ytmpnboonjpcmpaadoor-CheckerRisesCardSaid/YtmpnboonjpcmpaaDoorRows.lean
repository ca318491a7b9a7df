/-
  NARROWER THAN 'FOR EVERY INPUT', by the rows' own cells (each row's printed sentence says how): TreeActs: laid · TreeAncestors: laid · SnapPuts: laid · SnapPieces: laid · LightSteps: laid · LightRises: laid · CheckerRises: laid.
  DERIVED. THE GIVEN ROWS OF THIS SEAT. 7 by the template 'for every input the law returns true; each argument reads behind the call as it read before'; 0 by the template 'total and deterministic' (their statements: YtmpnboonjpcmpaaDoorTotals.lean).
  GIVEN WITH THE SEED: the statements are not yours to turn. If you find one false, say at which input.
  Laid BY PROGRAM, IN A SANDBOX (cutbox-rows.mjs): the forced cells as the released guide's own fill.sh prints them over the translation c6aa79e539e5a348… (all of the seat's roots in one cut). By AI agents, Wed Nov 11 2026. No macro, syntax, notation, axiom, sorry.
-/
import Derived.Test.YtmpnboonjpcmpaaDoorChecked
import GoSem.Claim
import GoSem.ClaimJoined
import GoSem.ClaimMapViews
import Derived.JoinedTies
import Derived.KernelRfl
namespace Go.Proofs.YtmpnboonjpcmpaaDoor
/- THE CELL 'sum', in the pinned program and in every row, IS THE sha256 OF THE DUMP (.gsa) THAT YtmpnboonjpcmpaaDoorProg.lean LOADS. Nothing in Lean hashes anything: it is a label: what it is worth is what the hold of that sum in a sandbox is worth. -/
noncomputable def Tryd.pinned : Pinned := { name := "ytmpnboonjpcmpaadoor", sum := "c6aa79e539e5a3485f5171291cb65a6fc7d8d11b29d9072e97a5202a63e96182", checked := Tryd.checked }
namespace Rows
def none {H : Type} : Left H := { results := [], args := [] }

/- WHAT THE LISTED PACKAGE-LEVEL VARIABLES READ AS WHEN THE CALL BEGINS. Each datum BY PROGRAM (the guide's laid-datum.mjs) off the statement by which the dump's own 'gosem.cut.vars' lays the variable. In a bare row this is a premise. The card (YtmpnboonjpcmpaaDoorCards.lean) ties it to the program's text. -/
def laid_tithing_tithingref02_constants {H : Type} : DataW H := .agg [.lit (.int .u32 1116352408), .lit (.int .u32 1899447441), .lit (.int .u32 3049323471), .lit (.int .u32 3921009573), .lit (.int .u32 961987163), .lit (.int .u32 1508970993), .lit (.int .u32 2453635748), .lit (.int .u32 2870763221), .lit (.int .u32 3624381080), .lit (.int .u32 310598401), .lit (.int .u32 607225278), .lit (.int .u32 1426881987), .lit (.int .u32 1925078388), .lit (.int .u32 2162078206), .lit (.int .u32 2614888103), .lit (.int .u32 3248222580), .lit (.int .u32 3835390401), .lit (.int .u32 4022224774), .lit (.int .u32 264347078), .lit (.int .u32 604807628), .lit (.int .u32 770255983), .lit (.int .u32 1249150122), .lit (.int .u32 1555081692), .lit (.int .u32 1996064986), .lit (.int .u32 2554220882), .lit (.int .u32 2821834349), .lit (.int .u32 2952996808), .lit (.int .u32 3210313671), .lit (.int .u32 3336571891), .lit (.int .u32 3584528711), .lit (.int .u32 113926993), .lit (.int .u32 338241895), .lit (.int .u32 666307205), .lit (.int .u32 773529912), .lit (.int .u32 1294757372), .lit (.int .u32 1396182291), .lit (.int .u32 1695183700), .lit (.int .u32 1986661051), .lit (.int .u32 2177026350), .lit (.int .u32 2456956037), .lit (.int .u32 2730485921), .lit (.int .u32 2820302411), .lit (.int .u32 3259730800), .lit (.int .u32 3345764771), .lit (.int .u32 3516065817), .lit (.int .u32 3600352804), .lit (.int .u32 4094571909), .lit (.int .u32 275423344), .lit (.int .u32 430227734), .lit (.int .u32 506948616), .lit (.int .u32 659060556), .lit (.int .u32 883997877), .lit (.int .u32 958139571), .lit (.int .u32 1322822218), .lit (.int .u32 1537002063), .lit (.int .u32 1747873779), .lit (.int .u32 1955562222), .lit (.int .u32 2024104815), .lit (.int .u32 2227730452), .lit (.int .u32 2361852424), .lit (.int .u32 2428436474), .lit (.int .u32 2756734187), .lit (.int .u32 3204031479), .lit (.int .u32 3329325298)]
def laid_tithing_sha_constants {H : Type} : DataW H := .agg [.lit (.int .u32 1116352408), .lit (.int .u32 1899447441), .lit (.int .u32 3049323471), .lit (.int .u32 3921009573), .lit (.int .u32 961987163), .lit (.int .u32 1508970993), .lit (.int .u32 2453635748), .lit (.int .u32 2870763221), .lit (.int .u32 3624381080), .lit (.int .u32 310598401), .lit (.int .u32 607225278), .lit (.int .u32 1426881987), .lit (.int .u32 1925078388), .lit (.int .u32 2162078206), .lit (.int .u32 2614888103), .lit (.int .u32 3248222580), .lit (.int .u32 3835390401), .lit (.int .u32 4022224774), .lit (.int .u32 264347078), .lit (.int .u32 604807628), .lit (.int .u32 770255983), .lit (.int .u32 1249150122), .lit (.int .u32 1555081692), .lit (.int .u32 1996064986), .lit (.int .u32 2554220882), .lit (.int .u32 2821834349), .lit (.int .u32 2952996808), .lit (.int .u32 3210313671), .lit (.int .u32 3336571891), .lit (.int .u32 3584528711), .lit (.int .u32 113926993), .lit (.int .u32 338241895), .lit (.int .u32 666307205), .lit (.int .u32 773529912), .lit (.int .u32 1294757372), .lit (.int .u32 1396182291), .lit (.int .u32 1695183700), .lit (.int .u32 1986661051), .lit (.int .u32 2177026350), .lit (.int .u32 2456956037), .lit (.int .u32 2730485921), .lit (.int .u32 2820302411), .lit (.int .u32 3259730800), .lit (.int .u32 3345764771), .lit (.int .u32 3516065817), .lit (.int .u32 3600352804), .lit (.int .u32 4094571909), .lit (.int .u32 275423344), .lit (.int .u32 430227734), .lit (.int .u32 506948616), .lit (.int .u32 659060556), .lit (.int .u32 883997877), .lit (.int .u32 958139571), .lit (.int .u32 1322822218), .lit (.int .u32 1537002063), .lit (.int .u32 1747873779), .lit (.int .u32 1955562222), .lit (.int .u32 2024104815), .lit (.int .u32 2227730452), .lit (.int .u32 2361852424), .lit (.int .u32 2428436474), .lit (.int .u32 2756734187), .lit (.int .u32 3204031479), .lit (.int .u32 3329325298)]

/-- 'tithinglaw20.TreeActs': WHATEVER THE INPUT: true; the input reads as it did. -/
def treeActsSpec : ChangeSpec := { name := "treeActs", fn := fun _ => fun
  | [d1, d2] => { results := [.lit (.bool true)], args := [d1, d2] }
  | _ => none }
def treeActsRow : OpenClaim := { program := "ytmpnboonjpcmpaadoor", sum := "c6aa79e539e5a3485f5171291cb65a6fc7d8d11b29d9072e97a5202a63e96182", func := "tithing/tithinglaw20.TreeActs", spec := "treeActs", unfollowed := true, recurses := true, named := ["tithing/sha.constants", "tithing/tithingref02.constants"], plainKeys := false, apart := false, laid := [("tithing/tithingref02.constants", laid_tithing_tithingref02_constants), ("tithing/sha.constants", laid_tithing_sha_constants)] }
def TreeActsSaid : Prop := treeActsRow.holds Tryd.pinned (OpenSpec.ofChange treeActsSpec)

/-- ITS FALSE NEIGHBOUR: 'it returns false'. Refute it at one input. -/
def treeActsWrong : ChangeSpec := { name := "treeActs", fn := fun _ => fun
  | [d1, d2] => { results := [.lit (.bool false)], args := [d1, d2] }
  | _ => none }
def TreeActsWrongFalsely : Prop := treeActsRow.holds Tryd.pinned (OpenSpec.ofChange treeActsWrong)

/-- 'tithinglaw20.TreeAncestors': WHATEVER THE INPUT: true; the input reads as it did. -/
def treeAncestorsSpec : ChangeSpec := { name := "treeAncestors", fn := fun _ => fun
  | [d1, d2] => { results := [.lit (.bool true)], args := [d1, d2] }
  | _ => none }
def treeAncestorsRow : OpenClaim := { program := "ytmpnboonjpcmpaadoor", sum := "c6aa79e539e5a3485f5171291cb65a6fc7d8d11b29d9072e97a5202a63e96182", func := "tithing/tithinglaw20.TreeAncestors", spec := "treeAncestors", unfollowed := true, recurses := true, named := ["tithing/sha.constants", "tithing/tithingref02.constants"], plainKeys := false, apart := false, laid := [("tithing/tithingref02.constants", laid_tithing_tithingref02_constants), ("tithing/sha.constants", laid_tithing_sha_constants)] }
def TreeAncestorsSaid : Prop := treeAncestorsRow.holds Tryd.pinned (OpenSpec.ofChange treeAncestorsSpec)

/-- ITS FALSE NEIGHBOUR: 'it returns false'. Refute it at one input. -/
def treeAncestorsWrong : ChangeSpec := { name := "treeAncestors", fn := fun _ => fun
  | [d1, d2] => { results := [.lit (.bool false)], args := [d1, d2] }
  | _ => none }
def TreeAncestorsWrongFalsely : Prop := treeAncestorsRow.holds Tryd.pinned (OpenSpec.ofChange treeAncestorsWrong)

/-- 'tithinglaw46.SnapPuts': WHATEVER THE INPUT: true; the input reads as it did. -/
def snapPutsSpec : ChangeSpec := { name := "snapPuts", fn := fun _ => fun
  | [d] => { results := [.lit (.bool true)], args := [d] }
  | _ => none }
def snapPutsRow : OpenClaim := { program := "ytmpnboonjpcmpaadoor", sum := "c6aa79e539e5a3485f5171291cb65a6fc7d8d11b29d9072e97a5202a63e96182", func := "tithing/tithinglaw46.SnapPuts", spec := "snapPuts", unfollowed := true, recurses := true, named := ["tithing/sha.constants", "tithing/tithingref02.constants"], plainKeys := false, apart := false, laid := [("tithing/tithingref02.constants", laid_tithing_tithingref02_constants), ("tithing/sha.constants", laid_tithing_sha_constants)] }
def SnapPutsSaid : Prop := snapPutsRow.holds Tryd.pinned (OpenSpec.ofChange snapPutsSpec)

/-- ITS FALSE NEIGHBOUR: 'it returns false'. Refute it at one input. -/
def snapPutsWrong : ChangeSpec := { name := "snapPuts", fn := fun _ => fun
  | [d] => { results := [.lit (.bool false)], args := [d] }
  | _ => none }
def SnapPutsWrongFalsely : Prop := snapPutsRow.holds Tryd.pinned (OpenSpec.ofChange snapPutsWrong)

/-- 'tithinglaw46.SnapPieces': WHATEVER THE INPUT: true; the input reads as it did. -/
def snapPiecesSpec : ChangeSpec := { name := "snapPieces", fn := fun _ => fun
  | [d1, d2, d3] => { results := [.lit (.bool true)], args := [d1, d2, d3] }
  | _ => none }
def snapPiecesRow : OpenClaim := { program := "ytmpnboonjpcmpaadoor", sum := "c6aa79e539e5a3485f5171291cb65a6fc7d8d11b29d9072e97a5202a63e96182", func := "tithing/tithinglaw46.SnapPieces", spec := "snapPieces", unfollowed := true, recurses := true, named := ["tithing/sha.constants", "tithing/tithingref02.constants"], plainKeys := false, apart := false, laid := [("tithing/tithingref02.constants", laid_tithing_tithingref02_constants), ("tithing/sha.constants", laid_tithing_sha_constants)] }
def SnapPiecesSaid : Prop := snapPiecesRow.holds Tryd.pinned (OpenSpec.ofChange snapPiecesSpec)

/-- ITS FALSE NEIGHBOUR: 'it returns false'. Refute it at one input. -/
def snapPiecesWrong : ChangeSpec := { name := "snapPieces", fn := fun _ => fun
  | [d1, d2, d3] => { results := [.lit (.bool false)], args := [d1, d2, d3] }
  | _ => none }
def SnapPiecesWrongFalsely : Prop := snapPiecesRow.holds Tryd.pinned (OpenSpec.ofChange snapPiecesWrong)

/-- 'tithinglaw44.LightSteps': WHATEVER THE INPUT: true; the input reads as it did. -/
def lightStepsSpec : ChangeSpec := { name := "lightSteps", fn := fun _ => fun
  | [d1, d2, d3] => { results := [.lit (.bool true)], args := [d1, d2, d3] }
  | _ => none }
def lightStepsRow : OpenClaim := { program := "ytmpnboonjpcmpaadoor", sum := "c6aa79e539e5a3485f5171291cb65a6fc7d8d11b29d9072e97a5202a63e96182", func := "tithing/tithinglaw44.LightSteps", spec := "lightSteps", unfollowed := true, recurses := true, named := ["tithing/sha.constants", "tithing/tithingref02.constants"], plainKeys := false, apart := false, laid := [("tithing/tithingref02.constants", laid_tithing_tithingref02_constants), ("tithing/sha.constants", laid_tithing_sha_constants)] }
def LightStepsSaid : Prop := lightStepsRow.holds Tryd.pinned (OpenSpec.ofChange lightStepsSpec)

/-- ITS FALSE NEIGHBOUR: 'it returns false'. Refute it at one input. -/
def lightStepsWrong : ChangeSpec := { name := "lightSteps", fn := fun _ => fun
  | [d1, d2, d3] => { results := [.lit (.bool false)], args := [d1, d2, d3] }
  | _ => none }
def LightStepsWrongFalsely : Prop := lightStepsRow.holds Tryd.pinned (OpenSpec.ofChange lightStepsWrong)

/-- 'tithinglaw44.LightRises': WHATEVER THE INPUT: true; the input reads as it did. -/
def lightRisesSpec : ChangeSpec := { name := "lightRises", fn := fun _ => fun
  | [d1, d2, d3] => { results := [.lit (.bool true)], args := [d1, d2, d3] }
  | _ => none }
def lightRisesRow : OpenClaim := { program := "ytmpnboonjpcmpaadoor", sum := "c6aa79e539e5a3485f5171291cb65a6fc7d8d11b29d9072e97a5202a63e96182", func := "tithing/tithinglaw44.LightRises", spec := "lightRises", unfollowed := true, recurses := true, named := ["tithing/sha.constants"], plainKeys := false, apart := false, laid := [("tithing/sha.constants", laid_tithing_sha_constants)] }
def LightRisesSaid : Prop := lightRisesRow.holds Tryd.pinned (OpenSpec.ofChange lightRisesSpec)

/-- ITS FALSE NEIGHBOUR: 'it returns false'. Refute it at one input. -/
def lightRisesWrong : ChangeSpec := { name := "lightRises", fn := fun _ => fun
  | [d1, d2, d3] => { results := [.lit (.bool false)], args := [d1, d2, d3] }
  | _ => none }
def LightRisesWrongFalsely : Prop := lightRisesRow.holds Tryd.pinned (OpenSpec.ofChange lightRisesWrong)

/-- 'tithinglaw15.CheckerRises': WHATEVER THE INPUT: true; the input reads as it did. -/
def checkerRisesSpec : ChangeSpec := { name := "checkerRises", fn := fun _ => fun
  | [d1, d2] => { results := [.lit (.bool true)], args := [d1, d2] }
  | _ => none }
def checkerRisesRow : OpenClaim := { program := "ytmpnboonjpcmpaadoor", sum := "c6aa79e539e5a3485f5171291cb65a6fc7d8d11b29d9072e97a5202a63e96182", func := "tithing/tithinglaw15.CheckerRises", spec := "checkerRises", unfollowed := true, recurses := true, named := ["tithing/sha.constants", "tithing/tithingref02.constants"], plainKeys := false, apart := false, laid := [("tithing/tithingref02.constants", laid_tithing_tithingref02_constants), ("tithing/sha.constants", laid_tithing_sha_constants)] }
def CheckerRisesSaid : Prop := checkerRisesRow.holds Tryd.pinned (OpenSpec.ofChange checkerRisesSpec)

/-- ITS FALSE NEIGHBOUR: 'it returns false'. Refute it at one input. -/
def checkerRisesWrong : ChangeSpec := { name := "checkerRises", fn := fun _ => fun
  | [d1, d2] => { results := [.lit (.bool false)], args := [d1, d2] }
  | _ => none }
def CheckerRisesWrongFalsely : Prop := checkerRisesRow.holds Tryd.pinned (OpenSpec.ofChange checkerRisesWrong)

/- THE SECOND FORM. 'bulk': how many values and letters a reading holds, each counted each time it is reached (what is shared counts as often as it is met; a slice's spare places count too). A statement '..UptoSaid' is the law's where the arguments, and the package variables that the reading takes, are together of bulk at most 1048576: NARROWER than '..Said'. Prove '..Said' where nothing that the law and all that it calls make is longer than what came in: it says more and counts as full. Else prove '..UptoSaid'. A law counts once. -/
mutual
def uptoBulk {H : Type} : DataW H → Nat
  | .lit (.string bytes) => bytes.length + 1
  | .lit _ => 1
  | .nil => 1
  | .ptr d => uptoBulk d + 1
  | .slice elems spare => uptoBulkAll elems + uptoBulkAll spare + 1
  | .agg parts => uptoBulkAll parts + 1
  | .iface _ d => uptoBulk d + 1
  | .map entries => uptoBulkEntries entries + 1
  | .held _ => 1
def uptoBulkAll {H : Type} : List (DataW H) → Nat
  | [] => 0
  | d :: r => uptoBulk d + uptoBulkAll r
def uptoBulkEntries {H : Type} : List (Lit × DataW H) → Nat
  | [] => 0
  | x :: r => uptoBulkEntry x + uptoBulkEntries r
def uptoBulkEntry {H : Type} : Lit × DataW H → Nat
  | (.string bytes, d) => bytes.length + uptoBulk d + 1
  | (_, d) => uptoBulk d + 1
 end
def uptoSmall : (H : Type) → List (DataW H) → Bool := fun _ ds => decide (uptoBulkAll ds ≤ 1048576)
def OpenSpec.upto (s : _root_.Go.ChangeSpec) : _root_.Go.OpenSpec := { _root_.Go.OpenSpec.ofChange s with cond := some uptoSmall }

/-- 'tithinglaw20.TreeActs', WHERE WHAT IT READS IS OF BULK AT MOST 1048576: true; the input reads as it did. -/
def treeActsUptoRow : OpenClaim := { program := "ytmpnboonjpcmpaadoor", sum := "c6aa79e539e5a3485f5171291cb65a6fc7d8d11b29d9072e97a5202a63e96182", func := "tithing/tithinglaw20.TreeActs", spec := "treeActs", unfollowed := true, recurses := true, named := ["tithing/sha.constants", "tithing/tithingref02.constants"], plainKeys := false, apart := false, laid := [("tithing/tithingref02.constants", laid_tithing_tithingref02_constants), ("tithing/sha.constants", laid_tithing_sha_constants)], narrowed := true }
def TreeActsUptoSaid : Prop := treeActsUptoRow.holds Tryd.pinned (OpenSpec.upto treeActsSpec)

/-- 'tithinglaw20.TreeAncestors', WHERE WHAT IT READS IS OF BULK AT MOST 1048576: true; the input reads as it did. -/
def treeAncestorsUptoRow : OpenClaim := { program := "ytmpnboonjpcmpaadoor", sum := "c6aa79e539e5a3485f5171291cb65a6fc7d8d11b29d9072e97a5202a63e96182", func := "tithing/tithinglaw20.TreeAncestors", spec := "treeAncestors", unfollowed := true, recurses := true, named := ["tithing/sha.constants", "tithing/tithingref02.constants"], plainKeys := false, apart := false, laid := [("tithing/tithingref02.constants", laid_tithing_tithingref02_constants), ("tithing/sha.constants", laid_tithing_sha_constants)], narrowed := true }
def TreeAncestorsUptoSaid : Prop := treeAncestorsUptoRow.holds Tryd.pinned (OpenSpec.upto treeAncestorsSpec)

/-- 'tithinglaw46.SnapPuts', WHERE WHAT IT READS IS OF BULK AT MOST 1048576: true; the input reads as it did. -/
def snapPutsUptoRow : OpenClaim := { program := "ytmpnboonjpcmpaadoor", sum := "c6aa79e539e5a3485f5171291cb65a6fc7d8d11b29d9072e97a5202a63e96182", func := "tithing/tithinglaw46.SnapPuts", spec := "snapPuts", unfollowed := true, recurses := true, named := ["tithing/sha.constants", "tithing/tithingref02.constants"], plainKeys := false, apart := false, laid := [("tithing/tithingref02.constants", laid_tithing_tithingref02_constants), ("tithing/sha.constants", laid_tithing_sha_constants)], narrowed := true }
def SnapPutsUptoSaid : Prop := snapPutsUptoRow.holds Tryd.pinned (OpenSpec.upto snapPutsSpec)

/-- 'tithinglaw46.SnapPieces', WHERE WHAT IT READS IS OF BULK AT MOST 1048576: true; the input reads as it did. -/
def snapPiecesUptoRow : OpenClaim := { program := "ytmpnboonjpcmpaadoor", sum := "c6aa79e539e5a3485f5171291cb65a6fc7d8d11b29d9072e97a5202a63e96182", func := "tithing/tithinglaw46.SnapPieces", spec := "snapPieces", unfollowed := true, recurses := true, named := ["tithing/sha.constants", "tithing/tithingref02.constants"], plainKeys := false, apart := false, laid := [("tithing/tithingref02.constants", laid_tithing_tithingref02_constants), ("tithing/sha.constants", laid_tithing_sha_constants)], narrowed := true }
def SnapPiecesUptoSaid : Prop := snapPiecesUptoRow.holds Tryd.pinned (OpenSpec.upto snapPiecesSpec)

/-- 'tithinglaw44.LightSteps', WHERE WHAT IT READS IS OF BULK AT MOST 1048576: true; the input reads as it did. -/
def lightStepsUptoRow : OpenClaim := { program := "ytmpnboonjpcmpaadoor", sum := "c6aa79e539e5a3485f5171291cb65a6fc7d8d11b29d9072e97a5202a63e96182", func := "tithing/tithinglaw44.LightSteps", spec := "lightSteps", unfollowed := true, recurses := true, named := ["tithing/sha.constants", "tithing/tithingref02.constants"], plainKeys := false, apart := false, laid := [("tithing/tithingref02.constants", laid_tithing_tithingref02_constants), ("tithing/sha.constants", laid_tithing_sha_constants)], narrowed := true }
def LightStepsUptoSaid : Prop := lightStepsUptoRow.holds Tryd.pinned (OpenSpec.upto lightStepsSpec)

/-- 'tithinglaw44.LightRises', WHERE WHAT IT READS IS OF BULK AT MOST 1048576: true; the input reads as it did. -/
def lightRisesUptoRow : OpenClaim := { program := "ytmpnboonjpcmpaadoor", sum := "c6aa79e539e5a3485f5171291cb65a6fc7d8d11b29d9072e97a5202a63e96182", func := "tithing/tithinglaw44.LightRises", spec := "lightRises", unfollowed := true, recurses := true, named := ["tithing/sha.constants"], plainKeys := false, apart := false, laid := [("tithing/sha.constants", laid_tithing_sha_constants)], narrowed := true }
def LightRisesUptoSaid : Prop := lightRisesUptoRow.holds Tryd.pinned (OpenSpec.upto lightRisesSpec)

/-- 'tithinglaw15.CheckerRises', WHERE WHAT IT READS IS OF BULK AT MOST 1048576: true; the input reads as it did. -/
def checkerRisesUptoRow : OpenClaim := { program := "ytmpnboonjpcmpaadoor", sum := "c6aa79e539e5a3485f5171291cb65a6fc7d8d11b29d9072e97a5202a63e96182", func := "tithing/tithinglaw15.CheckerRises", spec := "checkerRises", unfollowed := true, recurses := true, named := ["tithing/sha.constants", "tithing/tithingref02.constants"], plainKeys := false, apart := false, laid := [("tithing/tithingref02.constants", laid_tithing_tithingref02_constants), ("tithing/sha.constants", laid_tithing_sha_constants)], narrowed := true }
def CheckerRisesUptoSaid : Prop := checkerRisesUptoRow.holds Tryd.pinned (OpenSpec.upto checkerRisesSpec)

end Rows
end Go.Proofs.YtmpnboonjpcmpaaDoor
