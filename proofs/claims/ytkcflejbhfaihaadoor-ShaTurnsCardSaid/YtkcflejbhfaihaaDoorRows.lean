/-
  NARROWER THAN 'FOR EVERY INPUT', by the rows' own cells (each row's printed sentence says how): ShaOf: laid · ShaTurns: laid · ShaSteps: laid · ShaDigits: laid · MacKeys: laid · MacOf: laid · KeysTags: laid · KeysMeet: laid · MerkleProves: laid · MerkleChecks: laid · MerkleBinds: laid · ProofChecks: laid.
  DERIVED. THE GIVEN ROWS OF THIS SEAT. 12 by the template 'for every input the law returns true; each argument reads behind the call as it read before'; 0 by the template 'total and deterministic' (their statements: YtkcflejbhfaihaaDoorTotals.lean).
  GIVEN WITH THE SEED: the statements are not yours to turn. If you find one false, say at which input.
  Laid BY PROGRAM, IN A SANDBOX (cutbox-rows.mjs): the forced cells as the released guide's own fill.sh prints them over the translation b2e6a5212e59599d… (all of the seat's roots in one cut). By AI agents, Wed Nov 11 2026. No macro, syntax, notation, axiom, sorry.
-/
import Derived.Test.YtkcflejbhfaihaaDoorChecked
import GoSem.Claim
import GoSem.ClaimJoined
import GoSem.ClaimMapViews
import Derived.JoinedTies
import Derived.KernelRfl
namespace Go.Proofs.YtkcflejbhfaihaaDoor
/- THE CELL 'sum', in the pinned program and in every row, IS THE sha256 OF THE DUMP (.gsa) THAT YtkcflejbhfaihaaDoorProg.lean LOADS. Nothing in Lean hashes anything: it is a label: what it is worth is what the hold of that sum in a sandbox is worth. -/
noncomputable def Tryd.pinned : Pinned := { name := "ytkcflejbhfaihaadoor", sum := "b2e6a5212e59599d027492ab0b8477b0033d19c80ff173443d37ddf1fcd72f82", checked := Tryd.checked }
namespace Rows
def none {H : Type} : Left H := { results := [], args := [] }

/- WHAT THE LISTED PACKAGE-LEVEL VARIABLES READ AS WHEN THE CALL BEGINS. Each datum BY PROGRAM (the guide's laid-datum.mjs) off the statement by which the dump's own 'gosem.cut.vars' lays the variable. In a bare row this is a premise. The card (YtkcflejbhfaihaaDoorCards.lean) ties it to the program's text. -/
def laid_tithing_tithingref02_constants {H : Type} : DataW H := .agg [.lit (.int .u32 1116352408), .lit (.int .u32 1899447441), .lit (.int .u32 3049323471), .lit (.int .u32 3921009573), .lit (.int .u32 961987163), .lit (.int .u32 1508970993), .lit (.int .u32 2453635748), .lit (.int .u32 2870763221), .lit (.int .u32 3624381080), .lit (.int .u32 310598401), .lit (.int .u32 607225278), .lit (.int .u32 1426881987), .lit (.int .u32 1925078388), .lit (.int .u32 2162078206), .lit (.int .u32 2614888103), .lit (.int .u32 3248222580), .lit (.int .u32 3835390401), .lit (.int .u32 4022224774), .lit (.int .u32 264347078), .lit (.int .u32 604807628), .lit (.int .u32 770255983), .lit (.int .u32 1249150122), .lit (.int .u32 1555081692), .lit (.int .u32 1996064986), .lit (.int .u32 2554220882), .lit (.int .u32 2821834349), .lit (.int .u32 2952996808), .lit (.int .u32 3210313671), .lit (.int .u32 3336571891), .lit (.int .u32 3584528711), .lit (.int .u32 113926993), .lit (.int .u32 338241895), .lit (.int .u32 666307205), .lit (.int .u32 773529912), .lit (.int .u32 1294757372), .lit (.int .u32 1396182291), .lit (.int .u32 1695183700), .lit (.int .u32 1986661051), .lit (.int .u32 2177026350), .lit (.int .u32 2456956037), .lit (.int .u32 2730485921), .lit (.int .u32 2820302411), .lit (.int .u32 3259730800), .lit (.int .u32 3345764771), .lit (.int .u32 3516065817), .lit (.int .u32 3600352804), .lit (.int .u32 4094571909), .lit (.int .u32 275423344), .lit (.int .u32 430227734), .lit (.int .u32 506948616), .lit (.int .u32 659060556), .lit (.int .u32 883997877), .lit (.int .u32 958139571), .lit (.int .u32 1322822218), .lit (.int .u32 1537002063), .lit (.int .u32 1747873779), .lit (.int .u32 1955562222), .lit (.int .u32 2024104815), .lit (.int .u32 2227730452), .lit (.int .u32 2361852424), .lit (.int .u32 2428436474), .lit (.int .u32 2756734187), .lit (.int .u32 3204031479), .lit (.int .u32 3329325298)]
def laid_tithing_sha_constants {H : Type} : DataW H := .agg [.lit (.int .u32 1116352408), .lit (.int .u32 1899447441), .lit (.int .u32 3049323471), .lit (.int .u32 3921009573), .lit (.int .u32 961987163), .lit (.int .u32 1508970993), .lit (.int .u32 2453635748), .lit (.int .u32 2870763221), .lit (.int .u32 3624381080), .lit (.int .u32 310598401), .lit (.int .u32 607225278), .lit (.int .u32 1426881987), .lit (.int .u32 1925078388), .lit (.int .u32 2162078206), .lit (.int .u32 2614888103), .lit (.int .u32 3248222580), .lit (.int .u32 3835390401), .lit (.int .u32 4022224774), .lit (.int .u32 264347078), .lit (.int .u32 604807628), .lit (.int .u32 770255983), .lit (.int .u32 1249150122), .lit (.int .u32 1555081692), .lit (.int .u32 1996064986), .lit (.int .u32 2554220882), .lit (.int .u32 2821834349), .lit (.int .u32 2952996808), .lit (.int .u32 3210313671), .lit (.int .u32 3336571891), .lit (.int .u32 3584528711), .lit (.int .u32 113926993), .lit (.int .u32 338241895), .lit (.int .u32 666307205), .lit (.int .u32 773529912), .lit (.int .u32 1294757372), .lit (.int .u32 1396182291), .lit (.int .u32 1695183700), .lit (.int .u32 1986661051), .lit (.int .u32 2177026350), .lit (.int .u32 2456956037), .lit (.int .u32 2730485921), .lit (.int .u32 2820302411), .lit (.int .u32 3259730800), .lit (.int .u32 3345764771), .lit (.int .u32 3516065817), .lit (.int .u32 3600352804), .lit (.int .u32 4094571909), .lit (.int .u32 275423344), .lit (.int .u32 430227734), .lit (.int .u32 506948616), .lit (.int .u32 659060556), .lit (.int .u32 883997877), .lit (.int .u32 958139571), .lit (.int .u32 1322822218), .lit (.int .u32 1537002063), .lit (.int .u32 1747873779), .lit (.int .u32 1955562222), .lit (.int .u32 2024104815), .lit (.int .u32 2227730452), .lit (.int .u32 2361852424), .lit (.int .u32 2428436474), .lit (.int .u32 2756734187), .lit (.int .u32 3204031479), .lit (.int .u32 3329325298)]

/-- 'tithinglaw02.ShaOf': WHATEVER THE INPUT: true; the input reads as it did. -/
def shaOfSpec : ChangeSpec := { name := "shaOf", fn := fun _ => fun
  | [d1, d2, d3] => { results := [.lit (.bool true)], args := [d1, d2, d3] }
  | _ => none }
def shaOfRow : OpenClaim := { program := "ytkcflejbhfaihaadoor", sum := "b2e6a5212e59599d027492ab0b8477b0033d19c80ff173443d37ddf1fcd72f82", func := "tithing/tithinglaw02.ShaOf", spec := "shaOf", inPlace := ["internal/abi.NoEscape"], named := ["tithing/sha.constants", "tithing/tithingref02.constants"], apart := false, laid := [("tithing/tithingref02.constants", laid_tithing_tithingref02_constants), ("tithing/sha.constants", laid_tithing_sha_constants)] }
def ShaOfSaid : Prop := shaOfRow.holds Tryd.pinned (OpenSpec.ofChange shaOfSpec)

/-- ITS FALSE NEIGHBOUR: 'it returns false'. Refute it at one input. -/
def shaOfWrong : ChangeSpec := { name := "shaOf", fn := fun _ => fun
  | [d1, d2, d3] => { results := [.lit (.bool false)], args := [d1, d2, d3] }
  | _ => none }
def ShaOfWrongFalsely : Prop := shaOfRow.holds Tryd.pinned (OpenSpec.ofChange shaOfWrong)

/-- 'tithinglaw02.ShaTurns': WHATEVER THE INPUT: true; the input reads as it did. -/
def shaTurnsSpec : ChangeSpec := { name := "shaTurns", fn := fun _ => fun
  | [d1, d2, d3] => { results := [.lit (.bool true)], args := [d1, d2, d3] }
  | _ => none }
def shaTurnsRow : OpenClaim := { program := "ytkcflejbhfaihaadoor", sum := "b2e6a5212e59599d027492ab0b8477b0033d19c80ff173443d37ddf1fcd72f82", func := "tithing/tithinglaw02.ShaTurns", spec := "shaTurns", inPlace := ["internal/abi.NoEscape"], named := ["tithing/sha.constants", "tithing/tithingref02.constants"], apart := false, laid := [("tithing/tithingref02.constants", laid_tithing_tithingref02_constants), ("tithing/sha.constants", laid_tithing_sha_constants)] }
def ShaTurnsSaid : Prop := shaTurnsRow.holds Tryd.pinned (OpenSpec.ofChange shaTurnsSpec)

/-- ITS FALSE NEIGHBOUR: 'it returns false'. Refute it at one input. -/
def shaTurnsWrong : ChangeSpec := { name := "shaTurns", fn := fun _ => fun
  | [d1, d2, d3] => { results := [.lit (.bool false)], args := [d1, d2, d3] }
  | _ => none }
def ShaTurnsWrongFalsely : Prop := shaTurnsRow.holds Tryd.pinned (OpenSpec.ofChange shaTurnsWrong)

/-- 'tithinglaw02.ShaSteps': WHATEVER THE INPUT: true; the input reads as it did. -/
def shaStepsSpec : ChangeSpec := { name := "shaSteps", fn := fun _ => fun
  | [d] => { results := [.lit (.bool true)], args := [d] }
  | _ => none }
def shaStepsRow : OpenClaim := { program := "ytkcflejbhfaihaadoor", sum := "b2e6a5212e59599d027492ab0b8477b0033d19c80ff173443d37ddf1fcd72f82", func := "tithing/tithinglaw02.ShaSteps", spec := "shaSteps", inPlace := ["internal/abi.NoEscape"], named := ["tithing/sha.constants"], apart := false, laid := [("tithing/sha.constants", laid_tithing_sha_constants)] }
def ShaStepsSaid : Prop := shaStepsRow.holds Tryd.pinned (OpenSpec.ofChange shaStepsSpec)

/-- ITS FALSE NEIGHBOUR: 'it returns false'. Refute it at one input. -/
def shaStepsWrong : ChangeSpec := { name := "shaSteps", fn := fun _ => fun
  | [d] => { results := [.lit (.bool false)], args := [d] }
  | _ => none }
def ShaStepsWrongFalsely : Prop := shaStepsRow.holds Tryd.pinned (OpenSpec.ofChange shaStepsWrong)

/-- 'tithinglaw02.ShaDigits': WHATEVER THE INPUT: true; the input reads as it did. -/
def shaDigitsSpec : ChangeSpec := { name := "shaDigits", fn := fun _ => fun
  | [d1, d2] => { results := [.lit (.bool true)], args := [d1, d2] }
  | _ => none }
def shaDigitsRow : OpenClaim := { program := "ytkcflejbhfaihaadoor", sum := "b2e6a5212e59599d027492ab0b8477b0033d19c80ff173443d37ddf1fcd72f82", func := "tithing/tithinglaw02.ShaDigits", spec := "shaDigits", inPlace := ["internal/abi.NoEscape", "internal/bytealg.IndexByteString"], named := ["tithing/sha.constants"], apart := false, laid := [("tithing/sha.constants", laid_tithing_sha_constants)] }
def ShaDigitsSaid : Prop := shaDigitsRow.holds Tryd.pinned (OpenSpec.ofChange shaDigitsSpec)

/-- ITS FALSE NEIGHBOUR: 'it returns false'. Refute it at one input. -/
def shaDigitsWrong : ChangeSpec := { name := "shaDigits", fn := fun _ => fun
  | [d1, d2] => { results := [.lit (.bool false)], args := [d1, d2] }
  | _ => none }
def ShaDigitsWrongFalsely : Prop := shaDigitsRow.holds Tryd.pinned (OpenSpec.ofChange shaDigitsWrong)

/-- 'tithinglaw03.MacKeys': WHATEVER THE INPUT: true; the input reads as it did. -/
def macKeysSpec : ChangeSpec := { name := "macKeys", fn := fun _ => fun
  | [d1, d2, d3] => { results := [.lit (.bool true)], args := [d1, d2, d3] }
  | _ => none }
def macKeysRow : OpenClaim := { program := "ytkcflejbhfaihaadoor", sum := "b2e6a5212e59599d027492ab0b8477b0033d19c80ff173443d37ddf1fcd72f82", func := "tithing/tithinglaw03.MacKeys", spec := "macKeys", named := ["tithing/sha.constants", "tithing/tithingref02.constants"], apart := false, laid := [("tithing/tithingref02.constants", laid_tithing_tithingref02_constants), ("tithing/sha.constants", laid_tithing_sha_constants)] }
def MacKeysSaid : Prop := macKeysRow.holds Tryd.pinned (OpenSpec.ofChange macKeysSpec)

/-- ITS FALSE NEIGHBOUR: 'it returns false'. Refute it at one input. -/
def macKeysWrong : ChangeSpec := { name := "macKeys", fn := fun _ => fun
  | [d1, d2, d3] => { results := [.lit (.bool false)], args := [d1, d2, d3] }
  | _ => none }
def MacKeysWrongFalsely : Prop := macKeysRow.holds Tryd.pinned (OpenSpec.ofChange macKeysWrong)

/-- 'tithinglaw03.MacOf': WHATEVER THE INPUT: true; the input reads as it did. -/
def macOfSpec : ChangeSpec := { name := "macOf", fn := fun _ => fun
  | [d1, d2, d3] => { results := [.lit (.bool true)], args := [d1, d2, d3] }
  | _ => none }
def macOfRow : OpenClaim := { program := "ytkcflejbhfaihaadoor", sum := "b2e6a5212e59599d027492ab0b8477b0033d19c80ff173443d37ddf1fcd72f82", func := "tithing/tithinglaw03.MacOf", spec := "macOf", named := ["tithing/sha.constants", "tithing/tithingref02.constants"], apart := false, laid := [("tithing/tithingref02.constants", laid_tithing_tithingref02_constants), ("tithing/sha.constants", laid_tithing_sha_constants)] }
def MacOfSaid : Prop := macOfRow.holds Tryd.pinned (OpenSpec.ofChange macOfSpec)

/-- ITS FALSE NEIGHBOUR: 'it returns false'. Refute it at one input. -/
def macOfWrong : ChangeSpec := { name := "macOf", fn := fun _ => fun
  | [d1, d2, d3] => { results := [.lit (.bool false)], args := [d1, d2, d3] }
  | _ => none }
def MacOfWrongFalsely : Prop := macOfRow.holds Tryd.pinned (OpenSpec.ofChange macOfWrong)

/-- 'tithinglaw04.KeysTags': WHATEVER THE INPUT: true; the input reads as it did. -/
def keysTagsSpec : ChangeSpec := { name := "keysTags", fn := fun _ => fun
  | [d1, d2, d3] => { results := [.lit (.bool true)], args := [d1, d2, d3] }
  | _ => none }
def keysTagsRow : OpenClaim := { program := "ytkcflejbhfaihaadoor", sum := "b2e6a5212e59599d027492ab0b8477b0033d19c80ff173443d37ddf1fcd72f82", func := "tithing/tithinglaw04.KeysTags", spec := "keysTags", named := ["tithing/sha.constants", "tithing/tithingref02.constants"], apart := false, laid := [("tithing/tithingref02.constants", laid_tithing_tithingref02_constants), ("tithing/sha.constants", laid_tithing_sha_constants)] }
def KeysTagsSaid : Prop := keysTagsRow.holds Tryd.pinned (OpenSpec.ofChange keysTagsSpec)

/-- ITS FALSE NEIGHBOUR: 'it returns false'. Refute it at one input. -/
def keysTagsWrong : ChangeSpec := { name := "keysTags", fn := fun _ => fun
  | [d1, d2, d3] => { results := [.lit (.bool false)], args := [d1, d2, d3] }
  | _ => none }
def KeysTagsWrongFalsely : Prop := keysTagsRow.holds Tryd.pinned (OpenSpec.ofChange keysTagsWrong)

/-- 'tithinglaw04.KeysMeet': WHATEVER THE INPUT: true; the input reads as it did. -/
def keysMeetSpec : ChangeSpec := { name := "keysMeet", fn := fun _ => fun
  | [d1, d2, d3] => { results := [.lit (.bool true)], args := [d1, d2, d3] }
  | _ => none }
def keysMeetRow : OpenClaim := { program := "ytkcflejbhfaihaadoor", sum := "b2e6a5212e59599d027492ab0b8477b0033d19c80ff173443d37ddf1fcd72f82", func := "tithing/tithinglaw04.KeysMeet", spec := "keysMeet", named := ["tithing/sha.constants"], apart := false, laid := [("tithing/sha.constants", laid_tithing_sha_constants)] }
def KeysMeetSaid : Prop := keysMeetRow.holds Tryd.pinned (OpenSpec.ofChange keysMeetSpec)

/-- ITS FALSE NEIGHBOUR: 'it returns false'. Refute it at one input. -/
def keysMeetWrong : ChangeSpec := { name := "keysMeet", fn := fun _ => fun
  | [d1, d2, d3] => { results := [.lit (.bool false)], args := [d1, d2, d3] }
  | _ => none }
def KeysMeetWrongFalsely : Prop := keysMeetRow.holds Tryd.pinned (OpenSpec.ofChange keysMeetWrong)

/-- 'tithinglaw26.MerkleProves': WHATEVER THE INPUT: true; the input reads as it did. -/
def merkleProvesSpec : ChangeSpec := { name := "merkleProves", fn := fun _ => fun
  | [d1, d2] => { results := [.lit (.bool true)], args := [d1, d2] }
  | _ => none }
def merkleProvesRow : OpenClaim := { program := "ytkcflejbhfaihaadoor", sum := "b2e6a5212e59599d027492ab0b8477b0033d19c80ff173443d37ddf1fcd72f82", func := "tithing/tithinglaw26.MerkleProves", spec := "merkleProves", recurses := true, named := ["tithing/sha.constants", "tithing/tithingref02.constants"], apart := false, laid := [("tithing/tithingref02.constants", laid_tithing_tithingref02_constants), ("tithing/sha.constants", laid_tithing_sha_constants)] }
def MerkleProvesSaid : Prop := merkleProvesRow.holds Tryd.pinned (OpenSpec.ofChange merkleProvesSpec)

/-- ITS FALSE NEIGHBOUR: 'it returns false'. Refute it at one input. -/
def merkleProvesWrong : ChangeSpec := { name := "merkleProves", fn := fun _ => fun
  | [d1, d2] => { results := [.lit (.bool false)], args := [d1, d2] }
  | _ => none }
def MerkleProvesWrongFalsely : Prop := merkleProvesRow.holds Tryd.pinned (OpenSpec.ofChange merkleProvesWrong)

/-- 'tithinglaw26.MerkleChecks': WHATEVER THE INPUT: true; the input reads as it did. -/
def merkleChecksSpec : ChangeSpec := { name := "merkleChecks", fn := fun _ => fun
  | [d1, d2, d3] => { results := [.lit (.bool true)], args := [d1, d2, d3] }
  | _ => none }
def merkleChecksRow : OpenClaim := { program := "ytkcflejbhfaihaadoor", sum := "b2e6a5212e59599d027492ab0b8477b0033d19c80ff173443d37ddf1fcd72f82", func := "tithing/tithinglaw26.MerkleChecks", spec := "merkleChecks", recurses := true, named := ["tithing/sha.constants", "tithing/tithingref02.constants"], apart := false, laid := [("tithing/tithingref02.constants", laid_tithing_tithingref02_constants), ("tithing/sha.constants", laid_tithing_sha_constants)] }
def MerkleChecksSaid : Prop := merkleChecksRow.holds Tryd.pinned (OpenSpec.ofChange merkleChecksSpec)

/-- ITS FALSE NEIGHBOUR: 'it returns false'. Refute it at one input. -/
def merkleChecksWrong : ChangeSpec := { name := "merkleChecks", fn := fun _ => fun
  | [d1, d2, d3] => { results := [.lit (.bool false)], args := [d1, d2, d3] }
  | _ => none }
def MerkleChecksWrongFalsely : Prop := merkleChecksRow.holds Tryd.pinned (OpenSpec.ofChange merkleChecksWrong)

/-- 'tithinglaw26.MerkleBinds': WHATEVER THE INPUT: true; the input reads as it did. -/
def merkleBindsSpec : ChangeSpec := { name := "merkleBinds", fn := fun _ => fun
  | [d1, d2, d3] => { results := [.lit (.bool true)], args := [d1, d2, d3] }
  | _ => none }
def merkleBindsRow : OpenClaim := { program := "ytkcflejbhfaihaadoor", sum := "b2e6a5212e59599d027492ab0b8477b0033d19c80ff173443d37ddf1fcd72f82", func := "tithing/tithinglaw26.MerkleBinds", spec := "merkleBinds", recurses := true, named := ["tithing/sha.constants", "tithing/tithingref02.constants"], apart := false, laid := [("tithing/tithingref02.constants", laid_tithing_tithingref02_constants), ("tithing/sha.constants", laid_tithing_sha_constants)] }
def MerkleBindsSaid : Prop := merkleBindsRow.holds Tryd.pinned (OpenSpec.ofChange merkleBindsSpec)

/-- ITS FALSE NEIGHBOUR: 'it returns false'. Refute it at one input. -/
def merkleBindsWrong : ChangeSpec := { name := "merkleBinds", fn := fun _ => fun
  | [d1, d2, d3] => { results := [.lit (.bool false)], args := [d1, d2, d3] }
  | _ => none }
def MerkleBindsWrongFalsely : Prop := merkleBindsRow.holds Tryd.pinned (OpenSpec.ofChange merkleBindsWrong)

/-- 'tithinglaw45.ProofChecks': WHATEVER THE INPUT: true; the input reads as it did. -/
def proofChecksSpec : ChangeSpec := { name := "proofChecks", fn := fun _ => fun
  | [d1, d2, d3] => { results := [.lit (.bool true)], args := [d1, d2, d3] }
  | _ => none }
def proofChecksRow : OpenClaim := { program := "ytkcflejbhfaihaadoor", sum := "b2e6a5212e59599d027492ab0b8477b0033d19c80ff173443d37ddf1fcd72f82", func := "tithing/tithinglaw45.ProofChecks", spec := "proofChecks", unfollowed := true, recurses := true, named := ["tithing/sha.constants", "tithing/tithingref02.constants"], apart := false, laid := [("tithing/tithingref02.constants", laid_tithing_tithingref02_constants), ("tithing/sha.constants", laid_tithing_sha_constants)] }
def ProofChecksSaid : Prop := proofChecksRow.holds Tryd.pinned (OpenSpec.ofChange proofChecksSpec)

/-- ITS FALSE NEIGHBOUR: 'it returns false'. Refute it at one input. -/
def proofChecksWrong : ChangeSpec := { name := "proofChecks", fn := fun _ => fun
  | [d1, d2, d3] => { results := [.lit (.bool false)], args := [d1, d2, d3] }
  | _ => none }
def ProofChecksWrongFalsely : Prop := proofChecksRow.holds Tryd.pinned (OpenSpec.ofChange proofChecksWrong)

/- THE SECOND FORM. 'bulk': how many values and letters a reading holds, each counted each time it is reached (what is shared counts as often as it is met; a slice's spare places count too). A statement '..UptoSaid' is the law's where the arguments, and the package variables that the reading takes, are together of bulk at most 1048576: NARROWER than '..Said'. Prove '..Said' where nothing that the law and all that it calls make is longer than what came in: it says more and counts as full. Else prove '..UptoSaid'. A law counts once. -/
mutual
def uptoBulk {H : Type} : DataW H → Nat
  | .lit (.string bytes) => bytes.length + 1
  | .lit _ => 1
  | .nil => 1
  | .ptr d => uptoBulk d + 1
  | .slice elems spare => uptoBulkAll elems + uptoBulkAll spare + 1
  | .agg parts => uptoBulkAll parts + 1
  | .iface _ d => uptoBulk d + 1
  | .map entries => uptoBulkEntries entries + 1
  | .held _ => 1
def uptoBulkAll {H : Type} : List (DataW H) → Nat
  | [] => 0
  | d :: r => uptoBulk d + uptoBulkAll r
def uptoBulkEntries {H : Type} : List (Lit × DataW H) → Nat
  | [] => 0
  | x :: r => uptoBulkEntry x + uptoBulkEntries r
def uptoBulkEntry {H : Type} : Lit × DataW H → Nat
  | (.string bytes, d) => bytes.length + uptoBulk d + 1
  | (_, d) => uptoBulk d + 1
 end
def uptoSmall : (H : Type) → List (DataW H) → Bool := fun _ ds => decide (uptoBulkAll ds ≤ 1048576)
def OpenSpec.upto (s : _root_.Go.ChangeSpec) : _root_.Go.OpenSpec := { _root_.Go.OpenSpec.ofChange s with cond := some uptoSmall }

/-- 'tithinglaw02.ShaOf', WHERE WHAT IT READS IS OF BULK AT MOST 1048576: true; the input reads as it did. -/
def shaOfUptoRow : OpenClaim := { program := "ytkcflejbhfaihaadoor", sum := "b2e6a5212e59599d027492ab0b8477b0033d19c80ff173443d37ddf1fcd72f82", func := "tithing/tithinglaw02.ShaOf", spec := "shaOf", inPlace := ["internal/abi.NoEscape"], named := ["tithing/sha.constants", "tithing/tithingref02.constants"], apart := false, laid := [("tithing/tithingref02.constants", laid_tithing_tithingref02_constants), ("tithing/sha.constants", laid_tithing_sha_constants)], narrowed := true }
def ShaOfUptoSaid : Prop := shaOfUptoRow.holds Tryd.pinned (OpenSpec.upto shaOfSpec)

/-- 'tithinglaw02.ShaTurns', WHERE WHAT IT READS IS OF BULK AT MOST 1048576: true; the input reads as it did. -/
def shaTurnsUptoRow : OpenClaim := { program := "ytkcflejbhfaihaadoor", sum := "b2e6a5212e59599d027492ab0b8477b0033d19c80ff173443d37ddf1fcd72f82", func := "tithing/tithinglaw02.ShaTurns", spec := "shaTurns", inPlace := ["internal/abi.NoEscape"], named := ["tithing/sha.constants", "tithing/tithingref02.constants"], apart := false, laid := [("tithing/tithingref02.constants", laid_tithing_tithingref02_constants), ("tithing/sha.constants", laid_tithing_sha_constants)], narrowed := true }
def ShaTurnsUptoSaid : Prop := shaTurnsUptoRow.holds Tryd.pinned (OpenSpec.upto shaTurnsSpec)

/-- 'tithinglaw02.ShaSteps', WHERE WHAT IT READS IS OF BULK AT MOST 1048576: true; the input reads as it did. -/
def shaStepsUptoRow : OpenClaim := { program := "ytkcflejbhfaihaadoor", sum := "b2e6a5212e59599d027492ab0b8477b0033d19c80ff173443d37ddf1fcd72f82", func := "tithing/tithinglaw02.ShaSteps", spec := "shaSteps", inPlace := ["internal/abi.NoEscape"], named := ["tithing/sha.constants"], apart := false, laid := [("tithing/sha.constants", laid_tithing_sha_constants)], narrowed := true }
def ShaStepsUptoSaid : Prop := shaStepsUptoRow.holds Tryd.pinned (OpenSpec.upto shaStepsSpec)

/-- 'tithinglaw02.ShaDigits', WHERE WHAT IT READS IS OF BULK AT MOST 1048576: true; the input reads as it did. -/
def shaDigitsUptoRow : OpenClaim := { program := "ytkcflejbhfaihaadoor", sum := "b2e6a5212e59599d027492ab0b8477b0033d19c80ff173443d37ddf1fcd72f82", func := "tithing/tithinglaw02.ShaDigits", spec := "shaDigits", inPlace := ["internal/abi.NoEscape", "internal/bytealg.IndexByteString"], named := ["tithing/sha.constants"], apart := false, laid := [("tithing/sha.constants", laid_tithing_sha_constants)], narrowed := true }
def ShaDigitsUptoSaid : Prop := shaDigitsUptoRow.holds Tryd.pinned (OpenSpec.upto shaDigitsSpec)

/-- 'tithinglaw03.MacKeys', WHERE WHAT IT READS IS OF BULK AT MOST 1048576: true; the input reads as it did. -/
def macKeysUptoRow : OpenClaim := { program := "ytkcflejbhfaihaadoor", sum := "b2e6a5212e59599d027492ab0b8477b0033d19c80ff173443d37ddf1fcd72f82", func := "tithing/tithinglaw03.MacKeys", spec := "macKeys", named := ["tithing/sha.constants", "tithing/tithingref02.constants"], apart := false, laid := [("tithing/tithingref02.constants", laid_tithing_tithingref02_constants), ("tithing/sha.constants", laid_tithing_sha_constants)], narrowed := true }
def MacKeysUptoSaid : Prop := macKeysUptoRow.holds Tryd.pinned (OpenSpec.upto macKeysSpec)

/-- 'tithinglaw03.MacOf', WHERE WHAT IT READS IS OF BULK AT MOST 1048576: true; the input reads as it did. -/
def macOfUptoRow : OpenClaim := { program := "ytkcflejbhfaihaadoor", sum := "b2e6a5212e59599d027492ab0b8477b0033d19c80ff173443d37ddf1fcd72f82", func := "tithing/tithinglaw03.MacOf", spec := "macOf", named := ["tithing/sha.constants", "tithing/tithingref02.constants"], apart := false, laid := [("tithing/tithingref02.constants", laid_tithing_tithingref02_constants), ("tithing/sha.constants", laid_tithing_sha_constants)], narrowed := true }
def MacOfUptoSaid : Prop := macOfUptoRow.holds Tryd.pinned (OpenSpec.upto macOfSpec)

/-- 'tithinglaw04.KeysTags', WHERE WHAT IT READS IS OF BULK AT MOST 1048576: true; the input reads as it did. -/
def keysTagsUptoRow : OpenClaim := { program := "ytkcflejbhfaihaadoor", sum := "b2e6a5212e59599d027492ab0b8477b0033d19c80ff173443d37ddf1fcd72f82", func := "tithing/tithinglaw04.KeysTags", spec := "keysTags", named := ["tithing/sha.constants", "tithing/tithingref02.constants"], apart := false, laid := [("tithing/tithingref02.constants", laid_tithing_tithingref02_constants), ("tithing/sha.constants", laid_tithing_sha_constants)], narrowed := true }
def KeysTagsUptoSaid : Prop := keysTagsUptoRow.holds Tryd.pinned (OpenSpec.upto keysTagsSpec)

/-- 'tithinglaw04.KeysMeet', WHERE WHAT IT READS IS OF BULK AT MOST 1048576: true; the input reads as it did. -/
def keysMeetUptoRow : OpenClaim := { program := "ytkcflejbhfaihaadoor", sum := "b2e6a5212e59599d027492ab0b8477b0033d19c80ff173443d37ddf1fcd72f82", func := "tithing/tithinglaw04.KeysMeet", spec := "keysMeet", named := ["tithing/sha.constants"], apart := false, laid := [("tithing/sha.constants", laid_tithing_sha_constants)], narrowed := true }
def KeysMeetUptoSaid : Prop := keysMeetUptoRow.holds Tryd.pinned (OpenSpec.upto keysMeetSpec)

/-- 'tithinglaw26.MerkleProves', WHERE WHAT IT READS IS OF BULK AT MOST 1048576: true; the input reads as it did. -/
def merkleProvesUptoRow : OpenClaim := { program := "ytkcflejbhfaihaadoor", sum := "b2e6a5212e59599d027492ab0b8477b0033d19c80ff173443d37ddf1fcd72f82", func := "tithing/tithinglaw26.MerkleProves", spec := "merkleProves", recurses := true, named := ["tithing/sha.constants", "tithing/tithingref02.constants"], apart := false, laid := [("tithing/tithingref02.constants", laid_tithing_tithingref02_constants), ("tithing/sha.constants", laid_tithing_sha_constants)], narrowed := true }
def MerkleProvesUptoSaid : Prop := merkleProvesUptoRow.holds Tryd.pinned (OpenSpec.upto merkleProvesSpec)

/-- 'tithinglaw26.MerkleChecks', WHERE WHAT IT READS IS OF BULK AT MOST 1048576: true; the input reads as it did. -/
def merkleChecksUptoRow : OpenClaim := { program := "ytkcflejbhfaihaadoor", sum := "b2e6a5212e59599d027492ab0b8477b0033d19c80ff173443d37ddf1fcd72f82", func := "tithing/tithinglaw26.MerkleChecks", spec := "merkleChecks", recurses := true, named := ["tithing/sha.constants", "tithing/tithingref02.constants"], apart := false, laid := [("tithing/tithingref02.constants", laid_tithing_tithingref02_constants), ("tithing/sha.constants", laid_tithing_sha_constants)], narrowed := true }
def MerkleChecksUptoSaid : Prop := merkleChecksUptoRow.holds Tryd.pinned (OpenSpec.upto merkleChecksSpec)

/-- 'tithinglaw26.MerkleBinds', WHERE WHAT IT READS IS OF BULK AT MOST 1048576: true; the input reads as it did. -/
def merkleBindsUptoRow : OpenClaim := { program := "ytkcflejbhfaihaadoor", sum := "b2e6a5212e59599d027492ab0b8477b0033d19c80ff173443d37ddf1fcd72f82", func := "tithing/tithinglaw26.MerkleBinds", spec := "merkleBinds", recurses := true, named := ["tithing/sha.constants", "tithing/tithingref02.constants"], apart := false, laid := [("tithing/tithingref02.constants", laid_tithing_tithingref02_constants), ("tithing/sha.constants", laid_tithing_sha_constants)], narrowed := true }
def MerkleBindsUptoSaid : Prop := merkleBindsUptoRow.holds Tryd.pinned (OpenSpec.upto merkleBindsSpec)

/-- 'tithinglaw45.ProofChecks', WHERE WHAT IT READS IS OF BULK AT MOST 1048576: true; the input reads as it did. -/
def proofChecksUptoRow : OpenClaim := { program := "ytkcflejbhfaihaadoor", sum := "b2e6a5212e59599d027492ab0b8477b0033d19c80ff173443d37ddf1fcd72f82", func := "tithing/tithinglaw45.ProofChecks", spec := "proofChecks", unfollowed := true, recurses := true, named := ["tithing/sha.constants", "tithing/tithingref02.constants"], apart := false, laid := [("tithing/tithingref02.constants", laid_tithing_tithingref02_constants), ("tithing/sha.constants", laid_tithing_sha_constants)], narrowed := true }
def ProofChecksUptoSaid : Prop := proofChecksUptoRow.holds Tryd.pinned (OpenSpec.upto proofChecksSpec)

end Rows
end Go.Proofs.YtkcflejbhfaihaaDoor
