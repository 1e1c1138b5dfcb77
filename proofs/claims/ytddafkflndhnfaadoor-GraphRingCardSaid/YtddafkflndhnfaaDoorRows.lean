/-
  NARROWER THAN 'FOR EVERY INPUT', by the rows' own cells (each row's printed sentence says how): GraphReach: laid · GraphParts: laid · GraphOrder: laid · GraphPath: laid · GraphTurn: laid · GraphLoopsParts: laid · GraphPathLeast: laid · GraphPartsOrder: laid · GraphOwn: laid · GraphMore: laid · GraphRaw: laid · GraphRing: laid · GraphGreat: laid.
  DERIVED. THE GIVEN ROWS OF THIS SEAT. 13 by the template 'for every input the law returns true; each argument reads behind the call as it read before'; 0 by the template 'total and deterministic' (their statements: YtddafkflndhnfaaDoorTotals.lean).
  GIVEN WITH THE SEED: the statements are not yours to turn. If you find one false, say at which input.
  Laid BY PROGRAM, IN A SANDBOX (cutbox-rows.mjs): the forced cells as the released guide's own fill.sh prints them over the translation e59aa178cef32cee… (all of the seat's roots in one cut). By AI agents, Wed Nov 11 2026. No macro, syntax, notation, axiom, sorry.
-/
import Derived.Test.YtddafkflndhnfaaDoorChecked
import GoSem.Claim
import GoSem.ClaimJoined
import GoSem.ClaimMapViews
import Derived.JoinedTies
import Derived.KernelRfl
namespace Go.Proofs.YtddafkflndhnfaaDoor
/- THE CELL 'sum', in the pinned program and in every row, IS THE sha256 OF THE DUMP (.gsa) THAT YtddafkflndhnfaaDoorProg.lean LOADS. Nothing in Lean hashes anything: it is a label: what it is worth is what the hold of that sum in a sandbox is worth. -/
noncomputable def Tryd.pinned : Pinned := { name := "ytddafkflndhnfaadoor", sum := "e59aa178cef32ceee2a8cc9eaf97fc46a12d35793e4a20b7020d5db3624473c9", checked := Tryd.checked }
namespace Rows
def none {H : Type} : Left H := { results := [], args := [] }

/- WHAT THE LISTED PACKAGE-LEVEL VARIABLES READ AS WHEN THE CALL BEGINS. Each datum BY PROGRAM (the guide's laid-datum.mjs) off the statement by which the dump's own 'gosem.cut.vars' lays the variable. In a bare row this is a premise. The card (YtddafkflndhnfaaDoorCards.lean) ties it to the program's text. -/
def laid_math_bits_deBruijn64tab {H : Type} : DataW H := .agg [.lit (.int .u8 0), .lit (.int .u8 1), .lit (.int .u8 56), .lit (.int .u8 2), .lit (.int .u8 57), .lit (.int .u8 49), .lit (.int .u8 28), .lit (.int .u8 3), .lit (.int .u8 61), .lit (.int .u8 58), .lit (.int .u8 42), .lit (.int .u8 50), .lit (.int .u8 38), .lit (.int .u8 29), .lit (.int .u8 17), .lit (.int .u8 4), .lit (.int .u8 62), .lit (.int .u8 47), .lit (.int .u8 59), .lit (.int .u8 36), .lit (.int .u8 45), .lit (.int .u8 43), .lit (.int .u8 51), .lit (.int .u8 22), .lit (.int .u8 53), .lit (.int .u8 39), .lit (.int .u8 33), .lit (.int .u8 30), .lit (.int .u8 24), .lit (.int .u8 18), .lit (.int .u8 12), .lit (.int .u8 5), .lit (.int .u8 63), .lit (.int .u8 55), .lit (.int .u8 48), .lit (.int .u8 27), .lit (.int .u8 60), .lit (.int .u8 41), .lit (.int .u8 37), .lit (.int .u8 16), .lit (.int .u8 46), .lit (.int .u8 35), .lit (.int .u8 44), .lit (.int .u8 21), .lit (.int .u8 52), .lit (.int .u8 32), .lit (.int .u8 23), .lit (.int .u8 11), .lit (.int .u8 54), .lit (.int .u8 26), .lit (.int .u8 40), .lit (.int .u8 15), .lit (.int .u8 34), .lit (.int .u8 20), .lit (.int .u8 31), .lit (.int .u8 10), .lit (.int .u8 25), .lit (.int .u8 14), .lit (.int .u8 19), .lit (.int .u8 9), .lit (.int .u8 13), .lit (.int .u8 8), .lit (.int .u8 7), .lit (.int .u8 6)]

/-- 'haruspexlaw5.GraphReach': WHATEVER THE INPUT: true; the input reads as it did. -/
def graphReachSpec : ChangeSpec := { name := "graphReach", fn := fun _ => fun
  | [d1, d2, d3] => { results := [.lit (.bool true)], args := [d1, d2, d3] }
  | _ => none }
def graphReachRow : OpenClaim := { program := "ytddafkflndhnfaadoor", sum := "e59aa178cef32ceee2a8cc9eaf97fc46a12d35793e4a20b7020d5db3624473c9", func := "haruspex/haruspexlaw5.GraphReach", spec := "graphReach", unfollowed := true, recurses := true, named := ["math/bits.deBruijn64tab"], apart := false, laid := [("math/bits.deBruijn64tab", laid_math_bits_deBruijn64tab)] }
def GraphReachSaid : Prop := graphReachRow.holds Tryd.pinned (OpenSpec.ofChange graphReachSpec)

/-- ITS FALSE NEIGHBOUR: 'it returns false'. Refute it at one input. -/
def graphReachWrong : ChangeSpec := { name := "graphReach", fn := fun _ => fun
  | [d1, d2, d3] => { results := [.lit (.bool false)], args := [d1, d2, d3] }
  | _ => none }
def GraphReachWrongFalsely : Prop := graphReachRow.holds Tryd.pinned (OpenSpec.ofChange graphReachWrong)

/-- 'haruspexlaw5.GraphParts': WHATEVER THE INPUT: true; the input reads as it did. -/
def graphPartsSpec : ChangeSpec := { name := "graphParts", fn := fun _ => fun
  | [d1, d2] => { results := [.lit (.bool true)], args := [d1, d2] }
  | _ => none }
def graphPartsRow : OpenClaim := { program := "ytddafkflndhnfaadoor", sum := "e59aa178cef32ceee2a8cc9eaf97fc46a12d35793e4a20b7020d5db3624473c9", func := "haruspex/haruspexlaw5.GraphParts", spec := "graphParts", unfollowed := true, recurses := true, named := ["math/bits.deBruijn64tab"], apart := false, laid := [("math/bits.deBruijn64tab", laid_math_bits_deBruijn64tab)] }
def GraphPartsSaid : Prop := graphPartsRow.holds Tryd.pinned (OpenSpec.ofChange graphPartsSpec)

/-- ITS FALSE NEIGHBOUR: 'it returns false'. Refute it at one input. -/
def graphPartsWrong : ChangeSpec := { name := "graphParts", fn := fun _ => fun
  | [d1, d2] => { results := [.lit (.bool false)], args := [d1, d2] }
  | _ => none }
def GraphPartsWrongFalsely : Prop := graphPartsRow.holds Tryd.pinned (OpenSpec.ofChange graphPartsWrong)

/-- 'haruspexlaw5.GraphOrder': WHATEVER THE INPUT: true; the input reads as it did. -/
def graphOrderSpec : ChangeSpec := { name := "graphOrder", fn := fun _ => fun
  | [d1, d2, d3] => { results := [.lit (.bool true)], args := [d1, d2, d3] }
  | _ => none }
def graphOrderRow : OpenClaim := { program := "ytddafkflndhnfaadoor", sum := "e59aa178cef32ceee2a8cc9eaf97fc46a12d35793e4a20b7020d5db3624473c9", func := "haruspex/haruspexlaw5.GraphOrder", spec := "graphOrder", unfollowed := true, recurses := true, named := ["math/bits.deBruijn64tab"], apart := false, laid := [("math/bits.deBruijn64tab", laid_math_bits_deBruijn64tab)] }
def GraphOrderSaid : Prop := graphOrderRow.holds Tryd.pinned (OpenSpec.ofChange graphOrderSpec)

/-- ITS FALSE NEIGHBOUR: 'it returns false'. Refute it at one input. -/
def graphOrderWrong : ChangeSpec := { name := "graphOrder", fn := fun _ => fun
  | [d1, d2, d3] => { results := [.lit (.bool false)], args := [d1, d2, d3] }
  | _ => none }
def GraphOrderWrongFalsely : Prop := graphOrderRow.holds Tryd.pinned (OpenSpec.ofChange graphOrderWrong)

/-- 'haruspexlaw5.GraphPath': WHATEVER THE INPUT: true; the input reads as it did. -/
def graphPathSpec : ChangeSpec := { name := "graphPath", fn := fun _ => fun
  | [d1, d2, d3, d4] => { results := [.lit (.bool true)], args := [d1, d2, d3, d4] }
  | _ => none }
def graphPathRow : OpenClaim := { program := "ytddafkflndhnfaadoor", sum := "e59aa178cef32ceee2a8cc9eaf97fc46a12d35793e4a20b7020d5db3624473c9", func := "haruspex/haruspexlaw5.GraphPath", spec := "graphPath", unfollowed := true, recurses := true, named := ["math/bits.deBruijn64tab"], apart := false, laid := [("math/bits.deBruijn64tab", laid_math_bits_deBruijn64tab)] }
def GraphPathSaid : Prop := graphPathRow.holds Tryd.pinned (OpenSpec.ofChange graphPathSpec)

/-- ITS FALSE NEIGHBOUR: 'it returns false'. Refute it at one input. -/
def graphPathWrong : ChangeSpec := { name := "graphPath", fn := fun _ => fun
  | [d1, d2, d3, d4] => { results := [.lit (.bool false)], args := [d1, d2, d3, d4] }
  | _ => none }
def GraphPathWrongFalsely : Prop := graphPathRow.holds Tryd.pinned (OpenSpec.ofChange graphPathWrong)

/-- 'haruspexlaw5.GraphTurn': WHATEVER THE INPUT: true; the input reads as it did. -/
def graphTurnSpec : ChangeSpec := { name := "graphTurn", fn := fun _ => fun
  | [d1, d2] => { results := [.lit (.bool true)], args := [d1, d2] }
  | _ => none }
def graphTurnRow : OpenClaim := { program := "ytddafkflndhnfaadoor", sum := "e59aa178cef32ceee2a8cc9eaf97fc46a12d35793e4a20b7020d5db3624473c9", func := "haruspex/haruspexlaw5.GraphTurn", spec := "graphTurn", unfollowed := true, recurses := true, named := ["math/bits.deBruijn64tab"], apart := false, laid := [("math/bits.deBruijn64tab", laid_math_bits_deBruijn64tab)] }
def GraphTurnSaid : Prop := graphTurnRow.holds Tryd.pinned (OpenSpec.ofChange graphTurnSpec)

/-- ITS FALSE NEIGHBOUR: 'it returns false'. Refute it at one input. -/
def graphTurnWrong : ChangeSpec := { name := "graphTurn", fn := fun _ => fun
  | [d1, d2] => { results := [.lit (.bool false)], args := [d1, d2] }
  | _ => none }
def GraphTurnWrongFalsely : Prop := graphTurnRow.holds Tryd.pinned (OpenSpec.ofChange graphTurnWrong)

/-- 'haruspexlaw5.GraphLoopsParts': WHATEVER THE INPUT: true; the input reads as it did. -/
def graphLoopsPartsSpec : ChangeSpec := { name := "graphLoopsParts", fn := fun _ => fun
  | [d1, d2] => { results := [.lit (.bool true)], args := [d1, d2] }
  | _ => none }
def graphLoopsPartsRow : OpenClaim := { program := "ytddafkflndhnfaadoor", sum := "e59aa178cef32ceee2a8cc9eaf97fc46a12d35793e4a20b7020d5db3624473c9", func := "haruspex/haruspexlaw5.GraphLoopsParts", spec := "graphLoopsParts", unfollowed := true, recurses := true, named := ["math/bits.deBruijn64tab"], apart := false, laid := [("math/bits.deBruijn64tab", laid_math_bits_deBruijn64tab)] }
def GraphLoopsPartsSaid : Prop := graphLoopsPartsRow.holds Tryd.pinned (OpenSpec.ofChange graphLoopsPartsSpec)

/-- ITS FALSE NEIGHBOUR: 'it returns false'. Refute it at one input. -/
def graphLoopsPartsWrong : ChangeSpec := { name := "graphLoopsParts", fn := fun _ => fun
  | [d1, d2] => { results := [.lit (.bool false)], args := [d1, d2] }
  | _ => none }
def GraphLoopsPartsWrongFalsely : Prop := graphLoopsPartsRow.holds Tryd.pinned (OpenSpec.ofChange graphLoopsPartsWrong)

/-- 'haruspexlaw5.GraphPathLeast': WHATEVER THE INPUT: true; the input reads as it did. -/
def graphPathLeastSpec : ChangeSpec := { name := "graphPathLeast", fn := fun _ => fun
  | [d1, d2, d3, d4] => { results := [.lit (.bool true)], args := [d1, d2, d3, d4] }
  | _ => none }
def graphPathLeastRow : OpenClaim := { program := "ytddafkflndhnfaadoor", sum := "e59aa178cef32ceee2a8cc9eaf97fc46a12d35793e4a20b7020d5db3624473c9", func := "haruspex/haruspexlaw5.GraphPathLeast", spec := "graphPathLeast", unfollowed := true, recurses := true, named := ["math/bits.deBruijn64tab"], apart := false, laid := [("math/bits.deBruijn64tab", laid_math_bits_deBruijn64tab)] }
def GraphPathLeastSaid : Prop := graphPathLeastRow.holds Tryd.pinned (OpenSpec.ofChange graphPathLeastSpec)

/-- ITS FALSE NEIGHBOUR: 'it returns false'. Refute it at one input. -/
def graphPathLeastWrong : ChangeSpec := { name := "graphPathLeast", fn := fun _ => fun
  | [d1, d2, d3, d4] => { results := [.lit (.bool false)], args := [d1, d2, d3, d4] }
  | _ => none }
def GraphPathLeastWrongFalsely : Prop := graphPathLeastRow.holds Tryd.pinned (OpenSpec.ofChange graphPathLeastWrong)

/-- 'haruspexlaw5.GraphPartsOrder': WHATEVER THE INPUT: true; the input reads as it did. -/
def graphPartsOrderSpec : ChangeSpec := { name := "graphPartsOrder", fn := fun _ => fun
  | [d1, d2] => { results := [.lit (.bool true)], args := [d1, d2] }
  | _ => none }
def graphPartsOrderRow : OpenClaim := { program := "ytddafkflndhnfaadoor", sum := "e59aa178cef32ceee2a8cc9eaf97fc46a12d35793e4a20b7020d5db3624473c9", func := "haruspex/haruspexlaw5.GraphPartsOrder", spec := "graphPartsOrder", unfollowed := true, recurses := true, named := ["math/bits.deBruijn64tab"], apart := false, laid := [("math/bits.deBruijn64tab", laid_math_bits_deBruijn64tab)] }
def GraphPartsOrderSaid : Prop := graphPartsOrderRow.holds Tryd.pinned (OpenSpec.ofChange graphPartsOrderSpec)

/-- ITS FALSE NEIGHBOUR: 'it returns false'. Refute it at one input. -/
def graphPartsOrderWrong : ChangeSpec := { name := "graphPartsOrder", fn := fun _ => fun
  | [d1, d2] => { results := [.lit (.bool false)], args := [d1, d2] }
  | _ => none }
def GraphPartsOrderWrongFalsely : Prop := graphPartsOrderRow.holds Tryd.pinned (OpenSpec.ofChange graphPartsOrderWrong)

/-- 'haruspexlaw5.GraphOwn': WHATEVER THE INPUT: true; the input reads as it did. -/
def graphOwnSpec : ChangeSpec := { name := "graphOwn", fn := fun _ => fun
  | [d1, d2, d3] => { results := [.lit (.bool true)], args := [d1, d2, d3] }
  | _ => none }
def graphOwnRow : OpenClaim := { program := "ytddafkflndhnfaadoor", sum := "e59aa178cef32ceee2a8cc9eaf97fc46a12d35793e4a20b7020d5db3624473c9", func := "haruspex/haruspexlaw5.GraphOwn", spec := "graphOwn", unfollowed := true, recurses := true, named := ["math/bits.deBruijn64tab"], apart := false, laid := [("math/bits.deBruijn64tab", laid_math_bits_deBruijn64tab)] }
def GraphOwnSaid : Prop := graphOwnRow.holds Tryd.pinned (OpenSpec.ofChange graphOwnSpec)

/-- ITS FALSE NEIGHBOUR: 'it returns false'. Refute it at one input. -/
def graphOwnWrong : ChangeSpec := { name := "graphOwn", fn := fun _ => fun
  | [d1, d2, d3] => { results := [.lit (.bool false)], args := [d1, d2, d3] }
  | _ => none }
def GraphOwnWrongFalsely : Prop := graphOwnRow.holds Tryd.pinned (OpenSpec.ofChange graphOwnWrong)

/-- 'haruspexlaw5.GraphMore': WHATEVER THE INPUT: true; the input reads as it did. -/
def graphMoreSpec : ChangeSpec := { name := "graphMore", fn := fun _ => fun
  | [d1, d2, d3, d4] => { results := [.lit (.bool true)], args := [d1, d2, d3, d4] }
  | _ => none }
def graphMoreRow : OpenClaim := { program := "ytddafkflndhnfaadoor", sum := "e59aa178cef32ceee2a8cc9eaf97fc46a12d35793e4a20b7020d5db3624473c9", func := "haruspex/haruspexlaw5.GraphMore", spec := "graphMore", unfollowed := true, recurses := true, named := ["math/bits.deBruijn64tab"], apart := false, laid := [("math/bits.deBruijn64tab", laid_math_bits_deBruijn64tab)] }
def GraphMoreSaid : Prop := graphMoreRow.holds Tryd.pinned (OpenSpec.ofChange graphMoreSpec)

/-- ITS FALSE NEIGHBOUR: 'it returns false'. Refute it at one input. -/
def graphMoreWrong : ChangeSpec := { name := "graphMore", fn := fun _ => fun
  | [d1, d2, d3, d4] => { results := [.lit (.bool false)], args := [d1, d2, d3, d4] }
  | _ => none }
def GraphMoreWrongFalsely : Prop := graphMoreRow.holds Tryd.pinned (OpenSpec.ofChange graphMoreWrong)

/-- 'haruspexlaw5.GraphRaw': WHATEVER THE INPUT: true; the input reads as it did. -/
def graphRawSpec : ChangeSpec := { name := "graphRaw", fn := fun _ => fun
  | [d1, d2, d3, d4] => { results := [.lit (.bool true)], args := [d1, d2, d3, d4] }
  | _ => none }
def graphRawRow : OpenClaim := { program := "ytddafkflndhnfaadoor", sum := "e59aa178cef32ceee2a8cc9eaf97fc46a12d35793e4a20b7020d5db3624473c9", func := "haruspex/haruspexlaw5.GraphRaw", spec := "graphRaw", unfollowed := true, recurses := true, named := ["math/bits.deBruijn64tab"], apart := false, laid := [("math/bits.deBruijn64tab", laid_math_bits_deBruijn64tab)] }
def GraphRawSaid : Prop := graphRawRow.holds Tryd.pinned (OpenSpec.ofChange graphRawSpec)

/-- ITS FALSE NEIGHBOUR: 'it returns false'. Refute it at one input. -/
def graphRawWrong : ChangeSpec := { name := "graphRaw", fn := fun _ => fun
  | [d1, d2, d3, d4] => { results := [.lit (.bool false)], args := [d1, d2, d3, d4] }
  | _ => none }
def GraphRawWrongFalsely : Prop := graphRawRow.holds Tryd.pinned (OpenSpec.ofChange graphRawWrong)

/-- 'haruspexlaw5.GraphRing': WHATEVER THE INPUT: true; the input reads as it did. -/
def graphRingSpec : ChangeSpec := { name := "graphRing", fn := fun _ => fun
  | [d1, d2, d3] => { results := [.lit (.bool true)], args := [d1, d2, d3] }
  | _ => none }
def graphRingRow : OpenClaim := { program := "ytddafkflndhnfaadoor", sum := "e59aa178cef32ceee2a8cc9eaf97fc46a12d35793e4a20b7020d5db3624473c9", func := "haruspex/haruspexlaw5.GraphRing", spec := "graphRing", unfollowed := true, recurses := true, named := ["math/bits.deBruijn64tab"], apart := false, laid := [("math/bits.deBruijn64tab", laid_math_bits_deBruijn64tab)] }
def GraphRingSaid : Prop := graphRingRow.holds Tryd.pinned (OpenSpec.ofChange graphRingSpec)

/-- ITS FALSE NEIGHBOUR: 'it returns false'. Refute it at one input. -/
def graphRingWrong : ChangeSpec := { name := "graphRing", fn := fun _ => fun
  | [d1, d2, d3] => { results := [.lit (.bool false)], args := [d1, d2, d3] }
  | _ => none }
def GraphRingWrongFalsely : Prop := graphRingRow.holds Tryd.pinned (OpenSpec.ofChange graphRingWrong)

/-- 'haruspexlaw5.GraphGreat': WHATEVER THE INPUT: true; the input reads as it did. -/
def graphGreatSpec : ChangeSpec := { name := "graphGreat", fn := fun _ => fun
  | [d] => { results := [.lit (.bool true)], args := [d] }
  | _ => none }
def graphGreatRow : OpenClaim := { program := "ytddafkflndhnfaadoor", sum := "e59aa178cef32ceee2a8cc9eaf97fc46a12d35793e4a20b7020d5db3624473c9", func := "haruspex/haruspexlaw5.GraphGreat", spec := "graphGreat", unfollowed := true, recurses := true, named := ["math/bits.deBruijn64tab"], apart := false, laid := [("math/bits.deBruijn64tab", laid_math_bits_deBruijn64tab)] }
def GraphGreatSaid : Prop := graphGreatRow.holds Tryd.pinned (OpenSpec.ofChange graphGreatSpec)

/-- ITS FALSE NEIGHBOUR: 'it returns false'. Refute it at one input. -/
def graphGreatWrong : ChangeSpec := { name := "graphGreat", fn := fun _ => fun
  | [d] => { results := [.lit (.bool false)], args := [d] }
  | _ => none }
def GraphGreatWrongFalsely : Prop := graphGreatRow.holds Tryd.pinned (OpenSpec.ofChange graphGreatWrong)

/- THE SECOND FORM. 'bulk': how many values and letters a reading holds, each counted each time it is reached (what is shared counts as often as it is met; a slice's spare places count too). A statement '..UptoSaid' is the law's where the arguments, and the package variables that the reading takes, are together of bulk at most 1048576: NARROWER than '..Said'. Prove '..Said' where nothing that the law and all that it calls make is longer than what came in: it says more and counts as full. Else prove '..UptoSaid'. A law counts once. -/
mutual
def uptoBulk {H : Type} : DataW H → Nat
  | .lit (.string bytes) => bytes.length + 1
  | .lit _ => 1
  | .nil => 1
  | .ptr d => uptoBulk d + 1
  | .slice elems spare => uptoBulkAll elems + uptoBulkAll spare + 1
  | .agg parts => uptoBulkAll parts + 1
  | .iface _ d => uptoBulk d + 1
  | .map entries => uptoBulkEntries entries + 1
  | .held _ => 1
def uptoBulkAll {H : Type} : List (DataW H) → Nat
  | [] => 0
  | d :: r => uptoBulk d + uptoBulkAll r
def uptoBulkEntries {H : Type} : List (Lit × DataW H) → Nat
  | [] => 0
  | x :: r => uptoBulkEntry x + uptoBulkEntries r
def uptoBulkEntry {H : Type} : Lit × DataW H → Nat
  | (.string bytes, d) => bytes.length + uptoBulk d + 1
  | (_, d) => uptoBulk d + 1
 end
def uptoSmall : (H : Type) → List (DataW H) → Bool := fun _ ds => decide (uptoBulkAll ds ≤ 1048576)
def OpenSpec.upto (s : _root_.Go.ChangeSpec) : _root_.Go.OpenSpec := { _root_.Go.OpenSpec.ofChange s with cond := some uptoSmall }

/-- 'haruspexlaw5.GraphReach', WHERE WHAT IT READS IS OF BULK AT MOST 1048576: true; the input reads as it did. -/
def graphReachUptoRow : OpenClaim := { program := "ytddafkflndhnfaadoor", sum := "e59aa178cef32ceee2a8cc9eaf97fc46a12d35793e4a20b7020d5db3624473c9", func := "haruspex/haruspexlaw5.GraphReach", spec := "graphReach", unfollowed := true, recurses := true, named := ["math/bits.deBruijn64tab"], apart := false, laid := [("math/bits.deBruijn64tab", laid_math_bits_deBruijn64tab)], narrowed := true }
def GraphReachUptoSaid : Prop := graphReachUptoRow.holds Tryd.pinned (OpenSpec.upto graphReachSpec)

/-- 'haruspexlaw5.GraphParts', WHERE WHAT IT READS IS OF BULK AT MOST 1048576: true; the input reads as it did. -/
def graphPartsUptoRow : OpenClaim := { program := "ytddafkflndhnfaadoor", sum := "e59aa178cef32ceee2a8cc9eaf97fc46a12d35793e4a20b7020d5db3624473c9", func := "haruspex/haruspexlaw5.GraphParts", spec := "graphParts", unfollowed := true, recurses := true, named := ["math/bits.deBruijn64tab"], apart := false, laid := [("math/bits.deBruijn64tab", laid_math_bits_deBruijn64tab)], narrowed := true }
def GraphPartsUptoSaid : Prop := graphPartsUptoRow.holds Tryd.pinned (OpenSpec.upto graphPartsSpec)

/-- 'haruspexlaw5.GraphOrder', WHERE WHAT IT READS IS OF BULK AT MOST 1048576: true; the input reads as it did. -/
def graphOrderUptoRow : OpenClaim := { program := "ytddafkflndhnfaadoor", sum := "e59aa178cef32ceee2a8cc9eaf97fc46a12d35793e4a20b7020d5db3624473c9", func := "haruspex/haruspexlaw5.GraphOrder", spec := "graphOrder", unfollowed := true, recurses := true, named := ["math/bits.deBruijn64tab"], apart := false, laid := [("math/bits.deBruijn64tab", laid_math_bits_deBruijn64tab)], narrowed := true }
def GraphOrderUptoSaid : Prop := graphOrderUptoRow.holds Tryd.pinned (OpenSpec.upto graphOrderSpec)

/-- 'haruspexlaw5.GraphPath', WHERE WHAT IT READS IS OF BULK AT MOST 1048576: true; the input reads as it did. -/
def graphPathUptoRow : OpenClaim := { program := "ytddafkflndhnfaadoor", sum := "e59aa178cef32ceee2a8cc9eaf97fc46a12d35793e4a20b7020d5db3624473c9", func := "haruspex/haruspexlaw5.GraphPath", spec := "graphPath", unfollowed := true, recurses := true, named := ["math/bits.deBruijn64tab"], apart := false, laid := [("math/bits.deBruijn64tab", laid_math_bits_deBruijn64tab)], narrowed := true }
def GraphPathUptoSaid : Prop := graphPathUptoRow.holds Tryd.pinned (OpenSpec.upto graphPathSpec)

/-- 'haruspexlaw5.GraphTurn', WHERE WHAT IT READS IS OF BULK AT MOST 1048576: true; the input reads as it did. -/
def graphTurnUptoRow : OpenClaim := { program := "ytddafkflndhnfaadoor", sum := "e59aa178cef32ceee2a8cc9eaf97fc46a12d35793e4a20b7020d5db3624473c9", func := "haruspex/haruspexlaw5.GraphTurn", spec := "graphTurn", unfollowed := true, recurses := true, named := ["math/bits.deBruijn64tab"], apart := false, laid := [("math/bits.deBruijn64tab", laid_math_bits_deBruijn64tab)], narrowed := true }
def GraphTurnUptoSaid : Prop := graphTurnUptoRow.holds Tryd.pinned (OpenSpec.upto graphTurnSpec)

/-- 'haruspexlaw5.GraphLoopsParts', WHERE WHAT IT READS IS OF BULK AT MOST 1048576: true; the input reads as it did. -/
def graphLoopsPartsUptoRow : OpenClaim := { program := "ytddafkflndhnfaadoor", sum := "e59aa178cef32ceee2a8cc9eaf97fc46a12d35793e4a20b7020d5db3624473c9", func := "haruspex/haruspexlaw5.GraphLoopsParts", spec := "graphLoopsParts", unfollowed := true, recurses := true, named := ["math/bits.deBruijn64tab"], apart := false, laid := [("math/bits.deBruijn64tab", laid_math_bits_deBruijn64tab)], narrowed := true }
def GraphLoopsPartsUptoSaid : Prop := graphLoopsPartsUptoRow.holds Tryd.pinned (OpenSpec.upto graphLoopsPartsSpec)

/-- 'haruspexlaw5.GraphPathLeast', WHERE WHAT IT READS IS OF BULK AT MOST 1048576: true; the input reads as it did. -/
def graphPathLeastUptoRow : OpenClaim := { program := "ytddafkflndhnfaadoor", sum := "e59aa178cef32ceee2a8cc9eaf97fc46a12d35793e4a20b7020d5db3624473c9", func := "haruspex/haruspexlaw5.GraphPathLeast", spec := "graphPathLeast", unfollowed := true, recurses := true, named := ["math/bits.deBruijn64tab"], apart := false, laid := [("math/bits.deBruijn64tab", laid_math_bits_deBruijn64tab)], narrowed := true }
def GraphPathLeastUptoSaid : Prop := graphPathLeastUptoRow.holds Tryd.pinned (OpenSpec.upto graphPathLeastSpec)

/-- 'haruspexlaw5.GraphPartsOrder', WHERE WHAT IT READS IS OF BULK AT MOST 1048576: true; the input reads as it did. -/
def graphPartsOrderUptoRow : OpenClaim := { program := "ytddafkflndhnfaadoor", sum := "e59aa178cef32ceee2a8cc9eaf97fc46a12d35793e4a20b7020d5db3624473c9", func := "haruspex/haruspexlaw5.GraphPartsOrder", spec := "graphPartsOrder", unfollowed := true, recurses := true, named := ["math/bits.deBruijn64tab"], apart := false, laid := [("math/bits.deBruijn64tab", laid_math_bits_deBruijn64tab)], narrowed := true }
def GraphPartsOrderUptoSaid : Prop := graphPartsOrderUptoRow.holds Tryd.pinned (OpenSpec.upto graphPartsOrderSpec)

/-- 'haruspexlaw5.GraphOwn', WHERE WHAT IT READS IS OF BULK AT MOST 1048576: true; the input reads as it did. -/
def graphOwnUptoRow : OpenClaim := { program := "ytddafkflndhnfaadoor", sum := "e59aa178cef32ceee2a8cc9eaf97fc46a12d35793e4a20b7020d5db3624473c9", func := "haruspex/haruspexlaw5.GraphOwn", spec := "graphOwn", unfollowed := true, recurses := true, named := ["math/bits.deBruijn64tab"], apart := false, laid := [("math/bits.deBruijn64tab", laid_math_bits_deBruijn64tab)], narrowed := true }
def GraphOwnUptoSaid : Prop := graphOwnUptoRow.holds Tryd.pinned (OpenSpec.upto graphOwnSpec)

/-- 'haruspexlaw5.GraphMore', WHERE WHAT IT READS IS OF BULK AT MOST 1048576: true; the input reads as it did. -/
def graphMoreUptoRow : OpenClaim := { program := "ytddafkflndhnfaadoor", sum := "e59aa178cef32ceee2a8cc9eaf97fc46a12d35793e4a20b7020d5db3624473c9", func := "haruspex/haruspexlaw5.GraphMore", spec := "graphMore", unfollowed := true, recurses := true, named := ["math/bits.deBruijn64tab"], apart := false, laid := [("math/bits.deBruijn64tab", laid_math_bits_deBruijn64tab)], narrowed := true }
def GraphMoreUptoSaid : Prop := graphMoreUptoRow.holds Tryd.pinned (OpenSpec.upto graphMoreSpec)

/-- 'haruspexlaw5.GraphRaw', WHERE WHAT IT READS IS OF BULK AT MOST 1048576: true; the input reads as it did. -/
def graphRawUptoRow : OpenClaim := { program := "ytddafkflndhnfaadoor", sum := "e59aa178cef32ceee2a8cc9eaf97fc46a12d35793e4a20b7020d5db3624473c9", func := "haruspex/haruspexlaw5.GraphRaw", spec := "graphRaw", unfollowed := true, recurses := true, named := ["math/bits.deBruijn64tab"], apart := false, laid := [("math/bits.deBruijn64tab", laid_math_bits_deBruijn64tab)], narrowed := true }
def GraphRawUptoSaid : Prop := graphRawUptoRow.holds Tryd.pinned (OpenSpec.upto graphRawSpec)

/-- 'haruspexlaw5.GraphRing', WHERE WHAT IT READS IS OF BULK AT MOST 1048576: true; the input reads as it did. -/
def graphRingUptoRow : OpenClaim := { program := "ytddafkflndhnfaadoor", sum := "e59aa178cef32ceee2a8cc9eaf97fc46a12d35793e4a20b7020d5db3624473c9", func := "haruspex/haruspexlaw5.GraphRing", spec := "graphRing", unfollowed := true, recurses := true, named := ["math/bits.deBruijn64tab"], apart := false, laid := [("math/bits.deBruijn64tab", laid_math_bits_deBruijn64tab)], narrowed := true }
def GraphRingUptoSaid : Prop := graphRingUptoRow.holds Tryd.pinned (OpenSpec.upto graphRingSpec)

/-- 'haruspexlaw5.GraphGreat', WHERE WHAT IT READS IS OF BULK AT MOST 1048576: true; the input reads as it did. -/
def graphGreatUptoRow : OpenClaim := { program := "ytddafkflndhnfaadoor", sum := "e59aa178cef32ceee2a8cc9eaf97fc46a12d35793e4a20b7020d5db3624473c9", func := "haruspex/haruspexlaw5.GraphGreat", spec := "graphGreat", unfollowed := true, recurses := true, named := ["math/bits.deBruijn64tab"], apart := false, laid := [("math/bits.deBruijn64tab", laid_math_bits_deBruijn64tab)], narrowed := true }
def GraphGreatUptoSaid : Prop := graphGreatUptoRow.holds Tryd.pinned (OpenSpec.upto graphGreatSpec)

end Rows
end Go.Proofs.YtddafkflndhnfaaDoor
