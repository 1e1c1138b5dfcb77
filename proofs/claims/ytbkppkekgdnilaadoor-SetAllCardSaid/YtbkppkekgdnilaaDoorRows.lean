/-
  NARROWER THAN 'FOR EVERY INPUT', by the rows' own cells (each row's printed sentence says how): SetEnds: laid · SetWalk: laid · SetMany: laid · SetOrder: laid · SetAll: laid · SetPairs: laid.
  DERIVED. THE GIVEN ROWS OF THIS SEAT. 6 by the template 'for every input the law returns true; each argument reads behind the call as it read before'; 0 by the template 'total and deterministic' (their statements: YtbkppkekgdnilaaDoorTotals.lean).
  GIVEN WITH THE SEED: the statements are not yours to turn. If you find one false, say at which input.
  Laid BY PROGRAM, IN A SANDBOX (cutbox-rows.mjs): the forced cells as the released guide's own fill.sh prints them over the translation 341ca49f4233089c… (all of the seat's roots in one cut). By AI agents, Wed Nov 11 2026. No macro, syntax, notation, axiom, sorry.
-/
import Derived.Test.YtbkppkekgdnilaaDoorChecked
import GoSem.Claim
import GoSem.ClaimJoined
import GoSem.ClaimMapViews
import Derived.JoinedTies
import Derived.KernelRfl
namespace Go.Proofs.YtbkppkekgdnilaaDoor
/- THE CELL 'sum', in the pinned program and in every row, IS THE sha256 OF THE DUMP (.gsa) THAT YtbkppkekgdnilaaDoorProg.lean LOADS. Nothing in Lean hashes anything: it is a label: what it is worth is what the hold of that sum in a sandbox is worth. -/
noncomputable def Tryd.pinned : Pinned := { name := "ytbkppkekgdnilaadoor", sum := "341ca49f4233089c355f1d3880b64a3b9207a978b4591051a997193900669e56", checked := Tryd.checked }
namespace Rows
def none {H : Type} : Left H := { results := [], args := [] }

/- WHAT THE LISTED PACKAGE-LEVEL VARIABLES READ AS WHEN THE CALL BEGINS. Each datum BY PROGRAM (the guide's laid-datum.mjs) off the statement by which the dump's own 'gosem.cut.vars' lays the variable. In a bare row this is a premise. The card (YtbkppkekgdnilaaDoorCards.lean) ties it to the program's text. -/
def laid_math_bits_deBruijn64tab {H : Type} : DataW H := .agg [.lit (.int .u8 0), .lit (.int .u8 1), .lit (.int .u8 56), .lit (.int .u8 2), .lit (.int .u8 57), .lit (.int .u8 49), .lit (.int .u8 28), .lit (.int .u8 3), .lit (.int .u8 61), .lit (.int .u8 58), .lit (.int .u8 42), .lit (.int .u8 50), .lit (.int .u8 38), .lit (.int .u8 29), .lit (.int .u8 17), .lit (.int .u8 4), .lit (.int .u8 62), .lit (.int .u8 47), .lit (.int .u8 59), .lit (.int .u8 36), .lit (.int .u8 45), .lit (.int .u8 43), .lit (.int .u8 51), .lit (.int .u8 22), .lit (.int .u8 53), .lit (.int .u8 39), .lit (.int .u8 33), .lit (.int .u8 30), .lit (.int .u8 24), .lit (.int .u8 18), .lit (.int .u8 12), .lit (.int .u8 5), .lit (.int .u8 63), .lit (.int .u8 55), .lit (.int .u8 48), .lit (.int .u8 27), .lit (.int .u8 60), .lit (.int .u8 41), .lit (.int .u8 37), .lit (.int .u8 16), .lit (.int .u8 46), .lit (.int .u8 35), .lit (.int .u8 44), .lit (.int .u8 21), .lit (.int .u8 52), .lit (.int .u8 32), .lit (.int .u8 23), .lit (.int .u8 11), .lit (.int .u8 54), .lit (.int .u8 26), .lit (.int .u8 40), .lit (.int .u8 15), .lit (.int .u8 34), .lit (.int .u8 20), .lit (.int .u8 31), .lit (.int .u8 10), .lit (.int .u8 25), .lit (.int .u8 14), .lit (.int .u8 19), .lit (.int .u8 9), .lit (.int .u8 13), .lit (.int .u8 8), .lit (.int .u8 7), .lit (.int .u8 6)]

/-- 'haruspexlaw1.SetEnds': WHATEVER THE INPUT: true; the input reads as it did. -/
def setEndsSpec : ChangeSpec := { name := "setEnds", fn := fun _ => fun
  | [d] => { results := [.lit (.bool true)], args := [d] }
  | _ => none }
def setEndsRow : OpenClaim := { program := "ytbkppkekgdnilaadoor", sum := "341ca49f4233089c355f1d3880b64a3b9207a978b4591051a997193900669e56", func := "haruspex/haruspexlaw1.SetEnds", spec := "setEnds", named := ["math/bits.deBruijn64tab"], apart := false, laid := [("math/bits.deBruijn64tab", laid_math_bits_deBruijn64tab)] }
def SetEndsSaid : Prop := setEndsRow.holds Tryd.pinned (OpenSpec.ofChange setEndsSpec)

/-- ITS FALSE NEIGHBOUR: 'it returns false'. Refute it at one input. -/
def setEndsWrong : ChangeSpec := { name := "setEnds", fn := fun _ => fun
  | [d] => { results := [.lit (.bool false)], args := [d] }
  | _ => none }
def SetEndsWrongFalsely : Prop := setEndsRow.holds Tryd.pinned (OpenSpec.ofChange setEndsWrong)

/-- 'haruspexlaw1.SetWalk': WHATEVER THE INPUT: true; the input reads as it did. -/
def setWalkSpec : ChangeSpec := { name := "setWalk", fn := fun _ => fun
  | [d] => { results := [.lit (.bool true)], args := [d] }
  | _ => none }
def setWalkRow : OpenClaim := { program := "ytbkppkekgdnilaadoor", sum := "341ca49f4233089c355f1d3880b64a3b9207a978b4591051a997193900669e56", func := "haruspex/haruspexlaw1.SetWalk", spec := "setWalk", named := ["math/bits.deBruijn64tab"], apart := false, laid := [("math/bits.deBruijn64tab", laid_math_bits_deBruijn64tab)] }
def SetWalkSaid : Prop := setWalkRow.holds Tryd.pinned (OpenSpec.ofChange setWalkSpec)

/-- ITS FALSE NEIGHBOUR: 'it returns false'. Refute it at one input. -/
def setWalkWrong : ChangeSpec := { name := "setWalk", fn := fun _ => fun
  | [d] => { results := [.lit (.bool false)], args := [d] }
  | _ => none }
def SetWalkWrongFalsely : Prop := setWalkRow.holds Tryd.pinned (OpenSpec.ofChange setWalkWrong)

/-- 'haruspexlaw1.SetMany': WHATEVER THE INPUT: true; the input reads as it did. -/
def setManySpec : ChangeSpec := { name := "setMany", fn := fun _ => fun
  | [d1, d2, d3] => { results := [.lit (.bool true)], args := [d1, d2, d3] }
  | _ => none }
def setManyRow : OpenClaim := { program := "ytbkppkekgdnilaadoor", sum := "341ca49f4233089c355f1d3880b64a3b9207a978b4591051a997193900669e56", func := "haruspex/haruspexlaw1.SetMany", spec := "setMany", named := ["math/bits.deBruijn64tab"], apart := false, laid := [("math/bits.deBruijn64tab", laid_math_bits_deBruijn64tab)] }
def SetManySaid : Prop := setManyRow.holds Tryd.pinned (OpenSpec.ofChange setManySpec)

/-- ITS FALSE NEIGHBOUR: 'it returns false'. Refute it at one input. -/
def setManyWrong : ChangeSpec := { name := "setMany", fn := fun _ => fun
  | [d1, d2, d3] => { results := [.lit (.bool false)], args := [d1, d2, d3] }
  | _ => none }
def SetManyWrongFalsely : Prop := setManyRow.holds Tryd.pinned (OpenSpec.ofChange setManyWrong)

/-- 'haruspexlaw1.SetOrder': WHATEVER THE INPUT: true; the input reads as it did. -/
def setOrderSpec : ChangeSpec := { name := "setOrder", fn := fun _ => fun
  | [d1, d2] => { results := [.lit (.bool true)], args := [d1, d2] }
  | _ => none }
def setOrderRow : OpenClaim := { program := "ytbkppkekgdnilaadoor", sum := "341ca49f4233089c355f1d3880b64a3b9207a978b4591051a997193900669e56", func := "haruspex/haruspexlaw1.SetOrder", spec := "setOrder", named := ["math/bits.deBruijn64tab"], apart := false, laid := [("math/bits.deBruijn64tab", laid_math_bits_deBruijn64tab)] }
def SetOrderSaid : Prop := setOrderRow.holds Tryd.pinned (OpenSpec.ofChange setOrderSpec)

/-- ITS FALSE NEIGHBOUR: 'it returns false'. Refute it at one input. -/
def setOrderWrong : ChangeSpec := { name := "setOrder", fn := fun _ => fun
  | [d1, d2] => { results := [.lit (.bool false)], args := [d1, d2] }
  | _ => none }
def SetOrderWrongFalsely : Prop := setOrderRow.holds Tryd.pinned (OpenSpec.ofChange setOrderWrong)

/-- 'haruspexlaw1.SetAll': WHATEVER THE INPUT: true; the input reads as it did. -/
def setAllSpec : ChangeSpec := { name := "setAll", fn := fun _ => fun
  | [d] => { results := [.lit (.bool true)], args := [d] }
  | _ => none }
def setAllRow : OpenClaim := { program := "ytbkppkekgdnilaadoor", sum := "341ca49f4233089c355f1d3880b64a3b9207a978b4591051a997193900669e56", func := "haruspex/haruspexlaw1.SetAll", spec := "setAll", named := ["math/bits.deBruijn64tab"], apart := false, laid := [("math/bits.deBruijn64tab", laid_math_bits_deBruijn64tab)] }
def SetAllSaid : Prop := setAllRow.holds Tryd.pinned (OpenSpec.ofChange setAllSpec)

/-- ITS FALSE NEIGHBOUR: 'it returns false'. Refute it at one input. -/
def setAllWrong : ChangeSpec := { name := "setAll", fn := fun _ => fun
  | [d] => { results := [.lit (.bool false)], args := [d] }
  | _ => none }
def SetAllWrongFalsely : Prop := setAllRow.holds Tryd.pinned (OpenSpec.ofChange setAllWrong)

/-- 'haruspexlaw1.SetPairs': WHATEVER THE INPUT: true; the input reads as it did. -/
def setPairsSpec : ChangeSpec := { name := "setPairs", fn := fun _ => fun
  | [d1, d2] => { results := [.lit (.bool true)], args := [d1, d2] }
  | _ => none }
def setPairsRow : OpenClaim := { program := "ytbkppkekgdnilaadoor", sum := "341ca49f4233089c355f1d3880b64a3b9207a978b4591051a997193900669e56", func := "haruspex/haruspexlaw1.SetPairs", spec := "setPairs", named := ["math/bits.deBruijn64tab"], apart := false, laid := [("math/bits.deBruijn64tab", laid_math_bits_deBruijn64tab)] }
def SetPairsSaid : Prop := setPairsRow.holds Tryd.pinned (OpenSpec.ofChange setPairsSpec)

/-- ITS FALSE NEIGHBOUR: 'it returns false'. Refute it at one input. -/
def setPairsWrong : ChangeSpec := { name := "setPairs", fn := fun _ => fun
  | [d1, d2] => { results := [.lit (.bool false)], args := [d1, d2] }
  | _ => none }
def SetPairsWrongFalsely : Prop := setPairsRow.holds Tryd.pinned (OpenSpec.ofChange setPairsWrong)

/- THE SECOND FORM. 'bulk': how many values and letters a reading holds, each counted each time it is reached (what is shared counts as often as it is met; a slice's spare places count too). A statement '..UptoSaid' is the law's where the arguments, and the package variables that the reading takes, are together of bulk at most 1048576: NARROWER than '..Said'. Prove '..Said' where nothing that the law and all that it calls make is longer than what came in: it says more and counts as full. Else prove '..UptoSaid'. A law counts once. -/
mutual
def uptoBulk {H : Type} : DataW H → Nat
  | .lit (.string bytes) => bytes.length + 1
  | .lit _ => 1
  | .nil => 1
  | .ptr d => uptoBulk d + 1
  | .slice elems spare => uptoBulkAll elems + uptoBulkAll spare + 1
  | .agg parts => uptoBulkAll parts + 1
  | .iface _ d => uptoBulk d + 1
  | .map entries => uptoBulkEntries entries + 1
  | .held _ => 1
def uptoBulkAll {H : Type} : List (DataW H) → Nat
  | [] => 0
  | d :: r => uptoBulk d + uptoBulkAll r
def uptoBulkEntries {H : Type} : List (Lit × DataW H) → Nat
  | [] => 0
  | x :: r => uptoBulkEntry x + uptoBulkEntries r
def uptoBulkEntry {H : Type} : Lit × DataW H → Nat
  | (.string bytes, d) => bytes.length + uptoBulk d + 1
  | (_, d) => uptoBulk d + 1
 end
def uptoSmall : (H : Type) → List (DataW H) → Bool := fun _ ds => decide (uptoBulkAll ds ≤ 1048576)
def OpenSpec.upto (s : _root_.Go.ChangeSpec) : _root_.Go.OpenSpec := { _root_.Go.OpenSpec.ofChange s with cond := some uptoSmall }

/-- 'haruspexlaw1.SetEnds', WHERE WHAT IT READS IS OF BULK AT MOST 1048576: true; the input reads as it did. -/
def setEndsUptoRow : OpenClaim := { program := "ytbkppkekgdnilaadoor", sum := "341ca49f4233089c355f1d3880b64a3b9207a978b4591051a997193900669e56", func := "haruspex/haruspexlaw1.SetEnds", spec := "setEnds", named := ["math/bits.deBruijn64tab"], apart := false, laid := [("math/bits.deBruijn64tab", laid_math_bits_deBruijn64tab)], narrowed := true }
def SetEndsUptoSaid : Prop := setEndsUptoRow.holds Tryd.pinned (OpenSpec.upto setEndsSpec)

/-- 'haruspexlaw1.SetWalk', WHERE WHAT IT READS IS OF BULK AT MOST 1048576: true; the input reads as it did. -/
def setWalkUptoRow : OpenClaim := { program := "ytbkppkekgdnilaadoor", sum := "341ca49f4233089c355f1d3880b64a3b9207a978b4591051a997193900669e56", func := "haruspex/haruspexlaw1.SetWalk", spec := "setWalk", named := ["math/bits.deBruijn64tab"], apart := false, laid := [("math/bits.deBruijn64tab", laid_math_bits_deBruijn64tab)], narrowed := true }
def SetWalkUptoSaid : Prop := setWalkUptoRow.holds Tryd.pinned (OpenSpec.upto setWalkSpec)

/-- 'haruspexlaw1.SetMany', WHERE WHAT IT READS IS OF BULK AT MOST 1048576: true; the input reads as it did. -/
def setManyUptoRow : OpenClaim := { program := "ytbkppkekgdnilaadoor", sum := "341ca49f4233089c355f1d3880b64a3b9207a978b4591051a997193900669e56", func := "haruspex/haruspexlaw1.SetMany", spec := "setMany", named := ["math/bits.deBruijn64tab"], apart := false, laid := [("math/bits.deBruijn64tab", laid_math_bits_deBruijn64tab)], narrowed := true }
def SetManyUptoSaid : Prop := setManyUptoRow.holds Tryd.pinned (OpenSpec.upto setManySpec)

/-- 'haruspexlaw1.SetOrder', WHERE WHAT IT READS IS OF BULK AT MOST 1048576: true; the input reads as it did. -/
def setOrderUptoRow : OpenClaim := { program := "ytbkppkekgdnilaadoor", sum := "341ca49f4233089c355f1d3880b64a3b9207a978b4591051a997193900669e56", func := "haruspex/haruspexlaw1.SetOrder", spec := "setOrder", named := ["math/bits.deBruijn64tab"], apart := false, laid := [("math/bits.deBruijn64tab", laid_math_bits_deBruijn64tab)], narrowed := true }
def SetOrderUptoSaid : Prop := setOrderUptoRow.holds Tryd.pinned (OpenSpec.upto setOrderSpec)

/-- 'haruspexlaw1.SetAll', WHERE WHAT IT READS IS OF BULK AT MOST 1048576: true; the input reads as it did. -/
def setAllUptoRow : OpenClaim := { program := "ytbkppkekgdnilaadoor", sum := "341ca49f4233089c355f1d3880b64a3b9207a978b4591051a997193900669e56", func := "haruspex/haruspexlaw1.SetAll", spec := "setAll", named := ["math/bits.deBruijn64tab"], apart := false, laid := [("math/bits.deBruijn64tab", laid_math_bits_deBruijn64tab)], narrowed := true }
def SetAllUptoSaid : Prop := setAllUptoRow.holds Tryd.pinned (OpenSpec.upto setAllSpec)

/-- 'haruspexlaw1.SetPairs', WHERE WHAT IT READS IS OF BULK AT MOST 1048576: true; the input reads as it did. -/
def setPairsUptoRow : OpenClaim := { program := "ytbkppkekgdnilaadoor", sum := "341ca49f4233089c355f1d3880b64a3b9207a978b4591051a997193900669e56", func := "haruspex/haruspexlaw1.SetPairs", spec := "setPairs", named := ["math/bits.deBruijn64tab"], apart := false, laid := [("math/bits.deBruijn64tab", laid_math_bits_deBruijn64tab)], narrowed := true }
def SetPairsUptoSaid : Prop := setPairsUptoRow.holds Tryd.pinned (OpenSpec.upto setPairsSpec)

end Rows
end Go.Proofs.YtbkppkekgdnilaaDoor
