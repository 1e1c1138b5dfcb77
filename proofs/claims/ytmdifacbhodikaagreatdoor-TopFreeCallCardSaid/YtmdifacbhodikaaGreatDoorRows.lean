/-
  NARROWER THAN 'FOR EVERY INPUT', by the rows' own cells (each row's printed sentence says how): TopWay: laid · TopTaintAdd: laid · TopDead: laid · TopFreedWay: laid · TopFreeCall: laid · TopRing: laid.
  DERIVED. THE GIVEN ROWS OF THIS SEAT. 6 by the template 'for every input the law returns true; each argument reads behind the call as it read before'; 0 by the template 'total and deterministic' (their statements: YtmdifacbhodikaaGreatDoorTotals.lean).
  GIVEN WITH THE SEED: the statements are not yours to turn. If you find one false, say at which input.
  Laid BY PROGRAM, IN A SANDBOX (cutbox-rows.mjs): the forced cells as the released guide's own fill.sh prints them over the translation cf4a41dcc3f3e02b… (all of the seat's roots in one cut). By AI agents, Wed Nov 11 2026. No macro, syntax, notation, axiom, sorry.
-/
import Derived.Test.YtmdifacbhodikaaGreatDoorChecked
import GoSem.Claim
import GoSem.ClaimJoined
import GoSem.ClaimMapViews
import Derived.JoinedTies
import Derived.KernelRfl
namespace Go.Proofs.YtmdifacbhodikaaGreatDoor
/- THE CELL 'sum', in the pinned program and in every row, IS THE sha256 OF THE DUMP (.gsa) THAT YtmdifacbhodikaaGreatDoorProg.lean LOADS. Nothing in Lean hashes anything: it is a label: what it is worth is what the hold of that sum in a sandbox is worth. -/
noncomputable def Tryz.pinned : Pinned := { name := "ytmdifacbhodikaagreatdoor", sum := "cf4a41dcc3f3e02bd1449ca9a5a1dc4edbba220843d6a651cab7edc7d0595bc4", checked := Tryz.checked }
namespace Rows
def none {H : Type} : Left H := { results := [], args := [] }

/- WHAT THE LISTED PACKAGE-LEVEL VARIABLES READ AS WHEN THE CALL BEGINS. Each datum BY PROGRAM (the guide's laid-datum.mjs) off the statement by which the dump's own 'gosem.cut.vars' lays the variable. In a bare row this is a premise. The card (YtmdifacbhodikaaGreatDoorCards.lean) ties it to the program's text. -/
def laid_math_bits_deBruijn64tab {H : Type} : DataW H := .agg [.lit (.int .u8 0), .lit (.int .u8 1), .lit (.int .u8 56), .lit (.int .u8 2), .lit (.int .u8 57), .lit (.int .u8 49), .lit (.int .u8 28), .lit (.int .u8 3), .lit (.int .u8 61), .lit (.int .u8 58), .lit (.int .u8 42), .lit (.int .u8 50), .lit (.int .u8 38), .lit (.int .u8 29), .lit (.int .u8 17), .lit (.int .u8 4), .lit (.int .u8 62), .lit (.int .u8 47), .lit (.int .u8 59), .lit (.int .u8 36), .lit (.int .u8 45), .lit (.int .u8 43), .lit (.int .u8 51), .lit (.int .u8 22), .lit (.int .u8 53), .lit (.int .u8 39), .lit (.int .u8 33), .lit (.int .u8 30), .lit (.int .u8 24), .lit (.int .u8 18), .lit (.int .u8 12), .lit (.int .u8 5), .lit (.int .u8 63), .lit (.int .u8 55), .lit (.int .u8 48), .lit (.int .u8 27), .lit (.int .u8 60), .lit (.int .u8 41), .lit (.int .u8 37), .lit (.int .u8 16), .lit (.int .u8 46), .lit (.int .u8 35), .lit (.int .u8 44), .lit (.int .u8 21), .lit (.int .u8 52), .lit (.int .u8 32), .lit (.int .u8 23), .lit (.int .u8 11), .lit (.int .u8 54), .lit (.int .u8 26), .lit (.int .u8 40), .lit (.int .u8 15), .lit (.int .u8 34), .lit (.int .u8 20), .lit (.int .u8 31), .lit (.int .u8 10), .lit (.int .u8 25), .lit (.int .u8 14), .lit (.int .u8 19), .lit (.int .u8 9), .lit (.int .u8 13), .lit (.int .u8 8), .lit (.int .u8 7), .lit (.int .u8 6)]
def laid_errors_errorType {H : Type} : DataW H := .iface "internal/reflectlite.rtype" (.agg [.ptr (.lit (.string [101, 114, 114, 111, 114]))])

/-- 'haruspextop.TopWay': WHATEVER THE INPUT: true; the input reads as it did. -/
def topWaySpec : ChangeSpec := { name := "topWay", fn := fun _ => fun
  | [d1, d2] => { results := [.lit (.bool true)], args := [d1, d2] }
  | _ => none }
def topWayRow : OpenClaim := { program := "ytmdifacbhodikaagreatdoor", sum := "cf4a41dcc3f3e02bd1449ca9a5a1dc4edbba220843d6a651cab7edc7d0595bc4", func := "haruspex/haruspextop.TopWay", spec := "topWay", inPlace := ["internal/reflectlite.ValueOf", "(internal/reflectlite.Value).Type", "(internal/reflectlite.Value).IsNil", "internal/reflectlite.TypeOf", "(internal/reflectlite.Value).Elem", "(internal/reflectlite.Value).Set"], unfollowed := true, recurses := true, named := ["errors.errorType", "math/bits.deBruijn64tab"], plainKeys := false, apart := false, laid := [("math/bits.deBruijn64tab", laid_math_bits_deBruijn64tab), ("errors.errorType", laid_errors_errorType)] }
def TopWaySaid : Prop := topWayRow.holds Tryz.pinned (OpenSpec.ofChange topWaySpec)

/-- ITS FALSE NEIGHBOUR: 'it returns false'. Refute it at one input. -/
def topWayWrong : ChangeSpec := { name := "topWay", fn := fun _ => fun
  | [d1, d2] => { results := [.lit (.bool false)], args := [d1, d2] }
  | _ => none }
def TopWayWrongFalsely : Prop := topWayRow.holds Tryz.pinned (OpenSpec.ofChange topWayWrong)

/-- 'haruspextop.TopTaintAdd': WHATEVER THE INPUT: true; the input reads as it did. -/
def topTaintAddSpec : ChangeSpec := { name := "topTaintAdd", fn := fun _ => fun
  | [d1, d2] => { results := [.lit (.bool true)], args := [d1, d2] }
  | _ => none }
def topTaintAddRow : OpenClaim := { program := "ytmdifacbhodikaagreatdoor", sum := "cf4a41dcc3f3e02bd1449ca9a5a1dc4edbba220843d6a651cab7edc7d0595bc4", func := "haruspex/haruspextop.TopTaintAdd", spec := "topTaintAdd", inPlace := ["internal/reflectlite.ValueOf", "(internal/reflectlite.Value).Type", "(internal/reflectlite.Value).IsNil", "internal/reflectlite.TypeOf", "(internal/reflectlite.Value).Elem", "(internal/reflectlite.Value).Set"], unfollowed := true, recurses := true, named := ["errors.errorType", "math/bits.deBruijn64tab"], plainKeys := false, apart := false, laid := [("math/bits.deBruijn64tab", laid_math_bits_deBruijn64tab), ("errors.errorType", laid_errors_errorType)] }
def TopTaintAddSaid : Prop := topTaintAddRow.holds Tryz.pinned (OpenSpec.ofChange topTaintAddSpec)

/-- ITS FALSE NEIGHBOUR: 'it returns false'. Refute it at one input. -/
def topTaintAddWrong : ChangeSpec := { name := "topTaintAdd", fn := fun _ => fun
  | [d1, d2] => { results := [.lit (.bool false)], args := [d1, d2] }
  | _ => none }
def TopTaintAddWrongFalsely : Prop := topTaintAddRow.holds Tryz.pinned (OpenSpec.ofChange topTaintAddWrong)

/-- 'haruspextop.TopDead': WHATEVER THE INPUT: true; the input reads as it did. -/
def topDeadSpec : ChangeSpec := { name := "topDead", fn := fun _ => fun
  | [d1, d2] => { results := [.lit (.bool true)], args := [d1, d2] }
  | _ => none }
def topDeadRow : OpenClaim := { program := "ytmdifacbhodikaagreatdoor", sum := "cf4a41dcc3f3e02bd1449ca9a5a1dc4edbba220843d6a651cab7edc7d0595bc4", func := "haruspex/haruspextop.TopDead", spec := "topDead", inPlace := ["internal/reflectlite.ValueOf", "(internal/reflectlite.Value).Type", "(internal/reflectlite.Value).IsNil", "internal/reflectlite.TypeOf", "(internal/reflectlite.Value).Elem", "(internal/reflectlite.Value).Set"], unfollowed := true, recurses := true, named := ["errors.errorType", "math/bits.deBruijn64tab"], plainKeys := false, apart := false, laid := [("math/bits.deBruijn64tab", laid_math_bits_deBruijn64tab), ("errors.errorType", laid_errors_errorType)] }
def TopDeadSaid : Prop := topDeadRow.holds Tryz.pinned (OpenSpec.ofChange topDeadSpec)

/-- ITS FALSE NEIGHBOUR: 'it returns false'. Refute it at one input. -/
def topDeadWrong : ChangeSpec := { name := "topDead", fn := fun _ => fun
  | [d1, d2] => { results := [.lit (.bool false)], args := [d1, d2] }
  | _ => none }
def TopDeadWrongFalsely : Prop := topDeadRow.holds Tryz.pinned (OpenSpec.ofChange topDeadWrong)

/-- 'haruspextop.TopFreedWay': WHATEVER THE INPUT: true; the input reads as it did. -/
def topFreedWaySpec : ChangeSpec := { name := "topFreedWay", fn := fun _ => fun
  | [d] => { results := [.lit (.bool true)], args := [d] }
  | _ => none }
def topFreedWayRow : OpenClaim := { program := "ytmdifacbhodikaagreatdoor", sum := "cf4a41dcc3f3e02bd1449ca9a5a1dc4edbba220843d6a651cab7edc7d0595bc4", func := "haruspex/haruspextop.TopFreedWay", spec := "topFreedWay", inPlace := ["internal/reflectlite.ValueOf", "(internal/reflectlite.Value).Type", "(internal/reflectlite.Value).IsNil", "internal/reflectlite.TypeOf", "(internal/reflectlite.Value).Elem", "(internal/reflectlite.Value).Set"], unfollowed := true, recurses := true, named := ["errors.errorType", "math/bits.deBruijn64tab"], plainKeys := false, apart := false, laid := [("math/bits.deBruijn64tab", laid_math_bits_deBruijn64tab), ("errors.errorType", laid_errors_errorType)] }
def TopFreedWaySaid : Prop := topFreedWayRow.holds Tryz.pinned (OpenSpec.ofChange topFreedWaySpec)

/-- ITS FALSE NEIGHBOUR: 'it returns false'. Refute it at one input. -/
def topFreedWayWrong : ChangeSpec := { name := "topFreedWay", fn := fun _ => fun
  | [d] => { results := [.lit (.bool false)], args := [d] }
  | _ => none }
def TopFreedWayWrongFalsely : Prop := topFreedWayRow.holds Tryz.pinned (OpenSpec.ofChange topFreedWayWrong)

/-- 'haruspextop.TopFreeCall': WHATEVER THE INPUT: true; the input reads as it did. -/
def topFreeCallSpec : ChangeSpec := { name := "topFreeCall", fn := fun _ => fun
  | [d1, d2] => { results := [.lit (.bool true)], args := [d1, d2] }
  | _ => none }
def topFreeCallRow : OpenClaim := { program := "ytmdifacbhodikaagreatdoor", sum := "cf4a41dcc3f3e02bd1449ca9a5a1dc4edbba220843d6a651cab7edc7d0595bc4", func := "haruspex/haruspextop.TopFreeCall", spec := "topFreeCall", inPlace := ["internal/reflectlite.ValueOf", "(internal/reflectlite.Value).Type", "(internal/reflectlite.Value).IsNil", "internal/reflectlite.TypeOf", "(internal/reflectlite.Value).Elem", "(internal/reflectlite.Value).Set"], unfollowed := true, recurses := true, named := ["errors.errorType", "math/bits.deBruijn64tab"], plainKeys := false, apart := false, laid := [("math/bits.deBruijn64tab", laid_math_bits_deBruijn64tab), ("errors.errorType", laid_errors_errorType)] }
def TopFreeCallSaid : Prop := topFreeCallRow.holds Tryz.pinned (OpenSpec.ofChange topFreeCallSpec)

/-- ITS FALSE NEIGHBOUR: 'it returns false'. Refute it at one input. -/
def topFreeCallWrong : ChangeSpec := { name := "topFreeCall", fn := fun _ => fun
  | [d1, d2] => { results := [.lit (.bool false)], args := [d1, d2] }
  | _ => none }
def TopFreeCallWrongFalsely : Prop := topFreeCallRow.holds Tryz.pinned (OpenSpec.ofChange topFreeCallWrong)

/-- 'haruspextop.TopRing': WHATEVER THE INPUT: true; the input reads as it did. -/
def topRingSpec : ChangeSpec := { name := "topRing", fn := fun _ => fun
  | [d] => { results := [.lit (.bool true)], args := [d] }
  | _ => none }
def topRingRow : OpenClaim := { program := "ytmdifacbhodikaagreatdoor", sum := "cf4a41dcc3f3e02bd1449ca9a5a1dc4edbba220843d6a651cab7edc7d0595bc4", func := "haruspex/haruspextop.TopRing", spec := "topRing", inPlace := ["internal/reflectlite.ValueOf", "(internal/reflectlite.Value).Type", "(internal/reflectlite.Value).IsNil", "internal/reflectlite.TypeOf", "(internal/reflectlite.Value).Elem", "(internal/reflectlite.Value).Set"], unfollowed := true, recurses := true, named := ["errors.errorType", "math/bits.deBruijn64tab"], plainKeys := false, apart := false, laid := [("math/bits.deBruijn64tab", laid_math_bits_deBruijn64tab), ("errors.errorType", laid_errors_errorType)] }
def TopRingSaid : Prop := topRingRow.holds Tryz.pinned (OpenSpec.ofChange topRingSpec)

/-- ITS FALSE NEIGHBOUR: 'it returns false'. Refute it at one input. -/
def topRingWrong : ChangeSpec := { name := "topRing", fn := fun _ => fun
  | [d] => { results := [.lit (.bool false)], args := [d] }
  | _ => none }
def TopRingWrongFalsely : Prop := topRingRow.holds Tryz.pinned (OpenSpec.ofChange topRingWrong)

/- THE SECOND FORM. 'bulk': how many values and letters a reading holds, each counted each time it is reached (what is shared counts as often as it is met; a slice's spare places count too). A statement '..UptoSaid' is the law's where the arguments, and the package variables that the reading takes, are together of bulk at most 1048576: NARROWER than '..Said'. Prove '..Said' where nothing that the law and all that it calls make is longer than what came in: it says more and counts as full. Else prove '..UptoSaid'. A law counts once. -/
mutual
def uptoBulk {H : Type} : DataW H → Nat
  | .lit (.string bytes) => bytes.length + 1
  | .lit _ => 1
  | .nil => 1
  | .ptr d => uptoBulk d + 1
  | .slice elems spare => uptoBulkAll elems + uptoBulkAll spare + 1
  | .agg parts => uptoBulkAll parts + 1
  | .iface _ d => uptoBulk d + 1
  | .map entries => uptoBulkEntries entries + 1
  | .held _ => 1
def uptoBulkAll {H : Type} : List (DataW H) → Nat
  | [] => 0
  | d :: r => uptoBulk d + uptoBulkAll r
def uptoBulkEntries {H : Type} : List (Lit × DataW H) → Nat
  | [] => 0
  | x :: r => uptoBulkEntry x + uptoBulkEntries r
def uptoBulkEntry {H : Type} : Lit × DataW H → Nat
  | (.string bytes, d) => bytes.length + uptoBulk d + 1
  | (_, d) => uptoBulk d + 1
 end
def uptoSmall : (H : Type) → List (DataW H) → Bool := fun _ ds => decide (uptoBulkAll ds ≤ 1048576)
def OpenSpec.upto (s : _root_.Go.ChangeSpec) : _root_.Go.OpenSpec := { _root_.Go.OpenSpec.ofChange s with cond := some uptoSmall }

/-- 'haruspextop.TopWay', WHERE WHAT IT READS IS OF BULK AT MOST 1048576: true; the input reads as it did. -/
def topWayUptoRow : OpenClaim := { program := "ytmdifacbhodikaagreatdoor", sum := "cf4a41dcc3f3e02bd1449ca9a5a1dc4edbba220843d6a651cab7edc7d0595bc4", func := "haruspex/haruspextop.TopWay", spec := "topWay", inPlace := ["internal/reflectlite.ValueOf", "(internal/reflectlite.Value).Type", "(internal/reflectlite.Value).IsNil", "internal/reflectlite.TypeOf", "(internal/reflectlite.Value).Elem", "(internal/reflectlite.Value).Set"], unfollowed := true, recurses := true, named := ["errors.errorType", "math/bits.deBruijn64tab"], plainKeys := false, apart := false, laid := [("math/bits.deBruijn64tab", laid_math_bits_deBruijn64tab), ("errors.errorType", laid_errors_errorType)], narrowed := true }
def TopWayUptoSaid : Prop := topWayUptoRow.holds Tryz.pinned (OpenSpec.upto topWaySpec)

/-- 'haruspextop.TopTaintAdd', WHERE WHAT IT READS IS OF BULK AT MOST 1048576: true; the input reads as it did. -/
def topTaintAddUptoRow : OpenClaim := { program := "ytmdifacbhodikaagreatdoor", sum := "cf4a41dcc3f3e02bd1449ca9a5a1dc4edbba220843d6a651cab7edc7d0595bc4", func := "haruspex/haruspextop.TopTaintAdd", spec := "topTaintAdd", inPlace := ["internal/reflectlite.ValueOf", "(internal/reflectlite.Value).Type", "(internal/reflectlite.Value).IsNil", "internal/reflectlite.TypeOf", "(internal/reflectlite.Value).Elem", "(internal/reflectlite.Value).Set"], unfollowed := true, recurses := true, named := ["errors.errorType", "math/bits.deBruijn64tab"], plainKeys := false, apart := false, laid := [("math/bits.deBruijn64tab", laid_math_bits_deBruijn64tab), ("errors.errorType", laid_errors_errorType)], narrowed := true }
def TopTaintAddUptoSaid : Prop := topTaintAddUptoRow.holds Tryz.pinned (OpenSpec.upto topTaintAddSpec)

/-- 'haruspextop.TopDead', WHERE WHAT IT READS IS OF BULK AT MOST 1048576: true; the input reads as it did. -/
def topDeadUptoRow : OpenClaim := { program := "ytmdifacbhodikaagreatdoor", sum := "cf4a41dcc3f3e02bd1449ca9a5a1dc4edbba220843d6a651cab7edc7d0595bc4", func := "haruspex/haruspextop.TopDead", spec := "topDead", inPlace := ["internal/reflectlite.ValueOf", "(internal/reflectlite.Value).Type", "(internal/reflectlite.Value).IsNil", "internal/reflectlite.TypeOf", "(internal/reflectlite.Value).Elem", "(internal/reflectlite.Value).Set"], unfollowed := true, recurses := true, named := ["errors.errorType", "math/bits.deBruijn64tab"], plainKeys := false, apart := false, laid := [("math/bits.deBruijn64tab", laid_math_bits_deBruijn64tab), ("errors.errorType", laid_errors_errorType)], narrowed := true }
def TopDeadUptoSaid : Prop := topDeadUptoRow.holds Tryz.pinned (OpenSpec.upto topDeadSpec)

/-- 'haruspextop.TopFreedWay', WHERE WHAT IT READS IS OF BULK AT MOST 1048576: true; the input reads as it did. -/
def topFreedWayUptoRow : OpenClaim := { program := "ytmdifacbhodikaagreatdoor", sum := "cf4a41dcc3f3e02bd1449ca9a5a1dc4edbba220843d6a651cab7edc7d0595bc4", func := "haruspex/haruspextop.TopFreedWay", spec := "topFreedWay", inPlace := ["internal/reflectlite.ValueOf", "(internal/reflectlite.Value).Type", "(internal/reflectlite.Value).IsNil", "internal/reflectlite.TypeOf", "(internal/reflectlite.Value).Elem", "(internal/reflectlite.Value).Set"], unfollowed := true, recurses := true, named := ["errors.errorType", "math/bits.deBruijn64tab"], plainKeys := false, apart := false, laid := [("math/bits.deBruijn64tab", laid_math_bits_deBruijn64tab), ("errors.errorType", laid_errors_errorType)], narrowed := true }
def TopFreedWayUptoSaid : Prop := topFreedWayUptoRow.holds Tryz.pinned (OpenSpec.upto topFreedWaySpec)

/-- 'haruspextop.TopFreeCall', WHERE WHAT IT READS IS OF BULK AT MOST 1048576: true; the input reads as it did. -/
def topFreeCallUptoRow : OpenClaim := { program := "ytmdifacbhodikaagreatdoor", sum := "cf4a41dcc3f3e02bd1449ca9a5a1dc4edbba220843d6a651cab7edc7d0595bc4", func := "haruspex/haruspextop.TopFreeCall", spec := "topFreeCall", inPlace := ["internal/reflectlite.ValueOf", "(internal/reflectlite.Value).Type", "(internal/reflectlite.Value).IsNil", "internal/reflectlite.TypeOf", "(internal/reflectlite.Value).Elem", "(internal/reflectlite.Value).Set"], unfollowed := true, recurses := true, named := ["errors.errorType", "math/bits.deBruijn64tab"], plainKeys := false, apart := false, laid := [("math/bits.deBruijn64tab", laid_math_bits_deBruijn64tab), ("errors.errorType", laid_errors_errorType)], narrowed := true }
def TopFreeCallUptoSaid : Prop := topFreeCallUptoRow.holds Tryz.pinned (OpenSpec.upto topFreeCallSpec)

/-- 'haruspextop.TopRing', WHERE WHAT IT READS IS OF BULK AT MOST 1048576: true; the input reads as it did. -/
def topRingUptoRow : OpenClaim := { program := "ytmdifacbhodikaagreatdoor", sum := "cf4a41dcc3f3e02bd1449ca9a5a1dc4edbba220843d6a651cab7edc7d0595bc4", func := "haruspex/haruspextop.TopRing", spec := "topRing", inPlace := ["internal/reflectlite.ValueOf", "(internal/reflectlite.Value).Type", "(internal/reflectlite.Value).IsNil", "internal/reflectlite.TypeOf", "(internal/reflectlite.Value).Elem", "(internal/reflectlite.Value).Set"], unfollowed := true, recurses := true, named := ["errors.errorType", "math/bits.deBruijn64tab"], plainKeys := false, apart := false, laid := [("math/bits.deBruijn64tab", laid_math_bits_deBruijn64tab), ("errors.errorType", laid_errors_errorType)], narrowed := true }
def TopRingUptoSaid : Prop := topRingUptoRow.holds Tryz.pinned (OpenSpec.upto topRingSpec)

end Rows
end Go.Proofs.YtmdifacbhodikaaGreatDoor
