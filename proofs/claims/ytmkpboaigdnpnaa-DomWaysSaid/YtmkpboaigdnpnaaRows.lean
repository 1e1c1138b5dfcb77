/-
  No cell of these rows narrows 'for every input' (looked for: loops, veiled, ifaces, maps, wideKeys, modest, calm, conditions, laid).
  DERIVED. THE GIVEN ROWS OF THIS SEAT. 6 by the template 'for every input the law returns true; each argument reads behind the call as it read before'; 0 by the template 'total and deterministic' (their statements: YtmkpboaigdnpnaaTotals.lean).
  GIVEN WITH THE SEED: the statements are not yours to turn. If you find one false, say at which input.
  Laid BY PROGRAM, IN A SANDBOX (cutbox-rows.mjs): the forced cells as the released guide's own fill.sh prints them over the translation 7b3257734accffe4… (all of the seat's roots in one cut). By AI agents, Wed Nov 11 2026. No macro, syntax, notation, axiom, sorry.
-/
import Derived.Test.YtmkpboaigdnpnaaChecked
import GoSem.Claim
import GoSem.ClaimJoined
import GoSem.ClaimMapViews
import Derived.JoinedTies
import Derived.KernelRfl
namespace Go.Proofs.Ytmkpboaigdnpnaa
/- THE CELL 'sum', in the pinned program and in every row, IS THE sha256 OF THE DUMP (.gsa) THAT YtmkpboaigdnpnaaProg.lean LOADS. Nothing in Lean hashes anything: it is a label: what it is worth is what the hold of that sum in a sandbox is worth. -/
noncomputable def Try.pinned : Pinned := { name := "ytmkpboaigdnpnaa", sum := "7b3257734accffe4c30e4d2177114fbcf0bddb2362edbd0fda5514cd5b88daba", checked := Try.checked }
namespace Rows
def none {H : Type} : Left H := { results := [], args := [] }

/-- 'haruspexlaw6.DomUp': WHATEVER THE INPUT: true; the input reads as it did. -/
def domUpSpec : ChangeSpec := { name := "domUp", fn := fun _ => fun
  | [d1, d2, d3] => { results := [.lit (.bool true)], args := [d1, d2, d3] }
  | _ => none }
def domUpRow : OpenClaim := { program := "ytmkpboaigdnpnaa", sum := "7b3257734accffe4c30e4d2177114fbcf0bddb2362edbd0fda5514cd5b88daba", func := "haruspex/haruspexlaw6.DomUp", spec := "domUp", recurses := true, apart := false }
def DomUpSaid : Prop := domUpRow.holds Try.pinned (OpenSpec.ofChange domUpSpec)

/-- ITS FALSE NEIGHBOUR: 'it returns false'. Refute it at one input. -/
def domUpWrong : ChangeSpec := { name := "domUp", fn := fun _ => fun
  | [d1, d2, d3] => { results := [.lit (.bool false)], args := [d1, d2, d3] }
  | _ => none }
def DomUpWrongFalsely : Prop := domUpRow.holds Try.pinned (OpenSpec.ofChange domUpWrong)

/-- 'haruspexlaw6.DomLaws': WHATEVER THE INPUT: true; the input reads as it did. -/
def domLawsSpec : ChangeSpec := { name := "domLaws", fn := fun _ => fun
  | [d1, d2, d3, d4, d5] => { results := [.lit (.bool true)], args := [d1, d2, d3, d4, d5] }
  | _ => none }
def domLawsRow : OpenClaim := { program := "ytmkpboaigdnpnaa", sum := "7b3257734accffe4c30e4d2177114fbcf0bddb2362edbd0fda5514cd5b88daba", func := "haruspex/haruspexlaw6.DomLaws", spec := "domLaws", recurses := true, apart := false }
def DomLawsSaid : Prop := domLawsRow.holds Try.pinned (OpenSpec.ofChange domLawsSpec)

/-- ITS FALSE NEIGHBOUR: 'it returns false'. Refute it at one input. -/
def domLawsWrong : ChangeSpec := { name := "domLaws", fn := fun _ => fun
  | [d1, d2, d3, d4, d5] => { results := [.lit (.bool false)], args := [d1, d2, d3, d4, d5] }
  | _ => none }
def DomLawsWrongFalsely : Prop := domLawsRow.holds Try.pinned (OpenSpec.ofChange domLawsWrong)

/-- 'haruspexlaw6.DomLine': WHATEVER THE INPUT: true; the input reads as it did. -/
def domLineSpec : ChangeSpec := { name := "domLine", fn := fun _ => fun
  | [d1, d2, d3] => { results := [.lit (.bool true)], args := [d1, d2, d3] }
  | _ => none }
def domLineRow : OpenClaim := { program := "ytmkpboaigdnpnaa", sum := "7b3257734accffe4c30e4d2177114fbcf0bddb2362edbd0fda5514cd5b88daba", func := "haruspex/haruspexlaw6.DomLine", spec := "domLine", recurses := true, apart := false }
def DomLineSaid : Prop := domLineRow.holds Try.pinned (OpenSpec.ofChange domLineSpec)

/-- ITS FALSE NEIGHBOUR: 'it returns false'. Refute it at one input. -/
def domLineWrong : ChangeSpec := { name := "domLine", fn := fun _ => fun
  | [d1, d2, d3] => { results := [.lit (.bool false)], args := [d1, d2, d3] }
  | _ => none }
def DomLineWrongFalsely : Prop := domLineRow.holds Try.pinned (OpenSpec.ofChange domLineWrong)

/-- 'haruspexlaw6.DomMore': WHATEVER THE INPUT: true; the input reads as it did. -/
def domMoreSpec : ChangeSpec := { name := "domMore", fn := fun _ => fun
  | [d1, d2, d3, d4] => { results := [.lit (.bool true)], args := [d1, d2, d3, d4] }
  | _ => none }
def domMoreRow : OpenClaim := { program := "ytmkpboaigdnpnaa", sum := "7b3257734accffe4c30e4d2177114fbcf0bddb2362edbd0fda5514cd5b88daba", func := "haruspex/haruspexlaw6.DomMore", spec := "domMore", recurses := true, apart := false }
def DomMoreSaid : Prop := domMoreRow.holds Try.pinned (OpenSpec.ofChange domMoreSpec)

/-- ITS FALSE NEIGHBOUR: 'it returns false'. Refute it at one input. -/
def domMoreWrong : ChangeSpec := { name := "domMore", fn := fun _ => fun
  | [d1, d2, d3, d4] => { results := [.lit (.bool false)], args := [d1, d2, d3, d4] }
  | _ => none }
def DomMoreWrongFalsely : Prop := domMoreRow.holds Try.pinned (OpenSpec.ofChange domMoreWrong)

/-- 'haruspexlaw6.DomDeep': WHATEVER THE INPUT: true; the input reads as it did. -/
def domDeepSpec : ChangeSpec := { name := "domDeep", fn := fun _ => fun
  | [d1, d2] => { results := [.lit (.bool true)], args := [d1, d2] }
  | _ => none }
def domDeepRow : OpenClaim := { program := "ytmkpboaigdnpnaa", sum := "7b3257734accffe4c30e4d2177114fbcf0bddb2362edbd0fda5514cd5b88daba", func := "haruspex/haruspexlaw6.DomDeep", spec := "domDeep", recurses := true, apart := false }
def DomDeepSaid : Prop := domDeepRow.holds Try.pinned (OpenSpec.ofChange domDeepSpec)

/-- ITS FALSE NEIGHBOUR: 'it returns false'. Refute it at one input. -/
def domDeepWrong : ChangeSpec := { name := "domDeep", fn := fun _ => fun
  | [d1, d2] => { results := [.lit (.bool false)], args := [d1, d2] }
  | _ => none }
def DomDeepWrongFalsely : Prop := domDeepRow.holds Try.pinned (OpenSpec.ofChange domDeepWrong)

/-- 'haruspexlaw6.DomWays': WHATEVER THE INPUT: true; the input reads as it did. -/
def domWaysSpec : ChangeSpec := { name := "domWays", fn := fun _ => fun
  | [d1, d2, d3, d4] => { results := [.lit (.bool true)], args := [d1, d2, d3, d4] }
  | _ => none }
def domWaysRow : OpenClaim := { program := "ytmkpboaigdnpnaa", sum := "7b3257734accffe4c30e4d2177114fbcf0bddb2362edbd0fda5514cd5b88daba", func := "haruspex/haruspexlaw6.DomWays", spec := "domWays", recurses := true, apart := false }
def DomWaysSaid : Prop := domWaysRow.holds Try.pinned (OpenSpec.ofChange domWaysSpec)

/-- ITS FALSE NEIGHBOUR: 'it returns false'. Refute it at one input. -/
def domWaysWrong : ChangeSpec := { name := "domWays", fn := fun _ => fun
  | [d1, d2, d3, d4] => { results := [.lit (.bool false)], args := [d1, d2, d3, d4] }
  | _ => none }
def DomWaysWrongFalsely : Prop := domWaysRow.holds Try.pinned (OpenSpec.ofChange domWaysWrong)

/- THE SECOND FORM. 'bulk': how many values and letters a reading holds, each counted each time it is reached (what is shared counts as often as it is met; a slice's spare places count too). A statement '..UptoSaid' is the law's where the arguments, and the package variables that the reading takes, are together of bulk at most 1048576: NARROWER than '..Said'. Prove '..Said' where nothing that the law and all that it calls make is longer than what came in: it says more and counts as full. Else prove '..UptoSaid'. A law counts once. -/
mutual
def uptoBulk {H : Type} : DataW H → Nat
  | .lit (.string bytes) => bytes.length + 1
  | .lit _ => 1
  | .nil => 1
  | .ptr d => uptoBulk d + 1
  | .slice elems spare => uptoBulkAll elems + uptoBulkAll spare + 1
  | .agg parts => uptoBulkAll parts + 1
  | .iface _ d => uptoBulk d + 1
  | .map entries => uptoBulkEntries entries + 1
  | .held _ => 1
def uptoBulkAll {H : Type} : List (DataW H) → Nat
  | [] => 0
  | d :: r => uptoBulk d + uptoBulkAll r
def uptoBulkEntries {H : Type} : List (Lit × DataW H) → Nat
  | [] => 0
  | x :: r => uptoBulkEntry x + uptoBulkEntries r
def uptoBulkEntry {H : Type} : Lit × DataW H → Nat
  | (.string bytes, d) => bytes.length + uptoBulk d + 1
  | (_, d) => uptoBulk d + 1
 end
def uptoSmall : (H : Type) → List (DataW H) → Bool := fun _ ds => decide (uptoBulkAll ds ≤ 1048576)
def OpenSpec.upto (s : _root_.Go.ChangeSpec) : _root_.Go.OpenSpec := { _root_.Go.OpenSpec.ofChange s with cond := some uptoSmall }

/-- 'haruspexlaw6.DomUp', WHERE WHAT IT READS IS OF BULK AT MOST 1048576: true; the input reads as it did. -/
def domUpUptoRow : OpenClaim := { program := "ytmkpboaigdnpnaa", sum := "7b3257734accffe4c30e4d2177114fbcf0bddb2362edbd0fda5514cd5b88daba", func := "haruspex/haruspexlaw6.DomUp", spec := "domUp", recurses := true, apart := false, narrowed := true }
def DomUpUptoSaid : Prop := domUpUptoRow.holds Try.pinned (OpenSpec.upto domUpSpec)

/-- 'haruspexlaw6.DomLaws', WHERE WHAT IT READS IS OF BULK AT MOST 1048576: true; the input reads as it did. -/
def domLawsUptoRow : OpenClaim := { program := "ytmkpboaigdnpnaa", sum := "7b3257734accffe4c30e4d2177114fbcf0bddb2362edbd0fda5514cd5b88daba", func := "haruspex/haruspexlaw6.DomLaws", spec := "domLaws", recurses := true, apart := false, narrowed := true }
def DomLawsUptoSaid : Prop := domLawsUptoRow.holds Try.pinned (OpenSpec.upto domLawsSpec)

/-- 'haruspexlaw6.DomLine', WHERE WHAT IT READS IS OF BULK AT MOST 1048576: true; the input reads as it did. -/
def domLineUptoRow : OpenClaim := { program := "ytmkpboaigdnpnaa", sum := "7b3257734accffe4c30e4d2177114fbcf0bddb2362edbd0fda5514cd5b88daba", func := "haruspex/haruspexlaw6.DomLine", spec := "domLine", recurses := true, apart := false, narrowed := true }
def DomLineUptoSaid : Prop := domLineUptoRow.holds Try.pinned (OpenSpec.upto domLineSpec)

/-- 'haruspexlaw6.DomMore', WHERE WHAT IT READS IS OF BULK AT MOST 1048576: true; the input reads as it did. -/
def domMoreUptoRow : OpenClaim := { program := "ytmkpboaigdnpnaa", sum := "7b3257734accffe4c30e4d2177114fbcf0bddb2362edbd0fda5514cd5b88daba", func := "haruspex/haruspexlaw6.DomMore", spec := "domMore", recurses := true, apart := false, narrowed := true }
def DomMoreUptoSaid : Prop := domMoreUptoRow.holds Try.pinned (OpenSpec.upto domMoreSpec)

/-- 'haruspexlaw6.DomDeep', WHERE WHAT IT READS IS OF BULK AT MOST 1048576: true; the input reads as it did. -/
def domDeepUptoRow : OpenClaim := { program := "ytmkpboaigdnpnaa", sum := "7b3257734accffe4c30e4d2177114fbcf0bddb2362edbd0fda5514cd5b88daba", func := "haruspex/haruspexlaw6.DomDeep", spec := "domDeep", recurses := true, apart := false, narrowed := true }
def DomDeepUptoSaid : Prop := domDeepUptoRow.holds Try.pinned (OpenSpec.upto domDeepSpec)

/-- 'haruspexlaw6.DomWays', WHERE WHAT IT READS IS OF BULK AT MOST 1048576: true; the input reads as it did. -/
def domWaysUptoRow : OpenClaim := { program := "ytmkpboaigdnpnaa", sum := "7b3257734accffe4c30e4d2177114fbcf0bddb2362edbd0fda5514cd5b88daba", func := "haruspex/haruspexlaw6.DomWays", spec := "domWays", recurses := true, apart := false, narrowed := true }
def DomWaysUptoSaid : Prop := domWaysUptoRow.holds Try.pinned (OpenSpec.upto domWaysSpec)

end Rows
end Go.Proofs.Ytmkpboaigdnpnaa
