/-
  No cell of these rows narrows 'for every input' (looked for: loops, veiled, ifaces, maps, wideKeys, modest, calm, conditions, laid).
  DERIVED. THE GIVEN ROWS OF THIS SEAT. 6 by the template 'for every input the law returns true; each argument reads behind the call as it read before'; 0 by the template 'total and deterministic' (their statements: YtmndklpldejcbaaTotals.lean).
  GIVEN WITH THE SEED: the statements are not yours to turn. If you find one false, say at which input.
  Laid BY PROGRAM, IN A SANDBOX (cutbox-rows.mjs): the forced cells as the released guide's own fill.sh prints them over the translation 8af9eb541e95933b… (all of the seat's roots in one cut). By AI agents, Wed Nov 11 2026. No macro, syntax, notation, axiom, sorry.
-/
import Derived.Test.YtmndklpldejcbaaChecked
import GoSem.Claim
import GoSem.ClaimJoined
import GoSem.ClaimMapViews
import Derived.JoinedTies
import Derived.KernelRfl
namespace Go.Proofs.Ytmndklpldejcbaa
/- THE CELL 'sum', in the pinned program and in every row, IS THE sha256 OF THE DUMP (.gsa) THAT YtmndklpldejcbaaProg.lean LOADS. Nothing in Lean hashes anything: it is a label: what it is worth is what the hold of that sum in a sandbox is worth. -/
noncomputable def Try.pinned : Pinned := { name := "ytmndklpldejcbaa", sum := "8af9eb541e95933b458f7384dbf32ba1ca6685be26903f1f75bd16b803352d38", checked := Try.checked }
namespace Rows
def none {H : Type} : Left H := { results := [], args := [] }

/-- 'haruspexlaw0.Names': WHATEVER THE INPUT: true; the input reads as it did. -/
def namesSpec : ChangeSpec := { name := "names", fn := fun _ => fun
  | [] => { results := [.lit (.bool true)], args := [] }
  | _ => none }
def namesRow : OpenClaim := { program := "ytmndklpldejcbaa", sum := "8af9eb541e95933b458f7384dbf32ba1ca6685be26903f1f75bd16b803352d38", func := "haruspex/haruspexlaw0.Names", spec := "names", apart := false }
def NamesSaid : Prop := namesRow.holds Try.pinned (OpenSpec.ofChange namesSpec)

/-- ITS FALSE NEIGHBOUR: 'it returns false'. Refute it at one input. -/
def namesWrong : ChangeSpec := { name := "names", fn := fun _ => fun
  | [] => { results := [.lit (.bool false)], args := [] }
  | _ => none }
def NamesWrongFalsely : Prop := namesRow.holds Try.pinned (OpenSpec.ofChange namesWrong)

/-- 'haruspexlaw2.UnionTurned': WHATEVER THE INPUT: true; the input reads as it did. -/
def unionTurnedSpec : ChangeSpec := { name := "unionTurned", fn := fun _ => fun
  | [d1, d2] => { results := [.lit (.bool true)], args := [d1, d2] }
  | _ => none }
def unionTurnedRow : OpenClaim := { program := "ytmndklpldejcbaa", sum := "8af9eb541e95933b458f7384dbf32ba1ca6685be26903f1f75bd16b803352d38", func := "haruspex/haruspexlaw2.UnionTurned", spec := "unionTurned", apart := false }
def UnionTurnedSaid : Prop := unionTurnedRow.holds Try.pinned (OpenSpec.ofChange unionTurnedSpec)

/-- ITS FALSE NEIGHBOUR: 'it returns false'. Refute it at one input. -/
def unionTurnedWrong : ChangeSpec := { name := "unionTurned", fn := fun _ => fun
  | [d1, d2] => { results := [.lit (.bool false)], args := [d1, d2] }
  | _ => none }
def UnionTurnedWrongFalsely : Prop := unionTurnedRow.holds Try.pinned (OpenSpec.ofChange unionTurnedWrong)

/-- 'haruspexlaw2.UnionNone': WHATEVER THE INPUT: true; the input reads as it did. -/
def unionNoneSpec : ChangeSpec := { name := "unionNone", fn := fun _ => fun
  | [] => { results := [.lit (.bool true)], args := [] }
  | _ => none }
def unionNoneRow : OpenClaim := { program := "ytmndklpldejcbaa", sum := "8af9eb541e95933b458f7384dbf32ba1ca6685be26903f1f75bd16b803352d38", func := "haruspex/haruspexlaw2.UnionNone", spec := "unionNone", apart := false }
def UnionNoneSaid : Prop := unionNoneRow.holds Try.pinned (OpenSpec.ofChange unionNoneSpec)

/-- ITS FALSE NEIGHBOUR: 'it returns false'. Refute it at one input. -/
def unionNoneWrong : ChangeSpec := { name := "unionNone", fn := fun _ => fun
  | [] => { results := [.lit (.bool false)], args := [] }
  | _ => none }
def UnionNoneWrongFalsely : Prop := unionNoneRow.holds Try.pinned (OpenSpec.ofChange unionNoneWrong)

/-- 'haruspexlaw2.UnionFind': WHATEVER THE INPUT: true; the input reads as it did. -/
def unionFindSpec : ChangeSpec := { name := "unionFind", fn := fun _ => fun
  | [d1, d2, d3, d4] => { results := [.lit (.bool true)], args := [d1, d2, d3, d4] }
  | _ => none }
def unionFindRow : OpenClaim := { program := "ytmndklpldejcbaa", sum := "8af9eb541e95933b458f7384dbf32ba1ca6685be26903f1f75bd16b803352d38", func := "haruspex/haruspexlaw2.UnionFind", spec := "unionFind", apart := false }
def UnionFindSaid : Prop := unionFindRow.holds Try.pinned (OpenSpec.ofChange unionFindSpec)

/-- ITS FALSE NEIGHBOUR: 'it returns false'. Refute it at one input. -/
def unionFindWrong : ChangeSpec := { name := "unionFind", fn := fun _ => fun
  | [d1, d2, d3, d4] => { results := [.lit (.bool false)], args := [d1, d2, d3, d4] }
  | _ => none }
def UnionFindWrongFalsely : Prop := unionFindRow.holds Try.pinned (OpenSpec.ofChange unionFindWrong)

/-- 'haruspexlaw2.UnionChain': WHATEVER THE INPUT: true; the input reads as it did. -/
def unionChainSpec : ChangeSpec := { name := "unionChain", fn := fun _ => fun
  | [d] => { results := [.lit (.bool true)], args := [d] }
  | _ => none }
def unionChainRow : OpenClaim := { program := "ytmndklpldejcbaa", sum := "8af9eb541e95933b458f7384dbf32ba1ca6685be26903f1f75bd16b803352d38", func := "haruspex/haruspexlaw2.UnionChain", spec := "unionChain", apart := false }
def UnionChainSaid : Prop := unionChainRow.holds Try.pinned (OpenSpec.ofChange unionChainSpec)

/-- ITS FALSE NEIGHBOUR: 'it returns false'. Refute it at one input. -/
def unionChainWrong : ChangeSpec := { name := "unionChain", fn := fun _ => fun
  | [d] => { results := [.lit (.bool false)], args := [d] }
  | _ => none }
def UnionChainWrongFalsely : Prop := unionChainRow.holds Try.pinned (OpenSpec.ofChange unionChainWrong)

/-- 'haruspexlaw2.UnionOwn': WHATEVER THE INPUT: true; the input reads as it did. -/
def unionOwnSpec : ChangeSpec := { name := "unionOwn", fn := fun _ => fun
  | [d1, d2] => { results := [.lit (.bool true)], args := [d1, d2] }
  | _ => none }
def unionOwnRow : OpenClaim := { program := "ytmndklpldejcbaa", sum := "8af9eb541e95933b458f7384dbf32ba1ca6685be26903f1f75bd16b803352d38", func := "haruspex/haruspexlaw2.UnionOwn", spec := "unionOwn", apart := false }
def UnionOwnSaid : Prop := unionOwnRow.holds Try.pinned (OpenSpec.ofChange unionOwnSpec)

/-- ITS FALSE NEIGHBOUR: 'it returns false'. Refute it at one input. -/
def unionOwnWrong : ChangeSpec := { name := "unionOwn", fn := fun _ => fun
  | [d1, d2] => { results := [.lit (.bool false)], args := [d1, d2] }
  | _ => none }
def UnionOwnWrongFalsely : Prop := unionOwnRow.holds Try.pinned (OpenSpec.ofChange unionOwnWrong)

/- THE SECOND FORM. 'bulk': how many values and letters a reading holds, each counted each time it is reached (what is shared counts as often as it is met; a slice's spare places count too). A statement '..UptoSaid' is the law's where the arguments, and the package variables that the reading takes, are together of bulk at most 1048576: NARROWER than '..Said'. Prove '..Said' where nothing that the law and all that it calls make is longer than what came in: it says more and counts as full. Else prove '..UptoSaid'. A law counts once. -/
mutual
def uptoBulk {H : Type} : DataW H → Nat
  | .lit (.string bytes) => bytes.length + 1
  | .lit _ => 1
  | .nil => 1
  | .ptr d => uptoBulk d + 1
  | .slice elems spare => uptoBulkAll elems + uptoBulkAll spare + 1
  | .agg parts => uptoBulkAll parts + 1
  | .iface _ d => uptoBulk d + 1
  | .map entries => uptoBulkEntries entries + 1
  | .held _ => 1
def uptoBulkAll {H : Type} : List (DataW H) → Nat
  | [] => 0
  | d :: r => uptoBulk d + uptoBulkAll r
def uptoBulkEntries {H : Type} : List (Lit × DataW H) → Nat
  | [] => 0
  | x :: r => uptoBulkEntry x + uptoBulkEntries r
def uptoBulkEntry {H : Type} : Lit × DataW H → Nat
  | (.string bytes, d) => bytes.length + uptoBulk d + 1
  | (_, d) => uptoBulk d + 1
 end
def uptoSmall : (H : Type) → List (DataW H) → Bool := fun _ ds => decide (uptoBulkAll ds ≤ 1048576)
def OpenSpec.upto (s : _root_.Go.ChangeSpec) : _root_.Go.OpenSpec := { _root_.Go.OpenSpec.ofChange s with cond := some uptoSmall }

/-- 'haruspexlaw0.Names', WHERE WHAT IT READS IS OF BULK AT MOST 1048576: true; the input reads as it did. -/
def namesUptoRow : OpenClaim := { program := "ytmndklpldejcbaa", sum := "8af9eb541e95933b458f7384dbf32ba1ca6685be26903f1f75bd16b803352d38", func := "haruspex/haruspexlaw0.Names", spec := "names", apart := false, narrowed := true }
def NamesUptoSaid : Prop := namesUptoRow.holds Try.pinned (OpenSpec.upto namesSpec)

/-- 'haruspexlaw2.UnionTurned', WHERE WHAT IT READS IS OF BULK AT MOST 1048576: true; the input reads as it did. -/
def unionTurnedUptoRow : OpenClaim := { program := "ytmndklpldejcbaa", sum := "8af9eb541e95933b458f7384dbf32ba1ca6685be26903f1f75bd16b803352d38", func := "haruspex/haruspexlaw2.UnionTurned", spec := "unionTurned", apart := false, narrowed := true }
def UnionTurnedUptoSaid : Prop := unionTurnedUptoRow.holds Try.pinned (OpenSpec.upto unionTurnedSpec)

/-- 'haruspexlaw2.UnionNone', WHERE WHAT IT READS IS OF BULK AT MOST 1048576: true; the input reads as it did. -/
def unionNoneUptoRow : OpenClaim := { program := "ytmndklpldejcbaa", sum := "8af9eb541e95933b458f7384dbf32ba1ca6685be26903f1f75bd16b803352d38", func := "haruspex/haruspexlaw2.UnionNone", spec := "unionNone", apart := false, narrowed := true }
def UnionNoneUptoSaid : Prop := unionNoneUptoRow.holds Try.pinned (OpenSpec.upto unionNoneSpec)

/-- 'haruspexlaw2.UnionFind', WHERE WHAT IT READS IS OF BULK AT MOST 1048576: true; the input reads as it did. -/
def unionFindUptoRow : OpenClaim := { program := "ytmndklpldejcbaa", sum := "8af9eb541e95933b458f7384dbf32ba1ca6685be26903f1f75bd16b803352d38", func := "haruspex/haruspexlaw2.UnionFind", spec := "unionFind", apart := false, narrowed := true }
def UnionFindUptoSaid : Prop := unionFindUptoRow.holds Try.pinned (OpenSpec.upto unionFindSpec)

/-- 'haruspexlaw2.UnionChain', WHERE WHAT IT READS IS OF BULK AT MOST 1048576: true; the input reads as it did. -/
def unionChainUptoRow : OpenClaim := { program := "ytmndklpldejcbaa", sum := "8af9eb541e95933b458f7384dbf32ba1ca6685be26903f1f75bd16b803352d38", func := "haruspex/haruspexlaw2.UnionChain", spec := "unionChain", apart := false, narrowed := true }
def UnionChainUptoSaid : Prop := unionChainUptoRow.holds Try.pinned (OpenSpec.upto unionChainSpec)

/-- 'haruspexlaw2.UnionOwn', WHERE WHAT IT READS IS OF BULK AT MOST 1048576: true; the input reads as it did. -/
def unionOwnUptoRow : OpenClaim := { program := "ytmndklpldejcbaa", sum := "8af9eb541e95933b458f7384dbf32ba1ca6685be26903f1f75bd16b803352d38", func := "haruspex/haruspexlaw2.UnionOwn", spec := "unionOwn", apart := false, narrowed := true }
def UnionOwnUptoSaid : Prop := unionOwnUptoRow.holds Try.pinned (OpenSpec.upto unionOwnSpec)

end Rows
end Go.Proofs.Ytmndklpldejcbaa
