/-
  No cell of these rows narrows 'for every input' (looked for: loops, veiled, ifaces, maps, wideKeys, modest, calm, conditions, laid).
  DERIVED. THE GIVEN ROWS OF THIS SEAT. 3 by the template 'for every input the law returns true; each argument reads behind the call as it read before'; 0 by the template 'total and deterministic' (their statements: YtdomcfoabnhlfaaTotals.lean).
  GIVEN WITH THE SEED: the statements are not yours to turn. If you find one false, say at which input.
  Laid BY PROGRAM, IN A SANDBOX (cutbox-rows.mjs): the forced cells as the released guide's own fill.sh prints them over the translation 48ba4bee26fb68a1… (all of the seat's roots in one cut). By AI agents, Wed Nov 11 2026. No macro, syntax, notation, axiom, sorry.
-/
import Derived.Test.YtdomcfoabnhlfaaChecked
import GoSem.Claim
import GoSem.ClaimJoined
import GoSem.ClaimMapViews
import Derived.JoinedTies
import Derived.KernelRfl
namespace Go.Proofs.Ytdomcfoabnhlfaa
/- THE CELL 'sum', in the pinned program and in every row, IS THE sha256 OF THE DUMP (.gsa) THAT YtdomcfoabnhlfaaProg.lean LOADS. Nothing in Lean hashes anything: it is a label: what it is worth is what the hold of that sum in a sandbox is worth. -/
noncomputable def Try.pinned : Pinned := { name := "ytdomcfoabnhlfaa", sum := "48ba4bee26fb68a1b5333964978e6f7477d5b228fdb5655411ff908d9c1e2115", checked := Try.checked }
namespace Rows
def none {H : Type} : Left H := { results := [], args := [] }

/-- 'haruspexlaw21.ReachSound': WHATEVER THE INPUT: true; the input reads as it did. -/
def reachSoundSpec : ChangeSpec := { name := "reachSound", fn := fun _ => fun
  | [d1, d2, d3] => { results := [.lit (.bool true)], args := [d1, d2, d3] }
  | _ => none }
def reachSoundRow : OpenClaim := { program := "ytdomcfoabnhlfaa", sum := "48ba4bee26fb68a1b5333964978e6f7477d5b228fdb5655411ff908d9c1e2115", func := "haruspex/haruspexlaw21.ReachSound", spec := "reachSound", unfollowed := true, recurses := true, plainKeys := false, apart := false }
def ReachSoundSaid : Prop := reachSoundRow.holds Try.pinned (OpenSpec.ofChange reachSoundSpec)

/-- ITS FALSE NEIGHBOUR: 'it returns false'. Refute it at one input. -/
def reachSoundWrong : ChangeSpec := { name := "reachSound", fn := fun _ => fun
  | [d1, d2, d3] => { results := [.lit (.bool false)], args := [d1, d2, d3] }
  | _ => none }
def ReachSoundWrongFalsely : Prop := reachSoundRow.holds Try.pinned (OpenSpec.ofChange reachSoundWrong)

/-- 'haruspexlaw21.ReachBranches': WHATEVER THE INPUT: true; the input reads as it did. -/
def reachBranchesSpec : ChangeSpec := { name := "reachBranches", fn := fun _ => fun
  | [d1, d2] => { results := [.lit (.bool true)], args := [d1, d2] }
  | _ => none }
def reachBranchesRow : OpenClaim := { program := "ytdomcfoabnhlfaa", sum := "48ba4bee26fb68a1b5333964978e6f7477d5b228fdb5655411ff908d9c1e2115", func := "haruspex/haruspexlaw21.ReachBranches", spec := "reachBranches", unfollowed := true, recurses := true, plainKeys := false, apart := false }
def ReachBranchesSaid : Prop := reachBranchesRow.holds Try.pinned (OpenSpec.ofChange reachBranchesSpec)

/-- ITS FALSE NEIGHBOUR: 'it returns false'. Refute it at one input. -/
def reachBranchesWrong : ChangeSpec := { name := "reachBranches", fn := fun _ => fun
  | [d1, d2] => { results := [.lit (.bool false)], args := [d1, d2] }
  | _ => none }
def ReachBranchesWrongFalsely : Prop := reachBranchesRow.holds Try.pinned (OpenSpec.ofChange reachBranchesWrong)

/-- 'haruspexlaw21.ReachParams': WHATEVER THE INPUT: true; the input reads as it did. -/
def reachParamsSpec : ChangeSpec := { name := "reachParams", fn := fun _ => fun
  | [d1, d2] => { results := [.lit (.bool true)], args := [d1, d2] }
  | _ => none }
def reachParamsRow : OpenClaim := { program := "ytdomcfoabnhlfaa", sum := "48ba4bee26fb68a1b5333964978e6f7477d5b228fdb5655411ff908d9c1e2115", func := "haruspex/haruspexlaw21.ReachParams", spec := "reachParams", unfollowed := true, recurses := true, plainKeys := false, apart := false }
def ReachParamsSaid : Prop := reachParamsRow.holds Try.pinned (OpenSpec.ofChange reachParamsSpec)

/-- ITS FALSE NEIGHBOUR: 'it returns false'. Refute it at one input. -/
def reachParamsWrong : ChangeSpec := { name := "reachParams", fn := fun _ => fun
  | [d1, d2] => { results := [.lit (.bool false)], args := [d1, d2] }
  | _ => none }
def ReachParamsWrongFalsely : Prop := reachParamsRow.holds Try.pinned (OpenSpec.ofChange reachParamsWrong)

/- THE SECOND FORM. 'bulk': how many values and letters a reading holds, each counted each time it is reached (what is shared counts as often as it is met; a slice's spare places count too). A statement '..UptoSaid' is the law's where the arguments, and the package variables that the reading takes, are together of bulk at most 1048576: NARROWER than '..Said'. Prove '..Said' where nothing that the law and all that it calls make is longer than what came in: it says more and counts as full. Else prove '..UptoSaid'. A law counts once. -/
mutual
def uptoBulk {H : Type} : DataW H → Nat
  | .lit (.string bytes) => bytes.length + 1
  | .lit _ => 1
  | .nil => 1
  | .ptr d => uptoBulk d + 1
  | .slice elems spare => uptoBulkAll elems + uptoBulkAll spare + 1
  | .agg parts => uptoBulkAll parts + 1
  | .iface _ d => uptoBulk d + 1
  | .map entries => uptoBulkEntries entries + 1
  | .held _ => 1
def uptoBulkAll {H : Type} : List (DataW H) → Nat
  | [] => 0
  | d :: r => uptoBulk d + uptoBulkAll r
def uptoBulkEntries {H : Type} : List (Lit × DataW H) → Nat
  | [] => 0
  | x :: r => uptoBulkEntry x + uptoBulkEntries r
def uptoBulkEntry {H : Type} : Lit × DataW H → Nat
  | (.string bytes, d) => bytes.length + uptoBulk d + 1
  | (_, d) => uptoBulk d + 1
 end
def uptoSmall : (H : Type) → List (DataW H) → Bool := fun _ ds => decide (uptoBulkAll ds ≤ 1048576)
def OpenSpec.upto (s : _root_.Go.ChangeSpec) : _root_.Go.OpenSpec := { _root_.Go.OpenSpec.ofChange s with cond := some uptoSmall }

/-- 'haruspexlaw21.ReachSound', WHERE WHAT IT READS IS OF BULK AT MOST 1048576: true; the input reads as it did. -/
def reachSoundUptoRow : OpenClaim := { program := "ytdomcfoabnhlfaa", sum := "48ba4bee26fb68a1b5333964978e6f7477d5b228fdb5655411ff908d9c1e2115", func := "haruspex/haruspexlaw21.ReachSound", spec := "reachSound", unfollowed := true, recurses := true, plainKeys := false, apart := false, narrowed := true }
def ReachSoundUptoSaid : Prop := reachSoundUptoRow.holds Try.pinned (OpenSpec.upto reachSoundSpec)

/-- 'haruspexlaw21.ReachBranches', WHERE WHAT IT READS IS OF BULK AT MOST 1048576: true; the input reads as it did. -/
def reachBranchesUptoRow : OpenClaim := { program := "ytdomcfoabnhlfaa", sum := "48ba4bee26fb68a1b5333964978e6f7477d5b228fdb5655411ff908d9c1e2115", func := "haruspex/haruspexlaw21.ReachBranches", spec := "reachBranches", unfollowed := true, recurses := true, plainKeys := false, apart := false, narrowed := true }
def ReachBranchesUptoSaid : Prop := reachBranchesUptoRow.holds Try.pinned (OpenSpec.upto reachBranchesSpec)

/-- 'haruspexlaw21.ReachParams', WHERE WHAT IT READS IS OF BULK AT MOST 1048576: true; the input reads as it did. -/
def reachParamsUptoRow : OpenClaim := { program := "ytdomcfoabnhlfaa", sum := "48ba4bee26fb68a1b5333964978e6f7477d5b228fdb5655411ff908d9c1e2115", func := "haruspex/haruspexlaw21.ReachParams", spec := "reachParams", unfollowed := true, recurses := true, plainKeys := false, apart := false, narrowed := true }
def ReachParamsUptoSaid : Prop := reachParamsUptoRow.holds Try.pinned (OpenSpec.upto reachParamsSpec)

end Rows
end Go.Proofs.Ytdomcfoabnhlfaa
