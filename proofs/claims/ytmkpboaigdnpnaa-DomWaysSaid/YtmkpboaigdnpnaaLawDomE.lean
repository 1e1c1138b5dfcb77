/-
  DomLaws, at a number for the loops.
-/
import Derived.Test.YtmkpboaigdnpnaaLawDomD
import Derived.KernelRfl
set_option maxRecDepth 20000
namespace Go.Fw

theorem begun6c_runs : gaveTrue ((L6_begun 1000000).run 8 .leaf) = true := by kernel_rfl

theorem domlaws_law (h : H) (us : List Value) (f : Fr 8 h) (ha : ArgsAre h [.int, .flat 2, .int, .int, .int] us) : ∃ n' h', (L6_DomLaws_m 1000000 us).run 8 h = some (.bool true, n', h') := domlaws_run (Nat.le_refl _) begun6c_runs h us f ha

end Go.Fw
