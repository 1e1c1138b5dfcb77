/-
  How the laws on graphs begin.
-/
import Derived.Test.YtddafkflndhnfaaDoorLawTarE
import Derived.KernelRfl
set_option maxRecDepth 20000
set_option linter.unusedVariables false
namespace Go.Fw

theorem begunT_runs : gaveTrue ((L5_begun 1000000).run 8 (baseH deB)) = true := by kernel_rfl
theorem begunT_keeps : (((L5_begun 1000000).run 8 (baseH deB)).map fun x => x.2.2.get 0) = some (some ⟨deB, .ro⟩) := by kernel_rfl

/-- What graph.Turn gives, put into a variable. -/
theorem turn_var {F n m N : Nat} {tv : Value} {adj : Nat → List Nat} {h : H} (hF : 1000 < F) (gr : Gr h m tv N adj) (hm : m ≤ n) (ok : GOk N adj) (f : Fr n h) :
    ∃ n' h' g2 ob O, (∀ K : Value → M Value, (bnd (graph_Turn F (gv N tv)) fun w => bnd (opPtr [i64 0, nsl]) fun x => bnd (opStoreN 2 x w) fun _ => K x).run n h = (K (pt g2 0)).run n' h') ∧ GB h' g2 N (sl ob 0 N N) ∧ OL h' ob N O (fun b => nats (turnA N adj b)) ∧ (∀ c, O c → n ≤ c) ∧ ¬ O g2 ∧ n ≤ g2 ∧ g2 < n' ∧ Ev No n h n' h' := by
  obtain ⟨n1, h1, ob, O, e1, x1, o1, ev1⟩ := turn_spec (F := F) hF gr hm ok f
  have l1 := ev1.le
  have ev2 := Ev.new ev1.f ⟨[i64 0, nsl], .own⟩
  obtain ⟨h3, e3, g3, ev3⟩ := GB.put (β := Value) (N := N) (tv := sl ob 0 N N) (H.get_set_same h1 n1 ⟨[i64 0, nsl], .own⟩) rfl ev2.f rfl
  have ev13 : Ev No n1 h1 (n1 + 1) h3 := ev2.trans ev3 fun c hc q => by omega
  exact ⟨n1 + 1, h3, n1, ob, O, fun K => by rw [run_bnd e1, run_ptr ev1.f (by rfl), e3], g3, x1.keep fun c hc => ev13.no (x1.lt ev1.f hc), o1, fun q => by have := x1.lt ev1.f q; omega, l1, by omega, ev1.trans ev13 fun _ _ h => h⟩

end Go.Fw
