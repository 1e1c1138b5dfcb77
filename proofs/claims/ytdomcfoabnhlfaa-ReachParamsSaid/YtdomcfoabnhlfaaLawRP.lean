/-
  ReachParams, for every number of parameters and every place.
-/
import Derived.Test.YtdomcfoabnhlfaaLawRP1
import Derived.Test.YtdomcfoabnhlfaaLawRP2
import Derived.Test.YtdomcfoabnhlfaaLawRP3
import Derived.Test.YtdomcfoabnhlfaaLawRP4
import Derived.Test.YtdomcfoabnhlfaaFwT
set_option maxRecDepth 20000
namespace Go.Fw

theorem rp_begun : gaveTrue ((L21_begun 200).run 8 .leaf) = true := by kernel_rfl

/-- What is not asked. -/
theorem rp_out {F : Nat} (hb : gaveTrue ((L21_begun F).run 8 .leaf) = true) {n at_ : Int} (h : H) (f : Fr 8 h) (ho : ¬ (1 ≤ n ∧ n ≤ 4 ∧ 0 ≤ at_ ∧ at_ ≤ 10)) : ∃ n' h', (L21_ReachParams F (i64 n) (i64 at_)).run 8 h = some (.bool true, n', h') := by
  unfold L21_ReachParams L21_ReachParams_r0 L21_ReachParams_r1
  dsimp only
  obtain ⟨n1, h1, e1, f1, g1, k1⟩ := run_true hb f
  rw [run_bnd e1]
  unfold L21_ReachParams_r2
  simp only [st_not, onB_ite, Bool.not_true, Bool.false_eq_true, if_false]
  unfold L21_ReachParams_r4
  simp only [st_lss, st_gtr, onB_ite, run_ite, decide_eq_true_eq, if_true]
  split
  · exact ⟨_, _, rfl⟩
  split
  · exact ⟨_, _, rfl⟩
  split
  · exact ⟨_, _, rfl⟩
  · rw [if_pos (by omega)]
    exact ⟨_, _, rfl⟩

theorem rp_at {m : M Value} (e : gaveTrue (m.run 8 .leaf) = true) {h : H} (f : Fr 8 h) : ∃ n' h', m.run 8 h = some (.bool true, n', h') := by
  obtain ⟨n', h', e, _⟩ := run_true e f
  exact ⟨n', h', e⟩

theorem params_law (h : H) (us : List Value) (f : Fr 8 h) (ha : ArgsAre h [.int, .int] us) : ∃ n' h', (L21_ReachParams_m 200 us).run 8 h = some (.bool true, n', h') := by
  obtain ⟨v, w, rfl, ⟨n, rfl, _⟩, ⟨t, rfl, _⟩⟩ := args2 ha
  show ∃ n' h', (L21_ReachParams 200 (i64 n) (i64 t)).run 8 h = some (.bool true, n', h')
  by_cases hi : 1 ≤ n ∧ n ≤ 4 ∧ 0 ≤ t ∧ t ≤ 10
  case neg => exact rp_out rp_begun h f hi
  have hn : n = 1 ∨ n = 2 ∨ n = 3 ∨ n = 4 := by omega
  have ht : t = 0 ∨ t = 1 ∨ t = 2 ∨ t = 3 ∨ t = 4 ∨ t = 5 ∨ t = 6 ∨ t = 7 ∨ t = 8 ∨ t = 9 ∨ t = 10 := by omega
  rcases hn with rfl | rfl | rfl | rfl
  · rcases ht with rfl | rfl | rfl | rfl | rfl | rfl | rfl | rfl | rfl | rfl | rfl
    · exact rp_at rp_1_0 f
    · exact rp_at rp_1_1 f
    · exact rp_at rp_1_2 f
    · exact rp_at rp_1_3 f
    · exact rp_at rp_1_4 f
    · exact rp_at rp_1_5 f
    · exact rp_at rp_1_6 f
    · exact rp_at rp_1_7 f
    · exact rp_at rp_1_8 f
    · exact rp_at rp_1_9 f
    · exact rp_at rp_1_10 f
  · rcases ht with rfl | rfl | rfl | rfl | rfl | rfl | rfl | rfl | rfl | rfl | rfl
    · exact rp_at rp_2_0 f
    · exact rp_at rp_2_1 f
    · exact rp_at rp_2_2 f
    · exact rp_at rp_2_3 f
    · exact rp_at rp_2_4 f
    · exact rp_at rp_2_5 f
    · exact rp_at rp_2_6 f
    · exact rp_at rp_2_7 f
    · exact rp_at rp_2_8 f
    · exact rp_at rp_2_9 f
    · exact rp_at rp_2_10 f
  · rcases ht with rfl | rfl | rfl | rfl | rfl | rfl | rfl | rfl | rfl | rfl | rfl
    · exact rp_at rp_3_0 f
    · exact rp_at rp_3_1 f
    · exact rp_at rp_3_2 f
    · exact rp_at rp_3_3 f
    · exact rp_at rp_3_4 f
    · exact rp_at rp_3_5 f
    · exact rp_at rp_3_6 f
    · exact rp_at rp_3_7 f
    · exact rp_at rp_3_8 f
    · exact rp_at rp_3_9 f
    · exact rp_at rp_3_10 f
  · rcases ht with rfl | rfl | rfl | rfl | rfl | rfl | rfl | rfl | rfl | rfl | rfl
    · exact rp_at rp_4_0 f
    · exact rp_at rp_4_1 f
    · exact rp_at rp_4_2 f
    · exact rp_at rp_4_3 f
    · exact rp_at rp_4_4 f
    · exact rp_at rp_4_5 f
    · exact rp_at rp_4_6 f
    · exact rp_at rp_4_7 f
    · exact rp_at rp_4_8 f
    · exact rp_at rp_4_9 f
    · exact rp_at rp_4_10 f

end Go.Fw
