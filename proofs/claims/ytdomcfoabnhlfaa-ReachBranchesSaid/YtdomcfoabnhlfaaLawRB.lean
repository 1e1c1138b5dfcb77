/-
  ReachBranches, for every number of branches and every one without.
-/
import Derived.Test.YtdomcfoabnhlfaaLawRB1
import Derived.Test.YtdomcfoabnhlfaaLawRB2
import Derived.Test.YtdomcfoabnhlfaaLawRB3
import Derived.Test.YtdomcfoabnhlfaaLawRB4
import Derived.Test.YtdomcfoabnhlfaaLawRB5
import Derived.Test.YtdomcfoabnhlfaaFwT
set_option maxRecDepth 20000
namespace Go.Fw

theorem rb_begun : gaveTrue ((L21_begun 400).run 8 .leaf) = true := by kernel_rfl

/-- What is not asked. -/
theorem rb_out {F : Nat} (hb : gaveTrue ((L21_begun F).run 8 .leaf) = true) {n wo : Int} (h : H) (f : Fr 8 h) (ho : ¬ (1 ≤ n ∧ n ≤ 5)) : ∃ n' h', (L21_ReachBranches F (i64 n) (i64 wo)).run 8 h = some (.bool true, n', h') := by
  unfold L21_ReachBranches L21_ReachBranches_r0 L21_ReachBranches_r1
  dsimp only
  obtain ⟨n1, h1, e1, f1, g1, k1⟩ := run_true hb f
  rw [run_bnd e1]
  unfold L21_ReachBranches_r2
  simp only [st_not, onB_ite, Bool.not_true, Bool.false_eq_true, if_false]
  unfold L21_ReachBranches_r4
  simp only [st_lss, st_gtr, onB_ite, run_ite, decide_eq_true_eq, if_true]
  split
  · exact ⟨_, _, rfl⟩
  · rw [if_pos (by omega)]
    exact ⟨_, _, rfl⟩

theorem rb_at {m : M Value} (e : gaveTrue (m.run 8 .leaf) = true) {h : H} (f : Fr 8 h) : ∃ n' h', m.run 8 h = some (.bool true, n', h') := by
  obtain ⟨n', h', e, _⟩ := run_true e f
  exact ⟨n', h', e⟩

theorem int_neg_or {w : Int} (n : Nat) (h : ¬ (0 ≤ w ∧ w < n)) : (∃ k, w = Int.negSucc k) ∨ ∃ k, w = Int.ofNat (k + n) := by
  cases w with
  | ofNat m => exact .inr ⟨m - n, by congr 1; simp at h; omega⟩
  | negSucc k => exact .inl ⟨k, rfl⟩

theorem branches_law (h : H) (us : List Value) (f : Fr 8 h) (ha : ArgsAre h [.int, .int] us) : ∃ n' h', (L21_ReachBranches_m 400 us).run 8 h = some (.bool true, n', h') := by
  obtain ⟨v, w, rfl, ⟨n, rfl, _⟩, ⟨t, rfl, _⟩⟩ := args2 ha
  show ∃ n' h', (L21_ReachBranches 400 (i64 n) (i64 t)).run 8 h = some (.bool true, n', h')
  by_cases hi : 1 ≤ n ∧ n ≤ 5
  case neg => exact rb_out rb_begun h f hi
  have hn : n = 1 ∨ n = 2 ∨ n = 3 ∨ n = 4 ∨ n = 5 := by omega
  rcases hn with rfl | rfl | rfl | rfl | rfl
  · by_cases ht : 0 ≤ t ∧ t < ((1 : Nat) : Int)
    · have hq : t = 0 := by omega
      subst hq
      exact rb_at rb_1_0 f
    · rcases int_neg_or 1 ht with ⟨k, rfl⟩ | ⟨k, rfl⟩
      · exact rb_at (rb_1_neg k) f
      · exact rb_at (rb_1_more k) f
  · by_cases ht : 0 ≤ t ∧ t < ((2 : Nat) : Int)
    · have hq : t = 0 ∨ t = 1 := by omega
      rcases hq with rfl | rfl
      · exact rb_at rb_2_0 f
      · exact rb_at rb_2_1 f
    · rcases int_neg_or 2 ht with ⟨k, rfl⟩ | ⟨k, rfl⟩
      · exact rb_at (rb_2_neg k) f
      · exact rb_at (rb_2_more k) f
  · by_cases ht : 0 ≤ t ∧ t < ((3 : Nat) : Int)
    · have hq : t = 0 ∨ t = 1 ∨ t = 2 := by omega
      rcases hq with rfl | rfl | rfl
      · exact rb_at rb_3_0 f
      · exact rb_at rb_3_1 f
      · exact rb_at rb_3_2 f
    · rcases int_neg_or 3 ht with ⟨k, rfl⟩ | ⟨k, rfl⟩
      · exact rb_at (rb_3_neg k) f
      · exact rb_at (rb_3_more k) f
  · by_cases ht : 0 ≤ t ∧ t < ((4 : Nat) : Int)
    · have hq : t = 0 ∨ t = 1 ∨ t = 2 ∨ t = 3 := by omega
      rcases hq with rfl | rfl | rfl | rfl
      · exact rb_at rb_4_0 f
      · exact rb_at rb_4_1 f
      · exact rb_at rb_4_2 f
      · exact rb_at rb_4_3 f
    · rcases int_neg_or 4 ht with ⟨k, rfl⟩ | ⟨k, rfl⟩
      · exact rb_at (rb_4_neg k) f
      · exact rb_at (rb_4_more k) f
  · by_cases ht : 0 ≤ t ∧ t < ((5 : Nat) : Int)
    · have hq : t = 0 ∨ t = 1 ∨ t = 2 ∨ t = 3 ∨ t = 4 := by omega
      rcases hq with rfl | rfl | rfl | rfl | rfl
      · exact rb_at rb_5_0 f
      · exact rb_at rb_5_1 f
      · exact rb_at rb_5_2 f
      · exact rb_at rb_5_3 f
      · exact rb_at rb_5_4 f
    · rcases int_neg_or 5 ht with ⟨k, rfl⟩ | ⟨k, rfl⟩
      · exact rb_at (rb_5_neg k) f
      · exact rb_at (rb_5_more k) f

end Go.Fw
