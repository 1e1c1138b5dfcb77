/-
  UnionNone and UnionChain, said of the abstract machine.
-/
import Derived.Test.YtmndklpldejcbaaLawUnion
import Derived.Test.YtmndklpldejcbaaFwT
namespace Go.Fw

theorem begun_runs : gaveTrue ((haruspexlaw2_begun 6000).run 8 .leaf) = true := by kernel_rfl

theorem idx_id : ∀ i, idx id i = i
  | 0 => rfl
  | i + 1 => by show idx id i + (if id i = i then 1 else 0) = _; rw [idx_id i]; simp

theorem none_runs : ∃ n' h', (haruspexlaw2_UnionNone 6000).run 8 .leaf = some (bo true, n', h') := by
  have f0 : Fr 8 .leaf := fun b _ => rfl
  unfold haruspexlaw2_UnionNone haruspexlaw2_UnionNone_r0 haruspexlaw2_UnionNone_r1 haruspexlaw2_UnionNone_r2
  obtain ⟨n1, h1, e1, f1, _⟩ := run_true begun_runs f0
  rw [run_bnd e1]
  simp only [onB_ite, if_true]
  rw [run_bnd (show (union_Union_Find 6000 (.pointer none) (.int .i64 0)).run n1 h1 = some (i64 (-1), n1, h1) from rfl)]
  simp only [st_eql, onB_ite, beq_self_eq_true, if_true]
  rw [run_bnd (show (union_Union_Join 6000 (.pointer none) (.int .i64 0) (.int .i64 1)).run n1 h1 = some (bo false, n1, h1) from rfl)]
  simp only [st_not, onB_ite, Bool.not_false, if_true]
  rw [run_bnd (show (union_Union_Same 6000 (.pointer none) (.int .i64 0) (.int .i64 0)).run n1 h1 = some (bo false, n1, h1) from rfl)]
  simp only [st_not, onB_ite, Bool.not_false, if_true]
  rw [run_bnd (show (union_Union_Groups 6000 (.pointer none)).run n1 h1 = some (nsl, n1, h1) from rfl)]
  simp only [st_len, st_eql, onB_ite, Int.natCast_zero, beq_self_eq_true, if_true]
  rw [run_bnd (show (union_Union_Len 6000 (.pointer none)).run n1 h1 = some (i64 0, n1, h1) from rfl)]
  simp only [st_eql, onB_ite, beq_self_eq_true, if_true]
  obtain ⟨n2, h2, b2, e2, w2, f2, _⟩ := new_uf (F := 6000) (-5) f1 (by decide)
  rw [run_bnd e2]
  obtain ⟨n3, h3, e3, _, f3, _⟩ := len_uf (F := 6000) (by omega) w2 f2
  rw [run_bnd e3]
  rw [show (min (max (-5 : Int) 0) 5000).toNat = 0 from rfl]
  simp only [st_eql, onB_ite, idx_id, Int.natCast_zero, beq_self_eq_true, if_true]
  obtain ⟨n4, h4, b4, e4, w4, f4, _⟩ := new_uf (F := 6000) 9999 f3 (by decide)
  rw [run_bnd e4]
  obtain ⟨n5, h5, e5, _, f5, _⟩ := len_uf (F := 6000) (by omega) w4 f4
  rw [run_bnd e5]
  rw [show (min (max (9999 : Int) 0) 5000).toNat = 5000 from rfl]
  simp only [st_eql, idx_id]
  exact ⟨n5, h5, rfl⟩

theorem none_law (h : H) (us : List Value) (f : Fr 8 h) (ha : ArgsAre h [] us) : ∃ n' h', (haruspexlaw2_UnionNone_m 6000 us).run 8 h = some (.bool true, n', h') := by
  cases us with
  | cons _ _ => cases ha
  | nil =>
    obtain ⟨n', h0, e⟩ := none_runs
    obtain ⟨h', e', _⟩ := run_closed e f
    exact ⟨n', h', e'⟩

end Go.Fw
