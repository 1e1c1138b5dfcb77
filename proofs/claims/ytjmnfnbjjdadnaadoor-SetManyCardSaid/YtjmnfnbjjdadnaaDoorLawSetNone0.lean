/-
  SetNone, reckoned by the kernel.
-/
import Derived.Test.YtjmnfnbjjdadnaaDoorGenB
import Derived.Test.YtjmnfnbjjdadnaaDoorFwU
namespace Go.Fw

/-- What the listed table holds. -/
def bytesOf : List Nat := [0, 1, 56, 2, 57, 49, 28, 3, 61, 58, 42, 50, 38, 29, 17, 4, 62, 47, 59, 36, 45, 43, 51, 22, 53, 39, 33, 30, 24, 18, 12, 5, 63, 55, 48, 27, 60, 41, 37, 16, 46, 35, 44, 21, 52, 32, 23, 11, 54, 26, 40, 15, 34, 20, 31, 10, 25, 14, 19, 9, 13, 8, 7, 6]
def deB : List Value := bytesOf.map fun n : Nat => Value.int .u8 (n : Int)

theorem setNone_runs : gaveTrue ((L1_SetNone 200).run 8 (baseH deB)) = true := by kernel_rfl

/-- What is reckoned over the table alone holds over any heap that has it. -/
theorem run_over {α : Type} {m : M α} {n n' : Nat} {v : α} {h0 h : H} (e : m.run n (baseH deB) = some (v, n', h0)) (f : Fr n h) (hb : h.get 0 = some ⟨deB, .ro⟩) : ∃ h', m.run n h = some (v, n', h') := by
  have l := m.loc _ _ _ _ _ e
  obtain ⟨h', e', _⟩ := l.more h (fun b B hB => by
    unfold baseH at hB
    rw [H.get_set] at hB
    split at hB
    · rename_i e; subst e; rw [hb]; exact hB
    · simp [H.get] at hB) fun b hb _ => f b hb
  exact ⟨h', e'⟩

theorem setNone_law (h : H) (us : List Value) (f : Fr 8 h) (hb : h.get 0 = some ⟨deB, .ro⟩) (ha : ArgsAre h [] us) : ∃ n' h', (L1_SetNone_m 200 us).run 8 h = some (.bool true, n', h') := by
  cases us with
  | cons _ _ => cases ha
  | nil =>
    obtain ⟨n', h0, e⟩ := gaveTrue_some setNone_runs
    obtain ⟨h', e'⟩ := run_over e f hb
    exact ⟨n', h', e'⟩

end Go.Fw
