/-
  SetNone, reckoned by the kernel.
-/
import Derived.Test.YtbkppkekgdnilaaDoorGenB
import Derived.Test.YtbkppkekgdnilaaDoorFwU
namespace Go.Fw

/-- What the listed table holds. -/
def bytesOf : List Nat := [0, 1, 56, 2, 57, 49, 28, 3, 61, 58, 42, 50, 38, 29, 17, 4, 62, 47, 59, 36, 45, 43, 51, 22, 53, 39, 33, 30, 24, 18, 12, 5, 63, 55, 48, 27, 60, 41, 37, 16, 46, 35, 44, 21, 52, 32, 23, 11, 54, 26, 40, 15, 34, 20, 31, 10, 25, 14, 19, 9, 13, 8, 7, 6]
def deB : List Value := bytesOf.map fun n : Nat => Value.int .u8 (n : Int)

/-- What is reckoned over the table alone holds over any heap that has it. -/
theorem run_over {α : Type} {m : M α} {n n' : Nat} {v : α} {h0 h : H} (e : m.run n (baseH deB) = some (v, n', h0)) (f : Fr n h) (hb : h.get 0 = some ⟨deB, .ro⟩) : ∃ h', m.run n h = some (v, n', h') := by
  have l := m.loc _ _ _ _ _ e
  obtain ⟨h', e', _⟩ := l.more h (fun b B hB => by
    unfold baseH at hB
    rw [H.get_set] at hB
    split at hB
    · rename_i e; subst e; rw [hb]; exact hB
    · simp [H.get] at hB) fun b hb _ => f b hb
  exact ⟨h', e'⟩

end Go.Fw
