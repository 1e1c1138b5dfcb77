/-
  graph.Reach, said of the abstract machine.
-/
import Derived.Test.YtddafkflndhnfaaDoorLawDC
set_option maxRecDepth 20000
set_option linter.unusedVariables false
namespace Go.Fw

/-- A list that grows by appends and is cut at the end. -/
def Gw (h : H) (v : Value) (b : Nat) (l : List Nat) : Prop :=
  (l = [] ∧ v = nsl) ∨ ∃ xs, v = sl b 0 l.length (U + 1) ∧ h.get b = some ⟨xs, .grow⟩ ∧ l.length ≤ xs.length ∧ xs.take l.length = (nats l).map i64

theorem Gw.keep {h h' : H} {v : Value} {b : Nat} {l : List Nat} (g : Gw h v b l) (hk : v ≠ nsl → h'.get b = h.get b) : Gw h' v b l := by
  rcases g with g | ⟨xs, h1, h2, h3⟩
  · exact .inl g
  · exact .inr ⟨xs, h1, by rw [hk (by rw [h1]; intro e; cases e)]; exact h2, h3⟩
theorem Gw.lt {h : H} {n : Nat} {v : Value} {b : Nat} {l : List Nat} (g : Gw h v b l) (f : Fr n h) (hv : v ≠ nsl) : b < n := by
  rcases g with g | ⟨xs, h1, h2, h3⟩
  · exact absurd g.2 hv
  · exact f.lt h2
theorem Gw.rd {h : H} {v : Value} {b : Nat} {l : List Nat} (g : Gw h v b l) : RdI h v (nats l) := by
  rcases g with ⟨rfl, rfl⟩ | ⟨xs, h1, h2, h3, h4⟩
  · exact .inl ⟨rfl, rfl⟩
  · refine .inr ⟨b, 0, U + 1, .grow, by rw [List.length_map, nats_len]; exact h1, fun _ => ⟨xs, h2, by decide, fun i hi => ?_⟩⟩
    rw [List.length_map, nats_len] at hi
    rw [Nat.zero_add, ← h4, List.getElem?_take, if_pos hi]

/-- A search on its way: the graph's box, the set's variable, the list's variable, the set, the list. -/
structure Rst (h : H) (lo g vs vl p N : Nat) (tv : Value) (C : Nat → Bool) (L : List Nat) : Prop where
  vg : GB h g N tv
  sv : h.get vs = some ⟨[pt p 0], .own⟩
  low : lo ≤ g ∧ lo ≤ vs ∧ lo ≤ vl ∧ g ≠ vs ∧ g ≠ vl ∧ vs ≠ vl
  rest : ∃ O b v, BS h p O C ∧ h.get vl = some ⟨[v], .own⟩ ∧ one v = true ∧ Gw h v b L ∧ (∀ c, O c → lo ≤ c ∧ c ≠ g ∧ c ≠ vs ∧ c ≠ vl) ∧ (v ≠ nsl → lo ≤ b ∧ ¬ O b ∧ b ≠ g ∧ b ≠ vs ∧ b ≠ vl)

section
variable {N : Nat} {adj : Nat → List Nat}

end

end Go.Fw
