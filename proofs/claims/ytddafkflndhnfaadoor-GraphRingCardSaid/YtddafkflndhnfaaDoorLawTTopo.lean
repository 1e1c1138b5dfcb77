/-
  Lists of parts: how many, how long; two that are the same are told to be.
-/
import Derived.Test.YtddafkflndhnfaaDoorLawTarE
import Derived.Test.YtddafkflndhnfaaDoorLawTEq
set_option maxRecDepth 20000
set_option linter.unusedVariables false
namespace Go.Fw

theorem RdP.ll {lo : Nat} {h : H} {v : Value} {L : List (List Nat)} (x : RdP lo h v L) : RdLL h v L.length fun j => (nats ((L[j]?).getD [])).map i64 := by
  obtain ⟨ivs, h1, h2, _, h3⟩ := x
  refine ⟨fun j => (ivs[j]?).getD nsl, ?_, fun j hj => ?_⟩
  · have e : ivs = tab L.length fun j => (ivs[j]?).getD nsl := by
      refine List.ext_getElem? fun j => ?_
      by_cases hj : j < L.length
      · rw [tab_get hj, List.getElem?_eq_getElem (by omega)]; rfl
      · rw [tab_none (by omega), List.getElem?_eq_none (by omega)]
    rw [← e]; exact h1
  · have hv : ivs[j]? = some (ivs[j]'(by omega)) := List.getElem?_eq_getElem _
    have hP := List.getElem?_eq_getElem hj
    have := (h3 j _ _ hv hP).1
    show Rd h ((ivs[j]?).getD nsl) ((nats ((L[j]?).getD [])).map i64)
    rw [hv, hP]
    exact this

theorem eqAll_P {F n lo lo' : Nat} {h : H} {v v' : Value} {L : List (List Nat)} (g : RdP lo h v L) (g' : RdP lo' h v' L) (hF : 1000000 ≤ F) (hL : L.length ≤ 1000) (hr : ∀ P, P ∈ L → P.length ≤ 1000) : (R1_EqAll F v v').run n h = some (bo true, n, h) := by
  refine eqAll_true g.ll g'.ll (fun j hj i hi => ?_) (fun j hj => ?_) (by omega) (by omega)
  · rw [List.length_map] at hi
    exact ⟨_, by rw [List.getElem?_map, List.getElem?_eq_getElem hi]; rfl⟩
  · rw [List.getElem?_eq_getElem hj, List.length_map, nats_len]
    have := hr _ (List.getElem_mem hj)
    simp only [Option.getD_some]
    omega

theorem Topo.small {adj : Nat → List Nat} {N : Nat} {D : Nat → Prop} {L : List (List Nat)} (x : Topo adj N D L) : (∀ P, P ∈ L → P.length ≤ N ∧ ∃ i, i < N ∧ ¬ D i ∧ P = sccOf adj N i) ∧ (L.map hd).Nodup := by
  have hsl : ∀ i, (sccOf adj N i).length ≤ N := fun i => by
    unfold sccOf
    exact Nat.le_trans (List.length_filter_le _ _) (by simp)
  induction x with
  | nil _ => exact ⟨fun P hP => (by cases hP), List.nodup_nil⟩
  | @cons D i L hn _ ih =>
    have hsm : ∀ P, P ∈ L → P.length ≤ N ∧ ∃ j, j < N ∧ ¬ D j ∧ P = sccOf adj N j := fun P hP => by
      obtain ⟨h1, j, h2, h3, h4⟩ := ih.1 P hP
      exact ⟨h1, j, h2, fun q => h3 (.inl q), h4⟩
    refine ⟨fun P hP => ?_, ?_⟩
    · rcases List.mem_cons.1 hP with rfl | hP
      · exact ⟨hsl i, i, hn.lt, hn.left, rfl⟩
      · exact hsm P hP
    · rw [List.map_cons, List.nodup_cons]
      refine ⟨fun hm => ?_, ih.2⟩
      obtain ⟨P, hP, he⟩ := List.mem_map.1 hm
      obtain ⟨_, j, h2, h3, h4⟩ := ih.1 P hP
      have m1 : hd (sccOf adj N i) ∈ sccOf adj N i := hd_mem (List.ne_nil_of_mem (scc_mem.2 ⟨hn.lt, Same2.refl⟩))
      have m2 : hd (sccOf adj N j) ∈ sccOf adj N j := hd_mem (List.ne_nil_of_mem (scc_mem.2 ⟨h2, Same2.refl⟩))
      rw [h4] at he
      rw [he] at m2
      exact h3 (.inr ((scc_mem.1 m1).2.trans (scc_mem.1 m2).2.symm))
theorem Topo.len {adj : Nat → List Nat} {N : Nat} {D : Nat → Prop} {L : List (List Nat)} (x : Topo adj N D L) : L.length ≤ N := by
  obtain ⟨h1, h2⟩ := x.small
  have := nodupN_len (N := N) h2 fun v hv => by
    obtain ⟨P, hP, rfl⟩ := List.mem_map.1 hv
    obtain ⟨_, i, hi, _, he⟩ := h1 P hP
    have : hd P ∈ P := hd_mem (by rw [he]; exact List.ne_nil_of_mem (scc_mem.2 ⟨hi, Same2.refl⟩))
    rw [he] at this
    rw [he]
    exact (scc_mem.1 this).1
  rwa [List.length_map] at this

end Go.Fw
