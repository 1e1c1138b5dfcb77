/-
  GraphParts, said of the abstract machine.
-/
import Derived.Test.YtddafkflndhnfaaDoorLawTC
import Derived.Test.YtddafkflndhnfaaDoorLawTEq
import Derived.Test.YtddafkflndhnfaaDoorGenTGraphParts
set_option maxRecDepth 20000
set_option linter.unusedVariables false
namespace Go.Fw

theorem RdP.ll {h : H} {v : Value} {L : List (List Nat)} (x : RdP h v L) : RdLL h v L.length fun j => (nats ((L[j]?).getD [])).map i64 := by
  obtain ⟨ivs, h1, h2, h3⟩ := x
  refine ⟨fun j => (ivs[j]?).getD nsl, ?_, fun j hj => ?_⟩
  · have e : ivs = tab L.length fun j => (ivs[j]?).getD nsl := by
      refine List.ext_getElem? fun j => ?_
      by_cases hj : j < L.length
      · rw [tab_get hj, List.getElem?_eq_getElem (by omega)]; rfl
      · rw [tab_none (by omega), List.getElem?_eq_none (by omega)]
    rw [← e]; exact h1
  · have hv : ivs[j]? = some (ivs[j]'(by omega)) := List.getElem?_eq_getElem _
    have hP := List.getElem?_eq_getElem hj
    have := h3 j _ _ hv hP
    show Rd h ((ivs[j]?).getD nsl) ((nats ((L[j]?).getD [])).map i64)
    rw [hv, hP]
    exact this

theorem eqAll_P {F n : Nat} {h : H} {v v' : Value} {L : List (List Nat)} (g : RdP h v L) (g' : RdP h v' L) (hF : 1000000 ≤ F) (hL : L.length ≤ 1000) (hr : ∀ P, P ∈ L → P.length ≤ 1000) : (R1_EqAll F v v').run n h = some (bo true, n, h) := by
  refine eqAll_true g.ll g'.ll (fun j hj i hi => ?_) (fun j hj => ?_) (by omega) (by omega)
  · rw [List.length_map] at hi
    exact ⟨_, by rw [List.getElem?_map, List.getElem?_eq_getElem hi]; rfl⟩
  · rw [List.getElem?_eq_getElem hj, List.length_map, nats_len]
    have := hr _ (List.getElem_mem hj)
    simp only [Option.getD_some]
    omega

theorem Topo.small {adj : Nat → List Nat} {N : Nat} {D : Nat → Prop} {L : List (List Nat)} (x : Topo adj N D L) : (∀ P, P ∈ L → P.length ≤ N ∧ ∃ i, i < N ∧ ¬ D i ∧ P = sccOf adj N i) ∧ (L.map hd).Nodup := by
  have hsl : ∀ i, (sccOf adj N i).length ≤ N := fun i => by
    unfold sccOf
    exact Nat.le_trans (List.length_filter_le _ _) (by simp)
  induction x with
  | nil _ => exact ⟨fun P hP => (by cases hP), List.nodup_nil⟩
  | @cons D i L hn _ ih =>
    have hsm : ∀ P, P ∈ L → P.length ≤ N ∧ ∃ j, j < N ∧ ¬ D j ∧ P = sccOf adj N j := fun P hP => by
      obtain ⟨h1, j, h2, h3, h4⟩ := ih.1 P hP
      exact ⟨h1, j, h2, fun q => h3 (.inl q), h4⟩
    refine ⟨fun P hP => ?_, ?_⟩
    · rcases List.mem_cons.1 hP with rfl | hP
      · exact ⟨hsl i, i, hn.lt, hn.left, rfl⟩
      · exact hsm P hP
    · rw [List.map_cons, List.nodup_cons]
      refine ⟨fun hm => ?_, ih.2⟩
      obtain ⟨P, hP, he⟩ := List.mem_map.1 hm
      obtain ⟨_, j, h2, h3, h4⟩ := ih.1 P hP
      have m1 : hd (sccOf adj N i) ∈ sccOf adj N i := hd_mem (List.ne_nil_of_mem (scc_mem.2 ⟨hn.lt, Same2.refl⟩))
      have m2 : hd (sccOf adj N j) ∈ sccOf adj N j := hd_mem (List.ne_nil_of_mem (scc_mem.2 ⟨h2, Same2.refl⟩))
      rw [h4] at he
      rw [he] at m2
      exact h3 (.inr ((scc_mem.1 m1).2.trans (scc_mem.1 m2).2.symm))
theorem Topo.len {adj : Nat → List Nat} {N : Nat} {D : Nat → Prop} {L : List (List Nat)} (x : Topo adj N D L) : L.length ≤ N := by
  obtain ⟨h1, h2⟩ := x.small
  have := nodupN_len (N := N) h2 fun v hv => by
    obtain ⟨P, hP, rfl⟩ := List.mem_map.1 hv
    obtain ⟨_, i, hi, _, he⟩ := h1 P hP
    have : hd P ∈ P := hd_mem (by rw [he]; exact List.ne_nil_of_mem (scc_mem.2 ⟨hi, Same2.refl⟩))
    rw [he] at this
    rw [he]
    exact (scc_mem.1 this).1
  rwa [List.length_map] at this

theorem gparts_run {F : Nat} (hF : 1000000 ≤ F) (hbg : gaveTrue ((L5_begun F).run 8 (baseH deB)) = true) (hbg0 : (((L5_begun F).run 8 (baseH deB)).map fun x => x.2.2.get 0) = some (some ⟨deB, .ro⟩)) (h : H) (us : List Value) (f : Fr 8 h) (hb : h.get 0 = some ⟨deB, .ro⟩) (ha : ArgsAre h [.int, .flat 2] us) : ∃ n' h', (L5_GraphParts_m F us).run 8 h = some (.bool true, n', h') := by
  obtain ⟨v0, v1, rfl, a0, a1⟩ := args2 ha
  obtain ⟨z, rfl, hz⟩ := a0
  obtain ⟨len, Z, hp, _, hZ⟩ := a1.pairs f
  show ∃ n' h', (L5_GraphParts F (i64 z) v1).run 8 h = _
  obtain ⟨n1, h1, e1, f1, l1, k1⟩ := run_over_true hbg hbg0 f hb
  unfold L5_GraphParts L5_GraphParts_r0 L5_GraphParts_r1
  try dsimp only
  rw [run_bnd e1]
  unfold L5_GraphParts_r2
  simp only [st_not, onB_ite, Bool.not_true, Bool.false_eq_true, if_false]
  unfold L5_GraphParts_r4
  try dsimp only
  obtain ⟨n2, h2, g, ob, O, e2, x2, ev2⟩ := made_var (F := F) hF l1 hz hZ (hp.keep k1) f1
  rw [show (Value.int .i64 0) = i64 0 from rfl, show (Value.slice none 0 0) = nsl from rfl, e2]
  generalize nodesOf z = N at *
  generalize madeL N Z (min len 80) = adj at *
  have gr2 := x2.gr ev2.f
  have hN := x2.few
  have hN1 := x2.pos
  have hgl := x2.glt
  unfold L5_GraphParts_r5
  try dsimp only
  have chk : ∀ {n : Nat} {h' : H} {k : Unit → M Value}, GB h' g N (sl ob 0 N N) → (bnd (opChk false (pt g 1) (sl ob 0 N N)) k).run n h' = (k ()).run n h' := fun hg => run_chk hg (by decide) rfl (by simp [veq])
  have fa : ∀ k : Value → M Value, bnd (opFieldAddr 1 (pt g 0)) k = k (pt g 1) := fun k => rfl
  rw [x2.var.all, fa, ld1 x2.var (by decide) rfl]
  obtain ⟨n3, h3, v3, L, e3, q3, tp, _, ev3⟩ := parts_spec (F := F) hF x2.ok hN1 gr2 (Nat.le_refl _) ev2.f
  have gb3 := x2.var.ev ev3 x2.glt (fun h => h)
  have gr3 := gr2.no ev3 (Nat.le_refl _)
  have l3 := ev3.le
  rw [run_bnd e3, chk gb3]
  obtain ⟨n4, h4, v4, L', e4, q4, tp', ev4⟩ := rparts_spec (F := F) hF x2.ok gr3 l3 ev3.f
  have := tp.one tp'
  subst this
  rw [run_bnd e4, run_bnd (eqAll_P (q3.kept ev3.f fun c hc => ev4.no hc) q4 hF (by have := tp.len; omega) fun P hP => by have := (tp.small.1 P hP).1; omega)]
  exact ⟨n4, h4, rfl⟩

theorem gparts_law (h : H) (us : List Value) (f : Fr 8 h) (hb : h.get 0 = some ⟨deB, .ro⟩) (ha : ArgsAre h [.int, .flat 2] us) : ∃ n' h', (L5_GraphParts_m 1000000 us).run 8 h = some (.bool true, n', h') := gparts_run (Nat.le_refl _) begunT_runs begunT_keeps h us f hb ha

end Go.Fw
