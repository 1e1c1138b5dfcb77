/-
  SetOrder, the whole of it.
-/
import Derived.Test.YtbkppkekgdnilaaDoorLawSetC
namespace Go.Fw

theorem run_over_true {m : M Value} {h : H} (e : gaveTrue (m.run 8 (baseH deB)) = true) (e0 : ((m.run 8 (baseH deB)).map fun x => x.2.2.get 0) = some (some ⟨deB, .ro⟩)) (f : Fr 8 h) (hb : h.get 0 = some ⟨deB, .ro⟩) :
    ∃ n' h', m.run 8 h = some (bo true, n', h') ∧ Fr n' h' ∧ 8 ≤ n' ∧ ∀ c, c < 8 → h'.get c = h.get c := by
  obtain ⟨n', h0, e⟩ := gaveTrue_some e
  rw [e] at e0
  have e0' : h0.get 0 = some ⟨deB, .ro⟩ := Option.some.inj e0
  have l := m.loc _ _ _ _ _ e
  have hget : ∀ b, (baseH deB).get b = if b = 0 then some ⟨deB, .ro⟩ else none := fun b => by
    unfold baseH; rw [H.get_set]; split <;> rfl
  obtain ⟨h', e', hg⟩ := l.more h (fun b B hB => by
    rw [hget] at hB
    split at hB
    · rename_i e; subst e; rw [hb]; exact hB
    · cases hB) fun b hb _ => f b hb
  refine ⟨n', h', e', (f.run e').1, l.le, fun c hc => ?_⟩
  rw [hg c]
  by_cases h0c : c = 0
  · subst h0c; rw [e0', hb]; rfl
  · have : ¬ (h0.get c).isSome = true := fun h => by
      rcases (l.dom c).1 h with h | h
      · rw [hget, if_neg h0c] at h; cases h
      · omega
    rw [if_neg this]

theorem begunB_runs : gaveTrue ((L1_begun 200).run 8 (baseH deB)) = true := by kernel_rfl
theorem begunB_keeps : (((L1_begun 200).run 8 (baseH deB)).map fun x => x.2.2.get 0) = some (some ⟨deB, .ro⟩) := by kernel_rfl

theorem setOf_congr {zs T : List Int} (h : ∀ z, z ∈ T ↔ z ∈ zs) (m : Nat) : setOf T m = setOf zs m := by
  unfold setOf
  congr 1
  rw [Bool.eq_iff_iff, List.any_eq_true, List.any_eq_true]
  constructor
  · rintro ⟨z, h1, h2⟩; exact ⟨z, (h z).1 h1, h2⟩
  · rintro ⟨z, h1, h2⟩; exact ⟨z, (h z).2 h1, h2⟩

theorem order_run {F : Nat} (hF : 100 < F) (hbg : gaveTrue ((L1_begun F).run 8 (baseH deB)) = true) (hbk : (((L1_begun F).run 8 (baseH deB)).map fun x => x.2.2.get 0) = some (some ⟨deB, .ro⟩)) (h : H) (us : List Value) (f : Fr 8 h) (hb : h.get 0 = some ⟨deB, .ro⟩) (ha : ArgsAre h [.flat 1, .int] us) :
    ∃ n' h', (L1_SetOrder_m F us).run 8 h = some (.bool true, n', h') := by
  obtain ⟨v, _, rfl, hv, ⟨turn, rfl, ht⟩⟩ := args2 ha
  obtain ⟨zs, hv, hl⟩ := hv.ints f
  show ∃ n' h', (L1_SetOrder F v (i64 turn)).run 8 h = some (.bool true, n', h')
  unfold L1_SetOrder L1_SetOrder_r0 L1_SetOrder_r1
  obtain ⟨n1, h1, e1, f1, g1, k1⟩ := run_over_true hbg hbk f hb
  rw [run_bnd e1]
  have hv1 := hv.keep k1
  unfold L1_SetOrder_r2
  simp only [st_not, onB_ite, Bool.not_true, Bool.false_eq_true, if_false]
  unfold L1_SetOrder_r4
  obtain ⟨v', e2, hv2⟩ := cut_spec (F := F) (n := n1) hv1 hl 40 (by decide)
  rw [show (Value.int .i64 40) = i64 ((40 : Nat) : Int) from rfl, run_bnd e2]
  obtain ⟨ys, hys⟩ : ∃ ys, ys = zs.take 40 := ⟨_, rfl⟩
  rw [← hys] at hv2
  have hyl : ys.length ≤ 40 := by rw [hys, List.length_take]; omega
  unfold L1_SetOrder_r5
  simp only [hv2.rd.len, List.length_map, st_eql, st_lss, onB_ite, run_ite, beq_iff_eq, decide_eq_true_eq, if_true]
  by_cases q1 : (ys.length : Int) = 0
  · rw [if_pos q1]; exact ⟨n1, h1, rfl⟩
  rw [if_neg q1]
  by_cases q2 : turn < 0
  · rw [if_pos q2]; exact ⟨n1, h1, rfl⟩
  rw [if_neg q2]
  obtain ⟨t, rfl⟩ : ∃ t : Nat, turn = t := ⟨turn.toNat, by omega⟩
  unfold L1_SetOrder_r7
  simp only [hv2.rd.len, List.length_map, st_rem q1, show (t : Int).tmod (ys.length : Int) = ((t % ys.length : Nat) : Int) from rfl]
  unfold L1_SetOrder_r8
  obtain ⟨n3, h3, O, e3, x3, f3, l3, k3, o3⟩ := of_spec (F := F) (n := n1) hF (by omega) (by omega) (by omega) hv2 f1
  rw [run_bnd e3]
  have hv3 := hv2.keep (h' := h3) fun c hc => k3 c (by omega)
  obtain ⟨e4, x4, f4⟩ := new_set f3 (k := fun v29 => L1_SetOrder_r9 F v' (i64 ((t % ys.length : Nat) : Int)) (pt n1 0) v29 fun x0 x6 x7 x8 x9 => L1_SetOrder_l1 F (fun x7 x8 => L1_SetOrder_k0 F x7 x8) F x0 x6 x7 x8 x9)
  rw [show (Value.slice none 0 0) = nsl from rfl, e4]
  unfold L1_SetOrder_r9
  have hO3 := x3.lt f3
  obtain ⟨n', h', O', T, e5, x5, y5, hT⟩ := order_l1 (F := F) (p := n1) (p' := n3) (k := t % ys.length) (O := O) (s := setOf ys) (v := v') (zs := ys) hF hyl (Nat.mod_lt _ (by omega)) ⟨by omega, hO3⟩ (E := fun x7 x8 => L1_SetOrder_k0 F x7 x8) ys.length 0 F (n3 + 1) _ (fun c => c = n3) [] (by omega) (by omega)
    (hv3.keep fun c hc => H.get_set_ne _ _ (by omega)) (x3.keep fun c hc => H.get_set_ne _ _ (by have := hO3 c hc; omega)) (by
      have : setOf [] = fun _ => false := by funext m; simp [setOf]
      rw [this]; exact x4) f4 (fun c hc => by omega) (fun z hz => by cases hz) (fun m hm => by omega)
  rw [show (Value.int .i64 0) = i64 ((0 : Nat) : Int) from rfl, e5]
  unfold L1_SetOrder_k0 L1_SetOrder_r14
  rw [run_bnd (seteq_true hF x5 y5 fun m => (setOf_congr hT m).symm)]
  simp only [onB_ite, if_true]
  rw [run_bnd (seteq_true hF y5 x5 fun m => setOf_congr hT m)]
  exact ⟨n', h', rfl⟩

theorem order_law (h : H) (us : List Value) (f : Fr 8 h) (hb : h.get 0 = some ⟨deB, .ro⟩) (ha : ArgsAre h [.flat 1, .int] us) : ∃ n' h', (L1_SetOrder_m 200 us).run 8 h = some (.bool true, n', h') := order_run (by decide) begunB_runs begunB_keeps h us f hb ha

end Go.Fw
