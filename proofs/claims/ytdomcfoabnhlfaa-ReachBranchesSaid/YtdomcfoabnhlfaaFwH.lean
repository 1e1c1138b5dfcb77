/-
  What each operation of the abstract machine does in a world that the heap speaks of: what is made, appends.
-/
import Derived.Test.YtdomcfoabnhlfaaFwG
namespace Go.Fw

section
variable {P : Program} {G : Nat} {ρ : Map} {h : H} {w : World} {N : Nat} {Γ : List (Nat × Value)} {a : Act} {E : Env} {n n' : Nat} {h' : H} {v : Value} {o : Oper}

/-! ### Structs, arrays, slices that are written out -/

theorem foldl_set (off : Nat) : ∀ (xs : List Value) (k : Nat) (arr : Array Value), off + k + xs.length ≤ arr.size →
    ((xs.zipIdx k).foldl (fun (cs : Array Value) (p : Value × Nat) => cs.setIfInBounds (off + p.2) p.1) arr).toList = over arr.toList (off + k) xs
  | [], k, arr, _ => by simp [over]
  | x :: xs, k, arr, hle => by
    have ih := foldl_set off xs (k + 1) (arr.setIfInBounds (off + k) x) (by simp at hle ⊢; omega)
    simp only [List.zipIdx_cons, List.foldl_cons]
    rw [ih]
    apply List.ext_getElem?
    intro i
    simp at hle
    rw [over_get (by simp; omega), over_get (by simp; omega)]
    simp only [Array.toList_setIfInBounds, List.getElem?_set, List.length_cons]
    by_cases h1 : i = off + k
    · subst h1
      rw [if_neg (by omega), if_pos rfl, if_pos (by simp; omega), if_pos (by omega)]
      simp
    · by_cases h2 : off + (k + 1) ≤ i ∧ i < off + (k + 1) + xs.length
      · rw [if_pos h2, if_pos (by omega)]
        rw [show i - (off + k) = (i - (off + (k + 1))) + 1 by omega]; simp
      · rw [if_neg h2, if_neg (fun e => h1 e.symm), if_neg (by omega)]

theorem fill_sim (place : Nat → Option (Nat × Nat)) (pl : Nat → Option (Nat × Nat × Bool)) (hpl : ∀ i off size ag, pl i = some (off, size, ag) → place i = some (off, size)) :
    ∀ (xs xs' : List (Nat × Value)) (ps : List (Nat × Nat × Bool × Value)) (cs cs2 : List Value) (arr : Array Value), placed pl xs = some ps → fillA cs ps = some cs2 →
      xs.map (·.1) = xs'.map (·.1) → WL ρ (xs.map (·.2)) (xs'.map (·.2)) → VL ρ cs arr.toList → ∃ arr2, Instr.fill place arr xs' = some arr2 ∧ VL ρ cs2 arr2.toList
  | [], xs', ps, cs, cs2, arr, hp, hf, h1, _, hv => by
    have : xs' = [] := by cases xs' <;> simp_all
    subst this
    simp only [placed, Option.some.injEq] at hp
    subst hp
    simp only [fillA, Option.some.injEq] at hf
    subst hf
    exact ⟨arr, rfl, hv⟩
  | (i, u) :: xs, xs', ps, cs, cs2, arr, hp, hf, h1, h2, hv => by
    cases xs' with
    | nil => simp at h1
    | cons y ys =>
    obtain ⟨i', u'⟩ := y
    simp only [List.map_cons, List.cons.injEq] at h1
    obtain ⟨rfl, h1⟩ := h1
    obtain ⟨_, _, he, hu, hus⟩ := h2.head
    simp only [List.map_cons, List.cons.injEq] at he
    obtain ⟨rfl, rfl⟩ := he
    simp only [placed] at hp
    split at hp
    · rename_i off size ag ps' hpi hps
      simp only [Option.some.injEq] at hp
      subst hp
      have hpi' := hpl _ _ _ _ hpi
      cases ag with
      | false =>
        simp only [fillA] at hf
        split at hf
        · rename_i hc
          simp only [Bool.and_eq_true, beq_iff_eq, decide_eq_true_eq] at hc
          obtain ⟨⟨ho1, rfl⟩, hlt⟩ := hc
          have hur := hu.strict ho1
          have hcy : u'.cells = #[u'] := cells_of_one (by rw [hur.one]; exact ho1)
          have hlt' : off < arr.size := by have := hv.1; simp at this; omega
          obtain ⟨arr2, g1, g2⟩ := fill_sim place pl hpl xs ys ps' _ cs2 (arr.setIfInBounds off u') hps hf h1 hus (by
            refine ⟨by simpa using hv.1, fun j z z' hz hz' => ?_⟩
            simp only [Array.toList_setIfInBounds, List.getElem?_set] at hz hz'
            by_cases hj : off = j
            · subst hj
              simp [hlt] at hz
              simp [hlt'] at hz'
              subst hz hz'
              exact hur
            · rw [if_neg hj] at hz hz'
              exact hv.2 j z z' hz hz')
          refine ⟨arr2, ?_, g2⟩
          have hnl : ¬ (arr.size < off + 1) := by omega
          simp [Instr.fill, hpi', hcy, hnl, g1]
        · cases hf
      | true =>
        simp only [fillA] at hf
        split at hf
        · rename_i xs0
          split at hf
          · rename_i hc
            simp only [Bool.and_eq_true, decide_eq_true_eq] at hc
            obtain ⟨rfl, hle⟩ := hc
            obtain ⟨ws, rfl, hws⟩ := hu.agg_inv
            have hsz : xs0.size = ws.size := by simpa using hws.1
            have hle' : off + ws.size ≤ arr.size := by have := hv.1; simp at this; omega
            have hfold := foldl_set off ws.toList 0 arr (by simpa using hle')
            simp only [Nat.add_zero] at hfold
            obtain ⟨arr2, g1, g2⟩ := fill_sim place pl hpl xs ys ps' _ cs2 ((ws.toList.zipIdx 0).foldl (fun (cs : Array Value) (p : Value × Nat) => cs.setIfInBounds (off + p.2) p.1) arr) hps hf h1 hus (by
              rw [hfold]
              refine ⟨by rw [over_length (by simp; omega), over_length (by simp; omega)]; exact hv.1, fun j z z' hz hz' => ?_⟩
              rw [over_get (by simp; omega)] at hz hz'
              simp only [Array.length_toList] at hz hz'
              by_cases hin : off ≤ j ∧ j < off + ws.size
              · rw [if_pos (by omega)] at hz; rw [if_pos hin] at hz'; exact hws.2 _ z z' hz hz'
              · rw [if_neg (by omega)] at hz; rw [if_neg hin] at hz'; exact hv.2 j z z' hz hz')
            refine ⟨arr2, ?_, g2⟩
            have hnl : ¬ (arr.size < off + ws.size) := by omega
            have hcond : (decide (ws.size ≠ xs0.size) || decide (off + ws.size > arr.size)) = false := by simp [hsz]; omega
            simp only [Instr.fill, hpi', cells_agg, hcond, Bool.false_eq_true, if_false]
            rw [← g1, ← Array.foldl_toList]
            simp
            intro hh
            rcases hh with hh | hh
            · exact absurd hsz.symm (of_decide_eq_true hh)
            · omega
          · cases hf
        · cases hf
    · cases hp

theorem opBuild_some {z : List Value} {ps : List (Nat × Nat × Bool × Value)} (e : opBuild z ps n h = some (v, n', h')) : n' = n ∧ h' = h ∧ ∃ cs, fillA z ps = some cs ∧ v = .agg cs.toArray := by
  unfold opBuild at e
  cases hf : fillA z ps with
  | none => simp only [hf] at e; cases e
  | some cs => simp only [hf] at e; obtain ⟨rfl, rfl, rfl⟩ := ret_some e; exact ⟨rfl, rfl, cs, rfl, rfl⟩

theorem run_places {fs : Array Field} (hall : fs.toList.all (fun f => (P.info? f.type).isSome) = true) :
    ∃ places : Array (Nat × Nat), (fs.mapM fun f => do pure (f.offset, ← sizeOf f.type) : Sem (Array (Nat × Nat))).run P w = .ok places w ∧ ∀ i off size ag, placeF P fs i = some (off, size, ag) → places[i]? = some (off, size) := by
  have key : ∀ (l : List Field) , l.all (fun f => (P.info? f.type).isSome) = true →
      (l.mapM fun f => do pure (f.offset, ← sizeOf f.type) : Sem (List (Nat × Nat))).run P w = .ok (l.map fun f => (f.offset, P.cellsOf f.type)) w := by
    intro l
    induction l with
    | nil => intro _; simp
    | cons f l ih =>
      intro hl
      simp only [List.all_cons, Bool.and_eq_true] at hl
      obtain ⟨i, hi⟩ := Option.isSome_iff_exists.1 hl.1
      have ih' := ih hl.2
      simp [List.mapM_cons, sizeOf, typeInfo, hi, Program.cellsOf] at ih' ⊢
      rw [ih']
      simp
  refine ⟨(fs.toList.map fun f => (f.offset, P.cellsOf f.type)).toArray, ?_, fun i off size ag hp => ?_⟩
  · rw [Array.mapM_eq_mapM_toList]
    rw [Sem.run_map, key _ hall]
    rfl
  · unfold placeF at hp
    cases hf : fs[i]? with
    | none => simp [hf] at hp
    | some f =>
      simp only [hf] at hp
      cases hi : P.info? f.type with
      | none => simp [hi] at hp
      | some inf =>
        simp only [hi, Option.some.injEq, Prod.mk.injEq] at hp
        simp [hf, Program.cellsOf, hi, hp.1, hp.2.1]

theorem parts_sim (r : R G ρ h w) (l : Live ρ N Γ a) (ps : Array (Nat × Operand)) :
    ((ps.toList.map fun p => (p.1, ev G Γ p.2)).map (·.1)) = ((ps.map fun p => (p.1, a.eval p.2)).toList.map (·.1)) ∧
    WL ρ ((ps.toList.map fun p => (p.1, ev G Γ p.2)).map (·.2)) ((ps.map fun p => (p.1, a.eval p.2)).toList.map (·.2)) := by
  refine ⟨by simp, ?_⟩
  have := WL.map r l (ps.toList.map (·.2))
  rw [List.map_map, List.map_map] at this
  rw [Array.toList_map, List.map_map, List.map_map]
  exact this

theorem sim_build (r : R G ρ h w) (l : Live ρ N Γ a) {t : TypeId} {ps : Array (Nat × Operand)} (ho : o.op = .build t ps) (e : aop P G E Γ o.op n h = some (v, n', h')) : Does P G o a w ρ h v h' := by
  rw [ho] at e
  simp only [aop] at e
  obtain ⟨hp1, hp2⟩ := parts_sim r l ps
  cases hu : P.underlying t with
  | none => simp only [hu] at e; cases e
  | some d =>
  cases hz : zeroL P t with
  | none => cases d <;> simp only [hu, hz] at e <;> cases e
  | some z =>
  obtain ⟨i, u, hi, hzu, hc, _, hv, _⟩ := zeroL_some (ρ := ρ) hz
  cases d <;> simp only [hu, hz] at e <;> try (cases e; done)
  · rename_i len el
    cases hie : P.info? el with
    | none => simp only [hie] at e; cases e
    | some inf =>
    simp only [hie] at e
    cases hpl : placed (fun i => some (i * inf.size, inf.size, aggT P el)) (ps.toList.map fun p => (p.1, ev G Γ p.2)) with
    | none => simp only [hpl] at e; cases e
    | some q =>
    simp only [hpl] at e
    obtain ⟨rfl, rfl, cs, hf, rfl⟩ := opBuild_some e
    obtain ⟨arr2, g1, g2⟩ := fill_sim (ρ := ρ) (fun i => some (i * inf.size, inf.size)) _ (fun i off size ag hh => by simp at hh; obtain ⟨rfl, rfl, rfl⟩ := hh; rfl) _ _ _ _ _ u.cells hpl hf hp1 hp2 (hc ▸ hv)
    refine .same r (v' := .agg arr2) ?_ (by have := g2.agg; simpa using this.weak)
    rw [Array.toList_map] at g1
    simp [execOp, ho, Instr.build, zeroValue, typeInfo, hi, hzu, run_underlying hu, sizeOf, hie, g1]
  · rename_i fs
    split at e
    · rename_i hall
      cases hpl : placed (placeF P fs) (ps.toList.map fun p => (p.1, ev G Γ p.2)) with
      | none => simp only [hpl] at e; cases e
      | some q =>
      simp only [hpl] at e
      obtain ⟨rfl, rfl, cs, hf, rfl⟩ := opBuild_some e
      obtain ⟨places, hpr, hpi⟩ := run_places (w := w) hall
      obtain ⟨arr2, g1, g2⟩ := fill_sim (ρ := ρ) (places[·]?) _ hpi _ _ _ _ _ u.cells hpl hf hp1 hp2 (hc ▸ hv)
      refine .same r (v' := .agg arr2) ?_ (by have := g2.agg; simpa using this.weak)
      rw [Array.toList_map] at g1
      simp at hpr
      simp [execOp, ho, Instr.build, zeroValue, typeInfo, hi, hzu, run_underlying hu, hpr, g1]
    · cases e

theorem rep_length (k : Nat) (z : List Value) : (rep k z).length = k * z.length := by
  induction k with
  | zero => simp [rep]
  | succ k ih =>
    simp only [rep, List.replicate_succ, List.flatten_cons, List.length_append] at ih ⊢
    rw [ih, Nat.succ_mul]; omega
theorem rep_get (k : Nat) (z : List Value) (i : Nat) (h : i < k * z.length) : (rep k z)[i]? = z[i % z.length]? := by
  induction k generalizing i with
  | zero => simp at h
  | succ k ih =>
    simp only [rep, List.replicate_succ, List.flatten_cons] at ih ⊢
    by_cases hi : i < z.length
    · rw [List.getElem?_append_left hi, Nat.mod_eq_of_lt hi]
    · rw [List.getElem?_append_right (by omega), ih _ (by rw [Nat.succ_mul] at h; omega)]
      rw [show i % z.length = (i - z.length) % z.length from Nat.mod_eq_sub_mod (by omega)]

theorem made_cells (z : Array Value) (k : Nat) : ((Array.range (k * z.size)).map (fun i => z[i % z.size]!)).toList = rep k z.toList := by
  apply List.ext_getElem?
  intro i
  by_cases hi : i < k * z.size
  · rw [rep_get _ _ _ (by simpa using hi)]
    have hz : 0 < z.size := by rcases Nat.eq_zero_or_pos z.size with h | h; · rw [h] at hi; simp at hi
                               · exact h
    have := Nat.mod_lt i hz
    simp [hi, this]
  · rw [List.getElem?_eq_none (by simp; omega), List.getElem?_eq_none (by rw [rep_length]; simp; omega)]

theorem VL.rep {z z' : List Value} (h : VL ρ z z') (k : Nat) : VL ρ (rep k z) (rep k z') := by
  induction k with
  | zero => simp [Fw.rep]; exact VL.nil ρ
  | succ k ih => simp only [Fw.rep, List.replicate_succ, List.flatten_cons] at ih ⊢; exact h.append ih

/-- A slice of a block that was just made. -/
theorem VR.made {b len : Nat} {L : Loc} (hb : ρ b = some L) (h0 : L.off = 0) {c : Nat} (hlc : len ≤ c) (hc : c < U) : VR ρ (.slice (some ⟨b, 0, none⟩) len c) (.slice (some ⟨L.blk, 0, none⟩) len c) :=
  .slice b 0 len c _ c L hb ⟨fun _ => rfl, hlc, fun _ => by rw [h0], fun s hs _ => by omega⟩

theorem opBuildSlice_some {k : Nat} {z : List Value} {ps : List (Nat × Nat × Bool × Value)} (e : opBuildSlice k z ps n h = some (v, n', h')) : ∃ cs b, fillA z ps = some cs ∧ new cs .own n h = some (b, n', h') ∧ v = .slice (some ⟨b, 0, none⟩) k k := by
  unfold opBuildSlice at e
  cases hf : fillA z ps with
  | none => simp only [hf] at e; cases e
  | some cs =>
    simp only [hf] at e
    obtain ⟨b, n1, h1, e1, e2⟩ := bnd_some e
    obtain ⟨rfl, rfl, rfl⟩ := ret_some e2
    exact ⟨cs, b, rfl, e1, rfl⟩

theorem sim_buildSlice (r : R G ρ h w) (l : Live ρ N Γ a) {t : TypeId} {k : Nat} {ps : Array (Nat × Operand)} (ho : o.op = .buildSlice t k ps) (e : aop P G E Γ o.op n h = some (v, n', h')) : Does P G o a w ρ h v h' := by
  rw [ho] at e
  simp only [aop] at e
  obtain ⟨hp1, hp2⟩ := parts_sim r l ps
  cases hu : P.underlying t with
  | none => simp only [hu] at e; cases e
  | some d =>
  cases d <;> simp only [hu] at e <;> try (cases e; done)
  rename_i el
  cases hie : P.info? el with
  | none => simp only [hie] at e; cases e
  | some inf =>
  cases hz : zeroL P el with
  | none => simp only [hie, hz] at e; cases e
  | some z =>
  simp only [hie, hz] at e
  obtain ⟨i, u, hi, hzu, hc, hzl, hv, _⟩ := zeroL_some (ρ := ρ) hz
  rw [hie] at hi
  cases hi
  split at e
  · rename_i hle
    cases hpl : placed (fun i => some (i * inf.size, inf.size, aggT P el)) (ps.toList.map fun p => (p.1, ev G Γ p.2)) with
    | none => simp only [hpl] at e; cases e
    | some q =>
    simp only [hpl] at e
    obtain ⟨cs, b, hf, hn, rfl⟩ := opBuildSlice_some e
    have hinit : VL ρ (rep k z) (rep k z).toArray.toList := by simpa using hv.rep k
    obtain ⟨arr2, g1, g2⟩ := fill_sim (ρ := ρ) (fun i => some (i * inf.size, inf.size)) _ (fun i off size ag hh => by simp at hh; obtain ⟨rfl, rfl, rfl⟩ := hh; rfl) _ _ _ _ _ (rep k z).toArray hpl hf hp1 hp2 hinit
    obtain ⟨rfl, hr, hx, _⟩ := r.new hn (.inl rfl) g2 (rest := []) (fun _ => rfl) el
    simp only [List.append_nil] at hr hx
    have hkU : k < U := by unfold U; omega
    refine ⟨_, _, _, .inl ?_, (VR.made (Map.add_same _ _ _) rfl (Nat.le_refl k) hkU).weak, hr, hx⟩
    have hmc : ∀ zz : Array Value, zz.toList = z → ((Array.range (k * inf.size)).map (fun i => zz[i % zz.size]!)) = (rep k z).toArray := by
      intro zz hzz
      have := made_cells zz k
      rw [hzz] at this
      have hs : zz.size = inf.size := by rw [← hzl, ← hzz]; simp
      rw [hs] at this ⊢
      exact Array.toList_inj.1 (by rw [this])
    have hc' : u.cells = z.toArray := by rw [← hc]
    rw [Array.toList_map] at g1
    by_cases h0 : k * inf.size = 0
    · have hrep : (rep k z).toArray = #[] := by
        have : (rep k z).length = 0 := by rw [rep_length, hzl, h0]
        simp [List.eq_nil_of_length_eq_zero this]
      rw [hrep] at g1
      have hr0 : Array.range 0 = #[] := rfl
      simp [execOp, ho, Instr.buildSlice, run_underlying hu, sizeOf, typeInfo, hie, h0, hr0, g1, newRow]
    · have hle2 : ¬ (16777216 < k * inf.size) := by omega
      have := hmc u.cells (by rw [hc])
      simp [execOp, ho, Instr.buildSlice, run_underlying hu, sizeOf, typeInfo, hie, hle2, h0, zeroValue, hzu, this, g1, newRow]
  · cases e
end
end Go.Fw
