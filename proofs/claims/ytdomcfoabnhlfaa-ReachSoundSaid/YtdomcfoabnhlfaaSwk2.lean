/-
  The framework by which the law is proved: FwMp, FwCl, FwRg, FwNa, FwJ, FwK, FwL, FwM, FwN, FwO, FwP, FwSc, FwDeep, FwQ, FwR, FwSort, FwSortX, FwS, FwV, FwX, FwT, FwGc, FwGb, FwNest.
-/
import Derived.Test.YtdomcfoabnhlfaaSwk1
import Derived.Maps.RangeRun
import Derived.Scope
import Derived.ProofKit
import Derived.Lib.SortBridge
import Derived.Deep.Slices
import Derived.OpenShut
import Derived.ChangeArms
set_option linter.all false
section
namespace Go.Fw

/-! ### Entries -/

theorem flatE_inj : ∀ {E E' : List (Value × Value × Nat)}, flatE E = flatE E' → E = E'
  | [], [], _ => rfl
  | [], (_, _, _) :: _, h => by cases h
  | (_, _, _) :: _, [], h => by cases h
  | (a, b, e) :: r, (c, d, f) :: s, h => by
    simp only [flatE, List.cons.injEq, Value.int.injEq, true_and] at h
    obtain ⟨rfl, rfl, hef, h⟩ := h
    have : e = f := by omega
    subst this
    rw [flatE_inj h]

theorem entFind_some {n : Nat} {key : Value} (hk : ikey n key = true) : ∀ {E : List (Value × Value × Nat)} {v t : Value}, (∀ p, p ∈ E → ikey n p.1 = true) → entFind key (flatE E) = some (v, t) → ∃ (i : Nat) (c : Nat), E[i]? = some (key, v, c) ∧ t = .int .i64 c
  | [], v, t, _, h => by cases h
  | (a, b, c) :: r, v, t, hE, h => by
    simp only [flatE, entFind] at h
    split at h
    · rename_i q
      rw [(keq_iff hk (hE (a, b, c) (by simp)))] at q
      cases h
      exact ⟨0, c, by rw [q]; rfl, rfl⟩
    · obtain ⟨i, d, hi, ht⟩ := entFind_some hk (fun p hp => hE p (by simp [hp])) h
      exact ⟨i + 1, d, by simpa using hi, ht⟩
theorem entFind_none {n : Nat} {key : Value} (hk : ikey n key = true) : ∀ {E : List (Value × Value × Nat)}, (∀ p, p ∈ E → ikey n p.1 = true) → entFind key (flatE E) = none → ∀ p, p ∈ E → p.1 ≠ key
  | [], _, _, p, hp => by cases hp
  | (a, b, c) :: r, hE, h, p, hp => by
    simp only [flatE, entFind] at h
    split at h
    · cases h
    · rename_i q
      rw [(keq_iff hk (hE (a, b, c) (by simp)))] at q
      rcases List.mem_cons.1 hp with rfl | hp
      · exact fun e => q e.symm
      · exact entFind_none hk (fun p hp => hE p (by simp [hp])) h p hp

theorem entPut_new {n t : Nat} {key v : Value} (hk : ikey n key = true) : ∀ {E : List (Value × Value × Nat)}, (∀ p, p ∈ E → ikey n p.1 = true) → (∀ p, p ∈ E → p.1 ≠ key) → entPut key v t (flatE E) = flatE (E ++ [(key, v, t)])
  | [], _, _ => rfl
  | (a, b, c) :: r, hE, h => by
    have hne : ¬ keq key a = true := fun q => h (a, b, c) (by simp) ((keq_iff hk (hE (a, b, c) (by simp))).1 q).symm
    simp only [flatE, entPut, List.cons_append]
    rw [if_neg hne, entPut_new hk (fun p hp => hE p (by simp [hp])) fun p hp => h p (by simp [hp])]

theorem entPut_old {n t : Nat} {key v : Value} (hk : ikey n key = true) : ∀ {E : List (Value × Value × Nat)} {j : Nat} {u : Value} {d : Nat}, (∀ p, p ∈ E → ikey n p.1 = true) → E.Pairwise (fun p q => p.1 ≠ q.1) → E[j]? = some (key, u, d) → entPut key v t (flatE E) = flatE (E.set j (key, v, d))
  | [], j, _, _, _, _, h => by simp at h
  | (a, b, c) :: r, 0, u, d, hE, _, h => by
    simp only [List.getElem?_cons_zero, Option.some.injEq, Prod.mk.injEq] at h
    obtain ⟨rfl, rfl, rfl⟩ := h
    simp only [flatE, entPut, List.set_cons_zero]
    rw [if_pos ((keq_iff hk hk).2 rfl)]
  | (a, b, c) :: r, j + 1, u, d, hE, hd, h => by
    rw [List.getElem?_cons_succ] at h
    have hm := List.mem_of_getElem? h
    have hne : ¬ keq key a = true := fun q => (List.pairwise_cons.1 hd).1 _ hm ((keq_iff hk (hE (a, b, c) (by simp))).1 q).symm
    simp only [flatE, entPut, List.set_cons_succ]
    rw [if_neg hne, entPut_old hk (fun p hp => hE p (by simp [hp])) (List.pairwise_cons.1 hd).2 h]

section
variable {P : Program} {G : Nat} {ρ : Map} {h : H} {w : World} {N : Nat} {Γ : List (Nat × Value)} {a : Act} {E : Env} {n n' : Nat} {h' : H} {v : Value} {o : Oper}

theorem VW.map_inv {b : Nat} {v' : Value} (h : VW ρ (.map (some b)) v') : ∃ L, ρ b = some L ∧ v' = .map (some L.blk) := by
  rcases h with (h | ⟨h, _⟩) | h
  · cases h
  · cases h
  · cases h with | map b L hb => exact ⟨L, hb, rfl⟩

theorem VW.nilmap_inv {v' : Value} (h : VW ρ (.map none) v') : v' = .map none := by
  rcases h with (h | ⟨h, _⟩) | h
  · cases h
  · cases h
  · cases h; rfl

theorem not_live_isMap {B : Blk} (h : B.isMap) : ¬ B.live := fun q => q h.1
theorem not_mine_isMap {B : Blk} (h : B.isMap) : ¬ B.mine := fun q => not_live_isMap h q.live

/-- An object's block of the world is written. -/
theorem R.setObj (r : R G ρ h w) {b : Nat} {B B' : Blk} {L : Loc} {o' : Obj} (hb : h.get b = some B) (hmap : B.isMap) (hmap' : B'.isMap) (hL : ρ b = some L) (hok : MapOK ρ { w with heap := w.heap.setIfInBounds L.blk o' } L B') :
    R G ρ (h.set b B') { w with heap := w.heap.setIfInBounds L.blk o' } ∧ Ext ρ h w ρ (h.set b B') { w with heap := w.heap.setIfInBounds L.blk o' } := by
  have hlt : L.blk < w.heap.size := (r.maps b B L hb hmap hL).lt
  have hset : ∀ k, (w.heap.setIfInBounds L.blk o')[k]? = if k = L.blk then some o' else w.heap[k]? := fun k => by
    rw [Array.getElem?_setIfInBounds]
    by_cases e : L.blk = k
    · subst e; rw [if_pos rfl, if_pos rfl, if_pos hlt]
    · rw [if_neg e, if_neg (fun q => e q.symm)]
  refine ⟨⟨fun c => ?_, r.glob, fun c C N hc hl hN => ?_, fun c d C D N O hne hc hd' hl hm hN hO => ?_, fun c C N hc hm hN => ?_, fun c d C D N O hne hc hd' hm1 hm2 hN hO => ?_⟩, ⟨Le.refl _, rfl, rfl, rfl, by simp, fun k hk' hn => ?_, fun k hk' hn => ?_⟩⟩
  · rw [H.get_set]
    split
    · rename_i e; subst e; rw [← r.dom, hb]; rfl
    · exact r.dom c
  · rw [H.get_set] at hc
    split at hc
    · cases hc; exact absurd hl (not_live_isMap hmap')
    · obtain ⟨⟨arr, elem, fz, h1, h2, h3, h4⟩, h5, h6⟩ := r.blk c C N hc hl hN
      refine ⟨⟨arr, elem, fz, ?_, h2, h3, h4⟩, h5, h6⟩
      show (w.heap.setIfInBounds L.blk _)[N.blk]? = _
      rw [hset, if_neg (fun q => (r.maps b B L hb hmap hL).no (by rw [← q]; exact h1))]
      exact h1
  · rw [H.get_set] at hc hd'
    split at hc
    · cases hc; exact absurd hl (not_live_isMap hmap')
    · split at hd'
      · cases hd'; exact absurd hm (not_mine_isMap hmap')
      · exact r.apart c d C D N O hne hc hd' hl hm hN hO
  · rw [H.get_set] at hc
    split at hc
    · rename_i e
      subst e
      cases hc
      rw [hL] at hN
      cases hN
      exact hok
    · rename_i e
      have hne := r.lone c b C _ N L e hc hb hm hmap hN hL
      exact (r.maps c C N hc hm hN).keep (Le.refl _) (by show (w.heap.setIfInBounds L.blk _)[N.blk]? = _; rw [hset, if_neg hne])
  · rw [H.get_set] at hc hd'
    split at hc
    · rename_i e
      subst e
      rw [if_neg (fun q => hne q.symm)] at hd'
      exact r.lone c d _ D N O hne hb hd' hmap hm2 hN hO
    · split at hd'
      · rename_i e
        subst e
        exact r.lone c d C _ N O hne hc hb hm1 hmap hN hO
      · exact r.lone c d C D N O hne hc hd' hm1 hm2 hN hO
  · show (w.heap.setIfInBounds L.blk _)[k]? = _
    rw [hset, if_neg (fun e => hn ⟨b, _, L, hb, .inr hmap, hL, e.symm⟩)]
  · obtain ⟨c, C, N, hc, hm, hN, hkk⟩ := hn
    rw [H.get_set] at hc
    split at hc
    · rename_i e; subst e; exact ⟨c, _, N, hb, .inr hmap, hN, hkk⟩
    · exact ⟨c, C, N, hc, hm, hN, hkk⟩

/-- A map's block of the world is written. -/
theorem R.setMap (r : R G ρ h w) {b sz c0 : Nat} {E E' : List (Value × Value × Nat)} {L : Loc} {es es' : Array MapEntry} {clock clock' : Nat} (hb : h.get b = some (mapB sz c0 E)) (hL : ρ b = some L) (ho : w.heap[L.blk]? = some (.map es clock))
    (hs : E'.length = es'.size) (hk : ∀ p, p ∈ E' → ikey sz p.1 = true) (hd : E'.Pairwise (fun p q => p.1 ≠ q.1)) (hv : ∀ (i : Nat) p e, E'[i]? = some p → es'[i]? = some e → p.1 = e.key ∧ VR ρ p.2.1 e.val ∧ p.2.2 = e.born) :
    R G ρ (h.set b (mapB sz clock' E')) { w with heap := w.heap.setIfInBounds L.blk (.map es' clock') } ∧ Ext ρ h w ρ (h.set b (mapB sz clock' E')) { w with heap := w.heap.setIfInBounds L.blk (.map es' clock') } := by
  have hlt : L.blk < w.heap.size := (Array.getElem?_eq_some_iff.1 ho).1
  exact r.setObj hb (isMap_mapB _ _ _) (isMap_mapB _ _ _) hL ⟨.inl ⟨sz, E', es', clock', rfl, by show (w.heap.setIfInBounds L.blk _)[L.blk]? = _; rw [Array.getElem?_setIfInBounds, if_pos rfl, if_pos hlt], hs, hk, hd, hv⟩⟩

/-- A new object. -/
theorem R.newObj (r : R G ρ h w) {b : Nat} {cs : List Value} {o' : Obj} (e : Fw.new cs .dead n h = some (b, n', h')) (hmap : (⟨cs, .dead⟩ : Blk).isMap) (hok : MapOK (ρ.add b ⟨w.heap.size, 0, 0⟩) (w.alloc o') ⟨w.heap.size, 0, 0⟩ ⟨cs, .dead⟩) :
    R G (ρ.add b ⟨w.heap.size, 0, 0⟩) h' (w.alloc o') ∧ Ext ρ h w (ρ.add b ⟨w.heap.size, 0, 0⟩) h' (w.alloc o') := by
  obtain ⟨rfl, rfl, hn, rfl, h1⟩ := new_some e
  have hle := Map.add_le ⟨w.heap.size, 0, 0⟩ (r.fresh hn)
  have r1 := r.alloc o'
  have lt : ∀ c C N, h.get c = some C → C.isMap → ρ c = some N → N.blk < w.heap.size := fun c C N hc hm hN => by
    exact (r.maps c C N hc hm hN).lt
  refine ⟨⟨fun c => ?_, fun g hg => ?_, fun c C N hc hl hN => ?_, fun c d C D N O hne hc hd hl hm hN hO => ?_, fun c C N hc hm hN => ?_, fun c d C D N O hne hc hd hm1 hm2 hN hO => ?_⟩, ⟨hle, rfl, rfl, rfl, by simp, fun k hk _ => Go.RowKit.Below.heap_alloc _ _ _ hk, fun k hk ho => ?_⟩⟩
  · rw [H.get_set]
    unfold Map.add
    split
    · rfl
    · exact r.dom c
  · obtain ⟨lim, hl⟩ := r.glob g hg
    exact ⟨lim, hle _ _ hl⟩
  · rw [H.get_set] at hc
    unfold Map.add at hN
    split at hc
    · cases hc; exact absurd hl (not_live_isMap hmap)
    · rename_i e
      rw [if_neg e] at hN
      obtain ⟨⟨arr, elem, fz, h1, h2, h3, h4⟩, h5, h6⟩ := r1.blk c C N hc hl hN
      exact ⟨⟨arr, elem, fz, h1, h2, h3, fun i v hv => let ⟨v', k1, k2⟩ := h4 i v hv; ⟨v', k1, k2.mono hle⟩⟩, h5, h6⟩
  · rw [H.get_set] at hc hd
    unfold Map.add at hN hO
    split at hc
    · cases hc; exact absurd hl (not_live_isMap hmap)
    · rename_i e
      rw [if_neg e] at hN
      split at hd
      · cases hd; exact absurd hm (not_mine_isMap hmap)
      · rename_i e2
        rw [if_neg e2] at hO
        exact r1.apart c d C D N O hne hc hd hl hm hN hO
  · rw [H.get_set] at hc
    unfold Map.add at hN
    split at hc
    · rename_i e
      cases hc
      rw [if_pos e] at hN
      cases hN
      exact hok
    · rename_i e
      rw [if_neg e] at hN
      exact (r1.maps c C N hc hm hN).keep hle rfl
  · rw [H.get_set] at hc hd
    unfold Map.add at hN hO
    split at hc
    · rename_i e
      rw [if_pos e] at hN
      cases hN
      split at hd
      · rename_i e2; exact absurd (e.trans e2.symm) hne
      · rename_i e2
        rw [if_neg e2] at hO
        have := lt d D O hd hm2 hO
        show w.heap.size ≠ O.blk
        omega
    · rename_i e
      rw [if_neg e] at hN
      split at hd
      · rename_i e2
        rw [if_pos e2] at hO
        cases hO
        have := lt c C N hc hm1 hN
        show N.blk ≠ w.heap.size
        omega
      · rename_i e2
        rw [if_neg e2] at hO
        exact r.lone c d C D N O hne hc hd hm1 hm2 hN hO
  · obtain ⟨c, C, N, hc, hm, hN, hk'⟩ := ho
    rw [H.get_set] at hc
    unfold Map.add at hN
    split at hc
    · rename_i e
      rw [if_pos e] at hN
      cases hN
      simp at hk'
      omega
    · rename_i e
      rw [if_neg e] at hN
      exact ⟨c, C, N, hc, hm, hN, hk'⟩

/-- A new map. -/
theorem R.newMap (r : R G ρ h w) {sz b : Nat} (e : Fw.new [.nilFunc, .int .u64 sz, .int .u64 0] .dead n h = some (b, n', h')) :
    R G (ρ.add b ⟨w.heap.size, 0, 0⟩) h' (w.alloc (.map #[] 0)) ∧ Ext ρ h w (ρ.add b ⟨w.heap.size, 0, 0⟩) h' (w.alloc (.map #[] 0)) := by
  refine r.newObj e ⟨rfl, rfl⟩ ⟨.inl ⟨sz, [], #[], 0, rfl, heap_alloc_new w _, rfl, (fun p (hp : p ∈ ([] : List (Value × Value × Nat))) => by cases hp), List.Pairwise.nil, (fun (i : Nat) p e (hp : ([] : List (Value × Value × Nat))[i]? = some p) => by simp at hp)⟩⟩

theorem mapN_some {t : TypeId} {sz : Nat} {z : Value} (hm : mapN P t = some (sz, z)) : ∃ k e i, P.underlying t = some (.map k e) ∧ keyN P k = some sz ∧ P.info? e = some i ∧ i.zero = some z ∧ okC0 z = true := by
  unfold mapN at hm
  split at hm
  · rename_i k e hu
    cases hi : P.info? e with
    | none => simp [hi] at hm
    | some i =>
      cases hz : i.zero with
      | none => simp [hi, hz] at hm
      | some z' =>
        cases hk : keyN P k with
        | none => simp [hk] at hm
        | some n' =>
          simp only [hk, hi, hz, Option.bind_some] at hm
          split at hm
          · rename_i h0
            cases hm
            exact ⟨k, e, i, hu, hk, hi, hz, h0⟩
          · cases hm
  · cases hm

theorem sim_makeMap (r : R G ρ h w) {t : TypeId} (ho : o.op = .makeMap t none) (e : aop P G E Γ o.op n h = some (v, n', h')) : Does P G o a w ρ h v h' := by
  rw [ho] at e
  simp only [aop] at e
  cases hm : mapN P t with
  | none => simp only [hm] at e; cases e
  | some q =>
    obtain ⟨sz, z⟩ := q
    simp only [hm] at e
    obtain ⟨b, n1, h1, e1, e2⟩ := bnd_some e
    obtain ⟨rfl, rfl, rfl⟩ := ret_some e2
    obtain ⟨hr, hx⟩ := r.newMap e1
    refine ⟨.map (some w.heap.size), _, _, .inl ?_, VR.weak (.map b ⟨w.heap.size, 0, 0⟩ (Map.add_same _ _ _)), hr, hx⟩
    simp [execOp, ho, Instr.makeMap]

theorem mapEnts_some {sz c : Nat} {key : Value} {cs es : List Value} (h : mapEnts sz key cs = some (c, es)) : cs = .int .u64 sz :: .int .u64 c :: es ∧ ikey sz key = true := by
  unfold mapEnts at h
  split at h
  · split at h
    · rename_i m c' es' q
      cases h
      obtain ⟨rfl, hk⟩ := q
      exact ⟨rfl, hk⟩
    · cases h
  · cases h

/-- A map that is looked into. -/
theorem R.ents (r : R G ρ h w) {b : Nat} {sz c : Nat} {es : List Value} (hb : h.get b = some ⟨.nilFunc :: .int .u64 sz :: .int .u64 c :: es, .dead⟩) {L : Loc} (hL : ρ b = some L) :
    ∃ E ws, es = flatE E ∧ h.get b = some (mapB sz c E) ∧ w.heap[L.blk]? = some (.map ws c) ∧ E.length = ws.size ∧ (∀ p, p ∈ E → ikey sz p.1 = true) ∧ E.Pairwise (fun p q => p.1 ≠ q.1) ∧ ∀ (i : Nat) p e, E[i]? = some p → ws[i]? = some e → p.1 = e.key ∧ VR ρ p.2.1 e.val ∧ p.2.2 = e.born := by
  rcases (r.maps b _ L hb ⟨rfl, rfl⟩ hL).obj with ⟨sz2, E, ws, clock, g1, g2, g3, g4, g5, g6⟩ | ⟨m, since, last, seen, Lm, g1, _⟩ | ⟨g1, _⟩ | ⟨_, _, _, _, _, g1, _⟩
  case inr.inl => unfold iterB at g1; simp at g1
  case inr.inr.inl => unfold iterNB at g1; simp at g1
  case inr.inr.inr => unfold lookB at g1; simp at g1
  unfold mapB at g1
  simp only [Blk.mk.injEq, List.cons.injEq, Value.int.injEq, true_and, and_true] at g1
  obtain ⟨hz, hc, he⟩ := g1
  have hz' : sz = sz2 := by omega
  have hc' : c = clock := by omega
  subst hz'
  subst hc'
  subst he
  exact ⟨E, ws, rfl, hb, g2, g3, g4, g5, g6⟩

theorem key_find {k : TypeId} {sz : Nat} (K : KeyT P k sz) {key : Value} (hk : ikey sz key = true) {E : List (Value × Value × Nat)} {ws : Array MapEntry} (hs : E.length = ws.size) (hE : ∀ p, p ∈ E → ikey sz p.1 = true) (hv : ∀ (i : Nat) p e, E[i]? = some p → ws[i]? = some e → p.1 = e.key) :
    ((Instr.findKey k key ws.toList).run P w = .ok none w ∧ ∀ p, p ∈ E → p.1 ≠ key) ∨ ∃ (j : Nat) (p : Value × Value × Nat) (e : MapEntry), (Instr.findKey k key ws.toList).run P w = .ok (some (j, e.val)) w ∧ E[j]? = some p ∧ ws[j]? = some e ∧ p.1 = key ∧ e.key = key := by
  obtain ⟨lx, hlx⟩ := K.of hk
  have at_ : ∀ (i : Nat) e, ws[i]? = some e → ∃ p, E[i]? = some p ∧ p.1 = e.key := fun i e he => by
    have hi : i < E.length := by rw [hs]; exact (Array.getElem?_eq_some_iff.1 he).1
    exact ⟨E[i], List.getElem?_eq_getElem hi, hv i _ e (List.getElem?_eq_getElem hi) he⟩
  rcases K.law.find w hlx ws.toList (fun e he => by
    obtain ⟨i, hi⟩ := List.mem_iff_getElem?.1 he
    obtain ⟨p, hp, hpe⟩ := at_ i e (by simpa using hi)
    obtain ⟨l, hl⟩ := K.of (hE p (List.mem_of_getElem? hp))
    exact ⟨l, by rw [← hpe]; exact hl⟩) with ⟨h1, h2⟩ | ⟨j, e, h1, h2, h3⟩
  · refine .inl ⟨h1, fun p hp q => ?_⟩
    obtain ⟨i, hi⟩ := List.mem_iff_getElem?.1 hp
    have hi' : i < ws.size := by rw [← hs]; exact (List.getElem?_eq_some_iff.1 hi).1
    have := hv i p _ hi (Array.getElem?_eq_getElem hi')
    exact h2 ws[i] (by simp) (by rw [← this]; exact q)
  · have h2' : ws[j]? = some e := by simpa using h2
    obtain ⟨p, hp, hpe⟩ := at_ j e h2'
    exact .inr ⟨j, p, e, h1, hp, h2', by rw [hpe, h3], h3⟩

theorem pair_uniq {E : List (Value × Value × Nat)} (hd : E.Pairwise (fun p q => p.1 ≠ q.1)) {i j : Nat} {p q : Value × Value × Nat} (hp : E[i]? = some p) (hq : E[j]? = some q) (e : p.1 = q.1) : i = j := by
  obtain ⟨hi, rfl⟩ := List.getElem?_eq_some_iff.1 hp
  obtain ⟨hj, rfl⟩ := List.getElem?_eq_some_iff.1 hq
  rcases Nat.lt_trichotomy i j with g | g | g
  · exact absurd e (List.pairwise_iff_getElem.1 hd i j hi hj g)
  · exact g
  · exact absurd e.symm (List.pairwise_iff_getElem.1 hd j i hj hi g)

theorem lookEnts_some {sz : Nat} {key : Value} {cs es : List Value} (h : lookEnts sz key cs = some es) : cs = .int .i64 sz :: es ∧ ikey sz key = true := by
  unfold lookEnts at h
  split at h
  · split at h
    · rename_i m es' q
      cases h
      obtain ⟨rfl, hk⟩ := q
      exact ⟨rfl, hk⟩
    · cases h
  · cases h
theorem R.looks (r : R G ρ h w) {b : Nat} {sz : Nat} {es : List Value} (hb : h.get b = some ⟨.nilFunc :: .int .i64 sz :: es, .dead⟩) {L : Loc} (hL : ρ b = some L) :
    ∃ (E E' : List (Value × Value × Nat)) (ws : Array MapEntry) (clock : Nat), es = flatE E ∧ w.heap[L.blk]? = some (.map ws clock) ∧ E'.length = ws.size ∧ (∀ p, p ∈ E' → ikey sz p.1 = true) ∧ E'.Pairwise (fun p q => p.1 ≠ q.1) ∧ (∀ (i : Nat) p e, E'[i]? = some p → ws[i]? = some e → p.1 = e.key ∧ VR ρ p.2.1 e.val) ∧
      List.Perm (E.map fun p : Value × Value × Nat => (p.1, p.2.1)) (E'.map fun p : Value × Value × Nat => (p.1, p.2.1)) := by
  rcases (r.maps b _ L hb ⟨rfl, rfl⟩ hL).obj with ⟨sz2, E, ws, clock, g1, _⟩ | ⟨m, since, last, seen, Lm, g1, _⟩ | ⟨g1, _⟩ | ⟨n, E, E', ws, clock, g1, g2, g3, g4, g5, g6, g7⟩
  · unfold mapB at g1; simp at g1
  · unfold iterB at g1; simp at g1
  · unfold iterNB at g1; simp at g1
  · unfold lookB at g1
    simp only [Blk.mk.injEq, List.cons.injEq, Value.int.injEq, true_and, and_true] at g1
    obtain ⟨hz, he⟩ := g1
    have hz' : sz = n := by omega
    subst hz'
    exact ⟨E, E', ws, clock, he, g2, g3, g4, g5, g6, g7⟩
theorem entFind_perm {n : Nat} {key : Value} (hk : ikey n key = true) {E E' : List (Value × Value × Nat)} (hE : ∀ p, p ∈ E' → ikey n p.1 = true) (hd : E'.Pairwise fun p q => p.1 ≠ q.1) (hp : List.Perm (E.map fun p : Value × Value × Nat => (p.1, p.2.1)) (E'.map fun p : Value × Value × Nat => (p.1, p.2.1))) :
    (entFind key (flatE E)).map (·.1) = (entFind key (flatE E')).map (·.1) := by
  have to : ∀ {a b : Value}, (∃ c, (a, b, c) ∈ E) → ∃ c, (a, b, c) ∈ E' := fun {a b} ⟨c, hc⟩ => by
    have : (a, b) ∈ E'.map fun p : Value × Value × Nat => (p.1, p.2.1) := hp.mem_iff.1 (List.mem_map.2 ⟨_, hc, rfl⟩)
    obtain ⟨⟨a', b', c'⟩, h1, h2⟩ := List.mem_map.1 this
    cases h2
    exact ⟨c', h1⟩
  have fro : ∀ {a b : Value}, (∃ c, (a, b, c) ∈ E') → ∃ c, (a, b, c) ∈ E := fun {a b} ⟨c, hc⟩ => by
    have : (a, b) ∈ E.map fun p : Value × Value × Nat => (p.1, p.2.1) := hp.mem_iff.2 (List.mem_map.2 ⟨_, hc, rfl⟩)
    obtain ⟨⟨a', b', c'⟩, h1, h2⟩ := List.mem_map.1 this
    cases h2
    exact ⟨c', h1⟩
  have hE1 : ∀ p, p ∈ E → ikey n p.1 = true := fun p hp => by
    obtain ⟨c, hc⟩ := to (a := p.1) (b := p.2.1) ⟨p.2.2, hp⟩
    exact hE (p.1, p.2.1, c) hc
  cases h1 : entFind key (flatE E) with
  | none =>
    cases h2 : entFind key (flatE E') with
    | none => rfl
    | some u =>
      obtain ⟨u, t⟩ := u
      obtain ⟨i, c, hi, _⟩ := entFind_some hk hE h2
      obtain ⟨c', hc⟩ := fro ⟨c, List.mem_of_getElem? hi⟩
      exact absurd rfl (entFind_none hk hE1 h1 _ hc)
  | some u =>
    obtain ⟨u, t⟩ := u
    obtain ⟨i, c, hi, _⟩ := entFind_some hk hE1 h1
    obtain ⟨c', hc⟩ := to ⟨c, List.mem_of_getElem? hi⟩
    cases h2 : entFind key (flatE E') with
    | none => exact absurd rfl (entFind_none hk hE h2 _ hc)
    | some u' =>
      obtain ⟨u', t'⟩ := u'
      obtain ⟨j, c2, hj, _⟩ := entFind_some hk hE h2
      obtain ⟨j', hj'⟩ := List.mem_iff_getElem?.1 hc
      have := pair_uniq hd hj hj' rfl
      subst this
      rw [hj] at hj'
      cases hj'
      rfl

theorem sim_lookup (r : R G ρ h w) (l : Live ρ N Γ a) {t : TypeId} {x y : Operand} {ok : Bool} (ho : o.op = .lookup t x y ok) (e : aop P G E Γ o.op n h = some (v, n', h')) : Does P G o a w ρ h v h' := by
  rw [ho] at e
  simp only [aop] at e
  cases hm : mapN P t with
  | none => simp only [hm] at e; cases e
  | some q =>
    obtain ⟨sz, z⟩ := q
    simp only [hm] at e
    obtain ⟨k, el, zi, hu, hkn, hzi, hzu, hz0⟩ := mapN_some hm
    have K := keyN_law hkn
    have hx := ev_sim r l x
    have hy := ev_sim r l y
    have hzr : (zeroValue el).run P w = .ok z w := by simp [zeroValue, typeInfo, hzi, hzu]
    have hzVR : VR ρ z z := VR.of_okC0 hz0
    have tup : ∀ (u u' : Value) (c : Bool), VR ρ u u' → VR ρ (if ok then .tuple #[u, .bool c] else u) (if ok then .tuple #[u', .bool c] else u') := by
      intro u u' c hu
      cases ok with
      | false => exact hu
      | true =>
        refine .tuple _ _ rfl fun i p q hp hq => ?_
        match i, hp, hq with
        | 0, hp, hq => cases hp; cases hq; exact hu
        | 1, hp, hq => cases hp; cases hq; exact .bool _
        | i + 2, hp, hq => simp at hp
    unfold opLookup at e
    split at e
    case h_3 => cases e
    case h_2 =>
      rename_i hxe
      rw [hxe] at hx
      have hx' : a.eval x = .map none := hx.nilmap_inv
      split at e
      case isFalse => cases e
      rename_i hk
      obtain ⟨rfl, rfl, rfl⟩ := ret_some e
      have hy' := hy.ikey hk
      obtain ⟨lk, hlk⟩ := K.of hk
      have hchk := K.law.check w true hlk
      have hfind : (Instr.findKey k (ev G Γ y) []).run P w = .ok none w := by
        rcases K.law.find w hlk [] (fun e he => by cases he) with ⟨h1, _⟩ | ⟨j, e, _, h2, _⟩
        · exact h1
        · simp at h2
      refine Does.same r (v' := if ok then .tuple #[z, .bool false] else z) ?_ (tup z z false hzVR).weak
      cases ok <;> simp [execOp, ho, Instr.lookup, run_underlying hu, hx', hy', hchk, hfind, hzr]
    rename_i b hxe
    rw [hxe] at hx
    obtain ⟨L, hL, hx'⟩ := hx.map_inv
    obtain ⟨cs, n1, h1, e1, e2⟩ := bnd_some e
    obtain ⟨rfl, rfl, hb⟩ := mpGet_some e1
    obtain ⟨E, E', ws, clock, hk, hw, hs, hE, hd, hv, hfe, e3⟩ : ∃ (E E' : List (Value × Value × Nat)) (ws : Array MapEntry) (clock : Nat), ikey sz (ev G Γ y) = true ∧ w.heap[L.blk]? = some (.map ws clock) ∧ E'.length = ws.size ∧ (∀ p, p ∈ E' → ikey sz p.1 = true) ∧ E'.Pairwise (fun p q => p.1 ≠ q.1) ∧
        (∀ (i : Nat) p e, E'[i]? = some p → ws[i]? = some e → p.1 = e.key ∧ VR ρ p.2.1 e.val) ∧ (entFind (ev G Γ y) (flatE E)).map (·.1) = (entFind (ev G Γ y) (flatE E')).map (·.1) ∧
        (match entFind (ev G Γ y) (flatE E) with
          | some (v, _) => ret (if ok then Value.tuple #[v, .bool true] else v)
          | none => ret (if ok then Value.tuple #[z, .bool false] else z)).run n1 h1 = some (v, n', h') := by
      cases hme : mapEnts sz (ev G Γ y) cs with
      | some ces =>
        obtain ⟨clock, es⟩ := ces
        simp only [hme] at e2
        obtain ⟨rfl, hk⟩ := mapEnts_some hme
        obtain ⟨E, ws, rfl, hbE, hw, hs, hE, hd, hv⟩ := r.ents hb hL
        exact ⟨E, E, ws, clock, hk, hw, hs, hE, hd, fun i p e hp he => ⟨(hv i p e hp he).1, (hv i p e hp he).2.1⟩, rfl, e2⟩
      | none =>
        simp only [hme] at e2
        cases hle : lookEnts sz (ev G Γ y) cs with
        | none => simp only [hle] at e2; cases e2
        | some es =>
          simp only [hle] at e2
          obtain ⟨rfl, hk⟩ := lookEnts_some hle
          obtain ⟨E, E', ws, clock, rfl, hw, hs, hE, hd, hv, hp⟩ := r.looks hb hL
          exact ⟨E, E', ws, clock, hk, hw, hs, hE, hd, hv, entFind_perm hk hE hd hp, e2⟩
    have hy' := hy.ikey hk
    obtain ⟨lk, hlk⟩ := K.of hk
    have hchk := K.law.check w (ws.isEmpty) hlk
    have hrun : ∀ (fv : Option (Nat × Value)), (Instr.findKey k (ev G Γ y) ws.toList).run P w = .ok fv w →
        (execOp a.eval o).run P w = .ok (.value (match fv with
          | some (_, u) => if ok then .tuple #[u, .bool true] else u
          | none => if ok then .tuple #[z, .bool false] else z)) w := by
      intro fv hf
      cases fv with
      | none => cases ok <;> simp [execOp, ho, Instr.lookup, run_underlying hu, hx', hy', Go.MapKept.run_getObj_map hw, hchk, hf, hzr]
      | some u => obtain ⟨j, u⟩ := u; cases ok <;> simp [execOp, ho, Instr.lookup, run_underlying hu, hx', hy', Go.MapKept.run_getObj_map hw, hchk, hf]
    rcases key_find (w := w) K hk hs hE (fun i p e hp he => (hv i p e hp he).1) with ⟨hf, hno⟩ | ⟨j, p, e', hf, hp, he, hpk, _⟩
    · cases hef' : entFind (ev G Γ y) (flatE E') with
      | some ut =>
        obtain ⟨u, ut⟩ := ut
        obtain ⟨i, c, hi, _⟩ := entFind_some hk hE hef'
        exact absurd rfl (hno _ (List.mem_of_getElem? hi))
      | none =>
        rw [hef'] at hfe
        cases hef : entFind (ev G Γ y) (flatE E) with
        | some ut => rw [hef] at hfe; cases hfe
        | none =>
          simp only [hef] at e3
          obtain ⟨rfl, rfl, rfl⟩ := ret_some e3
          exact Does.same r (hrun none hf) (tup z z false hzVR).weak
    · cases hef' : entFind (ev G Γ y) (flatE E') with
      | none => exact absurd hpk (entFind_none hk hE hef' p (List.mem_of_getElem? hp))
      | some ut =>
        obtain ⟨u, ut⟩ := ut
        obtain ⟨i, c, hi, _⟩ := entFind_some hk hE hef'
        have : i = j := pair_uniq hd hi hp hpk.symm
        subst this
        rw [hi] at hp
        cases hp
        rw [hef'] at hfe
        cases hef : entFind (ev G Γ y) (flatE E) with
        | none => rw [hef] at hfe; cases hfe
        | some ut2 =>
          obtain ⟨u2, t2⟩ := ut2
          rw [hef] at hfe
          have hu2 : u2 = u := Option.some.inj hfe
          subst hu2
          simp only [hef] at e3
          obtain ⟨rfl, rfl, rfl⟩ := ret_some e3
          exact Does.same r (hrun _ hf) (tup u2 e'.val true (hv i _ e' hi he).2).weak

/-- The same heap, said otherwise. -/
theorem R.same {h2 : H} (r : R G ρ h w) (e : ∀ b, h.get b = h2.get b) : R G ρ h2 w :=
  ⟨fun b => by rw [← e b]; exact r.dom b, r.glob, fun b B L hb hl hL => r.blk b B L (by rw [e b]; exact hb) hl hL, fun b c B C L M hne hb hc hl hm hL hM => r.apart b c B C L M hne (by rw [e b]; exact hb) (by rw [e c]; exact hc) hl hm hL hM, fun b B L hb hm hL => r.maps b B L (by rw [e b]; exact hb) hm hL, fun b c B C L M hne hb hc h1 h2 hL hM => r.lone b c B C L M hne (by rw [e b]; exact hb) (by rw [e c]; exact hc) h1 h2 hL hM⟩
theorem Ext.same {ρ' : Map} {h1 h2 : H} {w' : World} (x : Ext ρ h w ρ' h1 w') (e : ∀ b, h1.get b = h2.get b) : Ext ρ h w ρ' h2 w' :=
  ⟨x.le, x.os, x.tape, x.output, x.size, x.frame, fun k hk ⟨b, B, L, hb, hm, hL, hk'⟩ => x.owns k hk ⟨b, B, L, by rw [e b]; exact hb, hm, hL, hk'⟩⟩

/-- One entry more. -/
theorem R.putNew (r : R G ρ h w) {b sz c : Nat} {E : List (Value × Value × Nat)} {L : Loc} {ws : Array MapEntry} {key v v' : Value} (hb : h.get b = some (mapB sz c E)) (hL : ρ b = some L) (hw : w.heap[L.blk]? = some (.map ws c)) (hs : E.length = ws.size)
    (hE : ∀ p, p ∈ E → ikey sz p.1 = true) (hd : E.Pairwise (fun p q => p.1 ≠ q.1)) (hv : ∀ (i : Nat) p e, E[i]? = some p → ws[i]? = some e → p.1 = e.key ∧ VR ρ p.2.1 e.val ∧ p.2.2 = e.born) (hk : ikey sz key = true) (hno : ∀ p, p ∈ E → p.1 ≠ key) (hvv : VR ρ v v') :
    R G ρ (h.set b (mapB sz (c + 1) (E ++ [(key, v, c)]))) { w with heap := w.heap.setIfInBounds L.blk (.map (ws.push { key := key, val := v', born := c }) (c + 1)) } ∧
      Ext ρ h w ρ (h.set b (mapB sz (c + 1) (E ++ [(key, v, c)]))) { w with heap := w.heap.setIfInBounds L.blk (.map (ws.push { key := key, val := v', born := c }) (c + 1)) } :=
  r.setMap (E' := E ++ [(key, v, c)]) (es' := ws.push { key := key, val := v', born := c }) (clock' := c + 1) hb hL hw (by simp [hs]) (fun q hq => by
      rcases List.mem_append.1 hq with hq | hq
      · exact hE q hq
      · rw [List.mem_singleton] at hq; subst hq; exact hk) (List.pairwise_append.2 ⟨hd, List.pairwise_singleton _ _, fun q hq q' hq' => by
        rw [List.mem_singleton] at hq'; subst hq'; exact hno q hq⟩) (fun i q f hq hf' => by
      by_cases hi : i < E.length
      · rw [List.getElem?_append_left hi] at hq
        rw [Array.getElem?_push, if_neg (by omega)] at hf'
        exact hv i q f hq hf'
      · have hi2 : i = E.length := by
          have := (List.getElem?_eq_some_iff.1 hq).1
          simp at this; omega
        subst hi2
        rw [hs, Array.getElem?_push, if_pos rfl] at hf'
        cases hf'
        simp at hq
        subst hq
        exact ⟨rfl, hvv, rfl⟩)

/-- One entry written. -/
theorem R.putOld (r : R G ρ h w) {b sz c j d : Nat} {E : List (Value × Value × Nat)} {L : Loc} {ws : Array MapEntry} {key v v' u : Value} {e' : MapEntry} (hb : h.get b = some (mapB sz c E)) (hL : ρ b = some L) (hw : w.heap[L.blk]? = some (.map ws c)) (hs : E.length = ws.size)
    (hE : ∀ p, p ∈ E → ikey sz p.1 = true) (hd : E.Pairwise (fun p q => p.1 ≠ q.1)) (hv : ∀ (i : Nat) p e, E[i]? = some p → ws[i]? = some e → p.1 = e.key ∧ VR ρ p.2.1 e.val ∧ p.2.2 = e.born) (hk : ikey sz key = true) (hp : E[j]? = some (key, u, d)) (he : ws[j]? = some e') (hvv : VR ρ v v') {g : MapEntry → MapEntry} (hg : g e' = { e' with key := key, val := v' }) :
    R G ρ (h.set b (mapB sz c (E.set j (key, v, d)))) { w with heap := w.heap.setIfInBounds L.blk (.map (ws.modify j g) c) } ∧
      Ext ρ h w ρ (h.set b (mapB sz c (E.set j (key, v, d)))) { w with heap := w.heap.setIfInBounds L.blk (.map (ws.modify j g) c) } := by
  have hj : j < ws.size := (Array.getElem?_eq_some_iff.1 he).1
  have hdb : d = e'.born := (hv j _ e' hp he).2.2
  refine r.setMap (E' := E.set j (key, v, d)) (es' := ws.modify j g) (clock' := c) hb hL hw (by simp [hs]) (fun q hq => by
      rcases List.mem_or_eq_of_mem_set hq with hq | hq
      · exact hE q hq
      · subst hq; exact hk) (by
      rw [List.pairwise_iff_getElem] at hd ⊢
      intro i m hi hm' him
      simp only [List.length_set] at hi hm'
      have ek : ∀ (i : Nat) (hi : i < E.length), ((E.set j (key, v, d))[i]'(by simpa using hi)).1 = E[i].1 := fun i hi => by
        rw [List.getElem_set]
        split
        · rename_i q; subst q
          obtain ⟨_, q⟩ := List.getElem?_eq_some_iff.1 hp
          rw [q]
        · rfl
      rw [ek i hi, ek m hm']
      exact hd i m hi hm' him) (fun i q f hq hf' => by
      rw [Array.getElem?_modify] at hf'
      by_cases hi : j = i
      · subst hi
        rw [if_pos rfl, he] at hf'
        simp only [Option.map_some, Option.some.injEq] at hf'
        subst hf'
        rw [List.getElem?_set, if_pos rfl, if_pos (by omega)] at hq
        cases hq
        rw [hg]
        exact ⟨rfl, hvv, hdb⟩
      · rw [if_neg hi] at hf'
        rw [List.getElem?_set, if_neg hi] at hq
        exact hv i q f hq hf')

theorem sim_insert (r : R G ρ h w) (l : Live ρ N Γ a) {t : TypeId} {x y u : Operand} (ho : o.op = .insert t x y u ∨ o.op = .mapUpdate t x y u) (e : aop P G E Γ o.op n h = some (v, n', h')) : Does P G o a w ρ h v h' := by
  have e : (match mapN P t with | some (n, _) => opInsert n (ev G Γ x) (ev G Γ y) (ev G Γ u) | none => fail) n h = some (v, n', h') := by
    rcases ho with ho | ho <;> (rw [ho] at e; exact e)
  cases hm : mapN P t with
  | none => simp only [hm] at e; cases e
  | some q =>
    obtain ⟨sz, z⟩ := q
    simp only [hm] at e
    obtain ⟨k, el, zi, hut, hkn, hzi, hzu, hz0⟩ := mapN_some hm
    have K := keyN_law hkn
    have hx := ev_sim r l x
    have hy := ev_sim r l y
    have huv := ev_sim r l u
    unfold opInsert at e
    split at e
    case h_2 => cases e
    rename_i b hxe
    rw [hxe] at hx
    obtain ⟨L, hL, hx'⟩ := hx.map_inv
    obtain ⟨cs, n1, h1, e1, e2⟩ := bnd_some e
    obtain ⟨rfl, rfl, hb⟩ := mpGet_some e1
    cases hme : mapEnts sz (ev G Γ y) cs with
    | none => simp only [hme] at e2; cases e2
    | some ces =>
      obtain ⟨clock, es⟩ := ces
      simp only [hme] at e2
      obtain ⟨rfl, hk⟩ := mapEnts_some hme
      have hy' := hy.ikey hk
      obtain ⟨E, ws, rfl, hbE, hw, hs, hE, hd, hv⟩ := r.ents hb hL
      obtain ⟨lk, hlk⟩ := K.of hk
      by_cases h1v : one (ev G Γ u) = true
      case neg => simp only [h1v, if_false] at e2; cases e2
      simp only [h1v, if_true] at e2
      have huR := huv.strict h1v
      have hchk := K.law.check w false hlk
      have hstay := K.law.stays w hlk
      rcases key_find (w := w) K hk hs hE (fun i p e hp he => (hv i p e hp he).1) with ⟨hf, hno⟩ | ⟨j, p, e', hf, hp, he, hpk, hek⟩
      · cases hef : entFind (ev G Γ y) (flatE E) with
        | some ut =>
          obtain ⟨u2, ut⟩ := ut
          obtain ⟨i, c, hi, _⟩ := entFind_some hk hE hef
          exact absurd rfl (hno _ (List.mem_of_getElem? hi))
        | none =>
          simp only [hef] at e2
          obtain ⟨_, n2, h2, e3, e4⟩ := bnd_some e2
          obtain ⟨rfl, rfl, rfl⟩ := ret_some e4
          obtain ⟨rfl, rfl⟩ := mpSet_some e3
          rw [entPut_new hk hE hno]
          obtain ⟨hr, hxt⟩ := r.putNew (key := ev G Γ y) hbE hL hw hs hE hd hv hk hno huR
          refine ⟨undef, ρ, _, .inr ⟨?_, rfl⟩, .inl (.inl rfl), hr, hxt⟩
          rcases ho with ho | ho <;> simp [execOp, ho, Instr.mapUpdate, run_underlying hut, hx', hy', Go.MapKept.run_getObj_map hw, hchk, hf, Go.MapKept.run_setObj_map _ hw]
      · cases hef : entFind (ev G Γ y) (flatE E) with
        | none => exact absurd hpk (entFind_none hk hE hef p (List.mem_of_getElem? hp))
        | some ut =>
          simp only [hef] at e2
          obtain ⟨_, n2, h2, e3, e4⟩ := bnd_some e2
          obtain ⟨rfl, rfl, rfl⟩ := ret_some e4
          obtain ⟨rfl, rfl⟩ := mpSet_some e3
          have hp' : E[j]? = some (ev G Γ y, p.2.1, p.2.2) := by rw [hp, ← hpk]
          rw [entPut_old hk hE hd hp']
          obtain ⟨hr, hxt⟩ := r.putOld (g := fun e => { e with key := ev G Γ y, val := a.eval u }) hbE hL hw hs hE hd hv hk hp' he huR rfl
          have hkey : ((ws[j]?).map (·.key)).getD (ev G Γ y) = ev G Γ y := by rw [he]; exact hek
          refine ⟨undef, ρ, _, .inr ⟨?_, rfl⟩, .inl (.inl rfl), hr, hxt⟩
          rcases ho with ho | ho <;> simp [execOp, ho, Instr.mapUpdate, run_underlying hut, hx', hy', Go.MapKept.run_getObj_map hw, hchk, hf, hkey, hstay, Go.MapKept.run_setObj_map _ hw]

theorem sim_mapEntry (r : R G ρ h w) (l : Live ρ N Γ a) {t : TypeId} {x y : Operand} (ho : o.op = .mapEntry t x y) (e : aop P G E Γ o.op n h = some (v, n', h')) : Does P G o a w ρ h v h' := by
  rw [ho] at e
  simp only [aop] at e
  cases hm : mapN P t with
  | none => simp only [hm] at e; cases e
  | some q =>
    obtain ⟨sz, z⟩ := q
    simp only [hm] at e
    obtain ⟨k, el, zi, hut, hkn, hzi, hzu, hz0⟩ := mapN_some hm
    have K := keyN_law hkn
    have hx := ev_sim r l x
    have hy := ev_sim r l y
    have hzr : (zeroValue el).run P w = .ok z w := by simp [zeroValue, typeInfo, hzi, hzu]
    have tup : ∀ (u u' : Value) (c : Int), VR ρ u u' → VR ρ (.tuple #[u, .int .i64 c]) (.tuple #[u', .int .i64 c]) := by
      intro u u' c hu
      refine .tuple _ _ rfl fun i p q hp hq => ?_
      match i, hp, hq with
      | 0, hp, hq => cases hp; cases hq; exact hu
      | 1, hp, hq => cases hp; cases hq; exact .int _ _
      | i + 2, hp, hq => simp at hp
    unfold opMapEntry at e
    split at e
    case h_2 => cases e
    rename_i b hxe
    rw [hxe] at hx
    obtain ⟨L, hL, hx'⟩ := hx.map_inv
    obtain ⟨cs, n1, h1, e1, e2⟩ := bnd_some e
    obtain ⟨rfl, rfl, hb⟩ := mpGet_some e1
    cases hme : mapEnts sz (ev G Γ y) cs with
    | none => simp only [hme] at e2; cases e2
    | some ces =>
      obtain ⟨clock, es⟩ := ces
      simp only [hme] at e2
      obtain ⟨rfl, hk⟩ := mapEnts_some hme
      have hy' := hy.ikey hk
      obtain ⟨E, ws, rfl, hbE, hw, hs, hE, hd, hv⟩ := r.ents hb hL
      obtain ⟨lk, hlk⟩ := K.of hk
      have hchk := K.law.check w false hlk
      have hstay := K.law.stays w hlk
      rcases key_find (w := w) K hk hs hE (fun i p e hp he => (hv i p e hp he).1) with ⟨hf, hno⟩ | ⟨j, p, e', hf, hp, he, hpk, hek⟩
      · cases hef : entFind (ev G Γ y) (flatE E) with
        | some ut =>
          obtain ⟨u2, ut⟩ := ut
          obtain ⟨i, c, hi, _⟩ := entFind_some hk hE hef
          exact absurd rfl (hno _ (List.mem_of_getElem? hi))
        | none =>
          simp only [hef] at e2
          obtain ⟨_, n2, h2, e3, e4⟩ := bnd_some e2
          obtain ⟨rfl, rfl, rfl⟩ := ret_some e4
          obtain ⟨rfl, rfl⟩ := mpSet_some e3
          rw [entPut_new hk hE hno]
          obtain ⟨hr, hxt⟩ := r.putNew (key := ev G Γ y) hbE hL hw hs hE hd hv hk hno (VR.of_okC0 hz0)
          refine ⟨.tuple #[z, .int .i64 clock], ρ, _, .inl ?_, (tup z z clock (VR.of_okC0 hz0)).weak, hr, hxt⟩
          simp [execOp, ho, Instr.mapEntry, run_underlying hut, hx', hy', Go.MapKept.run_getObj_map hw, hchk, hf, hzr, goInt, Go.MapKept.run_setObj_map _ hw]
      · cases hef : entFind (ev G Γ y) (flatE E) with
        | none => exact absurd hpk (entFind_none hk hE hef p (List.mem_of_getElem? hp))
        | some ut =>
          obtain ⟨u2, ut⟩ := ut
          obtain ⟨i, c, hi, rfl⟩ := entFind_some hk hE hef
          have : i = j := pair_uniq hd hi hp hpk.symm
          subst this
          rw [hi] at hp
          cases hp
          simp only [hef] at e2
          obtain ⟨rfl, rfl, rfl⟩ := ret_some e2
          obtain ⟨hkk, hvr, hbn⟩ := hv i _ e' hi he
          have hkey : ((ws[i]?).map (·.key)).getD (ev G Γ y) = ev G Γ y := by rw [he]; exact hek
          have hborn : ((ws[i]?).map (·.born)).getD 0 = c := by rw [he]; exact hbn.symm
          obtain ⟨hr, hxt⟩ := r.putOld (v := u2) (v' := e'.val) (g := fun e => { e with key := ev G Γ y }) hbE hL hw hs hE hd hv hk hi he hvr rfl
          have hset : E.set i (ev G Γ y, u2, c) = E := by
            apply List.ext_getElem?
            intro m
            rw [List.getElem?_set]
            split
            · rename_i q; subst q
              rw [if_pos (List.getElem?_eq_some_iff.1 hi).1, hi]
            · rfl
          rw [hset] at hr hxt
          have hsame : ∀ q, (h'.set b (mapB sz clock E)).get q = h'.get q := fun q => by
            rw [H.get_set]
            split
            · rename_i q; subst q; exact hbE.symm
            · rfl
          refine ⟨.tuple #[e'.val, .int .i64 c], ρ, _, .inl ?_, (tup u2 e'.val c hvr).weak, hr.same hsame, hxt.same hsame⟩
          · simp [execOp, ho, Instr.mapEntry, run_underlying hut, hx', hy', Go.MapKept.run_getObj_map hw, hchk, hf, hkey, hstay, goInt, Go.MapKept.run_setObj_map _ hw]
            rw [he]
            show ((e'.born : Nat) : Int) = (c : Int)
            rw [← hbn]

theorem stampIs_iff {s : Int} {c : Nat} : stampIs s (.int .i64 c) = true ↔ (c : Int) = s := by simp [stampIs]

theorem entSet_some {s : Int} {v : Value} : ∀ {E : List (Value × Value × Nat)} {es' : List Value}, entSet s v (flatE E) = some es' → ∃ (j : Nat) (k u : Value) (d : Nat), E[j]? = some (k, u, d) ∧ (d : Int) = s ∧ (∀ i, i < j → ∀ p, E[i]? = some p → ¬ (p.2.2 : Int) = s) ∧ es' = flatE (E.set j (k, v, d))
  | [], _, h => by cases h
  | (a, b, c) :: r, es', h => by
    simp only [flatE, entSet] at h
    split at h
    · rename_i q
      cases h
      exact ⟨0, a, b, c, rfl, stampIs_iff.1 q, fun i hi => by omega, rfl⟩
    · rename_i q
      cases hr : entSet s v (flatE r) with
      | none => simp [hr] at h
      | some l =>
        simp only [hr, Option.map_some, Option.some.injEq] at h
        subst h
        obtain ⟨j, k, u, d, h1, h2, h3, rfl⟩ := entSet_some hr
        refine ⟨j + 1, k, u, d, by simpa using h1, h2, fun i hi p hp => ?_, by simp [flatE]⟩
        cases i with
        | zero => simp at hp; subst hp; exact fun e => q (stampIs_iff.2 e)
        | succ i => exact h3 i (by omega) p (by simpa using hp)

theorem sim_entryStore (r : R G ρ h w) (l : Live ρ N Γ a) {t : TypeId} {x y u : Operand} (ho : o.op = .entryStore t x y u) (e : aop P G E Γ o.op n h = some (v, n', h')) : Does P G o a w ρ h v h' := by
  rw [ho] at e
  simp only [aop] at e
  have hx := ev_sim r l x
  have hy := ev_sim r l y
  have huv := ev_sim r l u
  unfold opEntryStore at e
  split at e
  case h_2 => cases e
  rename_i b s hxe hye
  rw [hxe] at hx
  rw [hye] at hy
  obtain ⟨L, hL, hx'⟩ := hx.map_inv
  have hy' := hy.int_inv
  obtain ⟨cs, n1, h1, e1, e2⟩ := bnd_some e
  obtain ⟨rfl, rfl, hb⟩ := mpGet_some e1
  split at e2
  case h_2 => cases e2
  rename_i c0 c1 es
  cases hes : entSet s (ev G Γ u) es with
  | none => simp only [hes] at e2; cases e2
  | some es' =>
    simp only [hes] at e2
    split at e2
    case isFalse => cases e2
    rename_i h1v
    have huR := huv.strict h1v
    obtain ⟨_, n2, h2, e3, e4⟩ := bnd_some e2
    obtain ⟨rfl, rfl, rfl⟩ := ret_some e4
    obtain ⟨rfl, rfl⟩ := mpSet_some e3
    rcases (r.maps b _ L hb ⟨rfl, rfl⟩ hL).obj with ⟨sz, E, ws, clock, g1, hw, hs, hE, hd, hv⟩ | ⟨m, since, last, seen, Lm, g1, _⟩ | ⟨g1, _⟩ | ⟨_, _, _, _, _, g1, _⟩
    case inr.inl => unfold iterB at g1; simp at g1
    case inr.inr.inl => unfold iterNB at g1; simp at g1
    case inr.inr.inr => unfold lookB at g1; simp at g1
    unfold mapB at g1
    simp only [Blk.mk.injEq, List.cons.injEq, true_and, and_true, Value.int.injEq] at g1
    obtain ⟨rfl, rfl, rfl⟩ := g1
    obtain ⟨j, k, u0, d, hj, hds, hmin, rfl⟩ := entSet_some hes
    have hjE : j < E.length := (List.getElem?_eq_some_iff.1 hj).1
    have hjw : j < ws.size := by omega
    have he : ws[j]? = some ws[j] := Array.getElem?_eq_getElem hjw
    obtain ⟨hkk, hvr, hbn⟩ := hv j _ _ hj he
    have hfind : ws.findIdx? (fun e => (e.born : Int) == s) = some j := by
      rw [Array.findIdx?_eq_some_iff_getElem]
      refine ⟨hjw, ?_, fun i hi => ?_⟩
      · rw [beq_iff_eq, ← hbn]; exact hds
      · have hiE : i < E.length := by omega
        have := hmin i hi _ (List.getElem?_eq_getElem hiE)
        have hb2 := (hv i _ _ (List.getElem?_eq_getElem hiE) (Array.getElem?_eq_getElem (show i < ws.size by omega))).2.2
        rw [hb2] at this
        simpa using this
    obtain ⟨hr, hxt⟩ := r.putOld (v := ev G Γ u) (v' := a.eval u) (g := fun e => { e with val := a.eval u }) hb hL hw hs hE hd hv (hE _ (List.mem_of_getElem? hj)) hj he huR (by rw [hkk])
    refine ⟨undef, ρ, _, .inr ⟨?_, rfl⟩, .inl (.inl rfl), hr, hxt⟩
    simp [execOp, ho, Instr.entryStore, hx', hy', asInt, asIntOf, Go.MapKept.run_getObj_map hw, hfind, Go.MapKept.run_setObj_map _ hw]
end
end Go.Fw
end
section
namespace Go.Fw

theorem entDel_new {n : Nat} {key : Value} (hk : ikey n key = true) : ∀ {E : List (Value × Value × Nat)}, (∀ p, p ∈ E → ikey n p.1 = true) → (∀ p, p ∈ E → p.1 ≠ key) → entDel key (flatE E) = flatE E
  | [], _, _ => rfl
  | (a, b, c) :: r, hE, h => by
    have hne : ¬ keq key a = true := fun q => h (a, b, c) (by simp) ((keq_iff hk (hE (a, b, c) (by simp))).1 q).symm
    simp only [flatE, entDel]
    rw [if_neg hne, entDel_new hk (fun p hp => hE p (by simp [hp])) fun p hp => h p (by simp [hp])]

theorem entDel_old {n : Nat} {key : Value} (hk : ikey n key = true) : ∀ {E : List (Value × Value × Nat)} {j : Nat} {u : Value} {d : Nat}, (∀ p, p ∈ E → ikey n p.1 = true) → E.Pairwise (fun p q => p.1 ≠ q.1) → E[j]? = some (key, u, d) → entDel key (flatE E) = flatE (E.eraseIdx j)
  | [], j, _, _, _, _, h => by simp at h
  | (a, b, c) :: r, 0, u, d, hE, _, h => by
    simp only [List.getElem?_cons_zero, Option.some.injEq, Prod.mk.injEq] at h
    obtain ⟨rfl, rfl, rfl⟩ := h
    simp only [flatE, entDel, List.eraseIdx_zero, List.tail_cons]
    rw [if_pos ((keq_iff hk hk).2 rfl)]
  | (a, b, c) :: r, j + 1, u, d, hE, hd, h => by
    rw [List.getElem?_cons_succ] at h
    have hm := List.mem_of_getElem? h
    have hne : ¬ keq key a = true := fun q => (List.pairwise_cons.1 hd).1 _ hm ((keq_iff hk (hE (a, b, c) (by simp))).1 q).symm
    simp only [flatE, entDel, List.eraseIdx_cons_succ]
    rw [if_neg hne, entDel_old hk (fun p hp => hE p (by simp [hp])) (List.pairwise_cons.1 hd).2 h]

section
variable {P : Program} {G : Nat} {ρ : Map} {h : H} {w : World} {N : Nat} {Γ : List (Nat × Value)} {a : Act} {E : Env} {n n' : Nat} {h' : H} {v : Value} {o : Oper}

theorem sim_delete (r : R G ρ h w) (l : Live ρ N Γ a) {c : Call} (ho : o.op = .call c) (hc : c.callee = .builtin .delete) (e : aop P G E Γ o.op n h = some (v, n', h')) : Does P G o a w ρ h v h' := by
  rw [ho] at e
  simp only [aop, hc] at e
  split at e
  case h_2 => cases e
  rename_i t t2 x y hta hxa
  have hta' : c.argTypes = #[t, t2] := by apply Array.toList_inj.1; simpa using hta
  have hxa' : c.args = #[x, y] := by apply Array.toList_inj.1; simpa using hxa
  cases hm : mapN P t with
  | none => simp only [hm] at e; cases e
  | some q =>
    obtain ⟨sz, z⟩ := q
    simp only [hm] at e
    obtain ⟨k, el, zi, hut, hkn, hzi, hzu, hz0⟩ := mapN_some hm
    have K := keyN_law hkn
    have hx := ev_sim r l x
    have hy := ev_sim r l y
    unfold opDelete at e
    split at e
    case h_3 => cases e
    case h_2 =>
      rename_i hxe
      rw [hxe] at hx
      have hx' := hx.nilmap_inv
      split at e
      case isFalse => cases e
      rename_i hk
      obtain ⟨rfl, rfl, rfl⟩ := ret_some e
      have hy' := hy.ikey hk
      obtain ⟨lk, hlk⟩ := K.of hk
      have hchk := K.law.check w true hlk
      refine Does.same r (v' := .tuple #[]) ?_ (.inl (.inl rfl))
      simp [execOp, ho, resolve, hc, hta', hxa', invoke, builtin, Builtin.delete_, run_underlying hut, hx', hy', hchk]
    rename_i b hxe
    rw [hxe] at hx
    obtain ⟨L, hL, hx'⟩ := hx.map_inv
    obtain ⟨cs, n1, h1, e1, e2⟩ := bnd_some e
    obtain ⟨rfl, rfl, hb⟩ := mpGet_some e1
    cases hme : mapEnts sz (ev G Γ y) cs with
    | none => simp only [hme] at e2; cases e2
    | some ces =>
      obtain ⟨clock, es⟩ := ces
      simp only [hme] at e2
      obtain ⟨rfl, hk⟩ := mapEnts_some hme
      have hy' := hy.ikey hk
      obtain ⟨E, ws, rfl, hbE, hw, hs, hE, hd, hv⟩ := r.ents hb hL
      obtain ⟨lk, hlk⟩ := K.of hk
      obtain ⟨_, n2, h2, e3, e4⟩ := bnd_some e2
      obtain ⟨rfl, rfl, rfl⟩ := ret_some e4
      obtain ⟨rfl, rfl⟩ := mpSet_some e3
      have hchk := K.law.check w ws.isEmpty hlk
      rcases key_find (w := w) K hk hs hE (fun i p e hp he => (hv i p e hp he).1) with ⟨hf, hno⟩ | ⟨j, p, e', hf, hp, he, hpk, hek⟩
      · rw [entDel_new hk hE hno]
        obtain ⟨hr, hxt⟩ := r.setMap (E' := E) (es' := ws) (clock' := clock) hbE hL hw hs hE hd hv
        refine ⟨.tuple #[], ρ, _, .inl ?_, .inl (.inl rfl), hr, hxt⟩
        simp [execOp, ho, resolve, hc, hta', hxa', invoke, builtin, Builtin.delete_, run_underlying hut, hx', hy', Go.MapKept.run_getObj_map hw, hchk, hf, Go.MapKept.run_setObj_map _ hw]
      · have hp' : E[j]? = some (ev G Γ y, p.2.1, p.2.2) := by rw [hp, ← hpk]
        rw [entDel_old hk hE hd hp']
        have hj : j < ws.size := (Array.getElem?_eq_some_iff.1 he).1
        have hws : (ws.eraseIdxIfInBounds j).toList = ws.toList.eraseIdx j := by
          unfold Array.eraseIdxIfInBounds
          rw [dif_pos hj]
          simp
        have hsz : (ws.eraseIdxIfInBounds j).size = ws.size - 1 := by
          rw [← Array.length_toList, hws, List.length_eraseIdx, if_pos (by simpa using hj), Array.length_toList]
        obtain ⟨hr, hxt⟩ := r.setMap (E' := E.eraseIdx j) (es' := ws.eraseIdxIfInBounds j) (clock' := clock) hbE hL hw (by rw [hsz, List.length_eraseIdx, if_pos (by omega), hs]) (fun q hq => hE q ((List.eraseIdx_sublist _ _).subset hq)) (hd.sublist (List.eraseIdx_sublist _ _)) (fun i q f hq hf' => by
            have hf2 : (ws.toList.eraseIdx j)[i]? = some f := by rw [← hws, Array.getElem?_toList]; exact hf'
            rw [List.getElem?_eraseIdx] at hq hf2
            split at hq
            · rename_i hi; rw [if_pos hi] at hf2; exact hv i q f hq (by simpa using hf2)
            · rename_i hi; rw [if_neg hi] at hf2; exact hv (i + 1) q f hq (by simpa using hf2))
        refine ⟨.tuple #[], ρ, _, .inl ?_, .inl (.inl rfl), hr, hxt⟩
        simp [execOp, ho, resolve, hc, hta', hxa', invoke, builtin, Builtin.delete_, run_underlying hut, hx', hy', Go.MapKept.run_getObj_map hw, hchk, hf, Go.MapKept.run_setObj_map _ hw]

theorem sim_makeInterface (r : R G ρ h w) (l : Live ρ N Γ a) {t : TypeId} {x : Operand} (ho : o.op = .makeInterface t x) (e : aop P G E Γ o.op n h = some (v, n', h')) : Does P G o a w ρ h v h' := by
  rw [ho] at e
  simp only [aop] at e
  have hx := ev_sim r l x
  cases hu : P.underlying t with
  | none => simp only [hu] at e; cases e
  | some d =>
    have key : opIface t (ev G Γ x) n h = some (v, n', h') → (∀ ms, d ≠ .interface ms) → Does P G o a w ρ h v h' := by
      intro e hd
      unfold opIface at e
      split at e
      case isFalse => cases e
      rename_i h1
      obtain ⟨rfl, rfl, rfl⟩ := ret_some e
      have hr := hx.strict h1
      refine Does.same r (v' := .iface t (a.eval x)) ?_ (VR.weak (.iface t _ _ hr))
      cases d <;> first
        | (simp [execOp, ho, Instr.makeInterface, run_underlying hu]; done)
        | exact absurd rfl (hd _)
    cases d <;> simp only [hu] at e <;> first
      | (cases e; done)
      | exact key e (fun ms h => by cases h)

theorem sim_clear (r : R G ρ h w) (l : Live ρ N Γ a) {c : Call} (ho : o.op = .call c) (hc : c.callee = .builtin .clear) (e : aop P G E Γ o.op n h = some (v, n', h')) : Does P G o a w ρ h v h' := by
  rw [ho] at e
  simp only [aop, hc] at e
  split at e
  case h_2 => cases e
  rename_i t x hta hxa
  have hta' : c.argTypes = #[t] := by apply Array.toList_inj.1; simpa using hta
  have hxa' : c.args = #[x] := by apply Array.toList_inj.1; simpa using hxa
  split at e
  case h_2 => cases e
  rename_i el hu
  cases hz : zeroL P el with
  | none => simp only [hz] at e; cases e
  | some z =>
    simp only [hz] at e
    obtain ⟨zi, zu, hzi, hzu, hzc, hzs, hzv, hz1⟩ := zeroL_some (ρ := ρ) hz
    have hx := ev_sim r l x
    unfold opClear at e
    split at e
    case h_3 => cases e
    case h_1 =>
      rename_i k cp hxe
      rw [hxe] at hx
      obtain ⟨rfl, rfl, hx'⟩ := hx.nilslice_inv
      obtain ⟨rfl, rfl, rfl⟩ := ret_some e
      refine Does.same r (v' := .tuple #[]) ?_ (.inl (.inl rfl))
      simp [execOp, ho, resolve, hc, hta', hxa', invoke, builtin, Builtin.clear_, run_underlying hu, hx']
    rename_i b ob k cp hxe
    rw [hxe] at hx
    obtain ⟨b', ob', L, a', cap', hbe, hL, hx', hsl⟩ := hx.slice_inv
    cases hbe
    split at e
    · rename_i hk0
      subst hk0
      obtain ⟨rfl, rfl, rfl⟩ := ret_some e
      refine Does.same r (v' := .tuple #[]) ?_ (.inl (.inl rfl))
      simp [execOp, ho, resolve, hc, hta', hxa', invoke, builtin, Builtin.clear_, run_underlying hu, hx']
    · rename_i hk0
      obtain ⟨_, n1, h1, e1, e2⟩ := bnd_some e
      obtain ⟨rfl, rfl, rfl⟩ := ret_some e2
      have hle := hsl.le
      have ha := hsl.at_ (by omega)
      subst ha
      obtain ⟨rfl, L', hL', hr, hex, hcells, hfz, hone⟩ := r.wrN e1 (hzv.rep k)
      rw [hL] at hL'
      cases hL'
      have hmade : (Builtin.zeroCells zu.cells k).toList = rep k z := by
        rw [← hzc]; exact made_cells zu.cells k
      have hst := run_storeCells_cells (P := P) L.blk (L.off + ob) (rep k z) 0 w (by simpa using hcells) (fun j _ => hfz _) hone
      simp only [Nat.add_zero] at hst
      refine ⟨.tuple #[], ρ, _, .inl ?_, .inl (.inl rfl), hr, hex⟩
      obtain ⟨k, rfl⟩ : ∃ j, k = j + 1 := ⟨k - 1, by omega⟩
      simp [execOp, ho, resolve, hc, hta', hxa', invoke, builtin, Builtin.clear_, run_underlying hu, hx', zeroValue, typeInfo, hzi, hzu, hmade, hst]
end
end Go.Fw
end
section
namespace Go.Fw

section
variable {P : Program} {G : Nat} {ρ : Map} {h : H} {w : World} {N : Nat} {Γ : List (Nat × Value)} {a : Act} {E : Env} {n n' : Nat} {h' : H} {v : Value} {o : Oper}

theorem sim_range (r : R G ρ h w) (l : Live ρ N Γ a) {t k el : TypeId} {x : Operand} (ho : o.op = .range t x) (hu : P.underlying t = some (.map k el)) (e : opRange (ev G Γ x) n h = some (v, n', h')) : Does P G o a w ρ h v h' := by
  have hx := ev_sim r l x
  unfold opRange at e
  split at e
  case h_3 => cases e
  · rename_i hxe
    rw [hxe] at hx
    have hx' := hx.nilmap_inv
    obtain ⟨i, n1, h1, e1, e2⟩ := bnd_some e
    obtain ⟨rfl, rfl, rfl⟩ := ret_some e2
    obtain ⟨hr, hxt⟩ := r.newObj (o' := .mapIter none 0 #[] 0) e1 ⟨rfl, rfl⟩ ⟨.inr (.inr (.inl ⟨rfl, heap_alloc_new w _, rfl⟩))⟩
    refine ⟨.pointer (some ⟨w.heap.size, 0, none⟩), _, _, .inl ?_, VR.weak (.ptr i 0 ⟨w.heap.size, 0, 0⟩ (Map.add_same _ _ _)), hr, hxt⟩
    simp [execOp, ho, Instr.range, run_underlying hu, hx']
  · rename_i b hxe
    rw [hxe] at hx
    obtain ⟨L, hL, hx'⟩ := hx.map_inv
    obtain ⟨cs, n1, h1, e1, e2⟩ := bnd_some e
    obtain ⟨rfl, rfl, hb⟩ := mpGet_some e1
    split at e2
    case h_2 => cases e2
    rename_i sz c es
    obtain ⟨i, n2, h2, e3, e4⟩ := bnd_some e2
    obtain ⟨rfl, rfl, rfl⟩ := ret_some e4
    rcases (r.maps b _ L hb ⟨rfl, rfl⟩ hL).obj with ⟨sz2, E2, ws, clock, g1, g2, _⟩ | ⟨m, since, last, seen, Lm, g1, _⟩ | ⟨g1, _⟩ | ⟨_, _, _, _, _, g1, _⟩
    case inr.inl => unfold iterB at g1; simp at g1
    case inr.inr.inl => unfold iterNB at g1; simp at g1
    case inr.inr.inr => unfold lookB at g1; simp at g1
    unfold mapB at g1
    simp only [Blk.mk.injEq, List.cons.injEq, Value.int.injEq, true_and, and_true] at g1
    obtain ⟨_, hc, _⟩ := g1
    have hc' : c = clock := Int.ofNat.inj hc
    subst hc'
    have hne : h1.get i = none := by rw [(new_some e3).1]; exact (new_some e3).2.2.1
    obtain ⟨hr, hxt⟩ := r.newObj (o' := .mapIter (some L.blk) c #[] c) e3 ⟨rfl, rfl⟩ ⟨.inr (.inl ⟨b, c, c, [], L, rfl, Map.add_le _ (r.fresh hne) _ _ hL, heap_alloc_new w _, rfl⟩)⟩
    refine ⟨.pointer (some ⟨w.heap.size, 0, none⟩), _, _, .inl ?_, VR.weak (.ptr i 0 ⟨w.heap.size, 0, 0⟩ (Map.add_same _ _ _)), hr, hxt⟩
    simp [execOp, ho, Instr.range, run_underlying hu, hx', Go.MapKept.run_getObj_map g2]
end
end Go.Fw
end
section
set_option linter.unusedVariables false
namespace Go.Fw
open Go.ChangeMaps (setBlock)

/-! ## A step of a walk -/

theorem seen_inj : ∀ {a b : List Nat}, a.map (fun t : Nat => Value.int .u64 t) = b.map (fun t : Nat => Value.int .u64 t) → a = b
  | [], [], _ => rfl
  | [], _ :: _, h => by simp at h
  | _ :: _, [], h => by simp at h
  | x :: a, y :: b, h => by
    simp only [List.map_cons, List.cons.injEq, Value.int.injEq, true_and] at h
    rw [Int.ofNat.inj h.1, seen_inj h.2]
theorem wf64_int {v : Value} (h : wf64 v = true) : ∃ z, v = .int .i64 z := by
  unfold wf64 at h
  split at h
  · exact ⟨_, rfl⟩
  · cases h
theorem ikey_VR {ρ : Map} {n : Nat} {v : Value} (h : ikey n v = true) : VR ρ v v := by
  unfold ikey at h
  split at h
  · obtain ⟨z, rfl⟩ := wf64_int h
    exact .int _ _
  · rename_i k cs
    rw [Bool.and_eq_true] at h
    refine .agg cs cs rfl fun i v v' hv hv' => ?_
    rw [hv] at hv'
    cases hv'
    obtain ⟨z, rfl⟩ := wf64_int (List.all_eq_true.1 h.2 v (Array.mem_toList_iff.2 (Array.mem_of_getElem? hv)))
    exact .int _ _
  · cases h

/-- What a map's block says of its object. -/
theorem R.mapObj {G : Nat} {ρ : Map} {h : H} {w : World} (r : R G ρ h w) {m sz c : Nat} {E : List (Value × Value × Nat)} (hm : h.get m = some (mapB sz c E)) {Lm : Loc} (hL : ρ m = some Lm) :
    ∃ es : Array MapEntry, w.heap[Lm.blk]? = some (.map es c) ∧ E.length = es.size ∧ ∀ (i : Nat) p e, E[i]? = some p → es[i]? = some e → p.1 = e.key ∧ VR ρ p.1 e.key ∧ VR ρ p.2.1 e.val ∧ p.2.2 = e.born := by
  rcases (r.maps m _ Lm hm (isMap_mapB sz c E) hL).obj with ⟨n, E2, es, clock, e1, e2, e3, e4, e5, e6⟩ | ⟨m2, since, last, seen, L2, e1, _⟩ | ⟨e1, _⟩ | ⟨_, _, _, _, _, e1, _⟩
  · unfold mapB at e1
    simp only [Blk.mk.injEq, List.cons.injEq, Value.int.injEq, true_and, and_true] at e1
    obtain ⟨_, hc, hE⟩ := e1
    have hc' : c = clock := Int.ofNat.inj hc
    subst hc'
    have hEE : E = E2 := flatE_inj hE
    subst hEE
    refine ⟨es, e2, e3, fun i p e hp he => ?_⟩
    obtain ⟨q1, q2, q3⟩ := e6 i p e hp he
    exact ⟨q1, q1 ▸ ikey_VR (e4 p (List.mem_of_getElem? hp)), q2, q3⟩
  · unfold mapB iterB at e1; simp at e1
  · unfold mapB iterNB at e1; simp at e1
  · unfold mapB lookB at e1; simp at e1
theorem R.iterObj {G : Nat} {ρ : Map} {h : H} {w : World} (r : R G ρ h w) {i m since last : Nat} {seen : List Nat} (hi : h.get i = some (iterB m since last seen)) {Li Lm : Loc} (hL : ρ i = some Li) (hM : ρ m = some Lm) :
    w.heap[Li.blk]? = some (.mapIter (some Lm.blk) since seen.toArray last) := by
  rcases (r.maps i _ Li hi (isMap_iterB m since last seen) hL).obj with ⟨n, E2, es, clock, e1, _⟩ | ⟨m2, s2, l2, sn2, L2, e1, e2, e3, _⟩ | ⟨e1, _⟩ | ⟨_, _, _, _, _, e1, _⟩
  · unfold mapB iterB at e1; simp at e1
  · unfold iterB at e1
    simp only [Blk.mk.injEq, List.cons.injEq, Value.int.injEq, true_and, and_true] at e1
    obtain ⟨h1, h2, h3, h4⟩ := e1
    have h1 : m = m2 := Int.ofNat.inj h1
    have h2 : since = s2 := Int.ofNat.inj h2
    have h3 : last = l2 := Int.ofNat.inj h3
    subst h1 h2 h3
    rw [hM] at e2
    cases e2
    have h4 : seen = sn2 := seen_inj h4
    subst h4
    exact e3
  · unfold iterNB iterB at e1; simp at e1
  · unfold lookB iterB at e1; simp at e1

/-- The entries of a map, by when they were born. -/
def borns (E : List (Value × Value × Nat)) : List Nat := E.map (·.2.2)

theorem next_sim {P : Program} {G : Nat} {ρ : Map} {h : H} {w : World} (r : R G ρ h w) {i m sz c last : Nat} {Li : Loc} {seen : List Nat} {E : List (Value × Value × Nat)} (hi : h.get i = some (iterB m c last seen)) (hm : h.get m = some (mapB sz c E)) (hL : ρ i = some Li) (hoff : Li.off = 0)
    (hold : ∀ p, p ∈ E → p.2.2 < c) (hlast : c ≤ last) (ty : TypeId) :
    ((∀ t, t ∈ borns E → t ∈ seen) ∧ (Instr.next (.pointer (some ⟨Li.blk, 0, none⟩)) false ty).run P w = .ok (.tuple #[.bool false]) w) ∨
    ∃ k v t v' w', (k, v, t) ∈ E ∧ t ∉ seen ∧ (Instr.next (.pointer (some ⟨Li.blk, 0, none⟩)) false ty).run P w = .ok v' w' ∧ R G ρ (h.set i (iterB m c c (seen ++ [t]))) w' ∧ Ext ρ h w ρ (h.set i (iterB m c c (seen ++ [t]))) w' ∧ (∃ a b, v' = .tuple #[.bool true, a, b]) ∧ VR ρ (.tuple #[.bool true, k, v]) v' := by
  obtain ⟨Lm, hLm⟩ : ∃ L, ρ m = some L := by
    have := r.dom m
    rw [hm] at this
    cases hq : ρ m with
    | none => rw [hq] at this; cases this
    | some L => exact ⟨L, rfl⟩
  obtain ⟨es, hes, hsz, hall⟩ := r.mapObj hm hLm
  have hit := r.iterObj hi hL hLm
  have born : ∀ x : MapEntry, x ∈ es.toList → ∃ (j : Nat) (p : Value × Value × Nat), E[j]? = some p ∧ es[j]? = some x ∧ p.2.2 = x.born := by
    intro x hx
    obtain ⟨j, hj⟩ := List.mem_iff_getElem?.1 hx
    have hj' : es[j]? = some x := by simpa using hj
    have hlt : j < E.length := by rw [hsz]; exact (Array.getElem?_eq_some_iff.1 hj').1
    exact ⟨j, E[j], List.getElem?_eq_getElem hlt, hj', (hall j _ _ (List.getElem?_eq_getElem hlt) hj').2.2.2⟩
  rcases run_next_at (P := P) w ty Li.blk Lm.blk c last seen.toArray es c hit hes (fun x hx => by
      obtain ⟨j, p, hp, _, hb⟩ := born x hx
      rw [← hb]; exact hold p (List.mem_of_getElem? hp)) hlast with ⟨h0, hr⟩ | ⟨e, he, w1, hw1, hr⟩
  · refine .inl ⟨fun t ht => ?_, hr⟩
    obtain ⟨p, hp, rfl⟩ := List.mem_map.1 ht
    obtain ⟨j, hj⟩ := List.mem_iff_getElem?.1 hp
    have hlt : j < es.size := by rw [← hsz]; exact (List.getElem?_eq_some_iff.1 hj).1
    have hb := (hall j p es[j] hj (Array.getElem?_eq_getElem hlt)).2.2.2
    by_cases hin : p.2.2 ∈ seen
    · exact hin
    · exfalso
      have hmem : es[j] ∈ leftOf es seen.toArray := by
        unfold leftOf
        rw [Array.mem_filter]
        refine ⟨Array.getElem_mem hlt, ?_⟩
        simp only [Bool.not_eq_true', Array.contains_eq_mem, List.mem_toArray, decide_eq_false_iff_not]
        rw [← hb]; exact hin
      have : leftOf es seen.toArray = #[] := Array.eq_empty_of_size_eq_zero h0
      rw [this] at hmem
      simp at hmem
  · right
    have he' : e ∈ leftOf es seen.toArray := Array.mem_toList_iff.1 he
    unfold leftOf at he'
    rw [Array.mem_filter] at he'
    obtain ⟨he1, he2⟩ := he'
    obtain ⟨j, p, hp, hj, hb⟩ := born e (Array.mem_toList_iff.2 he1)
    obtain ⟨k, v, t⟩ := p
    have hb : t = e.born := hb
    subst hb
    have hns : e.born ∉ seen := by
      simp only [Bool.not_eq_true', Array.contains_eq_mem, List.mem_toArray, decide_eq_false_iff_not] at he2
      exact he2
    have r1 : R G ρ h w1 ∧ Ext ρ h w ρ h w1 := by
      rcases hw1 with rfl | rfl
      · exact ⟨r, Ext.refl _ _ _⟩
      · exact ⟨r.drew, Ext.drew _ _ _⟩
    have hset := r1.1.setObj (o' := .mapIter (some Lm.blk) c (seen.toArray.push e.born) c) (B' := iterB m c c (seen ++ [e.born])) hi (isMap_iterB _ _ _ _) (isMap_iterB _ _ _ _) hL ⟨.inr (.inl ⟨m, c, c, seen ++ [e.born], Lm, rfl, hLm, ?_, hoff⟩)⟩
    · refine ⟨k, v, e.born, _, _, List.mem_of_getElem? hp, hns, hr, hset.1, r1.2.trans hset.2, ⟨_, _, rfl⟩, .tuple _ _ rfl fun x u u' hu hu' => ?_⟩
      match x, hu, hu' with
      | 0, hu, hu' => cases hu; cases hu'; exact .bool _
      | 1, hu, hu' => cases hu; cases hu'; exact (hall j _ _ hp hj).2.1
      | 2, hu, hu' => cases hu; cases hu'; exact (hall j _ _ hp hj).2.2.1
      | x + 3, hu, hu' => simp at hu
    · have hlt : Li.blk < w1.heap.size := by
        have : Li.blk < w.heap.size := (Array.getElem?_eq_some_iff.1 hit).1
        rcases hw1 with rfl | rfl <;> exact this
      show (w1.heap.setIfInBounds Li.blk _)[Li.blk]? = _
      rw [Array.getElem?_setIfInBounds, if_pos rfl, if_pos hlt]
      simp

theorem entry_sim {P : Program} {G : Nat} {ρ : Map} {h : H} {w : World} (r : R G ρ h w) {i m sz c t : Nat} {Li : Loc} {seen : List Nat} {E : List (Value × Value × Nat)} {k v : Value} (hi : h.get i = some (iterB m c c (seen ++ [t]))) (hm : h.get m = some (mapB sz c E)) (hL : ρ i = some Li)
    (hE : (k, v, t) ∈ E) (hnd : (borns E).Nodup) :
    ∃ v', (Instr.entry (.pointer (some ⟨Li.blk, 0, none⟩))).run P w = .ok v' w ∧ VR ρ (.tuple #[k, v]) v' := by
  obtain ⟨Lm, hLm⟩ : ∃ L, ρ m = some L := by
    have := r.dom m
    rw [hm] at this
    cases hq : ρ m with
    | none => rw [hq] at this; cases this
    | some L => exact ⟨L, rfl⟩
  obtain ⟨es, hes, hsz, hall⟩ := r.mapObj hm hLm
  have hit := r.iterObj hi hL hLm
  obtain ⟨j, hj⟩ := List.mem_iff_getElem?.1 hE
  have hlt : j < es.size := by rw [← hsz]; exact (List.getElem?_eq_some_iff.1 hj).1
  obtain ⟨h1, h2, h3, h4⟩ := hall j _ es[j] hj (Array.getElem?_eq_getElem hlt)
  have hb : t = es[j].born := h4
  have hnd' : (es.toList.map (·.born)).Nodup := by
    have : es.toList.map (·.born) = borns E := by
      apply List.ext_getElem?
      intro x
      unfold borns
      rw [List.getElem?_map, List.getElem?_map]
      cases hx : E[x]? with
      | none =>
        have : es.toList[x]? = none := by
          rw [List.getElem?_eq_none_iff] at hx ⊢
          simpa [← hsz] using hx
        rw [this]; rfl
      | some p =>
        have hlx : x < es.size := by rw [← hsz]; exact (List.getElem?_eq_some_iff.1 hx).1
        have := (hall x p es[x] hx (Array.getElem?_eq_getElem hlx)).2.2.2
        have e2 : es.toList[x]? = some es[x] := by simp [hlx]
        rw [e2]
        show some es[x].born = some p.2.2
        rw [this]
    rw [this]; exact hnd
  have hit' : w.heap[Li.blk]? = some (.mapIter (some Lm.blk) c (seen.toArray.push es[j].born) c) := by
    rw [hit, hb]; simp
  refine ⟨_, run_entry_at (P := P) w Li.blk Lm.blk c seen.toArray es c es[j] hit' hes (by simp) hnd', .tuple _ _ rfl fun x u u' hu hu' => ?_⟩
  match x, hu, hu' with
  | 0, hu, hu' => cases hu; cases hu'; exact h2
  | 1, hu, hu' => cases hu; cases hu'; exact h3
  | x + 2, hu, hu' => simp at hu

theorem decE_some : ∀ {l : List Value} {E : List (Value × Value × Nat)}, decE l = some E → l = flatE E
  | [], E, h => by cases h; rfl
  | [_], E, h => by simp [decE] at h
  | [_, _], E, h => by simp [decE] at h
  | k :: v :: t :: r, E, h => by
    unfold decE at h
    split at h
    · rename_i heq; simp at heq
    · rename_i k' v' t' r' heq
      simp only [List.cons.injEq] at heq
      obtain ⟨rfl, rfl, rfl, rfl⟩ := heq
      cases hr : decE r with
      | none => rw [hr] at h; cases h
      | some E' =>
        rw [hr] at h
        cases h
        rw [decE_some hr]
        rfl
    · cases h
theorem decS_some : ∀ {l : List Value} {S : List Nat}, decS l = some S → l = S.map fun t : Nat => Value.int .u64 t
  | [], S, h => by cases h; rfl
  | t :: r, S, h => by
    unfold decS at h
    split at h
    · rename_i heq; simp at heq
    · rename_i t' r' heq
      simp only [List.cons.injEq] at heq
      obtain ⟨rfl, rfl⟩ := heq
      cases hr : decS r with
      | none => rw [hr] at h; cases h
      | some S' =>
        rw [hr] at h
        cases h
        rw [decS_some hr]
        rfl
    · cases h

section
variable {P : Program} {G : Nat} {ρ : Map} {h : H} {w : World} {N : Nat} {Γ : List (Nat × Value)} {a : Act} {E : Env} {n n' : Nat} {h' : H} {v : Value} {o : Oper}

theorem R.iterOff (r : R G ρ h w) {i : Nat} {B : Blk} (hi : h.get i = some B) (hB : B.isMap) (hn : ∀ sz c E, B ≠ mapB sz c E) (hn2 : ∀ sz E, B ≠ lookB sz E) {L : Loc} (hL : ρ i = some L) : L.off = 0 := by
  rcases (r.maps i B L hi hB hL).obj with ⟨sz, E, es, cl, e1, _⟩ | ⟨m, s, l, sn, Lm, e1, e2, e3, e4⟩ | ⟨e1, e2, e3⟩ | ⟨_, _, _, _, _, e1, _⟩
  · exact absurd e1 (hn _ _ _)
  · exact e4
  · exact e3
  · exact absurd e1 (hn2 _ _)
theorem sim_next (r : R G ρ h w) (l : Live ρ N Γ a) {x : Operand} (ho : o.op = .next x false) (e : opNext (ev G Γ x) n h = some (v, n', h')) : Does P G o a w ρ h v h' := by
  have hx := ev_sim r l x
  unfold opNext at e
  split at e
  case h_2 => cases e
  rename_i i hxe
  rw [hxe] at hx
  obtain ⟨_, _, L, hb, hL, hx'⟩ := hx.ptr_inv
  cases hb
  obtain ⟨cs, n1, h1, e1, e2⟩ := bnd_some e
  obtain ⟨rfl, rfl, hi⟩ := mpGet_some e1
  split at e2
  · -- over no map
    obtain ⟨rfl, rfl, rfl⟩ := ret_some e2
    have hoff := r.iterOff hi ⟨rfl, rfl⟩ (fun sz c E q => by unfold mapB at q; simp at q) (fun sz E q => by unfold lookB at q; simp at q) hL
    rcases (r.maps i _ L hi ⟨rfl, rfl⟩ hL).obj with ⟨sz, E, es, cl, q, _⟩ | ⟨m, s, l', sn, Lm, q, _⟩ | ⟨q1, q2, q3⟩ | ⟨_, _, _, _, _, q, _⟩
    · unfold mapB at q; simp at q
    · unfold iterB at q; simp at q
    · refine .same r (v' := .tuple #[.bool false]) ?_ (VR.weak (.tuple _ _ rfl fun j u u' hu hu' => ?_))
      · rw [hoff] at hx'
        simp [execOp, ho, hx', Instr.next, getObj, Sem.run, q2]
      · match j, hu, hu' with
        | 0, hu, hu' => cases hu; cases hu'; exact .bool _
        | j + 1, hu, hu' => simp at hu
    · unfold lookB at q; simp at q
  · rename_i m since last sn
    obtain ⟨ms, n2, h2, e3, e4⟩ := bnd_some e2
    obtain ⟨rfl, rfl, hm⟩ := mpGet_some e3
    split at e4
    case h_2 => cases e4
    rename_i sz c es
    split at e4
    case h_2 => cases e4
    rename_i E seen hE hS
    have hE := decE_some hE
    have hS := decS_some hS
    subst hE hS
    split at e4
    case isFalse => cases e4
    rename_i hc
    simp only [Bool.and_eq_true, List.all_eq_true, decide_eq_true_eq] at hc
    obtain ⟨⟨hold, hsl⟩, rfl⟩ := hc
    have hi' : h2.get i = some (iterB m since last seen) := hi
    have hoff := r.iterOff hi ⟨rfl, rfl⟩ (fun sz c E q => by unfold mapB at q; simp at q) (fun sz E q => by unfold lookB at q; simp at q) hL
    obtain ⟨Lm, hLm⟩ : ∃ L, ρ m = some L := by
      have := r.dom m
      rw [hm] at this
      cases hq : ρ m with
      | none => rw [hq] at this; cases this
      | some L => exact ⟨L, rfl⟩
    obtain ⟨sz', hm'⟩ : ∃ sz', h2.get m = some (mapB sz' since E) := by
      rcases (r.maps m _ Lm hm ⟨rfl, rfl⟩ hLm).obj with ⟨s2, E2, es2, cl, q, _⟩ | ⟨m2, s2, l2, sn2, L2, q, _⟩ | ⟨q, _⟩ | ⟨_, _, _, _, _, q, _⟩
      · refine ⟨s2, ?_⟩
        rw [hm]
        unfold mapB at q ⊢
        simp only [Blk.mk.injEq, List.cons.injEq, Value.int.injEq, true_and, and_true] at q ⊢
        rw [q.1]
        rfl
      · unfold iterB at q; simp at q
      · unfold iterNB at q; simp at q
      · unfold lookB at q; simp at q
    rw [hoff, Nat.add_zero] at hx'
    rcases next_sim (P := P) r hi' hm' hL hoff (fun p hp => hold p hp) hsl o.type with ⟨hall, hr⟩ | ⟨k, u, t, v', w', hmem, hns, hr, r', ex', _, hv⟩
    · have hnil : E.filter (fun p => !seen.contains p.2.2) = [] := by
        rw [List.filter_eq_nil_iff]
        intro p hp
        have := hall _ (List.mem_map.2 ⟨p, hp, rfl⟩)
        simp [this]
      rw [hnil] at e4
      obtain ⟨rfl, rfl, rfl⟩ := ret_some e4
      refine .same r (v' := .tuple #[.bool false]) (by simp [execOp, ho, hx', hr]) (VR.weak (.tuple _ _ rfl fun j u u' hu hu' => ?_))
      match j, hu, hu' with
      | 0, hu, hu' => cases hu; cases hu'; exact .bool _
      | j + 1, hu, hu' => simp at hu
    · have hin : (k, u, t) ∈ E.filter (fun p => !seen.contains p.2.2) := by
        rw [List.mem_filter]
        exact ⟨hmem, by simpa using hns⟩
      split at e4
      · rename_i heq; rw [heq] at hin; simp at hin
      · rename_i k1 u1 t1 heq
        rw [heq] at hin
        have := List.mem_singleton.1 hin
        cases this
        obtain ⟨_, n3, h3, e5, e6⟩ := bnd_some e4
        obtain ⟨rfl, rfl, rfl⟩ := ret_some e6
        obtain ⟨rfl, rfl⟩ := mpSet_some e5
        exact ⟨v', ρ, w', .inl (by simp [execOp, ho, hx', hr]), hv.weak, r', ex'⟩
      · cases e4
  · cases e2

theorem sim_entry (r : R G ρ h w) (l : Live ρ N Γ a) {x : Operand} (ho : o.op = .entry x) (e : opEntry (ev G Γ x) n h = some (v, n', h')) : Does P G o a w ρ h v h' := by
  have hx := ev_sim r l x
  unfold opEntry at e
  split at e
  case h_2 => cases e
  rename_i i hxe
  rw [hxe] at hx
  obtain ⟨_, _, L, hb, hL, hx'⟩ := hx.ptr_inv
  cases hb
  obtain ⟨cs, n1, h1, e1, e2⟩ := bnd_some e
  obtain ⟨rfl, rfl, hi⟩ := mpGet_some e1
  split at e2
  case h_2 => cases e2
  rename_i m since last sn
  obtain ⟨ms, n2, h2, e3, e4⟩ := bnd_some e2
  obtain ⟨rfl, rfl, hm⟩ := mpGet_some e3
  split at e4
  case h_2 => cases e4
  rename_i sz c es
  split at e4
  case h_2 => cases e4
  rename_i E seen hE hS
  have hE := decE_some hE
  have hS := decS_some hS
  subst hE hS
  split at e4
  case h_2 => cases e4
  rename_i t hlast hc
  simp only [Bool.and_eq_true, decide_eq_true_eq] at hc
  obtain ⟨⟨hsc, hlc⟩, hnd⟩ := hc
  split at e4
  case h_2 => cases e4
  rename_i k u t' hf
  obtain ⟨rfl, rfl, rfl⟩ := ret_some e4
  have hmem := List.mem_of_find?_eq_some hf
  have ht : t' = t := by have := List.find?_some hf; simpa using this
  subst ht
  have hsplit : seen = seen.dropLast ++ [t'] := by
    have hne : seen ≠ [] := by rintro rfl; simp at hlast
    rw [List.getLast?_eq_some_getLast hne] at hlast
    have := List.dropLast_concat_getLast hne
    rw [Option.some.inj hlast] at this
    exact this.symm
  have hi' : h'.get i = some (iterB m c c (seen.dropLast ++ [t'])) := by rw [← hsplit]; rw [hsc, hlc] at hi; exact hi
  have hoff := r.iterOff hi ⟨rfl, rfl⟩ (fun sz c E q => by unfold mapB at q; simp at q) (fun sz E q => by unfold lookB at q; simp at q) hL
  obtain ⟨Lm, hLm⟩ : ∃ L, ρ m = some L := by
    have := r.dom m
    rw [hm] at this
    cases hq : ρ m with
    | none => rw [hq] at this; cases this
    | some L => exact ⟨L, rfl⟩
  obtain ⟨sz', hm'⟩ : ∃ sz', h'.get m = some (mapB sz' c E) := by
    rcases (r.maps m _ Lm hm ⟨rfl, rfl⟩ hLm).obj with ⟨s2, E2, es2, cl, q, _⟩ | ⟨m2, s2, l2, sn2, L2, q, _⟩ | ⟨q, _⟩ | ⟨_, _, _, _, _, q, _⟩
    · refine ⟨s2, ?_⟩
      rw [hm]
      unfold mapB at q ⊢
      simp only [Blk.mk.injEq, List.cons.injEq, Value.int.injEq, true_and, and_true] at q ⊢
      rw [q.1]
      rfl
    · unfold iterB at q; simp at q
    · unfold iterNB at q; simp at q
    · unfold lookB at q; simp at q
  rw [hoff, Nat.add_zero] at hx'
  obtain ⟨v', hr, hv⟩ := entry_sim (P := P) r hi' hm' hL hmem hnd
  exact .same r (v' := v') (by simp [execOp, ho, hx', hr]) hv.weak
end
end Go.Fw
end
section
namespace Go.Fw

/-- A function of the program does what an abstract one says, in every world that the heap speaks of. -/
structure Sim (P : Program) (G : Nat) (f : FuncId) (m : List Value → M Value) : Prop where
  enter : ∀ (args : Array Value) (w : World), (callFunc f args).run P w = .ok (.enter f args) w
  calls : ∀ (args : List Value) (n : Nat) (h : H) (v : Value) (n' : Nat) (h' : H), m args n h = some (v, n', h') → ∀ (ρ : Map) (w : World) (args' : List Value), R G ρ h w → WL ρ args args' →
    Calls P f args'.toArray w fun e w' => ∃ v' ρ', e = .returned v' ∧ VW ρ' v v' ∧ R G ρ' h' w' ∧ Ext ρ h w ρ' h' w'

def EnvOK (P : Program) (G : Nat) (E : Env) : Prop := ∀ f m, E f = some m → Sim P G f m

section
variable {P : Program} {G : Nat} {ρ : Map} {h : H} {w : World} {N : Nat} {Γ : List (Nat × Value)} {a : Act} {E : Env} {n n' : Nat} {h' : H} {v : Value} {o : Oper}

theorem Does.wp (hd : Does P G o a w ρ h v h') {next : Act → World → Prop} {Q : Exit → Act → World → Prop}
    (hn : ∀ v' ρ' w', VW ρ' v v' → R G ρ' h' w' → Ext ρ h w ρ' h' w' → next (a.put o.dst v') w') : o.wp P a w next Q := by
  obtain ⟨v', ρ', w', hr, hv, hR, hx⟩ := hd
  unfold Oper.wp
  rcases hr with hr | ⟨hr, rfl⟩
  · rw [hr]; exact hn v' ρ' w' hv hR hx
  · rw [hr]; exact hn _ ρ' w' hv hR hx

theorem opCall_some {f : Value} {args : List Value} (e : opCall E f args n h = some (v, n', h')) : ∃ g fi cs m, f = .func (.func g) fi cs ∧ E g = some m ∧ m (args ++ cs.toList) n h = some (v, n', h') := by
  obtain ⟨q, hq⟩ : ∃ q, q = opCall E f args := ⟨_, rfl⟩
  rw [← hq] at e
  unfold opCall at hq
  split at hq
  · rename_i g fi cs
    cases hE : E g with
    | none => simp only [hE] at hq; subst hq; cases e
    | some m => simp only [hE] at hq; subst hq; exact ⟨g, fi, cs, m, rfl, hE, e⟩
  · subst hq; cases e

theorem sim_call (hE : EnvOK P G E) (r : R G ρ h w) (l : Live ρ N Γ a) {c : Call} {f : Operand} (ho : o.op = .call c) (hc : c.callee = .value f) (e : aop P G E Γ o.op n h = some (v, n', h'))
    {next : Act → World → Prop} {Q : Exit → Act → World → Prop} (hn : ∀ v' ρ' w', VW ρ' v v' → R G ρ' h' w' → Ext ρ h w ρ' h' w' → next (a.put o.dst v') w') : o.wp P a w next Q := by
  rw [ho] at e
  simp only [aop, hc] at e
  obtain ⟨g, fi, cs, m, hf, hg, e⟩ := opCall_some e
  have hfv := ev_sim r l f
  rw [hf] at hfv
  obtain ⟨_, cs', hf', hcs⟩ := hfv.func_inv
  have hsim := hE g m hg
  have hcalls := hsim.calls _ _ _ _ _ _ e ρ w ((c.args.toList.map a.eval) ++ cs'.toList) r ((WL.map r l c.args.toList).append hcs.weak)
  have hargs : ((c.args.toList.map a.eval) ++ cs'.toList).toArray = c.args.map a.eval ++ cs' := by
    apply Array.toList_inj.1; simp
  rw [hargs] at hcalls
  unfold Oper.wp
  have hrun : (execOp a.eval o).run P w = .ok (.enter g (c.args.map a.eval ++ cs')) w := by
    simp [execOp, ho, resolve, hc, hf', Deferred.ofValue, invoke, hsim.enter]
  rw [hrun, Oper.upon_enter]
  refine hcalls.mono fun e' w' he => ?_
  obtain ⟨v', ρ', rfl, hv, hR, hx⟩ := he
  exact hn v' ρ' w' hv hR hx

/-- EACH OPERATION. -/
theorem sim_op (hE : EnvOK P G E) (r : R G ρ h w) (l : Live ρ N Γ a) (e : aop P G E Γ o.op n h = some (v, n', h'))
    {next : Act → World → Prop} {Q : Exit → Act → World → Prop} (hn : ∀ v' ρ' w', VW ρ' v v' → R G ρ' h' w' → Ext ρ h w ρ' h' w' → next (a.put o.dst v') w') : o.wp P a w next Q := by
  cases ho : o.op with
  | move x => exact (sim_move r l ho e).wp hn
  | assign x => exact (sim_assign r l ho e).wp hn
  | pick c x y => exact (sim_pick r l ho e).wp hn
  | alloc t => exact (sim_alloc r ho e).wp hn
  | box t x => exact (sim_box r l ho e).wp hn
  | build t ps => exact (sim_build r l ho e).wp hn
  | buildSlice t k ps => exact (sim_buildSlice r l ho e).wp hn
  | load t x => exact (sim_load r l ho e).wp hn
  | store t x y => exact (sim_store r l ho e).wp hn
  | nilCheck x => exact (sim_nilCheck r l ho e).wp hn
  | binOp op t x y yt => exact (sim_binOp r l ho e).wp hn
  | unOp op t x =>
    cases op with
    | not => exact (sim_not r l ho e).wp hn
    | neg => exact (sim_neg r l ho e).wp hn
    | xor => exact (sim_com r l ho e).wp hn
    | plus => rw [ho] at e; cases e
  | convert s d x => exact (sim_convert r l ho e).wp hn
  | makeFunc fn fi cs => exact (sim_makeFunc r l ho e).wp hn
  | makeSlice t x y => exact (sim_makeSlice r l ho e).wp hn
  | slice t x lo hi mx => exact (sim_slice r l ho e).wp hn
  | fieldAddr t x f => exact (sim_fieldAddr r l ho e).wp hn
  | field t x f => exact (sim_field r l ho e).wp hn
  | indexAddr t x i => exact (sim_indexAddr r l ho e).wp hn
  | index t x i => exact (sim_index r l ho e).wp hn
  | extract x i => exact (sim_extract r l ho e).wp hn
  | call c =>
    cases hc : c.callee with
    | value f => exact sim_call hE r l ho hc e hn
    | invoke rc m => rw [ho] at e; simp only [aop, hc] at e; cases e
    | builtin b =>
      cases b <;> first
        | exact (sim_len r l ho hc e).wp hn
        | exact (sim_cap r l ho hc e).wp hn
        | exact (sim_max r l ho hc e).wp hn
        | exact (sim_min r l ho hc e).wp hn
        | exact (sim_append r l ho hc e).wp hn
        | exact (sim_clear r l ho hc e).wp hn
        | exact (sim_delete r l ho hc e).wp hn
        | (rw [ho] at e; simp only [aop, hc] at e; cases e)
  | makeMap t r =>
    cases r with
    | none => exact (sim_makeMap ‹R G ρ h w› ho e).wp hn
    | some _ => rw [ho] at e; cases e
  | lookup t x y ok => exact (sim_lookup r l ho e).wp hn
  | makeInterface t x => exact (sim_makeInterface r l ho e).wp hn
  | mapEntry t x y => exact (sim_mapEntry r l ho e).wp hn
  | entryStore t x y u => exact (sim_entryStore r l ho e).wp hn
  | range t x =>
    rw [ho] at e
    simp only [aop] at e
    split at e
    · rename_i hu; exact (sim_range r l ho hu e).wp hn
    · cases e
  | next x b =>
    cases b with
    | true => rw [ho] at e; cases e
    | false => exact (sim_next r l ho (by rw [ho] at e; exact e)).wp hn
  | entry x => exact (sim_entry r l ho (by rw [ho] at e; exact e)).wp hn
  | insert t x y u => exact (sim_insert r l (.inl ho) e).wp hn
  | mapUpdate t x y u => exact (sim_insert r l (.inr ho) e).wp hn
  | _ => rw [ho] at e; cases e
end
end Go.Fw
end
section
namespace Go.Fw

/-! ## Kinds of operations -/

inductive Kd where
  | pure | load | alloc | act
  deriving DecidableEq

def kd : Op → Kd
  | .move _ => .pure
  | .assign _ => .pure
  | .pick _ _ _ => .pure
  | .build _ _ => .pure
  | .nilCheck _ => .pure
  | .binOp _ _ _ _ _ => .pure
  | .unOp _ _ _ => .pure
  | .convert _ _ _ => .pure
  | .makeFunc _ _ _ => .pure
  | .slice _ _ (some _) (some _) none => .act
  | .slice _ _ _ _ _ => .pure
  | .fieldAddr _ _ _ => .pure
  | .field _ _ _ => .pure
  | .indexAddr _ _ _ => .pure
  | .index _ _ _ => .pure
  | .extract _ _ => .pure
  | .makeInterface _ _ => .pure
  | .load _ _ => .load
  | .alloc _ => .alloc
  | .box _ _ => .alloc
  | .buildSlice _ _ _ => .alloc
  | .makeSlice _ _ _ => .alloc
  | .makeMap _ _ => .alloc
  | .call c => match c.callee with
    | .builtin .len => .pure
    | .builtin .cap => .pure
    | .builtin .max => .pure
    | .builtin .min => .pure
    | _ => .act
  | _ => .act

theorem kd_call (c : Call) : kd (.call c) = .pure ∨ kd (.call c) = .act := by
  show (match c.callee with
    | .builtin .len => Kd.pure
    | .builtin .cap => .pure
    | .builtin .max => .pure
    | .builtin .min => .pure
    | _ => .act) = _ ∨ (match c.callee with
    | .builtin .len => Kd.pure
    | .builtin .cap => .pure
    | .builtin .max => .pure
    | .builtin .min => .pure
    | _ => .act) = _
  cases c.callee with
  | builtin b => cases b <;> first | exact .inl rfl | exact .inr rfl
  | _ => exact .inr rfl

/-- A value that is at hand. -/
def IsRet (m : M Value) : Prop := (∃ v, m = ret v) ∨ m = fail

theorem IsRet.ret (v : Value) : IsRet (Fw.ret v) := .inl ⟨v, rfl⟩
theorem IsRet.fail : IsRet (Fw.fail : M Value) := .inr rfl

section
variable {P : Program} {G : Nat} {E : Env} {Γ Γ' : List (Nat × Value)}

theorem opPick_ret (c a b : Value) : IsRet (opPick c a b) := by unfold opPick; split <;> first | exact .ret _ | exact .fail
theorem opNil_ret (x : Value) : IsRet (opNil x) := by unfold opNil; split <;> first | exact .ret _ | exact .fail
theorem opBuild_ret (z : List Value) (ps : List (Nat × Nat × Bool × Value)) : IsRet (opBuild z ps) := by unfold opBuild; split <;> first | exact .ret _ | exact .fail
theorem opFieldAddr_ret (o : Nat) (x : Value) : IsRet (opFieldAddr o x) := by unfold opFieldAddr; split <;> first | exact .ret _ | exact .fail
theorem opField_ret (o : Nat) (x : Value) : IsRet (opField o x) := by unfold opField; split <;> (try split) <;> first | exact .ret _ | exact .fail
theorem opFieldN_ret (o s : Nat) (x : Value) : IsRet (opFieldN o s x) := by unfold opFieldN; split <;> (try split) <;> first | exact .ret _ | exact .fail
theorem opIndexAddr_ret (s : Nat) (x i : Value) : IsRet (opIndexAddr s x i) := by unfold opIndexAddr; split <;> (try split) <;> first | exact .ret _ | exact .fail
theorem opIndexAddrA_ret (l s : Nat) (x i : Value) : IsRet (opIndexAddrA l s x i) := by unfold opIndexAddrA; split <;> (try split) <;> first | exact .ret _ | exact .fail
theorem opIndexA_ret (l : Nat) (x i : Value) : IsRet (opIndexA l x i) := by unfold opIndexA; split <;> (try split) <;> (try split) <;> first | exact .ret _ | exact .fail
theorem opIndexS_ret (x i : Value) : IsRet (opIndexS x i) := by unfold opIndexS; split <;> (try split) <;> (try split) <;> first | exact .ret _ | exact .fail
theorem opExtract_ret (x : Value) (i : Nat) : IsRet (opExtract x i) := by unfold opExtract; split <;> (try split) <;> (try split) <;> first | exact .ret _ | exact .fail
theorem opBin_ret (op : BinOp) (x y : Value) : IsRet (opBin op x y) := by unfold opBin; split <;> first | exact .ret _ | exact .fail
theorem opEq_ret (f : Value → Value → Option Bool) (b : Bool) (x y : Value) : IsRet (opEq f b x y) := by unfold opEq; split <;> first | exact .ret _ | exact .fail
theorem opNot_ret (x : Value) : IsRet (opNot x) := by unfold opNot; split <;> first | exact .ret _ | exact .fail
theorem opNeg_ret (x : Value) : IsRet (opNeg x) := by unfold opNeg; split <;> first | exact .ret _ | exact .fail
theorem opCom_ret (x : Value) : IsRet (opCom x) := by unfold opCom; split <;> first | exact .ret _ | exact .fail
theorem opConv_ret (k : IntKind) (x : Value) : IsRet (opConv k x) := by unfold opConv; split <;> first | exact .ret _ | exact .fail
theorem opLen_ret (x : Value) : IsRet (opLen x) := by unfold opLen; split <;> first | exact .ret _ | exact .fail
theorem opCap_ret (x : Value) : IsRet (opCap x) := by unfold opCap; split <;> (try split) <;> first | exact .ret _ | exact .fail
theorem opLenS_ret (x : Value) : IsRet (opLenS x) := by unfold opLenS; split <;> first | exact .ret _ | exact .fail
theorem opMax_ret (xs : List Value) : IsRet (opMax xs) := by unfold opMax; split <;> (try split) <;> first | exact .ret _ | exact .fail
theorem opMin_ret (xs : List Value) : IsRet (opMin xs) := by unfold opMin; split <;> (try split) <;> first | exact .ret _ | exact .fail
theorem opFunc_ret (fn : Fn) (cs : List Value) : IsRet (opFunc fn cs) := by unfold opFunc; split <;> first | exact .ret _ | exact .fail
theorem opSlice_ret (s : Nat) (x : Value) (lo hi mx : Option Value) : IsRet (opSlice s x lo hi mx) := by
  unfold opSlice
  split
  · split
    · split
      · split
        · split
          · split
            · split <;> first | exact .ret _ | exact .fail
            · split
              · split <;> first | exact .ret _ | exact .fail
              · exact .fail
          · exact .fail
        · split
          · split
            · split <;> first | exact .ret _ | exact .fail
            · exact .ret _
            · exact .fail
          · exact .fail
      · exact .fail
    · exact .fail
  · exact .fail

theorem aop_pure {op : Op} (hk : kd op = .pure) : IsRet (aop P G E Γ op) := by
  cases op <;> simp only [kd] at hk <;> try (cases hk; done)
  case move x => exact .ret _
  case assign x => exact .ret _
  case pick c a b => exact opPick_ret _ _ _
  case build t ps =>
    simp only [aop]
    split
    · split
      · split
        · exact opBuild_ret _ _
        · exact .fail
      · exact .fail
    · split
      · split
        · exact opBuild_ret _ _
        · exact .fail
      · exact .fail
    · exact .fail
  case nilCheck x => exact opNil_ret _
  case binOp op t x y yt =>
    cases op <;> simp only [aop] <;> try exact opBin_ret _ _ _
    all_goals
      split <;> first | exact opEq_ret _ _ _ _ | exact opBin_ret _ _ _ | (split <;> first | exact opEq_ret _ _ _ _ | exact .fail)
  case unOp op t x => cases op <;> first | exact opNot_ret _ | exact opNeg_ret _ | exact opCom_ret _ | exact .fail
  case convert s d x => simp only [aop]; split <;> first | exact opConv_ret _ _ | exact .fail
  case makeInterface t x => simp only [aop]; split <;> first | exact .fail | (unfold opIface; split <;> first | exact .ret _ | exact .fail)
  case makeFunc fn fi cs => simp only [aop]; split <;> first | exact opFunc_ret _ _ | exact .fail
  case slice t x lo hi mx =>
    simp only [aop]; split
    · split
      · split
        · cases hk
        · exact opSlice_ret _ _ _ _ _
      · exact .fail
    · exact .fail
  case fieldAddr t x f =>
    simp only [aop]; split
    · split
      · split
        · split <;> first | exact opFieldAddr_ret _ _ | exact .fail
        · exact .fail
      · exact .fail
    · exact .fail
  case field t x f =>
    simp only [aop]; split
    · split
      · split
        · split <;> first | exact opField_ret _ _ | exact opFieldN_ret _ _ _
        · exact .fail
      · exact .fail
    · exact .fail
  case indexAddr t x i =>
    simp only [aop]; split
    · split <;> first | exact opIndexAddr_ret _ _ _ | exact .fail
    · split <;> first | exact opIndexAddrA_ret _ _ _ _ | exact .fail
    · exact .fail
  case index t x i =>
    simp only [aop]; split
    · split
      · split
        · exact .fail
        · split <;> first | exact opIndexA_ret _ _ _ | exact .fail
      · exact .fail
    · exact opIndexS_ret _ _
    · exact .fail
  case extract x i => exact opExtract_ret _ _
  case call c =>
    split at hk <;> rename_i hc <;> try (cases hk; done)
    all_goals simp only [aop, hc]
    · split
      · split <;> first | exact opLen_ret _ | exact opLenS_ret _ | exact .fail
      · exact .fail
    · split
      · split <;> first | exact opCap_ret _ | exact .fail
      · exact .fail
    · exact opMax_ret _
    · exact opMin_ret _

/-- A look at some cells. -/
inductive IsLook : M Value → Prop where
  | rd (b o : Nat) : IsLook (rd b o)
  | rdN (b o k : Nat) : IsLook (bnd (rdN b o k) fun cs => ret (.agg cs.toArray))
  | fail : IsLook fail

theorem aop_load {op : Op} (hk : kd op = .load) : IsLook (aop P G E Γ op) := by
  cases op <;> simp only [kd] at hk <;> try (cases hk; done)
  case load t x =>
    simp only [aop]
    split
    · split
      · unfold opLoadN; split <;> first | exact .rdN _ _ _ | exact .fail
      · unfold opLoad; split <;> first | exact .rd _ _ | exact .fail
    · exact .fail
  case slice t x lo hi mx => cases lo <;> cases hi <;> cases mx <;> simp at hk
  case call c => rcases kd_call c with e | e <;> simp only [kd] at e <;> rw [e] at hk <;> cases hk

/-- A new block. -/
def IsNew (m : M Value) : Prop := (∃ (cs : List Value) (k : Kind) (f : Nat → Value), m = bnd (new cs k) fun b => ret (f b)) ∨ m = fail

theorem aop_alloc {op : Op} (hk : kd op = .alloc) : IsNew (aop P G E Γ op) := by
  have hp : ∀ cs, IsNew (opPtr cs) := fun cs => .inl ⟨cs, _, _, rfl⟩
  cases op <;> simp only [kd] at hk <;> try (cases hk; done)
  case alloc t => simp only [aop]; split <;> first | exact hp _ | exact .inr rfl
  case box t x =>
    simp only [aop]
    split
    · unfold opBoxN; split <;> first | exact hp _ | exact .inr rfl
    · exact hp _
  case buildSlice t k ps =>
    simp only [aop]
    split
    · split
      · split
        · split
          · unfold opBuildSlice; split <;> first | exact .inl ⟨_, _, _, rfl⟩ | exact .inr rfl
          · exact .inr rfl
        · exact .inr rfl
      · exact .inr rfl
    · exact .inr rfl
  case makeMap t r =>
    cases r with
    | some _ => exact .inr rfl
    | none =>
      simp only [aop]
      split
      · exact .inl ⟨_, _, fun b => .map (some b), rfl⟩
      · exact .inr rfl
  case makeSlice t l c =>
    simp only [aop]
    split
    · split
      · unfold opMake
        split
        · split <;> first | exact .inl ⟨_, _, _, rfl⟩ | exact .inr rfl
        · exact .inr rfl
      · exact .inr rfl
    · exact .inr rfl
  case slice t x lo hi mx => cases lo <;> cases hi <;> cases mx <;> simp at hk
  case call c => rcases kd_call c with e | e <;> simp only [kd] at e <;> rw [e] at hk <;> cases hk

/-- An operation looks at its operands alone. -/
theorem aop_congr {op : Op} (hx : ∀ x ∈ op.operands, ev G Γ x = ev G Γ' x) : aop P G E Γ op = aop P G E Γ' op := by
  have pairs : ∀ ps : Array (Nat × Operand), (∀ x ∈ (ps.toList.map (·.2)).toArray, ev G Γ x = ev G Γ' x) → (ps.toList.map fun p => (p.1, ev G Γ p.2)) = (ps.toList.map fun p => (p.1, ev G Γ' p.2)) := fun ps hp =>
    List.map_congr_left fun p hm => by
      rw [hp p.2 (by simp; exact ⟨p.1, by simpa using hm⟩)]
  have maps : ∀ xs : Array Operand, (∀ x ∈ xs, ev G Γ x = ev G Γ' x) → xs.toList.map (ev G Γ) = xs.toList.map (ev G Γ') := fun xs hp => List.map_congr_left fun x hm => hp x (by simpa using hm)
  cases op <;> simp only [Op.operands] at hx <;> simp only [aop]
  case move x => rw [hx x (by simp)]
  case assign x => rw [hx x (by simp)]
  case pick c a b => rw [hx c (by simp), hx a (by simp), hx b (by simp)]
  case box t x => rw [hx x (by simp)]
  case build t ps => rw [pairs ps hx]
  case buildSlice t k ps => rw [pairs ps hx]
  case load t x => rw [hx x (by simp)]
  case store t x y => rw [hx x (by simp), hx y (by simp)]
  case nilCheck x => rw [hx x (by simp)]
  case binOp op t x y yt => cases op <;> simp only [hx x (by simp), hx y (by simp)]
  case unOp op t x => cases op <;> simp only [hx x (by simp)]
  case convert s d x => rw [hx x (by simp)]
  case makeFunc fn fi cs => rw [maps cs fun x hm => hx x (by simp [hm])]
  case makeSlice t x y => rw [hx x (by simp), hx y (by simp)]
  case slice t x lo hi mx =>
    have h0 := hx x (by simp)
    have h1 : lo.map (ev G Γ) = lo.map (ev G Γ') := by cases lo <;> simp_all
    have h2 : hi.map (ev G Γ) = hi.map (ev G Γ') := by cases hi <;> simp_all
    have h3 : mx.map (ev G Γ) = mx.map (ev G Γ') := by cases mx <;> simp_all
    rw [h0, h1, h2, h3]
    cases lo <;> cases hi <;> cases mx <;> first | rfl | (simp only [Option.map_some, Option.some.injEq] at h1 h2; simp only [h1, h2])
  case fieldAddr t x f => rw [hx x (by simp)]
  case field t x f => rw [hx x (by simp)]
  case indexAddr t x i => rw [hx x (by simp), hx i (by simp)]
  case index t x i => rw [hx x (by simp), hx i (by simp)]
  case extract x i => rw [hx x (by simp)]
  case insert t m k x => rw [hx m (by simp), hx k (by simp), hx x (by simp)]
  case mapUpdate t m k x => rw [hx m (by simp), hx k (by simp), hx x (by simp)]
  case makeInterface t x => rw [hx x (by simp)]
  case mapEntry t m k => rw [hx m (by simp), hx k (by simp)]
  case entryStore t m s x => rw [hx m (by simp), hx s (by simp), hx x (by simp)]
  case lookup t m k b => rw [hx m (by simp), hx k (by simp)]
  case range t x => rw [hx x (by simp)]
  case next x b => cases b <;> simp only [hx x (by simp)]
  case entry x => rw [hx x (by simp)]
  case makeMap t r => cases r <;> rfl
  case call c =>
    have ha := maps c.args fun x hm => hx x (by simp [Call.operands, hm])
    cases hc : c.callee with
    | value f => simp only; rw [ha, hx f (by simp [Call.operands, hc])]
    | invoke r m => rfl
    | builtin b =>
      cases b <;> simp only [ha]
      · cases ht : c.argTypes.toList with
        | nil => rfl
        | cons t ts =>
        cases ts with
        | nil => rfl
        | cons u ts =>
        cases ts with
        | cons _ _ => rfl
        | nil =>
        cases hl : c.args.toList with
        | nil => rfl
        | cons s xs =>
        cases xs with
        | nil => rfl
        | cons x xs =>
        cases xs with
        | cons _ _ => rfl
        | nil =>
          rw [hl] at ha
          simp only [List.map_cons, List.map_nil, List.cons.injEq, and_true] at ha
          simp only [ha.1, ha.2]
      · cases ht : c.argTypes.toList with
        | nil => rfl
        | cons t ts =>
        cases ts with
        | cons _ _ => rfl
        | nil =>
        cases hl : c.args.toList with
        | nil => rfl
        | cons s xs =>
        cases xs with
        | cons _ _ => rfl
        | nil =>
          rw [hl] at ha
          simp only [List.map_cons, List.map_nil, List.cons.injEq, and_true] at ha
          simp only [ha]
      · cases ht : c.argTypes.toList with
        | nil => rfl
        | cons t ts =>
        cases ts with
        | cons _ _ => rfl
        | nil =>
        cases hl : c.args.toList with
        | nil => rfl
        | cons s xs =>
        cases xs with
        | cons _ _ => rfl
        | nil =>
          rw [hl] at ha
          simp only [List.map_cons, List.map_nil, List.cons.injEq, and_true] at ha
          simp only [ha]
      · cases ht : c.argTypes.toList with
        | nil => rfl
        | cons t ts =>
        cases ts with
        | nil => rfl
        | cons u ts =>
        cases ts with
        | cons _ _ => rfl
        | nil =>
        cases hl : c.args.toList with
        | nil => rfl
        | cons s xs =>
        cases xs with
        | nil => rfl
        | cons x xs =>
        cases xs with
        | cons _ _ => rfl
        | nil =>
          rw [hl] at ha
          simp only [List.map_cons, List.map_nil, List.cons.injEq, and_true] at ha
          simp only [ha.1, ha.2]
      · cases ht : c.argTypes.toList with
        | nil => rfl
        | cons t ts =>
        cases ts with
        | cons _ _ => rfl
        | nil =>
        cases hl : c.args.toList with
        | nil => rfl
        | cons s xs =>
        cases xs with
        | cons _ _ => rfl
        | nil =>
          rw [hl] at ha
          simp only [List.map_cons, List.map_nil, List.cons.injEq, and_true] at ha
          simp only [ha]
end
end Go.Fw
end
section
namespace Go.Fw

section
variable (P : Program) (G : Nat) (E : Env) (N : Nat) (ops : Array Oper)

def isSkip : Value → Bool
  | .tuple vs => match vs.toList with
    | [.nilFunc] => true
    | _ => false
  | _ => false

/-- Is an operation wanted, by its guard? -/
def gwant (Γ : List (Nat × Value)) (o : Oper) : Option Bool :=
  match o.guard with
  | none => some true
  | some (j, want) => match (ops[j]?).bind (·.dst) with
    | some t => match look Γ t with
      | .bool b => some (b == want)
      | v => if isSkip v then some false else none
    | none => none

def putG (dst : Option Tmp) (v : Value) (Γ : List (Nat × Value)) : Option (List (Nat × Value)) :=
  match dst with
  | none => some Γ
  | some d => if d < N then some ((d, v) :: Γ) else none

def liftO {α : Type} : Option α → M α
  | some a => ret a
  | none => fail

/-- What the operation i gives. -/
def sval (Γ : List (Nat × Value)) (i : Nat) : M Value :=
  match ops[i]? with
  | none => fail
  | some o => match gwant ops Γ o with
    | none => fail
    | some false => ret skipV
    | some true => aop P G E Γ o.op

def dstOf (i : Nat) : Option Tmp := (ops[i]?).bind (·.dst)

def step (i : Nat) (Γ : List (Nat × Value)) : M (List (Nat × Value)) :=
  bnd (sval P G E ops Γ i) fun v => liftO (putG N (dstOf ops i) v Γ)

def runL : List Nat → List (Nat × Value) → M (List (Nat × Value))
  | [], Γ => ret Γ
  | i :: l, Γ => bnd (step P G E N ops i Γ) (runL l)
end

section
variable {P : Program} {G : Nat} {E : Env} {N : Nat} {ops : Array Oper} {ρ : Map} {h : H} {w : World} {Γ Γ' : List (Nat × Value)} {a : Act} {n n' : Nat} {h' : H}

theorem liftO_some {α : Type} {x : Option α} {v : α} {n n' : Nat} {h h' : H} (e : liftO x n h = some (v, n', h')) : x = some v ∧ n' = n ∧ h' = h := by
  cases x with
  | none => cases e
  | some a => obtain ⟨rfl, rfl, rfl⟩ := ret_some e; exact ⟨rfl, rfl, rfl⟩

theorem putG_live (l : Live ρ N Γ a) {dst : Option Tmp} {v v' : Value} (hp : putG N dst v Γ = some Γ') (hv : VW ρ v v') : Live ρ N Γ' (a.put dst v') := by
  unfold putG at hp
  split at hp
  · cases hp; exact l
  · split at hp
    · rename_i hd; cases hp; exact l.put hd hv
    · cases hp

theorem isSkip_eq {v : Value} (h : isSkip v = true) : v = skipV := by
  unfold isSkip at h
  split at h
  · rename_i vs
    split at h
    · rename_i hv
      unfold skipV
      congr 1
      exact Array.toList_inj.1 hv
    · cases h
  · cases h

theorem gwant_wanted (l : Live ρ N Γ a) {o : Oper} {b : Bool} (hg : gwant ops Γ o = some b) : Region.wanted o (yielded ops a.tmps) = b := by
  unfold gwant at hg
  unfold Region.wanted
  split at hg
  · rename_i hgd; rw [hgd]; simp at hg; simp [hg]
  · rename_i j want hgd
    rw [hgd]
    split at hg
    · rename_i t ht
      split at hg
      · rename_i c hc
        simp only [Option.some.injEq] at hg
        have := l.at_ t
        rw [hc] at this
        have hb := this.bool_inv
        have ht' : t < a.tmps.size := by
          rcases Nat.lt_or_ge t a.tmps.size with h | h
          · exact h
          · simp [Array.getD, Nat.not_lt.2 h, undef] at hb
        have hy : yielded ops a.tmps j = some c := by
          unfold yielded
          rw [ht]
          have : a.tmps[t]? = some (.bool c) := by
            simp only [Array.getD, ht', dif_pos] at hb
            simp [ht', ← hb]
          simp [this]
        simp only [hy]
        rw [← hg]
        simp
      · split at hg
        case isFalse => cases hg
        rename_i hs
        simp only [Option.some.injEq] at hg
        have hat := l.at_ t
        rw [isSkip_eq hs] at hat
        have hnb : ∀ b, a.tmps.getD t undef ≠ .bool b := by
          intro b hb
          rw [hb] at hat
          rcases hat with (h | ⟨_, h⟩) | h
          · cases h
          · cases h
          · cases h
        have hy : yielded ops a.tmps j = none := by
          unfold yielded
          rw [ht]
          cases hq : a.tmps[t]? with
          | none => simp [hq]
          | some u =>
            have hu : a.tmps.getD t undef = u := by rw [Array.getD_eq_getD_getElem?, hq]; rfl
            rw [hu] at hnb
            cases u <;> simp [hq]
            exact absurd rfl (hnb _)
        simp only [hy]
        rw [← hg]
        rfl
    · cases hg

/-- A step of the abstract region is a step of the region. -/
theorem step_wpOp (hE : EnvOK P G E) (r : R G ρ h w) (l : Live ρ N Γ a) {i : Nat} (e : step P G E N ops i Γ n h = some (Γ', n', h')) {K : Act → World → Prop} {Q : Exit → Act → World → Prop}
    (hK : ∀ a' ρ' w', Live ρ' N Γ' a' → a'.defers = a.defers → R G ρ' h' w' → Ext ρ h w ρ' h' w' → K a' w') : wpOp P ops Q i K a w := by
  obtain ⟨v, n1, h1, e1, e2⟩ := bnd_some e
  obtain ⟨hput, rfl, rfl⟩ := liftO_some e2
  unfold wpOp
  unfold sval at e1
  cases ho : ops[i]? with
  | none => simp only [ho] at e1; cases e1
  | some o =>
    simp only [ho] at e1
    have hd : dstOf ops i = o.dst := by simp [dstOf, ho]
    rw [hd] at hput
    have hdf : ∀ (a : Act) (d : Option Tmp) (v : Value), (a.put d v).defers = a.defers := by intro a d v; cases d <;> rfl
    cases hg : gwant ops Γ o with
    | none => simp only [hg] at e1; cases e1
    | some b =>
      have hw := gwant_wanted l hg
      cases b with
      | false =>
        simp only [hg] at e1
        obtain ⟨rfl, rfl, rfl⟩ := ret_some e1
        simp only [hw, Bool.false_eq_true, if_false]
        exact hK _ ρ w (putG_live l hput (.inl (.inr ⟨rfl, rfl⟩))) (hdf _ _ _) r (Ext.refl _ _ _)
      | true =>
        simp only [hg] at e1
        simp only [hw, if_true]
        exact .inl (sim_op hE r l e1 fun v' ρ' w' hv hr hx => hK _ ρ' w' (putG_live (l.mono hx.le) hput hv) (hdf _ _ _) hr hx)

theorem runL_wpOps (hE : EnvOK P G E) {Q : Exit → Act → World → Prop} : ∀ (l : List Nat) (ρ : Map) (h : H) (w : World) (Γ Γ' : List (Nat × Value)) (a : Act) (n n' : Nat) (h' : H), R G ρ h w → Live ρ N Γ a → runL P G E N ops l Γ n h = some (Γ', n', h') →
    (∀ a' ρ' w', Live ρ' N Γ' a' → a'.defers = a.defers → R G ρ' h' w' → Ext ρ h w ρ' h' w' → Q .normal a' w') → wpOps P ops Q l a w
  | [], ρ, h, w, Γ, Γ', a, n, n', h', r, lv, e, hQ => by
    obtain ⟨rfl, rfl, rfl⟩ := ret_some e
    exact hQ a ρ w lv rfl r (Ext.refl _ _ _)
  | i :: l, ρ, h, w, Γ, Γ', a, n, n', h', r, lv, e, hQ => by
    obtain ⟨Γ1, n1, h1, e1, e2⟩ := bnd_some e
    rw [wpOps_cons]
    refine step_wpOp hE r lv e1 fun a1 ρ1 w1 lv1 hd1 r1 x1 => ?_
    exact runL_wpOps hE l ρ1 h1 w1 Γ1 Γ' a1 n1 n' h' r1 lv1 e2 fun a' ρ' w' lv' hd r' x' => hQ a' ρ' w' lv' (hd.trans hd1) r' (x1.trans x')

/-! ## Two steps in either order -/

/-- The same temporaries. -/
def Same (Γ Γ' : List (Nat × Value)) : Prop := ∀ t, look Γ t = look Γ' t
theorem Same.refl (Γ : List (Nat × Value)) : Same Γ Γ := fun _ => rfl
theorem Same.symm (h : Same Γ Γ') : Same Γ' Γ := fun t => (h t).symm
theorem Same.trans {Γ'' : List (Nat × Value)} (h : Same Γ Γ') (k : Same Γ' Γ'') : Same Γ Γ'' := fun t => (h t).trans (k t)
theorem Same.cons (h : Same Γ Γ') (d : Nat) (v : Value) : Same ((d, v) :: Γ) ((d, v) :: Γ') := fun t => by simp only [look]; split <;> first | rfl | exact h t
theorem Same.ev (h : Same Γ Γ') (x : Operand) : ev G Γ x = ev G Γ' x := by cases x <;> first | rfl | exact h _
theorem Same.gwant (h : Same Γ Γ') (o : Oper) : gwant ops Γ o = gwant ops Γ' o := by
  unfold Fw.gwant
  split
  · rfl
  · split
    · rw [h]
    · rfl
theorem Same.sval (h : Same Γ Γ') (i : Nat) : sval P G E ops Γ i = sval P G E ops Γ' i := by
  unfold Fw.sval
  split
  · rfl
  · rw [h.gwant]
    split
    · rfl
    · rfl
    · exact aop_congr fun x _ => h.ev x
theorem Same.live (h : Same Γ Γ') (l : Live ρ N Γ a) : Live ρ N Γ' a := ⟨l.size, fun t => by rw [← h t]; exact l.at_ t⟩

theorem putG_same (hs : Same Γ Γ') {d : Option Tmp} {v : Value} {Γ1 : List (Nat × Value)} (hp : putG N d v Γ = some Γ1) : ∃ Γ1', putG N d v Γ' = some Γ1' ∧ Same Γ1 Γ1' := by
  unfold putG at hp ⊢
  split at hp
  · cases hp; exact ⟨_, rfl, hs⟩
  · split at hp
    · rename_i hd; cases hp; exact ⟨_, by simp [hd], hs.cons _ _⟩
    · cases hp

/-- The same heap. -/
def HEq' (h h' : H) : Prop := ∀ b, h.get b = h'.get b
theorem HEq'.sub {h h' : H} (e : HEq' h h') : Sub h h' := fun b B hb => by rw [← e b]; exact hb
theorem HEq'.r (e : HEq' h h') (r : R G ρ h w) : R G ρ h' w :=
  ⟨fun b => by rw [← e b]; exact r.dom b, r.glob, fun b B L hb hl hL => r.blk b B L (by rw [e b]; exact hb) hl hL, fun b c B C L M hne hb hc hl hm hL hM => r.apart b c B C L M hne (by rw [e b]; exact hb) (by rw [e c]; exact hc) hl hm hL hM, fun b B L hb hm hL => r.maps b B L (by rw [e b]; exact hb) hm hL, fun b c B C L M hne hb hc h1 h2 hL hM => r.lone b c B C L M hne (by rw [e b]; exact hb) (by rw [e c]; exact hc) h1 h2 hL hM⟩
theorem HEq'.own (e : HEq' h h') {k : Nat} (ho : Own ρ h k) : Own ρ h' k := by
  obtain ⟨b, B, L, hb, hm, hL, hk⟩ := ho
  exact ⟨b, B, L, by rw [← e b]; exact hb, hm, hL, hk⟩
theorem HEq'.symm {h h' : H} (e : HEq' h h') : HEq' h' h := fun b => (e b).symm
theorem HEq'.ext {ρ' : Map} {w' : World} {h0 : H} (e : HEq' h h') (x : Ext ρ h0 w ρ' h w') : Ext ρ h0 w ρ' h' w' := ⟨x.le, x.os, x.tape, x.output, x.size, x.frame, fun k hk ho => x.owns k hk (e.symm.own ho)⟩
/-- In the same heap the same comes of it. -/
theorem M.same {α : Type} (m : M α) {n n' : Nat} {h h' k : H} {v : α} (e : m n h = some (v, n', h')) (hk : HEq' h k) : ∃ k', m n k = some (v, n', k') ∧ HEq' h' k' := by
  have l := m.loc _ _ _ _ _ e
  obtain ⟨k', h1, h2⟩ := l.more k hk.sub fun b hb1 hb2 => by rw [← hk b]; exact l.fresh b hb1 hb2
  refine ⟨k', h1, fun b => ?_⟩
  rw [h2]
  split
  · rfl
  · rename_i hs
    have : ¬ (h.get b).isSome = true := fun hh => hs ((l.dom b).2 (.inl hh))
    have e1 : h'.get b = none := by simpa using hs
    have e2 : h.get b = none := by simpa using this
    rw [e1, ← hk b, e2]

/-! ### What a load saw still stands -/

def veq : Value → Value → Bool
  | .bool a, .bool b => a == b
  | .int k a, .int k' b => decide (k = k') && decide (a = b)
  | .pointer a, .pointer b => decide (a = b)
  | .slice a l c, .slice b m d => decide (a = b) && decide (l = m) && decide (c = d)
  | .nilFunc, .nilFunc => true
  | .nilIface, .nilIface => true
  | .map a, .map b => decide (a = b)
  | _, _ => false
theorem veq_eq {a b : Value} (h : veq a b = true) : a = b := by
  unfold veq at h
  split at h <;> simp_all
def veqL : List Value → List Value → Bool
  | [], [] => true
  | a :: r, b :: s => veq a b && veqL r s
  | _, _ => false
theorem veqL_eq : ∀ {a b : List Value}, veqL a b = true → a = b
  | [], [], _ => rfl
  | a :: r, b :: s, h => by
    simp only [veqL, Bool.and_eq_true] at h
    rw [veq_eq h.1, veqL_eq h.2]
  | [], _ :: _, h => by cases h
  | _ :: _, [], h => by cases h

def wcells (ag : Bool) (v : Value) : List Value := if ag then v.cells.toList else [v]

/-- Do the cells at an address still hold a value? -/
def opChk (ag : Bool) (x v : Value) : M Unit :=
  match x with
  | .pointer (some ⟨b, o, none⟩) => bnd (rdN b o (wcells ag v).length) fun cs => if veqL cs (wcells ag v) then ret () else fail
  | _ => fail

def Holds (ag : Bool) (x v : Value) (h : H) : Prop :=
  ∃ b o, x = .pointer (some ⟨b, o, none⟩) ∧ ∃ B, h.get b = some B ∧ B.live ∧ o + (wcells ag v).length ≤ B.cells.length ∧ ∀ (j : Nat), j < (wcells ag v).length → B.cells[o + j]? = (wcells ag v)[j]?

theorem opChk_some {ag : Bool} {x v : Value} {n : Nat} {h : H} {z : Unit × Nat × H} (e : opChk ag x v n h = some z) : z = ((), n, h) ∧ Holds ag x v h := by
  obtain ⟨q, hq⟩ : ∃ q, q = opChk ag x v := ⟨_, rfl⟩
  rw [← hq] at e
  unfold opChk at hq
  split at hq
  · rename_i b o
    subst hq
    obtain ⟨cs, n1, h1, e1, e2⟩ := bnd_some e
    have hle : ∀ B, h.get b = some B → o + (wcells ag v).length ≤ B.cells.length := by
      intro B hB
      replace e1 : rdNF b o (wcells ag v).length n h = some (cs, n1, h1) := e1
      unfold rdNF at e1
      rw [hB] at e1
      obtain ⟨bc, bk⟩ := B
      cases bk <;> simp at e1 <;> exact e1.1
    obtain ⟨rfl, rfl, hl, B, hb, hlv, hc⟩ := rdN_some e1
    by_cases hv : veqL cs (wcells ag v) = true
    · simp only [hv, if_true] at e2
      obtain ⟨u, m, k⟩ := z
      obtain ⟨rfl, rfl, rfl⟩ := ret_some e2
      refine ⟨rfl, b, o, rfl, B, hb, hlv, hle B hb, fun j hj => ?_⟩
      rw [← veqL_eq hv] at hj ⊢
      rw [(hc j (by omega)).1]
    · simp only [hv, if_false] at e2; cases e2
  · subst hq; cases e

theorem Holds.sub {ag : Bool} {x v : Value} {h k : H} (hh : Holds ag x v h) (hs : Sub h k) : Holds ag x v k := by
  obtain ⟨b, o, hx, B, hb, hl, hle, hc⟩ := hh
  exact ⟨b, o, hx, B, hs b B hb, hl, hle, hc⟩

/-- A load that saw v sees v wherever v still stands. -/
theorem look_holds {op : Op} {t : TypeId} {x : Operand} (ho : op = .load t x) {n n' : Nat} {h h' k : H} {v : Value} (e : aop P G E Γ op n h = some (v, n', h')) (hh : Holds (aggT P t) (ev G Γ x) v k) :
    n' = n ∧ h' = h ∧ aop P G E Γ op n k = some (v, n, k) := by
  subst ho
  simp only [aop] at e ⊢
  cases hu : P.underlying t with
  | none => simp only [hu] at e; cases e
  | some d =>
  cases hi : P.info? t with
  | none => simp only [hu, hi] at e; cases e
  | some i =>
  simp only [hu, hi] at e ⊢
  obtain ⟨b, o, hx, B, hb, hl, hle, hc⟩ := hh
  by_cases hag : aggT P t = true
  · simp only [hag, if_true] at e ⊢
    obtain ⟨b', o', hx', e⟩ := opLoadN_some e
    rw [hx] at hx' ⊢
    cases hx'
    obtain ⟨cs, n1, h1, e1, e2⟩ := bnd_some e
    obtain ⟨rfl, rfl, rfl⟩ := ret_some e2
    obtain ⟨rfl, rfl, hk, _⟩ := rdN_some e1
    refine ⟨rfl, rfl, ?_⟩
    have hw : wcells (aggT P t) (.agg cs.toArray) = cs := by simp [wcells, hag, cells_agg]
    rw [hw] at hc
    have : rdN b o i.size n' k = some (cs, n', k) := by
      show rdNF b o i.size n' k = _
      unfold rdNF
      rw [hb]
      obtain ⟨bc, bk⟩ := B
      have hlec : o + i.size ≤ bc.length := by rw [hw] at hle; simpa [hk] using hle
      have hcs : (bc.drop o).take i.size = cs := by
        apply List.ext_getElem?
        intro j
        by_cases hj : j < i.size
        · rw [← hc j (by omega)]; simp [List.getElem?_take, hj]
        · rw [List.getElem?_eq_none (by simp; omega), List.getElem?_eq_none (by omega)]
      cases bk <;> first | (exact absurd rfl hl) | simp [hlec, hcs]
    show bnd (rdN b o i.size) (fun cs => ret (Value.agg cs.toArray)) n' k = _
    rw [bnd_of this]
    rfl
  · simp only [hag, if_false, Bool.false_eq_true] at e ⊢
    obtain ⟨b', o', hx', e⟩ := opLoad_some e
    rw [hx] at hx' ⊢
    cases hx'
    obtain ⟨rfl, rfl, _⟩ := rd_some e
    refine ⟨rfl, rfl, ?_⟩
    have hw : wcells (aggT P t) v = [v] := by simp [wcells, hag]
    rw [hw] at hc
    have h0 := hc 0 (by simp)
    show rdF b o n' k = _
    unfold rdF
    rw [hb]
    obtain ⟨bc, bk⟩ := B
    simp at h0
    cases bk <;> first | (exact absurd rfl hl) | simp [h0]
end
end Go.Fw
end
section
namespace Go.Fw

/-! ## What stands before what -/

def befRow (acc : List Nat) (o : Oper) : Nat := o.after.toList.foldl (fun s e => if Region.binds .any e then s ||| 2 ^ e.on ||| acc.getD e.on 0 else s) 0
def befs : List Oper → List Nat → List Nat
  | [], acc => acc
  | o :: r, acc => befs r (acc ++ [befRow acc o])
def bef (ops : Array Oper) : List Nat := befs ops.toList []
def comp (bf : List Nat) (i x : Nat) : Bool := (bf.getD x 0).testBit i

theorem befRow_bit (acc : List Nat) (i : Nat) : ∀ (l : List Edge) (s : Nat), (l.foldl (fun s e => if Region.binds .any e then s ||| 2 ^ e.on ||| acc.getD e.on 0 else s) s).testBit i = true ↔
    (s.testBit i = true ∨ ∃ e ∈ l, Region.binds .any e = true ∧ (e.on = i ∨ (acc.getD e.on 0).testBit i = true))
  | [], s => by simp
  | e :: l, s => by
    simp only [List.foldl_cons]
    rw [befRow_bit acc i l]
    by_cases hb : Region.binds .any e = true
    · simp only [hb, if_true, Nat.testBit_or, Bool.or_eq_true, Nat.testBit_two_pow, decide_eq_true_eq, List.mem_cons]
      constructor
      · rintro (((h | h) | h) | ⟨x, hx, h⟩)
        · exact .inl h
        · exact .inr ⟨e, .inl rfl, hb, .inl h⟩
        · exact .inr ⟨e, .inl rfl, hb, .inr h⟩
        · exact .inr ⟨x, .inr hx, h⟩
      · rintro (h | ⟨x, rfl | hx, h1, h2⟩)
        · exact .inl (.inl (.inl h))
        · rcases h2 with h2 | h2
          · exact .inl (.inl (.inr h2))
          · exact .inl (.inr h2)
        · exact .inr ⟨x, hx, h1, h2⟩
    · simp only [hb, if_false, Bool.false_eq_true, List.mem_cons]
      constructor
      · rintro (h | ⟨x, hx, h⟩)
        · exact .inl h
        · exact .inr ⟨x, .inr hx, h⟩
      · rintro (h | ⟨x, rfl | hx, h1, h2⟩)
        · exact .inl h
        · exact absurd h1 hb
        · exact .inr ⟨x, hx, h1, h2⟩

theorem befs_spec : ∀ (l : List Oper) (acc : List Nat), (befs l acc).length = acc.length + l.length ∧ (∀ k, k < acc.length → (befs l acc)[k]? = acc[k]?) ∧
    ∀ k o, l[k]? = some o → (befs l acc)[acc.length + k]? = some (befRow ((befs l acc).take (acc.length + k)) o)
  | [], acc => ⟨by simp [befs], fun _ _ => rfl, by simp⟩
  | o :: l, acc => by
    obtain ⟨h1, h2, h3⟩ := befs_spec l (acc ++ [befRow acc o])
    simp only [befs]
    refine ⟨by rw [h1]; simp; omega, fun k hk => ?_, fun k x hx => ?_⟩
    · rw [h2 k (by simp; omega), List.getElem?_append_left hk]
    · cases k with
      | zero =>
        simp only [List.getElem?_cons_zero, Option.some.injEq] at hx
        subst hx
        rw [Nat.add_zero, h2 acc.length (by simp), List.getElem?_append_right (by omega)]
        simp only [Nat.sub_self, List.getElem?_cons_zero, Option.some.injEq]
        congr 1
        apply List.ext_getElem?
        intro j
        rw [List.getElem?_take]
        split
        · rename_i hj
          rw [h2 j (by simp; omega), List.getElem?_append_left hj]
        · rename_i hj
          rw [List.getElem?_eq_none (by omega)]
      | succ k =>
        have := h3 k x (by simpa using hx)
        simp only [List.length_append, List.length_cons, List.length_nil] at this
        rw [show acc.length + (k + 1) = acc.length + (0 + 1) + k by omega]
        exact this

theorem comp_iff {ops : Array Oper} {i j : Nat} {o : Oper} (ho : ops[j]? = some o) :
    comp (bef ops) i j = true ↔ ∃ e ∈ o.after.toList, Region.binds .any e = true ∧ (e.on = i ∨ (e.on < j ∧ comp (bef ops) i e.on = true)) := by
  obtain ⟨h1, _, h3⟩ := befs_spec ops.toList []
  have := h3 j o (by simpa using ho)
  simp only [List.length_nil, Nat.zero_add] at this
  have hg : (bef ops).getD j 0 = befRow ((bef ops).take j) o := by
    unfold bef
    rw [List.getD_eq_getElem?_getD, this]
    rfl
  unfold comp
  rw [hg]
  unfold befRow
  rw [befRow_bit]
  simp only [Nat.zero_testBit, Bool.false_eq_true, false_or]
  constructor
  · rintro ⟨e, he, hb, h | h⟩
    · exact ⟨e, he, hb, .inl h⟩
    · refine ⟨e, he, hb, .inr ?_⟩
      by_cases hlt : e.on < j
      · refine ⟨hlt, ?_⟩
        rw [List.getD_eq_getElem?_getD, List.getElem?_take, if_pos hlt, ← List.getD_eq_getElem?_getD] at h
        exact h
      · rw [List.getD_eq_getElem?_getD, List.getElem?_take, if_neg hlt] at h
        simp at h
  · rintro ⟨e, he, hb, h | ⟨hlt, h⟩⟩
    · exact ⟨e, he, hb, .inl h⟩
    · refine ⟨e, he, hb, .inr ?_⟩
      rw [List.getD_eq_getElem?_getD, List.getElem?_take, if_pos hlt, ← List.getD_eq_getElem?_getD]
      exact h

/-! ## The run in a good order -/

def isE (ops : Array Oper) (i : Nat) : Bool :=
  match ops[i]? with
  | some o => decide (kd o.op = .act)
  | none => false

def kindsOK : Kd → Kd → Bool
  | .pure, _ => true
  | .load, _ => true
  | .alloc, .pure => true
  | .alloc, .alloc => true
  | .act, .pure => true
  | .act, .alloc => true
  | _, _ => false

/-- c may come ahead of x, for all that is between them. -/
def pairOK (ops : Array Oper) (bf : List Nat) (c x : Nat) : Bool :=
  match ops[c]?, ops[x]? with
  | some oc, some ox => !(comp bf x c) && (comp bf c x || (oc.apart ops ox && kindsOK (kd oc.op) (kd ox.op)))
  | _, _ => false

abbrev Watch := List (Nat × Bool × Value × Value)

def watchOf (P : Program) (G : Nat) (ops : Array Oper) (bf : List Nat) (i : Nat) (Γ : List (Nat × Value)) (v : Value) (l : List Nat) : Watch :=
  match ops[i]? with
  | some o => match o.op with
    | .load t x => (l.filter fun y => isE ops y && !comp bf i y).map fun y => (y, aggT P t, ev G Γ x, v)
    | _ => []
  | none => []

section
variable (P : Program) (G : Nat) (E : Env) (N : Nat) (ops : Array Oper) (β ε : Nat → Nat)

inductive Crun : List Nat → Watch → List (Nat × Value) → H → List (Nat × Value) → H → Prop where
  | nil (W : Watch) (Γ : List (Nat × Value)) (h : H) : Crun [] W Γ h Γ h
  | cons (i : Nat) (l : List Nat) (W : Watch) (Γ Γ1 Γ2 : List (Nat × Value)) (h h1 h2 : H) (v : Value) (b : Bool) :
      sval P G E ops Γ i (β i) h = some (v, ε i, h1) → putG N (dstOf ops i) v Γ = some Γ1 → (∀ e ∈ W, e.1 = i → Holds e.2.1 e.2.2.1 e.2.2.2 h1) →
      ((ops[i]?).bind (gwant ops Γ) = some b) →
      Crun l (W ++ (if b then watchOf P G ops (bef ops) i Γ v l else [])) Γ1 h1 Γ2 h2 → Crun (i :: l) W Γ h Γ2 h2
end

section
variable {P : Program} {G : Nat} {E : Env} {N : Nat} {ops : Array Oper} {β ε : Nat → Nat}

theorem Same.watchOf {Γ Γ' : List (Nat × Value)} (hs : Same Γ Γ') (i : Nat) (v : Value) (l : List Nat) : watchOf P G ops (bef ops) i Γ v l = watchOf P G ops (bef ops) i Γ' v l := by
  unfold Fw.watchOf
  split
  · split
    · rw [hs.ev]
    · rfl
  · rfl

theorem HEq'.refl (h : H) : HEq' h h := fun _ => rfl
theorem HEq'.trans {a b c : H} (h : HEq' a b) (k : HEq' b c) : HEq' a c := fun x => (h x).trans (k x)

/-- What is the same runs the same; who watches less runs, too. -/
theorem Crun.congr {l : List Nat} {W : Watch} {Γ Γ2 : List (Nat × Value)} {h h2 : H} (c : Crun P G E N ops β ε l W Γ h Γ2 h2) :
    ∀ {W' : Watch} {Γ' : List (Nat × Value)} {h' : H}, (∀ e ∈ W', e ∈ W) → Same Γ Γ' → HEq' h h' → ∃ Γ2' h2', Crun P G E N ops β ε l W' Γ' h' Γ2' h2' ∧ Same Γ2 Γ2' ∧ HEq' h2 h2' := by
  induction c with
  | nil W Γ h => intro W' Γ' h' _ hs hh; exact ⟨Γ', h', .nil _ _ _, hs, hh⟩
  | cons i l W Γ Γ1 Γ2 h h1 h2 v b e1 e2 e3 e4 _ ih =>
    intro W' Γ' h' hW hs hh
    rw [hs.sval] at e1
    obtain ⟨h1', k1, k2⟩ := M.same _ e1 hh
    obtain ⟨Γ1', g1, g2⟩ := putG_same hs e2
    have e4' : (ops[i]?).bind (gwant ops Γ') = some b := by
      rw [← e4]; congr 1; funext o; exact (hs.gwant o).symm
    obtain ⟨Γ2', h2', r1, r2, r3⟩ := ih (W' := W' ++ (if b then watchOf P G ops (bef ops) i Γ' v l else [])) (fun e he => by
      rw [List.mem_append] at he ⊢
      rcases he with he | he
      · exact .inl (hW e he)
      · right; rw [hs.watchOf]; exact he) g2 k2
    exact ⟨Γ2', h2', .cons i l W' Γ' Γ1' Γ2' h' h1' h2' v b k1 g1 (fun e he hi => (e3 e (hW e he) hi).sub k2.sub) e4' r1, r2, r3⟩

theorem look_some {m : M Value} (hm : IsLook m) {n n' : Nat} {h h' : H} {v : Value} (e : m n h = some (v, n', h')) : n' = n ∧ h' = h := by
  cases hm with
  | rd b o => obtain ⟨h1, h2, _⟩ := rd_some e; exact ⟨h1, h2⟩
  | rdN b o k =>
    obtain ⟨cs, n1, h1, e1, e2⟩ := bnd_some e
    obtain ⟨rfl, rfl, rfl⟩ := ret_some e2
    obtain ⟨h1, h2, _⟩ := rdN_some e1
    exact ⟨h1, h2⟩
  | fail => cases e
theorem isRet_some {m : M Value} (hm : IsRet m) {n n' : Nat} {h h' : H} {v : Value} (e : m n h = some (v, n', h')) : n' = n ∧ h' = h ∧ m = ret v := by
  rcases hm with ⟨u, rfl⟩ | rfl
  · obtain ⟨rfl, rfl, rfl⟩ := ret_some e; exact ⟨rfl, rfl, rfl⟩
  · cases e
theorem isNew_some {m : M Value} (hm : IsNew m) {n n' : Nat} {h h' : H} {v : Value} (e : m n h = some (v, n', h')) :
    n' = n + 1 ∧ h.get n = none ∧ ∃ B, h' = h.set n B ∧ ∀ k : H, k.get n = none → m n k = some (v, n + 1, k.set n B) := by
  rcases hm with ⟨cs, kd, f, rfl⟩ | rfl
  · obtain ⟨b, n1, h1, e1, e2⟩ := bnd_some e
    obtain ⟨rfl, rfl, rfl⟩ := ret_some e2
    obtain ⟨rfl, rfl, hn, rfl, hall⟩ := new_some e1
    refine ⟨rfl, hn, _, rfl, fun k hk => ?_⟩
    have : new cs kd b k = some (b, b + 1, k.set b ⟨cs, kd⟩) := by
      show newF cs kd b k = _
      unfold newF
      simp [hall, hk]
    show bnd (new cs kd) (fun b => ret (f b)) b k = _
    rw [bnd_of this]
    rfl
  · cases e

/-- Two values in either order. -/
theorem comm_val {mc mi : M Value} {bc ec bi ei : Nat} {h hc hci : H} {vc v : Value} (e1 : mc bc h = some (vc, ec, hc)) (e2 : mi bi hc = some (v, ei, hci)) (hdis : ec ≤ bi ∨ ei ≤ bc)
    (hf : (IsRet mi ∨ IsNew mi) ∨ IsRet mc ∨ (IsLook mc ∧ (IsLook mi ∨ mc bc hci = some (vc, ec, hci)))) :
    ∃ hi hic, mi bi h = some (v, ei, hi) ∧ mc bc hi = some (vc, ec, hic) ∧ HEq' hci hic ∧ (IsRet mc ∨ IsLook mc → hi = hci) ∧ (IsRet mi ∨ IsNew mi → Sub hc hic) := by
  by_cases hmi : IsRet mi ∨ IsNew mi
  · rcases hmi with hr | hn
    · obtain ⟨rfl, rfl, rfl⟩ := isRet_some hr e2
      exact ⟨h, hci, rfl, e1, .refl _, fun hh => by rcases hh with hh | hh; exact (isRet_some hh e1).2.1.symm; exact (look_some hh e1).2.symm, fun _ _ _ hb => hb⟩
    · obtain ⟨rfl, hnone, B, rfl, hk⟩ := isNew_some hn e2
      have lc := mc.loc _ _ _ _ _ e1
      have hnone' : h.get bi = none := by
        cases hg : h.get bi with
        | none => rfl
        | some C =>
          have := (lc.dom bi).2 (.inl (by rw [hg]; rfl))
          rw [hnone] at this; cases this
      have hsub : Sub h (h.set bi B) := fun b C hb => by
        rw [H.get_set]
        split
        · rename_i e; subst e; rw [hnone'] at hb; cases hb
        · exact hb
      obtain ⟨k', g1, g2⟩ := lc.more (h.set bi B) hsub fun b h1 h2 => by
        rw [H.get_set_ne _ _ (by omega)]
        exact lc.fresh b h1 h2
      have hheq : HEq' (hc.set bi B) k' := fun b => by
        rw [g2, H.get_set, H.get_set]
        by_cases hb : b = bi
        · subst hb; simp [hnone]
        · simp only [hb, if_false]
          split
          · rfl
          · rename_i hs
            have : ¬ (h.get b).isSome = true := fun hh => hs ((lc.dom b).2 (.inl hh))
            have e3 : hc.get b = none := by simpa using hs
            have e4 : h.get b = none := by simpa using this
            rw [e3, e4]
      refine ⟨h.set bi B, k', hk h hnone', g1, hheq, fun hh => ?_, fun _ b C hb => ?_⟩
      · have : hc = h := by rcases hh with hh | hh; exact (isRet_some hh e1).2.1; exact (look_some hh e1).2
        rw [this]
      · rw [g2, hb]; rfl
  · rcases hf with hf | hr | ⟨hl, hf⟩
    · exact absurd hf hmi
    · obtain ⟨rfl, rfl, rfl⟩ := isRet_some hr e1
      exact ⟨hci, hci, e2, rfl, .refl _, fun _ => rfl, fun hh => absurd hh hmi⟩
    · obtain ⟨rfl, rfl⟩ := look_some hl e1
      rcases hf with hf | hf
      · obtain ⟨rfl, rfl⟩ := look_some hf e2
        exact ⟨hci, hci, e2, e1, .refl _, fun _ => rfl, fun hh => absurd hh hmi⟩
      · exact ⟨hci, hci, e2, hf, .refl _, fun _ => rfl, fun hh => absurd hh hmi⟩

theorem sval_kinds {Γ : List (Nat × Value)} {i : Nat} {o : Oper} (ho : ops[i]? = some o) :
    (kd o.op = .pure → IsRet (sval P G E ops Γ i)) ∧ (kd o.op = .load → IsRet (sval P G E ops Γ i) ∨ IsLook (sval P G E ops Γ i)) ∧ (kd o.op = .alloc → IsRet (sval P G E ops Γ i) ∨ IsNew (sval P G E ops Γ i)) := by
  unfold sval
  simp only [ho]
  cases gwant ops Γ o with
  | none => exact ⟨fun _ => .inr rfl, fun _ => .inl (.inr rfl), fun _ => .inl (.inr rfl)⟩
  | some b =>
    cases b with
    | false => exact ⟨fun _ => .inl ⟨_, rfl⟩, fun _ => .inl (.inl ⟨_, rfl⟩), fun _ => .inl (.inl ⟨_, rfl⟩)⟩
    | true => exact ⟨fun h => aop_pure h, fun h => .inr (aop_load h), fun h => .inr (aop_alloc h)⟩

theorem look_put {Γ Γ1 : List (Nat × Value)} {d : Option Tmp} {v : Value} (hp : putG N d v Γ = some Γ1) {t : Nat} (ht : d ≠ some t) : look Γ1 t = look Γ t := by
  unfold putG at hp
  split at hp
  · cases hp; rfl
  · split at hp
    · cases hp
      simp only [look]
      rw [if_neg (fun e => ht (by rw [e]))]
    · cases hp

/-- An operation that doesn't look at what was written gives the same. -/
theorem sval_apart {Γ Γ1 : List (Nat × Value)} {d : Option Tmp} {v : Value} (hp : putG N d v Γ = some Γ1) {i : Nat} {o : Oper} (ho : ops[i]? = some o) (hd : ∀ t, d = some t → t ∉ o.looksAt ops) :
    sval P G E ops Γ1 i = sval P G E ops Γ i ∧ gwant ops Γ1 o = gwant ops Γ o ∧ ∀ x ∈ o.op.operands, ev G Γ1 x = ev G Γ x := by
  have hev : ∀ x ∈ o.op.operands, ev G Γ1 x = ev G Γ x := by
    intro x hx
    cases x with
    | tmp t =>
      refine look_put hp fun e => hd t e ?_
      exact List.mem_append_left _ (List.mem_filterMap.2 ⟨.tmp t, by simpa using hx, rfl⟩)
    | _ => rfl
  have hgw : gwant ops Γ1 o = gwant ops Γ o := by
    unfold gwant
    split
    · rfl
    · rename_i j want hg
      split
      · rename_i t ht
        rw [look_put hp fun e => hd t e (by simp [Oper.looksAt, hg, ht])]
      · rfl
  refine ⟨?_, hgw, hev⟩
  unfold sval
  simp only [ho, hgw]
  rw [aop_congr hev]

theorem putG_comm {Γ Γc Γi Γci : List (Nat × Value)} {dc di : Option Tmp} {vc v : Value} (h1 : putG N dc vc Γ = some Γc) (h2 : putG N di v Γc = some Γci) (hne : ∀ t, dc = some t → di ≠ some t) (h3 : putG N di v Γ = some Γi) :
    ∃ Γic, putG N dc vc Γi = some Γic ∧ Same Γci Γic := by
  cases dc with
  | none =>
    simp only [putG, Option.some.injEq] at h1
    subst h1
    rw [h3] at h2
    cases h2
    exact ⟨Γi, rfl, .refl _⟩
  | some c =>
    simp only [putG] at h1
    split at h1
    · rename_i hc
      cases h1
      cases di with
      | none =>
        simp only [putG, Option.some.injEq] at h2 h3
        subst h2 h3
        exact ⟨_, by simp [putG, hc], .refl _⟩
      | some d =>
        simp only [putG] at h2 h3
        split at h2
        · rename_i hd
          simp only [hd, if_true, Option.some.injEq] at h2 h3
          subst h2 h3
          refine ⟨_, by simp [putG, hc]; rfl, fun t => ?_⟩
          have hcd : c ≠ d := fun e => hne c rfl (by rw [e])
          simp only [look]
          by_cases ht : t = d
          · subst ht; simp [Ne.symm hcd]
          · simp [ht]
        · cases h2
    · cases h1

theorem putG_exists {Γ Γ1 Γ2 : List (Nat × Value)} {d : Option Tmp} {v : Value} (h : putG N d v Γ1 = some Γ2) : ∃ Γ3, putG N d v Γ = some Γ3 := by
  unfold putG at h ⊢
  split at h
  · exact ⟨_, rfl⟩
  · split at h
    · rename_i hd; exact ⟨_, by simp [hd]; rfl⟩
    · cases h

/-- WHAT MAY COME FIRST CAN COME FIRST. -/
theorem Crun.pull (i : Nat) (C2 : List Nat) : ∀ (C1 : List Nat) (W : Watch) (Γ : List (Nat × Value)) (h : H) (Γ2 : List (Nat × Value)) (h2 : H), (∀ c ∈ C1, pairOK ops (bef ops) c i = true ∧ comp (bef ops) c i = false) → (∀ c ∈ C1, ε c ≤ β i ∨ ε i ≤ β c) →
    (∀ e ∈ W, isE ops e.1 = true) → Crun P G E N ops β ε (C1 ++ i :: C2) W Γ h Γ2 h2 →
    ∃ v Γi hi Γ2' h2', sval P G E ops Γ i (β i) h = some (v, ε i, hi) ∧ putG N (dstOf ops i) v Γ = some Γi ∧ (∀ e ∈ W, e.1 = i → Holds e.2.1 e.2.2.1 e.2.2.2 hi) ∧ Crun P G E N ops β ε (C1 ++ C2) W Γi hi Γ2' h2' ∧ Same Γ2 Γ2' ∧ HEq' h2 h2'
  | [], W, Γ, h, Γ2, h2, _, _, _, hc => by
    cases hc with
    | cons _ _ _ _ Γ1 _ _ h1 _ v b e1 e2 e3 e4 e5 =>
      obtain ⟨Γ2', h2', r1, r2, r3⟩ := e5.congr (W' := W) (fun e he => List.mem_append_left _ he) (.refl _) (.refl _)
      exact ⟨v, Γ1, h1, Γ2', h2', e1, e2, e3, r1, r2, r3⟩
  | c :: C1, W, Γ, h, Γ2, h2, hp, hd, hW, hc => by
    cases hc with
    | cons _ _ _ _ Γc _ _ hc' _ vc b e1 e2 e3 e4 e5 =>
    obtain ⟨hpc, hcomp⟩ := hp c (by simp)
    have hdc := hd c (by simp)
    obtain ⟨oc, oi, hoc, hoi, hap, hk⟩ : ∃ oc oi, ops[c]? = some oc ∧ ops[i]? = some oi ∧ oc.apart ops oi = true ∧ kindsOK (kd oc.op) (kd oi.op) = true := by
      unfold pairOK at hpc
      split at hpc
      · rename_i oc oi hoc hoi
        simp only [hcomp, Bool.false_or, Bool.and_eq_true] at hpc
        exact ⟨oc, oi, hoc, hoi, hpc.2.1, hpc.2.2⟩
      · cases hpc
    obtain ⟨ap1, ap2, ap3⟩ := Oper.apart_spec hap
    have hdc1 : dstOf ops c = oc.dst := by simp [dstOf, hoc]
    have hdi1 : dstOf ops i = oi.dst := by simp [dstOf, hoi]
    have hW' : ∀ e ∈ W ++ (if b then watchOf P G ops (bef ops) c Γ vc (C1 ++ i :: C2) else []), isE ops e.1 = true := by
      intro e he
      rw [List.mem_append] at he
      rcases he with he | he
      · exact hW e he
      · cases b with
        | false => simp at he
        | true =>
          simp only [if_true] at he
          unfold watchOf at he
          simp only [hoc] at he
          split at he
          · simp only [List.mem_map, List.mem_filter, Bool.and_eq_true] at he
            obtain ⟨y, ⟨_, hy, _⟩, rfl⟩ := he
            exact hy
          · simp at he
    obtain ⟨v, Γci, hci, Γ2', h2', f1, f2, f3, f4, f5, f6⟩ := Crun.pull i C2 C1 _ Γc hc' Γ2 h2 (fun x hx => hp x (by simp [hx])) (fun x hx => hd x (by simp [hx])) hW' e5
    -- i ahead of c
    obtain ⟨hsi, _, _⟩ := sval_apart (P := P) (G := G) (E := E) e2 hoi (fun t ht => ap1 t (by rw [← hdc1]; exact ht))
    rw [hsi] at f1
    obtain ⟨Γi, hΓi⟩ : ∃ Γi, putG N (dstOf ops i) v Γ = some Γi := putG_exists f2
    obtain ⟨hsc, hgc, hevc⟩ := sval_apart (P := P) (G := G) (E := E) hΓi hoc (fun t ht => ap3 t (by rw [← hdi1]; exact ht))
    obtain ⟨Γic, hΓic, hsame⟩ := putG_comm e2 f2 (fun t ht => by rw [hdi1]; exact ap2 t (by rw [← hdc1]; exact ht)) hΓi
    obtain ⟨c1, c2, c3⟩ := sval_kinds (P := P) (G := G) (E := E) (Γ := Γ) hoc
    obtain ⟨i1, i2, i3⟩ := sval_kinds (P := P) (G := G) (E := E) (Γ := Γ) hoi
    have hbc : gwant ops Γ oc = some b := by rw [hoc] at e4; exact e4
    have hf : (IsRet (sval P G E ops Γ i) ∨ IsNew (sval P G E ops Γ i)) ∨ IsRet (sval P G E ops Γ c) ∨ (IsLook (sval P G E ops Γ c) ∧ (IsLook (sval P G E ops Γ i) ∨ sval P G E ops Γ c (β c) hci = some (vc, ε c, hci))) := by
      cases hkc : kd oc.op with
      | pure => exact .inr (.inl (c1 hkc))
      | alloc =>
        rw [hkc] at hk
        cases hki : kd oi.op <;> rw [hki] at hk <;> first | exact .inl (.inl (i1 hki)) | exact .inl (i3 hki) | cases hk
      | act =>
        rw [hkc] at hk
        cases hki : kd oi.op <;> rw [hki] at hk <;> first | exact .inl (.inl (i1 hki)) | exact .inl (i3 hki) | cases hk
      | load =>
        rcases c2 hkc with hr | hl
        · exact .inr (.inl hr)
        · cases hki : kd oi.op with
          | pure => exact .inl (.inl (i1 hki))
          | alloc => exact .inl (i3 hki)
          | load =>
            rcases i2 hki with hr | hli
            · exact .inl (.inl hr)
            · exact .inr (.inr ⟨hl, .inl hli⟩)
          | act =>
            cases b with
            | false =>
              right; left
              have : sval P G E ops Γ c = ret skipV := by unfold sval; simp only [hoc, hbc]
              exact .inl ⟨_, this⟩
            | true =>
              refine .inr (.inr ⟨hl, .inr ?_⟩)
              obtain ⟨t, x, hop⟩ : ∃ t x, oc.op = .load t x := by
                cases hop : oc.op <;> rw [hop] at hkc <;> simp only [kd] at hkc <;> try (cases hkc; done)
                case load t x => exact ⟨t, x, rfl⟩
                case slice t x lo hi mx => cases lo <;> cases hi <;> cases mx <;> simp at hkc
                case call cc => rcases kd_call cc with e | e <;> simp only [kd] at e <;> rw [e] at hkc <;> cases hkc
              have hmem : ((i, aggT P t, ev G Γ x, vc) : Nat × Bool × Value × Value) ∈ watchOf P G ops (bef ops) c Γ vc (C1 ++ i :: C2) := by
                unfold watchOf
                simp only [hoc, hop, List.mem_map, List.mem_filter, Bool.and_eq_true]
                refine ⟨i, ⟨by simp, by simp [isE, hoi, hki], by simp [hcomp]⟩, rfl⟩
              have hh := f3 _ (List.mem_append_right _ (by simpa using hmem)) rfl
              have hsv : sval P G E ops Γ c = aop P G E Γ oc.op := by unfold sval; simp only [hoc, hbc]
              rw [hsv] at e1 ⊢
              obtain ⟨g1, g2, _⟩ := look_holds hop e1 hh
              rw [g1] at e1 ⊢
              exact (look_holds hop e1 hh).2.2
    obtain ⟨hi, hic, k1, k2, k3, k4, k5⟩ := comm_val e1 f1 hdc hf
    obtain ⟨Γ3, h3, g1, g2, g3⟩ := f4.congr (W' := W ++ (if b then watchOf P G ops (bef ops) c Γi vc (C1 ++ C2) else [])) (fun e he => by
      rw [List.mem_append] at he ⊢
      rcases he with he | he
      · exact .inl he
      · right
        cases b with
        | false => simp at he
        | true =>
          simp only [if_true] at he ⊢
          unfold watchOf at he ⊢
          simp only [hoc] at he ⊢
          split at he
          · rename_i t x hop
            rw [hevc x (by simp [hop, Op.operands])] at he
            simp only [List.mem_map, List.mem_filter] at he ⊢
            obtain ⟨y, ⟨hy, hy2⟩, rfl⟩ := he
            exact ⟨y, ⟨by simp at hy ⊢; rcases hy with hy | hy; exact .inl hy; exact .inr (.inr hy), hy2⟩, rfl⟩
          · simp at he) hsame k3
    refine ⟨v, Γi, hi, Γ3, h3, k1, hΓi, fun e he hei => ?_, ?_, f5.trans g2, f6.trans g3⟩
    · -- i is an act: c only looks
      have hie : isE ops i = true := by rw [← hei]; exact hW e he
      have hki : kd oi.op = .act := by simpa [isE, hoi] using hie
      have hcl : IsRet (sval P G E ops Γ c) ∨ IsLook (sval P G E ops Γ c) := by
        rw [hki] at hk
        cases hkc : kd oc.op <;> rw [hkc] at hk <;> first | exact .inl (c1 hkc) | exact c2 hkc | cases hk
      rw [k4 hcl]
      exact f3 e (List.mem_append_left _ he) hei
    · refine .cons c (C1 ++ C2) W Γi Γic Γ3 hi hic h3 vc b (by rw [hsc]; exact k2) hΓic (fun e he hec => ?_) (by rw [hoc]; exact hgc.trans hbc) g1
      have hce : isE ops c = true := by rw [← hec]; exact hW e he
      have hkc : kd oc.op = .act := by simpa [isE, hoc] using hce
      have hin : IsRet (sval P G E ops Γ i) ∨ IsNew (sval P G E ops Γ i) := by
        rw [hkc] at hk
        cases hki : kd oi.op <;> rw [hki] at hk <;> first | exact .inl (i1 hki) | exact i3 hki | cases hk
      exact (e3 e he hec).sub (k5 hin)
end
end Go.Fw
end
section
namespace Go.Fw

section
variable {P : Program} {G : Nat} {E : Env} {N : Nat} {ops : Array Oper}

def edgesOK (ops : Array Oper) : Bool := ops.toList.zipIdx.all fun p => p.1.after.toList.all fun e => !(Region.binds .any e) || decide (e.on < p.2)

theorem edges_lt (he : edgesOK ops = true) {j : Nat} {o : Oper} (ho : ops[j]? = some o) : ∀ e ∈ o.after, Region.binds .any e = true → e.on < j := by
  intro e hm hb
  have hmem : (o, j) ∈ ops.toList.zipIdx := by
    rw [List.mem_zipIdx_iff_getElem?]
    simpa using ho
  have := List.all_eq_true.1 he _ hmem
  have := List.all_eq_true.1 this e (by simpa using hm)
  simpa [hb] using this

def Closed (ops : Array Oper) (listed : Array Bool) : Prop := ∀ j o, ops[j]? = some o → listed.getD j false = true → ∀ e ∈ o.after, Region.binds .any e = true → listed.getD e.on false = true

theorem comp_listed {listed : Array Bool} (hc : Closed ops listed) {c : Nat} : ∀ (i : Nat) (o : Oper), ops[i]? = some o → (∀ e ∈ o.after, Region.binds .any e = true → listed.getD e.on false = true) → comp (bef ops) c i = true → listed.getD c false = true := by
  intro i
  induction i using Nat.strongRecOn with
  | _ i ih =>
    intro o ho hp hcomp
    obtain ⟨e, he, hb, h⟩ := (comp_iff ho).1 hcomp
    have hl := hp e (by simpa using he) hb
    rcases h with rfl | ⟨hlt, h⟩
    · exact hl
    · have hsz : i < ops.size := (Array.getElem?_eq_some_iff.1 ho).1
      have ho' : ops[e.on]? = some ops[e.on] := Array.getElem?_eq_getElem (by omega)
      exact ih e.on hlt _ ho' (hc e.on _ ho' hl) h

theorem wpAny_of_crun (hE : EnvOK P G E) (he : edgesOK ops = true) {β ε : Nat → Nat} {Q : Exit → Act → World → Prop} :
    ∀ (fuel : Nat) (listed : Array Bool) (C : List Nat) (Γ Γ2 : List (Nat × Value)) (h h2 : H) (ρ : Map) (a : Act) (w : World), listed.size = ops.size → (∀ i, i ∈ C ↔ i < ops.size ∧ listed.getD i true = false) → C.length ≤ fuel → Closed ops listed →
      C.Pairwise (fun c x => c ≠ x ∧ pairOK ops (bef ops) c x = true) → C.Pairwise (fun c x => ε c ≤ β x) → Crun P G E N ops β ε C [] Γ h Γ2 h2 → R G ρ h w → Live ρ N Γ a →
      (∀ a' ρ' w' Γ' h', Same Γ2 Γ' → HEq' h2 h' → Live ρ' N Γ' a' → a'.defers = a.defers → R G ρ' h' w' → Ext ρ h w ρ' h' w' → Q .normal a' w') → wpAny P .any ops Q fuel listed a w := by
  have empty : ∀ (listed : Array Bool) (C : List Nat), listed.size = ops.size → (∀ i, i ∈ C ↔ i < ops.size ∧ listed.getD i true = false) → C.Pairwise (fun c x => c ≠ x ∧ pairOK ops (bef ops) c x = true) → Region.ready .any ops listed = [] → C = [] := by
    intro listed C hsz hC hp hr
    cases C with
    | nil => rfl
    | cons c C =>
      exfalso
      obtain ⟨hc, hcl⟩ := (hC c).1 (by simp)
      have ho : ops[c]? = some ops[c] := Array.getElem?_eq_getElem hc
      have hmem : c ∈ Region.ready .any ops listed := by
        rw [mem_ready]
        refine ⟨hcl, _, ho, fun e hem hb => ?_⟩
        have hlt := edges_lt he ho e hem hb
        cases hl : listed.getD e.on false with
        | true => rfl
        | false =>
          exfalso
          have hin : e.on ∈ c :: C := (hC e.on).2 ⟨by omega, by
            have : e.on < listed.size := by omega
            simp [this] at hl ⊢
            exact hl⟩
          simp only [List.mem_cons] at hin
          rcases hin with hin | hin
          · omega
          · have := (List.pairwise_cons.1 hp).1 e.on hin
            have hcm : comp (bef ops) e.on c = true := (comp_iff ho).2 ⟨e, by simpa using hem, hb, .inl rfl⟩
            have hp2 := this.2
            unfold pairOK at hp2
            split at hp2
            · simp [hcm] at hp2
            · cases hp2
      rw [hr] at hmem
      cases hmem
  intro fuel
  induction fuel with
  | zero =>
    intro listed C Γ Γ2 h h2 ρ a w hsz hC hlen hcl hp hrg hc r l hQ
    have hC0 : C = [] := List.eq_nil_of_length_eq_zero (by omega)
    subst hC0
    cases hc
    refine ⟨?_, hQ a ρ w _ _ (.refl _) (.refl _) l rfl r (Ext.refl _ _ _)⟩
    rw [List.eq_nil_iff_forall_not_mem]
    intro j hj
    rw [mem_ready] at hj
    obtain ⟨hjl, o, ho, _⟩ := hj
    have : j ∈ ([] : List Nat) := (hC j).2 ⟨(Array.getElem?_eq_some_iff.1 ho).1, hjl⟩
    cases this
  | succ fuel ih =>
    intro listed C Γ Γ2 h h2 ρ a w hsz hC hlen hcl hp hrg hc r l hQ
    refine ⟨fun hr => ?_, fun i hi => ?_⟩
    · have hC0 := empty listed C hsz hC hp hr
      subst hC0
      cases hc
      exact hQ a ρ w _ _ (.refl _) (.refl _) l rfl r (Ext.refl _ _ _)
    · rw [mem_ready] at hi
      obtain ⟨hil, o, ho, hpre⟩ := hi
      have hisz : i < ops.size := (Array.getElem?_eq_some_iff.1 ho).1
      have hiC : i ∈ C := (hC i).2 ⟨hisz, hil⟩
      obtain ⟨C1, C2, rfl⟩ := List.append_of_mem hiC
      have hp1 : ∀ c ∈ C1, c ≠ i ∧ pairOK ops (bef ops) c i = true := fun c hcm => (List.pairwise_append.1 hp).2.2 c hcm i (by simp)
      have hncomp : ∀ c ∈ C1, comp (bef ops) c i = false := by
        intro c hcm
        cases hcc : comp (bef ops) c i with
        | false => rfl
        | true =>
          have := comp_listed hcl i o ho hpre hcc
          have hc2 := ((hC c).1 (by simp [hcm])).2
          have hcs := ((hC c).1 (by simp [hcm])).1
          have hlt : c < listed.size := by omega
          simp [hlt] at this hc2
          rw [this] at hc2; cases hc2
      obtain ⟨v, Γi, hi', Γ2', h2', e1, e2, _, e4, e5, e6⟩ := Crun.pull i C2 C1 [] Γ h Γ2 h2 (fun c hcm => ⟨(hp1 c hcm).2, hncomp c hcm⟩) (fun c hcm => .inl ((List.pairwise_append.1 hrg).2.2 c hcm i (by simp))) (by simp) hc
      have hstep : step P G E N ops i Γ (β i) h = some (Γi, ε i, hi') := by
        unfold step
        show bnd _ _ (β i) h = _
        rw [bnd_of e1, e2]
        rfl
      refine step_wpOp hE r l hstep fun a' ρ' w' l' hd' r' x' => ?_
      refine ih (listed.setIfInBounds i true) (C1 ++ C2) Γi Γ2' hi' h2' ρ' a' w' (by simpa using hsz) (fun j => ?_) (by simp at hlen ⊢; omega) (fun j oj hoj hjl e hem hb => ?_) ?_ ?_ e4 r' l' fun a2 ρ2 w2 Γ3 h3 s1 s2 l2 d2 r2 x2 => hQ a2 ρ2 w2 Γ3 h3 (e5.trans s1) (e6.trans s2) l2 (d2.trans hd') r2 (x'.trans x2)
      · have hnd : ∀ x ∈ C1 ++ C2, x ≠ i := by
          intro x hx
          rw [List.mem_append] at hx
          rcases hx with hx | hx
          · exact (hp1 x hx).1
          · have := (List.pairwise_cons.1 (List.pairwise_append.1 hp).2.1).1 x hx
            exact fun e => this.1 e.symm
        constructor
        · intro hj
          have hji := hnd j hj
          have := (hC j).1 (by simp at hj ⊢; rcases hj with hj | hj; exact .inl hj; exact .inr (.inr hj))
          refine ⟨this.1, ?_⟩
          rw [getD_set_ne _ (Ne.symm hji)]; exact this.2
        · rintro ⟨hj1, hj2⟩
          have hji : j ≠ i := by
            intro e; subst e
            have : j < listed.size := by omega
            simp [this] at hj2
          rw [getD_set_ne _ (Ne.symm hji)] at hj2
          have := (hC j).2 ⟨hj1, hj2⟩
          simp at this ⊢
          rcases this with h | h | h
          · exact .inl h
          · exact absurd h hji
          · exact .inr h
      · by_cases hji : j = i
        · subst hji
          rw [hoj] at ho
          cases ho
          exact getD_set_true (hpre e hem hb)
        · rw [getD_set_ne _ (Ne.symm hji)] at hjl
          exact getD_set_true (hcl j oj hoj hjl e hem hb)
      · exact hp.sublist (List.Sublist.append (List.Sublist.refl C1) (List.sublist_cons_self i C2))
      · exact hrg.sublist (List.Sublist.append (List.Sublist.refl C1) (List.sublist_cons_self i C2))

/-- The order in which the abstract machine runs a region is a good one. -/
def goodOrder (ops : Array Oper) (C : List Nat) : Bool :=
  edgesOK ops && C.length == ops.size && C.all (fun i => decide (i < ops.size)) && (List.range ops.size).all (fun i => C.contains i) && pairs (bef ops) C
where
  pairs (bf : List Nat) : List Nat → Bool
    | [] => true
    | c :: l => l.all (fun x => c != x && pairOK ops bf c x) && pairs bf l

theorem goodOrder_pairs : ∀ {C : List Nat}, goodOrder.pairs ops (bef ops) C = true → C.Pairwise (fun c x => c ≠ x ∧ pairOK ops (bef ops) c x = true)
  | [], _ => .nil
  | c :: l, h => by
    simp only [goodOrder.pairs, Bool.and_eq_true] at h
    refine List.pairwise_cons.2 ⟨fun x hx => ?_, goodOrder_pairs h.2⟩
    have := List.all_eq_true.1 h.1 x hx
    simpa using this

theorem draw_wp (hm : P.follows .mixedOrders = true) (hE : EnvOK P G E) {C : List Nat} (hg : goodOrder ops C = true) {β ε : Nat → Nat} (hrg : C.Pairwise (fun c x => ε c ≤ β x)) {Γ Γ2 : List (Nat × Value)} {h h2 : H} (hc : Crun P G E N ops β ε C [] Γ h Γ2 h2)
    {ρ : Map} {a : Act} {w : World} (r : R G ρ h w) (l : Live ρ N Γ a) {Q : Exit → Act → World → Prop} {id : Nat}
    (hQ : ∀ a' ρ' w', Live ρ' N Γ2 a' → a'.defers = a.defers → R G ρ' h2 w' → Ext ρ h w ρ' h2 w' → Q .normal a' w') : (Code.region id ops true).wp P Q a w := by
  simp only [goodOrder, Bool.and_eq_true, beq_iff_eq] at hg
  obtain ⟨⟨⟨⟨g1, g2⟩, g3⟩, g4⟩, g5⟩ := hg
  refine wp_region_any hm ?_
  refine wpAny_of_crun hE g1 ops.size (Array.replicate ops.size false) C Γ Γ2 h h2 ρ a w.drew (by simp) (fun i => ⟨fun hi => ?_, fun hi => ?_⟩) (by omega) (fun j o ho hj => ?_) (goodOrder_pairs g5) hrg hc r.drew l (fun a' ρ' w' Γ' h' s1 s2 l' d' r' x' => ?_)
  · have := List.all_eq_true.1 g3 i hi
    have hlt : i < ops.size := by simpa using this
    exact ⟨hlt, by simp [hlt]⟩
  · have := List.all_eq_true.1 g4 i (by simpa using hi.1)
    simpa using this
  · have hlt : j < ops.size := (Array.getElem?_eq_some_iff.1 ho).1
    simp [hlt] at hj
  · exact hQ a' ρ' w' (s1.symm.live l') d' (s2.symm.r r') (s2.symm.ext ((Ext.drew _ _ _).trans x'))
end

/-! ## The abstract machine's own run of a region, with what comes behind it -/

section
variable (P : Program) (G : Nat) (E : Env) (N : Nat) (ops : Array Oper)

/-- Is an operation another one's guard? Then its value is looked into at once. -/
def isG (i : Nat) : Bool := ops.toList.any fun o => match o.guard with
  | some (j, _) => j == i
  | none => false

def onB {β : Type} (v : Value) (t f : M β) : M β :=
  match v with
  | .bool true => t
  | .bool false => f
  | _ => fail

def onG {β : Type} (g : Bool) (v : Value) (k : Value → M β) : M β := if g then onB v (k (.bool true)) (k (.bool false)) else k v

/-- An operation, and what comes behind it: what only moves a value takes no step of its own. -/
def bop {β : Type} (Γ : List (Nat × Value)) (op : Op) (k : Value → M β) : M β :=
  match op with
  | .move x => k (ev G Γ x)
  | .assign x => k (ev G Γ x)
  | .pick c a b => onB (ev G Γ c) (k (ev G Γ a)) (k (ev G Γ b))
  | op => bnd (aop P G E Γ op) k

def chkK {β : Type} : Watch → M β → M β
  | [], m => m
  | (_, ag, x, v) :: r, m => bnd (opChk ag x v) fun _ => chkK r m

def runK {β : Type} : List Nat → List (Nat × Value) → (List (Nat × Value) → M β) → M β
  | [], Γ, K => K Γ
  | i :: l, Γ, K =>
    match ops[i]? with
    | none => fail
    | some o => match gwant ops Γ o with
      | none => fail
      | some false => (match putG N o.dst skipV Γ with
        | some Γ' => runK l Γ' K
        | none => fail)
      | some true => bop P G E Γ o.op fun v => onG (isG ops i) v fun v => (match putG N o.dst v Γ with
        | some Γ' => runK l Γ' K
        | none => fail)

def drawK {β : Type} (bf : List Nat) : List Nat → Watch → List (Nat × Value) → (List (Nat × Value) → M β) → M β
  | [], _, Γ, K => K Γ
  | i :: l, W, Γ, K =>
    match ops[i]? with
    | none => fail
    | some o => match gwant ops Γ o with
      | none => fail
      | some false => chkK (W.filter fun e => e.1 == i) (match putG N o.dst skipV Γ with
        | some Γ' => drawK bf l W Γ' K
        | none => fail)
      | some true => bop P G E Γ o.op fun v => onG (isG ops i) v fun v => chkK (W.filter fun e => e.1 == i) (match putG N o.dst v Γ with
        | some Γ' => drawK bf l (W ++ watchOf P G ops bf i Γ v l) Γ' K
        | none => fail)
end

section
variable {P : Program} {G : Nat} {E : Env} {N : Nat} {ops : Array Oper}

theorem onB_some {β : Type} {v : Value} {t f : M β} {n : Nat} {h : H} {z : β × Nat × H} (e : onB v t f n h = some z) : (v = .bool true ∧ t n h = some z) ∨ (v = .bool false ∧ f n h = some z) := by
  obtain ⟨q, hq⟩ : ∃ q, q = onB v t f := ⟨_, rfl⟩
  rw [← hq] at e
  unfold onB at hq
  split at hq
  · subst hq; exact .inl ⟨rfl, e⟩
  · subst hq; exact .inr ⟨rfl, e⟩
  · subst hq; cases e

theorem bop_some {β : Type} {Γ : List (Nat × Value)} {op : Op} {k : Value → M β} {n : Nat} {h : H} {z : β × Nat × H} (e : bop P G E Γ op k n h = some z) : bnd (aop P G E Γ op) k n h = some z := by
  unfold bop at e
  split at e
  · exact e
  · exact e
  · rcases onB_some e with ⟨hb, e⟩ | ⟨hb, e⟩
    · simp only [aop, opPick, hb]; exact e
    · simp only [aop, opPick, hb]; exact e
  · exact e

theorem onG_some {β : Type} {g : Bool} {v : Value} {k : Value → M β} {n : Nat} {h : H} {z : β × Nat × H} (e : onG g v k n h = some z) : k v n h = some z := by
  unfold onG at e
  cases g with
  | false => simpa using e
  | true =>
    simp only [if_true] at e
    rcases onB_some e with ⟨rfl, e⟩ | ⟨rfl, e⟩ <;> exact e

theorem chkK_some {β : Type} {m : M β} {n : Nat} {h : H} {z : β × Nat × H} : ∀ {W : Watch}, chkK W m n h = some z → m n h = some z ∧ ∀ e ∈ W, Holds e.2.1 e.2.2.1 e.2.2.2 h
  | [], e => ⟨e, by simp⟩
  | (i, ag, x, v) :: r, e => by
    obtain ⟨u, n1, h1, e1, e2⟩ := bnd_some e
    obtain ⟨hz, hh⟩ := opChk_some e1
    simp only [Prod.mk.injEq, true_and] at hz
    obtain ⟨rfl, rfl⟩ := hz
    obtain ⟨g1, g2⟩ := chkK_some e2
    refine ⟨g1, fun e he => ?_⟩
    rcases List.mem_cons.1 he with rfl | he
    · exact hh
    · exact g2 e he

theorem runK_runL {β : Type} {K : List (Nat × Value) → M β} {z : β × Nat × H} : ∀ (l : List Nat) (Γ : List (Nat × Value)) (n : Nat) (h : H), runK P G E N ops l Γ K n h = some z →
    ∃ Γ' n' h', runL P G E N ops l Γ n h = some (Γ', n', h') ∧ K Γ' n' h' = some z
  | [], Γ, n, h, e => ⟨Γ, n, h, rfl, e⟩
  | i :: l, Γ, n, h, e => by
    simp only [runK] at e
    cases ho : ops[i]? with
    | none => simp only [ho] at e; cases e
    | some o =>
      simp only [ho] at e
      have hd : dstOf ops i = o.dst := by simp [dstOf, ho]
      cases hg : gwant ops Γ o with
      | none => simp only [hg] at e; cases e
      | some b =>
        simp only [hg] at e
        have key : ∀ v n1 h1, sval P G E ops Γ i n h = some (v, n1, h1) → (match putG N o.dst v Γ with | some Γ' => runK P G E N ops l Γ' K | none => fail : M β) n1 h1 = some z →
            ∃ Γ' n' h', runL P G E N ops (i :: l) Γ n h = some (Γ', n', h') ∧ K Γ' n' h' = some z := by
          intro v n1 h1 e1 e2
          cases hp : putG N o.dst v Γ with
          | none => simp only [hp] at e2; cases e2
          | some Γ1 =>
            simp only [hp] at e2
            obtain ⟨Γ', n', h', g1, g2⟩ := runK_runL l Γ1 n1 h1 e2
            refine ⟨Γ', n', h', ?_, g2⟩
            have hs : step P G E N ops i Γ n h = some (Γ1, n1, h1) := by
              unfold step
              rw [bnd_of e1, hd, hp]; rfl
            unfold runL
            rw [bnd_of hs]
            exact g1
        cases b with
        | false => exact key skipV n h (by unfold sval; simp only [ho, hg]; rfl) e
        | true =>
          obtain ⟨v, n1, h1, e1, e2⟩ := bnd_some (bop_some e)
          exact key v n1 h1 (by unfold sval; simp only [ho, hg]; exact e1) (onG_some e2)

theorem Crun.agree {β ε β' ε' : Nat → Nat} {l : List Nat} {W : Watch} {Γ Γ2 : List (Nat × Value)} {h h2 : H} (c : Crun P G E N ops β ε l W Γ h Γ2 h2) : (∀ i ∈ l, β i = β' i ∧ ε i = ε' i) → Crun P G E N ops β' ε' l W Γ h Γ2 h2 := by
  induction c with
  | nil W Γ h => intro _; exact .nil _ _ _
  | cons i l W Γ Γ1 Γ2 h h1 h2 v b e1 e2 e3 e4 _ ih =>
    intro ha
    obtain ⟨hb, he⟩ := ha i (by simp)
    rw [hb, he] at e1
    exact .cons i l W Γ Γ1 Γ2 h h1 h2 v b e1 e2 e3 e4 (ih fun j hj => ha j (by simp [hj]))

theorem drawK_crun {γ : Type} {K : List (Nat × Value) → M γ} {z : γ × Nat × H} : ∀ (l : List Nat) (W : Watch) (Γ : List (Nat × Value)) (n : Nat) (h : H), l.Pairwise (· ≠ ·) → drawK P G E N ops (bef ops) l W Γ K n h = some z →
    ∃ β ε Γ2 n2 h2, Crun P G E N ops β ε l W Γ h Γ2 h2 ∧ (∀ i ∈ l, n ≤ β i ∧ β i ≤ ε i) ∧ l.Pairwise (fun c x => ε c ≤ β x) ∧ K Γ2 n2 h2 = some z
  | [], W, Γ, n, h, _, e => ⟨id, id, Γ, n, h, .nil _ _ _, by simp, .nil, e⟩
  | i :: l, W, Γ, n, h, hnd, e => by
    simp only [drawK] at e
    obtain ⟨hnd1, hnd2⟩ := List.pairwise_cons.1 hnd
    cases ho : ops[i]? with
    | none => simp only [ho] at e; cases e
    | some o =>
      simp only [ho] at e
      have hd : dstOf ops i = o.dst := by simp [dstOf, ho]
      cases hg : gwant ops Γ o with
      | none => simp only [hg] at e; cases e
      | some b =>
        simp only [hg] at e
        have key : ∀ v n1 h1, sval P G E ops Γ i n h = some (v, n1, h1) → chkK (W.filter fun e => e.1 == i) (match putG N o.dst v Γ with | some Γ' => drawK P G E N ops (bef ops) l (W ++ (if b then watchOf P G ops (bef ops) i Γ v l else [])) Γ' K | none => fail : M γ) n1 h1 = some z →
            ∃ β ε Γ2 n2 h2, Crun P G E N ops β ε (i :: l) W Γ h Γ2 h2 ∧ (∀ j ∈ i :: l, n ≤ β j ∧ β j ≤ ε j) ∧ (i :: l).Pairwise (fun c x => ε c ≤ β x) ∧ K Γ2 n2 h2 = some z := by
          intro v n1 h1 e1 e2
          obtain ⟨e2, hh⟩ := chkK_some e2
          cases hp : putG N o.dst v Γ with
          | none => simp only [hp] at e2; cases e2
          | some Γ1 =>
            simp only [hp] at e2
            obtain ⟨β, ε, Γ2, n2, h2, g1, g2, g3, g4⟩ := drawK_crun l _ Γ1 n1 h1 hnd2 e2
            have hn1 := ((sval P G E ops Γ i).loc _ _ _ _ _ e1).le
            have hne : ∀ j ∈ l, j ≠ i := fun j hj => (hnd1 j hj).symm
            refine ⟨fun j => if j = i then n else β j, fun j => if j = i then n1 else ε j, Γ2, n2, h2, .cons i l W Γ Γ1 Γ2 h h1 h2 v b (by simpa using e1) (by rw [hd]; exact hp) (fun e he hei => hh e (by simp [he, hei])) (by rw [ho]; exact hg) (g1.agree fun j hj => by simp [hne j hj]), fun j hj => ?_, ?_, g4⟩
            · rcases List.mem_cons.1 hj with rfl | hj
              · simp; omega
              · have := g2 j hj
                simp only [hne j hj, if_false]; omega
            · refine List.pairwise_cons.2 ⟨fun x hx => ?_, ?_⟩
              · have := g2 x hx
                simp only [if_true, hne x hx, if_false]; omega
              · refine g3.imp_of_mem fun {c x} hc hx hh => ?_
                simp only [hne c hc, hne x hx, if_false]; exact hh
        cases b with
        | false => exact key skipV n h (by unfold sval; simp only [ho, hg]; rfl) (by simpa using e)
        | true =>
          obtain ⟨v, n1, h1, e1, e2⟩ := bnd_some (bop_some e)
          exact key v n1 h1 (by unfold sval; simp only [ho, hg]; exact e1) (by simpa using onG_some e2)
end
end Go.Fw
end
section
namespace Go.Fw

/-- What is fixed while a function's code is gone through. -/
structure Ctx where
  P : Program
  G : Nat
  E : Env
  N : Nat
  ρ : Map
  h : H
  w : World
  z : Value × Nat × H

/-- The place behind a piece of code, left in a way e: what is known of the temporaries is Γ, and what is left to do is m. -/
def OKq (c : Ctx) (Q : Exit → Act → World → Prop) (e : Exit) (Γ : List (Nat × Value)) (m : M Value) : Prop :=
  ∀ n h ρ w a, m n h = some c.z → R c.G ρ h w → Ext c.ρ c.h c.w ρ h w → Live ρ c.N Γ a → a.defers = [] → Q e a w

/-- The place ahead of a piece of code. -/
def OKc (c : Ctx) (x : Code) (Γ : List (Nat × Value)) (m : M Value) (Q : Exit → Act → World → Prop) : Prop :=
  ∀ n h ρ w a, m n h = some c.z → R c.G ρ h w → Ext c.ρ c.h c.w ρ h w → Live ρ c.N Γ a → a.defers = [] → x.wp c.P Q a w

section
variable {c : Ctx} {Q : Exit → Act → World → Prop} {Γ : List (Nat × Value)} {m : M Value}

theorem rSkip (h : OKq c Q .normal Γ m) : OKc c .skip Γ m Q := fun _ _ _ _ _ e r x l d => wp_skip (h _ _ _ _ _ e r x l d)
theorem rLabel {k : Nat} (h : OKq c Q .normal Γ m) : OKc c (.label k) Γ m Q := fun _ _ _ _ _ e r x l d => wp_label (h _ _ _ _ _ e r x l d)
theorem rExit {id : Nat} (h : OKq c Q (.exit id) Γ m) : OKc c (.exit id) Γ m Q := fun _ _ _ _ _ e r x l d => wp_exit (h _ _ _ _ _ e r x l d)
theorem rRet (h : OKq c Q .ret Γ m) : OKc c .ret Γ m Q := fun _ _ _ _ _ e r x l d => wp_ret (h _ _ _ _ _ e r x l d)
theorem rSeq {x y : Code} (h : OKc c x Γ m (Exit.then (fun a w => y.wp c.P Q a w) Q)) : OKc c (.seq x y) Γ m Q := fun _ _ _ _ _ e r x l d => wp_seq (h _ _ _ _ _ e r x l d)
theorem rThen {y : Code} (h : OKc c y Γ m Q) : OKq c (Exit.then (fun a w => y.wp c.P Q a w) Q) .normal Γ m := fun _ _ _ _ _ e r x l d => h _ _ _ _ _ e r x l d
theorem rBlock {id : Nat} {x : Code} (h : OKc c x Γ m (Exit.inBlock id Q)) : OKc c (.block id x) Γ m Q := fun _ _ _ _ _ e r x l d => wp_block (h _ _ _ _ _ e r x l d)
theorem rOut {id : Nat} (h : OKq c Q .normal Γ m) : OKq c (Exit.inBlock id Q) (.exit id) Γ m := fun _ _ _ _ _ e r x l d => by
  show if id = id then _ else _
  rw [if_pos rfl]
  exact h _ _ _ _ _ e r x l d
theorem rPast {id id' : Nat} (hne : Nat.beq id' id = false) (h : OKq c Q (.exit id') Γ m) : OKq c (Exit.inBlock id Q) (.exit id') Γ m := fun _ _ _ _ _ e r x l d => by
  show if id' = id then _ else _
  rw [if_neg (Nat.ne_of_beq_eq_false hne)]
  exact h _ _ _ _ _ e r x l d

theorem rFail {x : Code} : OKc c x Γ fail Q := fun _ _ _ _ _ e => by cases e
theorem qFail {ex : Exit} : OKq c Q ex Γ fail := fun _ _ _ _ _ e => by cases e

/-- What is known of some of the temporaries. -/
theorem Live.some {ρ : Map} {N : Nat} {a : Act} (l : Live ρ N Γ a) (ts : List Nat) : Live ρ N (ts.map fun t => (t, look Γ t)) a := by
  refine ⟨l.size, fun t => ?_⟩
  have : look (ts.map fun t => (t, look Γ t)) t = undef ∨ look (ts.map fun t => (t, look Γ t)) t = look Γ t := by
    induction ts with
    | nil => exact .inl rfl
    | cons s ts ih =>
      simp only [List.map_cons, look]
      split
      · rename_i e; subst e; exact .inr rfl
      · exact ih
  rcases this with h | h
  · exact .inl (.inl h)
  · rw [h]; exact l.at_ t

theorem rCond {o : Operand} {x y : Code} (mt mf : M Value) (hm : m = onB (ev c.G Γ o) mt mf) (hx : OKc c x Γ mt Q) (hy : OKc c y Γ mf Q) : OKc c (.cond o x y) Γ m Q := by
  intro n h ρ w a e r xx l d
  rw [hm] at e
  have ho := ev_sim r l o
  rcases onB_some e with ⟨hb, e⟩ | ⟨hb, e⟩
  · rw [hb] at ho
    exact wp_cond_true ho.bool_inv (hx _ _ _ _ _ e r xx l d)
  · rw [hb] at ho
    exact wp_cond_false ho.bool_inv (hy _ _ _ _ _ e r xx l d)

/-- A loop, by how many rounds are left at the most. -/
theorem rLoop {σ : Type} (Γs : σ → List (Nat × Value)) (sh : Nat → σ → M Value) (h0 : ∀ s, sh 0 s = fail) {body : Code}
    (hb : ∀ (I : Nat → Act → World → Prop), (∀ k s, OKq c (fun _ a w => I k a w) .normal (Γs s) (sh k s)) → ∀ k s, OKc c body (Γs s) (sh (k + 1) s) (Exit.then (fun a w => I k a w) Q)) (F : Nat) (s : σ) :
    OKc c (.loop body) (Γs s) (sh F s) Q := by
  intro n h ρ w a e r x l d b' k' cs
  let I : Nat → Act → World → Prop := fun k a w => ∃ s n h ρ, sh k s n h = some c.z ∧ R c.G ρ h w ∧ Ext c.ρ c.h c.w ρ h w ∧ Live ρ c.N (Γs s) a ∧ a.defers = []
  have hI : ∀ k s, OKq c (fun _ a w => I k a w) .normal (Γs s) (sh k s) := fun k s n h ρ w a e r x l d => ⟨s, n, h, ρ, e, r, x, l, d⟩
  have round := hb I hI
  have key : ∀ k a w, I k a w → ∃ e a' w', Q e a' w' ∧ Arrives c.P (lone (b'.at a (.code body :: .inLoop body :: k')) cs w) b' k' cs e a' w' := by
    intro k
    induction k with
    | zero =>
      rintro a w ⟨s, n, h, ρ, e, _⟩
      rw [h0] at e; cases e
    | succ k ih =>
      rintro a w ⟨s, n, h, ρ, e, r, x, l, d⟩
      obtain ⟨e, a₁, w₁, hq, harr⟩ := round k s n h ρ w a e r x l d b' (.inLoop body :: k') cs
      cases e with
      | normal =>
        obtain ⟨e₂, a₂, w₂, hq₂, harr₂⟩ := ih a₁ w₁ hq
        exact ⟨e₂, a₂, w₂, hq₂, .of_steps (Steps.trans harr (.one step_inLoop)) harr₂⟩
      | exit id => exact ⟨_, a₁, w₁, hq, .pass (x := .inLoop body) rfl (fun _ _ => .inl (by simp)) harr⟩
      | goto l => exact ⟨_, a₁, w₁, hq, .pass (x := .inLoop body) rfl (fun _ _ => .inl (by simp)) harr⟩
      | ret => exact ⟨_, a₁, w₁, hq, .pass (x := .inLoop body) rfl (fun _ _ => .inl (by simp)) harr⟩
      | panic ch => exact ⟨_, a₁, w₁, hq, .pass (x := .inLoop body) rfl (fun _ _ => .inl (by simp)) harr⟩
      | outgrown => exact ⟨_, a₁, w₁, hq, .pass (x := .inLoop body) rfl (fun _ _ => .inl (by simp)) harr⟩
  obtain ⟨e, a', w', hq, harr⟩ := key F a w ⟨s, n, h, ρ, e, r, x, l, d⟩
  exact ⟨e, a', w', hq, .of_steps (.one step_loop) harr⟩
end

/-! ## The whole function -/

/-- No tuple: what may stand in a tuple of results. -/
def stv : Value → Bool
  | .tuple _ => false
  | _ => true

section
variable (P : Program) (G : Nat) (E : Env)

/-- The results, one by one. -/
def resK {β : Type} : List ResultVar → List (Nat × Value) → (List Value → M β) → M β
  | [], _, K => K []
  | .tmp t :: r, Γ, K => resK r Γ fun vs => K (look Γ t :: vs)
  | .cell a t :: r, Γ, K => bnd (aop P G E Γ (.load t (.tmp a))) fun v => resK r Γ fun vs => K (v :: vs)

def tupK (vs : List Value) : M Value :=
  match vs with
  | [v] => ret v
  | vs => if vs.all stv then ret (.tuple vs.toArray) else fail

def retK (rs : List ResultVar) (Γ : List (Nat × Value)) : M Value := resK P G E rs Γ tupK
end

section
variable {P : Program} {G : Nat} {E : Env} {ρ : Map} {h : H} {w : World} {N : Nat} {Γ : List (Nat × Value)} {a : Act}

theorem VW.stv {v v' : Value} (h : VW ρ v v') (h1 : Fw.stv v = true) : VR ρ v v' := by
  rcases h with (rfl | ⟨rfl, _⟩) | h
  · simp [undef, Fw.stv] at h1
  · simp [skipV, Fw.stv] at h1
  · exact h

def resOne (a : Act) : ResultVar → Sem Value
  | .tmp t => pure (a.tmps.getD t undef)
  | .cell b t => do loadVar t (← asAddr (a.tmps.getD b undef))

theorem results_eq (fn : Func) (a : Act) : results fn a.tmps = (do
    let vs ← fn.results.mapM (resOne a)
    pure (if h : vs.size = 1 then vs[0] else .tuple vs)) := rfl

theorem run_result (r : R G ρ h w) (l : Live ρ N Γ a) : ∀ (rs : List ResultVar) (K : List Value → M Value) (n n' : Nat) (h' : H) (v : Value), resK P G E rs Γ K n h = some (v, n', h') →
    ∃ vs vs', (rs.mapM (resOne a)).run P w = .ok vs' w ∧ WL ρ vs vs' ∧ K vs n h = some (v, n', h')
  | [], K, n, n', h', v, e => ⟨[], [], by simp, WL.nil, e⟩
  | .tmp t :: rs, K, n, n', h', v, e => by
    obtain ⟨vs, vs', h1, h2, h3⟩ := run_result r l rs _ n n' h' v e
    refine ⟨look Γ t :: vs, a.tmps.getD t undef :: vs', ?_, WL.cons (l.at_ t) h2, h3⟩
    rw [List.mapM_cons]
    simp [resOne, h1]
  | .cell b t :: rs, K, n, n', h', v, e => by
    obtain ⟨u, n1, h1, e1, e2⟩ := bnd_some e
    have hd : Does P G { (default : Oper) with op := .load t (.tmp b) } a w ρ h u h1 := sim_load (E := E) r l (o := { (default : Oper) with op := .load t (.tmp b) }) rfl e1
    obtain ⟨hn, hh⟩ : n = n1 ∧ h = h1 := by
      have := aop_load (P := P) (G := G) (E := E) (Γ := Γ) (op := .load t (.tmp b)) rfl
      obtain ⟨h1, h2⟩ := look_some this e1
      exact ⟨h1.symm, h2.symm⟩
    subst hn hh
    obtain ⟨u', ρ', w', hr, hv, hR, hx⟩ := hd
    obtain ⟨vs, vs', g1, g2, g3⟩ := run_result r l rs _ n n' h' v e2
    -- the load leaves the world alone
    have hxb := l.at_ b
    have hload : ∃ u2, (resOne a (.cell b t)).run P w = .ok u2 w ∧ VW ρ u u2 := by
      simp only [aop] at e1
      cases hu : P.underlying t with
      | none => simp only [hu] at e1; cases e1
      | some d =>
      cases hi : P.info? t with
      | none => simp only [hu, hi] at e1; cases e1
      | some i =>
      simp only [hu, hi] at e1
      by_cases hag : aggT P t = true
      · simp only [hag, if_true] at e1
        obtain ⟨b', o', hb, e1⟩ := opLoadN_some e1
        rw [show look Γ b = .pointer (some ⟨b', o', none⟩) from hb] at hxb
        obtain ⟨_, _, L, hxe, hL, hv'⟩ := hxb.ptr_inv
        cases hxe
        obtain ⟨cs, n2, h2, e3, e4⟩ := bnd_some e1
        obtain ⟨rfl, rfl, rfl⟩ := ret_some e4
        obtain ⟨_, _, hk, L', hL', vs2, hvs, hc⟩ := r.rdN e3
        rw [hL] at hL'
        cases hL'
        have := run_loadVar_agg (P := P) (w := w) (x := ⟨L.blk, L.off + o', none⟩) (cs := vs2) hag hi (by rw [← hvs.1]; exact hk) (fun j u hj => by rw [addr_add]; exact hc j u hj)
        exact ⟨_, by simp [resOne, hv', asAddr, this], hvs.agg.weak⟩
      · simp only [hag, if_false, Bool.false_eq_true] at e1
        obtain ⟨b', o', hb, e1⟩ := opLoad_some e1
        rw [show look Γ b = .pointer (some ⟨b', o', none⟩) from hb] at hxb
        obtain ⟨_, _, L, hxe, hL, hv'⟩ := hxb.ptr_inv
        cases hxe
        obtain ⟨_, _, L', hL', v2, hvr, hc⟩ := r.rd e1
        rw [hL] at hL'
        cases hL'
        have := run_loadVar_one (P := P) (t := t) hu (by simpa using hag) hc
        exact ⟨_, by simp [resOne, hv', asAddr, this], hvr.weak⟩
    obtain ⟨u2, k1, k2⟩ := hload
    refine ⟨u :: vs, u2 :: vs', ?_, WL.cons k2 g2, g3⟩
    rw [List.mapM_cons]
    simp only [Sem.run_bind, k1, Result.andThen_ok, g1]
    rfl

theorem retK_sim {fn : Func} (r : R G ρ h w) (l : Live ρ N Γ a) {n n' : Nat} {h' : H} {v : Value} (e : retK P G E fn.results.toList Γ n h = some (v, n', h')) :
    h' = h ∧ ∃ v', (results fn a.tmps).run P w = .ok v' w ∧ VW ρ v v' := by
  obtain ⟨vs, vs', h1, h2, h3⟩ := run_result r l _ _ _ _ _ _ e
  have hm : (results fn a.tmps).run P w = .ok (if h : vs'.toArray.size = 1 then vs'.toArray[0] else .tuple vs'.toArray) w := by
    rw [results_eq, Array.mapM_eq_mapM_toList]
    simp only [Sem.run_bind, Sem.run_map]
    rw [h1]
    rfl
  unfold tupK at h3
  split at h3
  · rename_i u
    obtain ⟨rfl, rfl, rfl⟩ := ret_some h3
    obtain ⟨u', us, rfl, hu, hus⟩ := h2.head
    have : us = [] := List.eq_nil_of_length_eq_zero (by have := hus.1; simpa using this.symm)
    subst this
    exact ⟨rfl, u', by rw [hm]; simp, hu⟩
  · rename_i hne
    by_cases hall : vs.all stv = true
    · simp only [hall, if_true] at h3
      obtain ⟨rfl, rfl, rfl⟩ := ret_some h3
      refine ⟨rfl, .tuple vs'.toArray, ?_, VR.weak (.tuple _ _ (by simpa using h2.1) fun i x y hx hy => ?_)⟩
      · rw [hm]
        have : vs'.toArray.size ≠ 1 := by
          intro h
          have hl : vs.length = 1 := by rw [h2.1]; simpa using h
          obtain ⟨u, rfl⟩ := List.length_eq_one_iff.1 hl
          exact hne u rfl
        rw [dif_neg this]
      · exact (h2.2 i x y (by simpa using hx) (by simpa using hy)).stv (List.all_eq_true.1 hall x (List.mem_of_getElem? (by simpa using hx)))
    · simp only [hall, if_false] at h3; cases h3
end

/-- What a call comes to in the end. -/
def Done (c : Ctx) : Ending → World → Prop := fun e w' => ∃ v' ρ', e = .returned v' ∧ VW ρ' c.z.1 v' ∧ R c.G ρ' c.z.2.2 w' ∧ Ext c.ρ c.h c.w ρ' c.z.2.2 w'

theorem rDone {c : Ctx} {fn : Func} {Γ : List (Nat × Value)} {m : M Value} {e : Exit} (he : e = .normal ∨ e = .ret) (hm : m = retK c.P c.G c.E fn.results.toList Γ) : OKq c (bodyPost c.P fn (Done c)) e Γ m := by
  intro n h ρ w a e r x l d
  rw [hm] at e
  obtain ⟨hh, v', h1, h2⟩ := retK_sim r l (show _ = some (c.z.1, c.z.2.1, c.z.2.2) from e)
  rcases he with rfl | rfl
  · exact ⟨d, v', h1, v', ρ, rfl, h2, hh ▸ r, hh ▸ x⟩
  · exact ⟨d, v', h1, v', ρ, rfl, h2, hh ▸ r, hh ▸ x⟩

/-- The arguments, as temporaries. -/
def args0 : Nat → List Value → List (Nat × Value)
  | _, [] => []
  | i, v :: r => (i, v) :: args0 (i + 1) r

theorem look_args0 : ∀ (vs : List Value) (i t : Nat), look (args0 i vs) t = if i ≤ t then vs.getD (t - i) undef else undef
  | [], i, t => by simp [args0, look]
  | v :: r, i, t => by
    simp only [args0, look]
    rw [look_args0 r (i + 1) t]
    by_cases h : t = i
    · subst h; simp
    · rw [if_neg h]
      by_cases h2 : i ≤ t
      · rw [if_pos (by omega), if_pos h2]
        rw [show t - i = (t - (i + 1)) + 1 by omega]
        simp
      · rw [if_neg (by omega), if_neg h2]

theorem Sim.of_body {P : Program} {G : Nat} {E : Env} {f : FuncId} {fn : Func} {x : Code} {m : List Value → M Value} (hf : P.funcs[f]? = some fn) (hb : fn.body = some x) (hcall : ∀ (args : Array Value) (w : World), (callFunc f args).run P w = .ok (.enter f args) w)
    (hlen : ∀ args : List Value, fn.ntmps < args.length → m args = fail)
    (h : ∀ (args : List Value) (ρ : Map) (h : H) (w : World) (z : Value × Nat × H), OKc ⟨P, G, E, fn.ntmps, ρ, h, w, z⟩ x (args0 0 args) (m args) (bodyPost P fn (Done ⟨P, G, E, fn.ntmps, ρ, h, w, z⟩))) : Sim P G f m := by
  refine ⟨hcall, fun args n h0 v n' h' e ρ w args' r hargs => ?_⟩
  have hle : args.length ≤ fn.ntmps := by
    rcases Nat.lt_or_ge fn.ntmps args.length with hlt | hge
    · rw [hlen args hlt] at e; cases e
    · exact hge
  have hl : Live ρ fn.ntmps (args0 0 args) { tmps := args'.toArray ++ Array.replicate (fn.ntmps - args'.toArray.size) undef, defers := [] } := by
    refine ⟨by have := hargs.1; simp; omega, fun t => ?_⟩
    rw [look_args0]
    simp only [Nat.zero_le, if_true, Nat.sub_zero]
    by_cases ht : t < args.length
    · have ht' : t < args'.length := hargs.1 ▸ ht
      have := hargs.2 t args[t] args'[t] (List.getElem?_eq_getElem ht) (List.getElem?_eq_getElem ht')
      have e1 : args.getD t undef = args[t] := by simp [List.getD, ht]
      have e2 : (args'.toArray ++ Array.replicate (fn.ntmps - args'.toArray.size) undef).getD t undef = args'[t] := by
        rw [Array.getD_eq_getD_getElem?, Array.getElem?_append_left (by simpa using ht')]
        simp [ht']
      rw [e1]
      show VW ρ _ ((args'.toArray ++ Array.replicate (fn.ntmps - args'.toArray.size) undef).getD t undef)
      rw [e2]
      exact this
    · left; left
      simp [List.getD, Nat.not_lt.1 ht]
  exact calls_of_wp hf hb (h args ρ h0 w (v, n', h') n h0 ρ w _ e r (Ext.refl _ _ _) hl rfl)
end Go.Fw
end
section
namespace Go.Fw

/-! ## Functions of the temporaries that live on -/

def Fn : List Nat → Type
  | [] => M Value
  | _ :: ts => Value → Fn ts

def appL : (ts : List Nat) → List Value → Fn ts → M Value
  | [], _, m => m
  | _ :: ts, x :: xs, k => appL ts xs (k x)
  | _ :: ts, [], k => appL ts [] (k undef)

def zipL : List Nat → List Value → List (Nat × Value) → List (Nat × Value)
  | [], _, acc => acc
  | t :: ts, x :: xs, acc => zipL ts xs ((t, x) :: acc)
  | t :: ts, [], acc => zipL ts [] ((t, undef) :: acc)

def AllK (c : Ctx) (Q : Exit → Act → World → Prop) (e : Exit) : (ts : List Nat) → List (Nat × Value) → Fn ts → Prop
  | [], acc, m => OKq c Q e acc m
  | t :: ts, acc, k => ∀ x, AllK c Q e ts ((t, x) :: acc) (k x)

def AllC (c : Ctx) (y : Code) (Q : Exit → Act → World → Prop) : (ts : List Nat) → List (Nat × Value) → Fn ts → Prop
  | [], acc, m => OKc c y acc m Q
  | t :: ts, acc, k => ∀ x, AllC c y Q ts ((t, x) :: acc) (k x)

def AllF : (ts : List Nat) → Fn ts → Prop
  | [], m => m = fail
  | _ :: ts, k => ∀ x, AllF ts (k x)

section
variable {c : Ctx} {Q : Exit → Act → World → Prop} {e : Exit} {y : Code}

theorem AllK.at_ : ∀ (ts : List Nat) (xs : List Value) (acc : List (Nat × Value)) (k : Fn ts), AllK c Q e ts acc k → OKq c Q e (zipL ts xs acc) (appL ts xs k)
  | [], _, _, _, h => h
  | _ :: ts, x :: xs, _, _, h => AllK.at_ ts xs _ _ (h x)
  | _ :: ts, [], _, _, h => AllK.at_ ts [] _ _ (h undef)
theorem AllC.at_ : ∀ (ts : List Nat) (xs : List Value) (acc : List (Nat × Value)) (k : Fn ts), AllC c y Q ts acc k → OKc c y (zipL ts xs acc) (appL ts xs k) Q
  | [], _, _, _, h => h
  | _ :: ts, x :: xs, _, _, h => AllC.at_ ts xs _ _ (h x)
  | _ :: ts, [], _, _, h => AllC.at_ ts [] _ _ (h undef)
theorem AllF.at_ : ∀ (ts : List Nat) (xs : List Value) (k : Fn ts), AllF ts k → appL ts xs k = fail
  | [], _, _, h => h
  | _ :: ts, x :: xs, _, h => AllF.at_ ts xs _ (h x)
  | _ :: ts, [], _, h => AllF.at_ ts [] _ (h undef)
theorem AllK.mk : ∀ (ts : List Nat) (acc : List (Nat × Value)) (k : Fn ts), (∀ xs, OKq c Q e (zipL ts xs acc) (appL ts xs k)) → AllK c Q e ts acc k
  | [], _, _, h => h []
  | _ :: ts, _, k, h => fun x => AllK.mk ts _ (k x) fun xs => h (x :: xs)

theorem Live.nil {ρ : Map} {N : Nat} {Γ : List (Nat × Value)} {a : Act} (l : Live ρ N Γ a) : Live ρ N [] a := ⟨l.size, fun _ => .inl (.inl rfl)⟩

theorem xThenX {K : Act → World → Prop} {Γ : List (Nat × Value)} {m : M Value} {id : Nat} (h : OKq c Q (.exit id) Γ m) : OKq c (Exit.then K Q) (.exit id) Γ m := h
theorem xThenR {K : Act → World → Prop} {Γ : List (Nat × Value)} {m : M Value} (h : OKq c Q .ret Γ m) : OKq c (Exit.then K Q) .ret Γ m := h
theorem xBlockN {id : Nat} {Γ : List (Nat × Value)} {m : M Value} (h : OKq c Q .normal Γ m) : OKq c (Exit.inBlock id Q) .normal Γ m := h
theorem xBlockR {id : Nat} {Γ : List (Nat × Value)} {m : M Value} (h : OKq c Q .ret Γ m) : OKq c (Exit.inBlock id Q) .ret Γ m := h

end

theorem Sim.of_fail {P : Program} {G : Nat} {f : FuncId} {m : List Value → M Value} (hcall : ∀ (args : Array Value) (w : World), (callFunc f args).run P w = .ok (.enter f args) w) (hm : ∀ args, m args = fail) : Sim P G f m :=
  ⟨hcall, fun args n h v n' h' e => by rw [hm] at e; cases e⟩

/-! ## The environment of callees, as a list -/

def envOf : List (FuncId × (List Value → M Value)) → Env
  | [], _ => none
  | (g, m) :: r, f => if f = g then some m else envOf r f

theorem EnvOK.nil {P : Program} {G : Nat} : EnvOK P G (envOf []) := fun _ _ h => by cases h
theorem EnvOK.cons {P : Program} {G : Nat} {g : FuncId} {m : List Value → M Value} {r : List (FuncId × (List Value → M Value))} (h : Sim P G g m) (hr : EnvOK P G (envOf r)) : EnvOK P G (envOf ((g, m) :: r)) := by
  intro f m' hf
  unfold envOf at hf
  split at hf
  · rename_i e; subst e; cases hf; exact h
  · exact hr f m' hf

/-! ## A region's operations, out of the function -/

def findR (id : Nat) : Code → Option (Array Oper)
  | .region i ops _ => if i = id then some ops else none
  | .seq a b => (findR id a).or (findR id b)
  | .cond _ a b => (findR id a).or (findR id b)
  | .block _ b => findR id b
  | .loop b => findR id b
  | .scope b => findR id b
  | _ => none
def opsOf (fn : Func) (id : Nat) : Array Oper :=
  match fn.body with
  | some x => (findR id x).getD #[]
  | none => #[]

/-- How many rounds a loop may make at the most. -/
def fuel : Nat := 1000000000000000000

end Go.Fw
end
section
namespace Go.Fw

section
variable {c : Ctx} {Q : Exit → Act → World → Prop} {Γ : List (Nat × Value)} {m : M Value}

theorem rScope {x : Code} (h : OKc c x Γ m (Exit.noGoto Q)) : OKc c (.scope x) Γ m Q := fun _ _ _ _ _ e r xx l d => wp_scope_straight (h _ _ _ _ _ e r xx l d)
theorem xScN (h : OKq c Q .normal Γ m) : OKq c (Exit.noGoto Q) .normal Γ m := h
theorem xScX {id : Nat} (h : OKq c Q (.exit id) Γ m) : OKq c (Exit.noGoto Q) (.exit id) Γ m := h
theorem xScR (h : OKq c Q .ret Γ m) : OKq c (Exit.noGoto Q) .ret Γ m := h
end

end Go.Fw
end
section
set_option linter.unusedVariables false
namespace Go.Fw

inductive Ex where
  | normal
  | exit (i : Nat)
  | ret
def Ex.to : Ex → Exit
  | .normal => .normal
  | .exit i => .exit i
  | .ret => .ret

/-! ## A table of regions -/

end Go.Fw
end
section
namespace Go.Fw

/-- A world that came in, as an abstract heap: nothing of it may be written. -/
structure Entry (G : Nat) (W : World) (n : Nat) (ρ : Map) (h : H) : Prop where
  r : R G ρ h W
  ro : ∀ b B, h.get b = some B → ¬ B.ours
  fresh : ∀ b, n ≤ b → h.get b = none

theorem Entry.noOwn {G : Nat} {W : World} {n : Nat} {ρ : Map} {h : H} (e : Entry G W n ρ h) (k : Nat) : ¬ Own ρ h k := fun ⟨b, B, _, hb, hm, _, _⟩ => e.ro b B hb hm

theorem Entry.nil (W : World) : Entry 0 W 0 (fun _ => none) .leaf := by
  refine ⟨⟨fun b => by simp [H.get], fun g hg => by omega, fun b B L hb => by simp [H.get] at hb, fun b c B C L M _ hb => by simp [H.get] at hb, fun b B L hb => by simp [H.get] at hb, fun b c B C L M _ hb => by simp [H.get] at hb⟩, fun b B hb => by simp [H.get] at hb, fun b _ => by simp [H.get]⟩

theorem not_mine_ro (cs : List Value) : ¬ (⟨cs, .ro⟩ : Blk).mine := fun h => by rcases h with h | h <;> cases h
theorem not_ours_ro (cs : List Value) : ¬ (⟨cs, .ro⟩ : Blk).ours := fun h => by
  rcases h with h | h
  · exact not_mine_ro cs h
  · cases h.1
theorem not_ours_dead : ¬ (⟨[], .dead⟩ : Blk).ours := fun h => by
  rcases h with (h | h) | h
  · cases h
  · cases h
  · cases h.2

theorem Entry.add {G : Nat} {W : World} {n : Nat} {ρ : Map} {h : H} (e : Entry G W n ρ h) (L : Loc) {B : Blk} (hm : ¬ B.ours) (hB : B.live → BlkOK (ρ.add n L) W L B) : Entry G W (n + 1) (ρ.add n L) (h.set n B) := by
  have hn : ρ n = none := by
    have := e.r.dom n
    rw [e.fresh n (Nat.le_refl _)] at this
    cases hq : ρ n with
    | none => rfl
    | some L => rw [hq] at this; cases this
  have hle := Map.add_le L hn
  refine ⟨⟨fun c => ?_, fun g hg => ?_, fun c C N hc hl hN => ?_, fun c d C D N O hne hc hd hl hmd hN hO => ?_, fun c C N hc hmm hN => ?_, fun c d C D N O hne hc hd hmc hmd hN hO => ?_⟩, fun c C hc => ?_, fun c hc => ?_⟩
  rotate_left 4
  · exfalso
    rw [H.get_set] at hc
    split at hc
    · cases hc; exact hm (.inr hmm)
    · exact e.ro _ _ hc (.inr hmm)
  · exfalso
    rw [H.get_set] at hd
    split at hd
    · cases hd; exact hm (.inr hmd)
    · exact e.ro _ _ hd (.inr hmd)
  rotate_left 2
  · rw [H.get_set]; unfold Map.add
    split
    · rfl
    · exact e.r.dom c
  · obtain ⟨lim, hl⟩ := e.r.glob g hg
    exact ⟨lim, hle _ _ hl⟩
  · rw [H.get_set] at hc
    unfold Map.add at hN
    split at hc
    · rename_i ee; subst ee; simp only [if_true, Option.some.injEq] at hc hN; subst hc hN; exact hB hl
    · rename_i ne
      rw [if_neg ne] at hN
      obtain ⟨⟨arr, elem, fz, g1, g2, g3, g4⟩, g5, g6⟩ := e.r.blk c C N hc hl hN
      exact ⟨⟨arr, elem, fz, g1, g2, g3, fun i v hv => let ⟨v', h1, h2⟩ := g4 i v hv; ⟨v', h1, h2.mono hle⟩⟩, g5, g6⟩
  · exfalso
    rw [H.get_set] at hd
    split at hd
    · cases hd; exact hm (.inl hmd)
    · exact e.ro _ _ hd (.inl hmd)
  · rw [H.get_set] at hc
    split at hc
    · cases hc; exact hm
    · exact e.ro _ _ hc
  · rw [H.get_set]
    split
    · omega
    · exact e.fresh c (by omega)

/-- A slice that came in: its cells, all of which are known. -/
theorem Entry.slice {G : Nat} {W : World} {n : Nat} {ρ : Map} {h : H} (e : Entry G W n ρ h) (a : Addr) (len cap : Nat) (cs : List Value) (hlen : len ≤ cap) (hcap : cap < U) (hcs : 0 < cap → 0 < cs.length)
    (hc : ∀ i v, cs[i]? = some v → W.cell? (a.add i) = some v) (hv : ∀ v ∈ cs, VR (fun _ => none) v v) :
    ∃ ρ' h', Entry G W (n + 1) ρ' h' ∧ Le ρ ρ' ∧ VW ρ' (.slice (some ⟨n, 0, none⟩) len cap) (.slice (some a) len cap) ∧ h' = h.set n ⟨if cap = 0 then [] else cs, if cap = 0 then .dead else .ro⟩ := by
  have hn : ρ n = none := by
    have := e.r.dom n
    rw [e.fresh n (Nat.le_refl _)] at this
    cases hq : ρ n with
    | none => rfl
    | some L => rw [hq] at this; cases this
  by_cases h0 : cap = 0
  · subst h0
    refine ⟨_, _, e.add ⟨a.block, a.off, 0⟩ (B := ⟨[], .dead⟩) not_ours_dead (fun hl => absurd rfl hl), Map.add_le _ hn, .inr (.slice n 0 len 0 a 0 ⟨a.block, a.off, 0⟩ (Map.add_same _ _ _) ⟨fun _ => rfl, hlen, fun h => absurd rfl h, fun s hs => by omega⟩), by simp⟩
  · have hpos := hcs (by omega)
    obtain ⟨v0, hv0⟩ : ∃ v, cs[0]? = some v := ⟨cs[0], by simp [hpos]⟩
    have h00 := hc 0 v0 hv0
    -- the block
    have hblk : ∃ arr elem fz, W.heap[a.block]? = some (.cells arr elem fz) ∧ a.spot = none := by
      unfold Addr.add at h00
      simp only [if_true] at h00
      unfold World.cell? at h00
      split at h00
      · rename_i c _ _ hh
        refine ⟨_, _, _, hh, ?_⟩
        cases hr : a.spot with
        | none => rfl
        | some x => simp [hr] at h00
      · cases h00
    obtain ⟨arr, elem, fz, hb, hr⟩ := hblk
    obtain ⟨ab, ao, ar⟩ := a
    simp only at hb hr
    subst hr
    have hcell : ∀ i v, cs[i]? = some v → arr[ao + i]? = some v := by
      intro i v hi
      have := hc i v hi
      have hadd : Addr.add ⟨ab, ao, none⟩ i = ⟨ab, ao + i, none⟩ := by
        unfold Addr.add
        split
        · rename_i h; subst h; rfl
        · rfl
      rw [hadd] at this
      unfold World.cell? at this
      simp only [hb] at this
      simpa using this
    have hsz : ao + cs.length ≤ arr.size := by
      obtain ⟨u, hu⟩ : ∃ u, cs[cs.length - 1]? = some u := ⟨cs[cs.length - 1], by simp [hpos]⟩
      have := hcell _ _ hu
      have := (Array.getElem?_eq_some_iff.1 this).1
      omega
    refine ⟨_, _, e.add ⟨ab, ao, ao + cs.length⟩ (B := ⟨cs, .ro⟩) (not_ours_ro _) (fun _ => ⟨⟨arr, elem, fz, hb, fun h => absurd h (not_mine_ro _), hsz, fun i v hi => ⟨v, hcell i v hi, ?_⟩⟩, Nat.le_refl _, fun h => by cases h⟩), Map.add_le _ hn, .inr (.slice n 0 len cap _ cap _ (Map.add_same _ _ _) ⟨fun _ => rfl, hlen, fun _ => by simp, fun s hs => by omega⟩), by simp [h0]⟩
    exact (hv v (List.mem_of_getElem? hi)).mono fun _ _ h => by cases h

theorem sameAt_of_heap {W W' : World} (hk : ∀ k, k < W.heap.size → W'.heap[k]? = W.heap[k]?) {p : MemPlace} (hp : p.block < W.heap.size) : W.sameAt W' p := by
  cases p with
  | cell b o =>
    show W'.cell? ⟨b, o, none⟩ = W.cell? ⟨b, o, none⟩
    unfold World.cell?
    rw [show W'.heap[(⟨b, o, none⟩ : Addr).block]? = W.heap[(⟨b, o, none⟩ : Addr).block]? from hk b hp]
  | map b => exact hk b hp

theorem trodAll_carry {H' : Type} {enc : TypeId × Value → H'} {P : Program} {W W' : World} {base : Nat} {spare : Nat → Bool} {held : Bool} : ∀ {ts : List TypeId} {vs : List Value} {ds : List (DataW H')} {ps : List MemPlace},
    DataW.TrodAll enc P W base spare held ts vs ds ps → (∀ p ∈ ps, W.sameAt W' p) → DataW.TrodAll enc P W' base spare held ts vs ds ps
  | [], [], [], _, h, _ => h
  | _ :: _, _ :: _, _ :: _, _, ⟨p, q, ⟨n, h1⟩, h2, e⟩, hs =>
    ⟨p, q, ⟨n, DataW.trod_carry n _ _ _ h1 fun x hx => hs x (by rw [e]; exact List.mem_append_left _ hx)⟩, trodAll_carry h2 (fun x hx => hs x (by rw [e]; exact List.mem_append_right _ hx)), e⟩

theorem keptBut_of_heap {W W' : World} {may : MemPlace → Prop} (hk : ∀ k, k < W.heap.size → W'.heap[k]? = W.heap[k]?) (hos : W'.os = W.os) (hout : W'.output = W.output) : W.keptBut W' may := by
  refine ⟨hos, hout, fun i hi => ?_⟩
  rw [hk i hi]
  cases hq : W.heap[i]? with
  | none => rfl
  | some o =>
    cases o with
    | cells c t fr => exact ⟨rfl, rfl, rfl, fun _ _ => rfl⟩
    | map es clock => exact .inr ⟨rfl, rfl⟩
    | _ => rfl

/-- What the row asks behind the call of a law. -/
theorem law_post {H' : Type} {enc : TypeId × Value → H'} {P : Program} {f : Func} {s : ChangeSpec} {apart fresh handsOn : Bool} {W W' : World} {args : Array Value} {tb : TypeId} {ds : List (DataW H')} {before : List MemPlace}
    (hW : DataW.Whole enc P f.params.toList s.vars apart W args.toList ds [] before) (hvars : s.vars = []) (hfn : s.fn H' (ds ++ []) = { results := [.lit (.bool true)], args := ds })
    (hres : f.resultTypes = #[tb]) (hb : P.underlying tb = some .bool) (hk : ∀ k, k < W.heap.size → W'.heap[k]? = W.heap[k]?) (hos : W'.os = W.os) (hout : W'.output = W.output)
    (K : Kids P (· < P.types.size)) (hfull : ∀ t e, t < P.types.size → P.underlying t = some (.slice e) → 0 < P.cellsOf e) (hts : ∀ t ∈ f.params.toList, t < P.types.size) :
    s.post enc P f apart fresh handsOn false W args (.bool true) W' := by
  have hlt := hW.lt
  have hW0 := hW
  obtain ⟨p, q, h1, h2, h3, _, _⟩ := hW
  rw [hvars] at h2
  have hq : q = [] := h2
  subst hq
  rw [List.append_nil] at h3
  subst h3
  refine ⟨ds, [], before, [], before, [], hW0, ?_, ?_, ?_, keptBut_of_heap hk hos hout, fun h => by cases h⟩
  · rw [hfn, hres]
    exact Go.ChangeShapes.trodAll_mk1 (Go.RowKit.shut_bool hb true)
  · rw [hfn]
    exact trodAll_carry (DataW.TrodAll.respare K hfull hts h1 fun x hx => by simpa using hlt x hx) fun x hx => sameAt_of_heap hk (hlt x hx)
  · rw [hfn, hvars]
    rfl

/-- A call that gave true. -/
def gaveTrue : Option (Value × Nat × H) → Bool
  | some (.bool true, _, _) => true
  | _ => false
theorem gaveTrue_some {x : Option (Value × Nat × H)} (h : gaveTrue x = true) : ∃ n g, x = some (.bool true, n, g) := by
  unfold gaveTrue at h
  split at h
  · exact ⟨_, _, rfl⟩
  · cases h

/-- A law's call, out of the abstract one. -/
theorem law_calls {H' : Type} {enc : TypeId × Value → H'} {P : Program} {G g : Nat} {f : Func} {s : ChangeSpec} {apart fresh handsOn : Bool} {W : World} {args : Array Value} {tb : TypeId} {ds : List (DataW H')} {before : List MemPlace} {m : List Value → M Value}
    (hS : Sim P G g m) {n : Nat} {ρ : Map} {h : H} (he : Entry G W n ρ h) {vs : List Value} (hvs : WL ρ vs args.toList) {n' : Nat} {h' : H} (hm : m vs n h = some (.bool true, n', h'))
    (hW : DataW.Whole enc P f.params.toList s.vars apart W args.toList ds [] before) (hvars : s.vars = []) (hfn : s.fn H' (ds ++ []) = { results := [.lit (.bool true)], args := ds })
    (hres : f.resultTypes = #[tb]) (hb : P.underlying tb = some .bool)
    (K : Kids P (· < P.types.size)) (hfull : ∀ t e, t < P.types.size → P.underlying t = some (.slice e) → 0 < P.cellsOf e) (hts : (f.params.toList.all fun t => decide (t < P.types.size)) = true) :
    Calls P g args W fun e W' => ∃ v, e = .returned v ∧ s.post enc P f apart fresh handsOn false W args v W' := by
  have := hS.calls vs n h _ _ _ hm ρ W args.toList he.r hvs
  rw [Array.toArray_toList] at this
  refine this.mono fun e W' ⟨v', ρ', e1, e2, e3, e4⟩ => ?_
  have := e2.bool_inv
  subst this
  exact ⟨_, e1, law_post hW hvars hfn hres hb (fun k hk => e4.frame k hk (he.noOwn k)) e4.os e4.output K hfull (fun t ht => by simpa using List.all_eq_true.1 hts t ht)⟩

end Go.Fw
end
section
namespace Go.Fw

abbrev pt (b o : Nat) : Value := .pointer (some ⟨b, o, none⟩)
abbrev sl (b o len cap : Nat) : Value := .slice (some ⟨b, o, none⟩) len cap
abbrev nsl : Value := .slice none 0 0
abbrev i64 (z : Int) : Value := .int .i64 z
abbrev bo (b : Bool) : Value := .bool b

/-! ## Numbers -/

theorem wrap64 {z : Int} (h : -9223372036854775808 ≤ z ∧ z ≤ 9223372036854775807) : IntKind.i64.wrap z = z := by
  have h1 : IntKind.i64.signed = true := rfl
  have h2 : IntKind.i64.bits = 64 := rfl
  unfold IntKind.wrap
  rw [h1, h2]
  show (if (true && decide (z % (2 ^ 64 : Int) ≥ (2 ^ (64 - 1) : Int))) = true then z % (2 ^ 64 : Int) - (2 ^ 64 : Int) else z % (2 ^ 64 : Int)) = z
  rw [show (2 ^ 64 : Int) = 18446744073709551616 by rfl, show (2 ^ (64 - 1) : Int) = 9223372036854775808 by rfl]
  simp only [Bool.true_and, decide_eq_true_eq]
  split <;> omega

/-! ## Steps -/
section
variable {β : Type} {n : Nat} {h : H} {k : Value → M β}

theorem run_bnd {α : Type} {m : M α} {k : α → M β} {v : α} {n' : Nat} {h' : H} (e : m.run n h = some (v, n', h')) : (bnd m k).run n h = (k v).run n' h' := bnd_of e

theorem run_bnd' {α : Type} {m : M α} {k : α → M β} {n : Nat} {h : H} : (bnd m k).run n h = (m.run n h).bind fun x => (k x.1).run x.2.1 x.2.2 := by
  unfold bnd; dsimp only; cases m.run n h <;> rfl

theorem st_add {kd : IntKind} {a b : Int} : bnd (opBin .add (.int kd a) (.int kd b)) k = k (.int kd (kd.wrap (a + b))) := by simp [opBin, bin]
theorem st_sub {kd : IntKind} {a b : Int} : bnd (opBin .sub (.int kd a) (.int kd b)) k = k (.int kd (kd.wrap (a - b))) := by simp [opBin, bin]
theorem st_eql {kd : IntKind} {a b : Int} : bnd (opBin .eql (.int kd a) (.int kd b)) k = k (.bool (a == b)) := by simp [opBin, bin]
theorem st_neq {kd : IntKind} {a b : Int} : bnd (opBin .neq (.int kd a) (.int kd b)) k = k (.bool (a != b)) := by simp [opBin, bin]
theorem st_lss {kd : IntKind} {a b : Int} : bnd (opBin .lss (.int kd a) (.int kd b)) k = k (.bool (decide (a < b))) := by simp [opBin, bin]
theorem st_leq {kd : IntKind} {a b : Int} : bnd (opBin .leq (.int kd a) (.int kd b)) k = k (.bool (decide (a ≤ b))) := by simp [opBin, bin]
theorem st_gtr {kd : IntKind} {a b : Int} : bnd (opBin .gtr (.int kd a) (.int kd b)) k = k (.bool (decide (b < a))) := by simp [opBin, bin]
theorem st_geq {kd : IntKind} {a b : Int} : bnd (opBin .geq (.int kd a) (.int kd b)) k = k (.bool (decide (b ≤ a))) := by simp [opBin, bin]
theorem st_not {b : Bool} : bnd (opNot (.bool b)) k = k (.bool (!b)) := rfl
theorem st_nil {a : Addr} : bnd (opNil (.pointer (some a))) k = k (.pointer (some a)) := rfl
theorem st_len {a : Option Addr} {l c : Nat} : bnd (opLen (.slice a l c)) k = k (.int .i64 l) := rfl
theorem st_field {b o off : Nat} : bnd (opFieldAddr off (pt b o)) k = k (pt b (o + off)) := rfl
theorem st_ix {s b o len cap : Nat} {kd : IntKind} {i : Int} : bnd (opIndexAddr s (sl b o len cap) (.int kd i)) k = if 0 ≤ i ∧ i < (len : Int) then k (pt b (o + i.toNat * s)) else fail := by
  show bnd (if 0 ≤ i ∧ i < (len : Int) then ret (pt b (o + i.toNat * s)) else fail) k = _
  split <;> rfl
theorem st_eqB {a b neg : Bool} : bnd (opEq eqB neg (.bool a) (.bool b)) k = k (.bool (xor neg (a == b))) := rfl
theorem st_eqP0 {neg : Bool} : bnd (opEq eqP neg (.pointer none) (.pointer none)) k = k (.bool (xor neg true)) := rfl
theorem st_eqP1 {neg : Bool} {a : Addr} : bnd (opEq eqP neg (.pointer (some a)) (.pointer none)) k = k (.bool (xor neg false)) := rfl
/-! ## Memory -/

/-- A cell is looked at. -/
def ldm {γ : Type} (x : Option Blk) (o : Nat) (f : Value → Option γ) : Option γ :=
  match x with
  | some ⟨_, .dead⟩ => none
  | some ⟨cs, _⟩ => (match cs[o]? with
    | some v => f v
    | none => none)
  | none => none
theorem ldm_some {γ : Type} {cs : List Value} {kd : Kind} {o : Nat} {f : Value → Option γ} {v : Value} (hk : kd ≠ .dead) (hv : cs[o]? = some v) : ldm (some ⟨cs, kd⟩) o f = f v := by
  cases kd <;> first | exact absurd rfl hk | simp [ldm, hv]
theorem run_load {b o : Nat} : (bnd (opLoad (pt b o)) k).run n h = ldm (h.get b) o fun v => (k v).run n h := by
  rw [run_bnd']
  show (rdF b o n h).bind _ = _
  unfold rdF ldm
  cases h.get b with
  | none => rfl
  | some B =>
    obtain ⟨cs, kd⟩ := B
    cases kd <;> simp only <;> (try rfl) <;> cases cs[o]? <;> rfl
/-- A cell is written. -/
def stm {γ : Type} (x : Option Blk) (o : Nat) (v : Value) (f : Blk → Option γ) : Option γ :=
  if one v then (match x with
    | some ⟨cs, .own⟩ => if o < cs.length then f ⟨cs.set o v, .own⟩ else none
    | some ⟨cs, .grow⟩ => if o < cs.length then f ⟨cs.set o v, .grow⟩ else none
    | _ => none) else none
theorem stm_some {γ : Type} {cs : List Value} {kd : Kind} {o : Nat} {v : Value} {f : Blk → Option γ} (hk : kd = .own ∨ kd = .grow) (h1 : one v = true) (ho : o < cs.length) : stm (some ⟨cs, kd⟩) o v f = f ⟨cs.set o v, kd⟩ := by
  rcases hk with rfl | rfl <;> simp [stm, h1, ho]
theorem run_store {b o : Nat} {v : Value} : (bnd (opStore (pt b o) v) k).run n h = stm (h.get b) o v fun B => (k undef).run n (h.set b B) := by
  show (bnd (bnd (wr1 b o v) fun _ => ret undef) k).run n h = _
  rw [bnd_assoc, run_bnd']
  show (wr1F b o v n h).bind _ = _
  unfold wr1F stm
  cases one v with
  | false => simp
  | true =>
    simp only [if_true]
    cases h.get b with
    | none => rfl
    | some B =>
      obtain ⟨cs, kd⟩ := B
      cases kd <;> simp only <;> (try rfl) <;> (split <;> rfl)
/-- Cells are looked at. -/
def ldN {γ : Type} (x : Option Blk) (o s : Nat) (f : List Value → Option γ) : Option γ :=
  match x with
  | some ⟨_, .dead⟩ => none
  | some ⟨cs, _⟩ => if o + s ≤ cs.length then f ((cs.drop o).take s) else none
  | none => none
theorem ldN_some {γ : Type} {cs : List Value} {kd : Kind} {o s : Nat} {f : List Value → Option γ} (hk : kd ≠ .dead) (ho : o + s ≤ cs.length) : ldN (some ⟨cs, kd⟩) o s f = f ((cs.drop o).take s) := by
  cases kd <;> first | exact absurd rfl hk | simp [ldN, ho]
theorem run_rdN {b o s : Nat} {k : List Value → M β} : (bnd (rdN b o s) k).run n h = ldN (h.get b) o s fun v => (k v).run n h := by
  rw [run_bnd']
  show (rdNF b o s n h).bind _ = _
  unfold rdNF ldN
  cases h.get b with
  | none => rfl
  | some B =>
    obtain ⟨cs, kd⟩ := B
    cases kd <;> simp only <;> (try rfl) <;> (split <;> rfl)
theorem run_loadN {b o s : Nat} : (bnd (opLoadN s (pt b o)) k).run n h = ldN (h.get b) o s fun cs => (k (.agg cs.toArray)).run n h := by
  show (bnd (bnd (rdN b o s) fun cs => ret (.agg cs.toArray)) k).run n h = _
  rw [bnd_assoc, run_rdN]
  rfl

/-- Nothing is from n on. -/
def Fr (n : Nat) (h : H) : Prop := ∀ b, n ≤ b → h.get b = none
theorem Fr.run {α : Type} {m : M α} {n n' : Nat} {h h' : H} {v : α} (f : Fr n h) (e : m.run n h = some (v, n', h')) : Fr n' h' ∧ n ≤ n' := by
  have l := m.loc _ _ _ _ _ e
  refine ⟨fun b hb => ?_, l.le⟩
  cases hg : h'.get b with
  | none => rfl
  | some B =>
    have := (l.dom b).1 (by rw [hg]; rfl)
    have hle := l.le
    rcases this with h1 | h1
    · rw [f b (by omega)] at h1; cases h1
    · omega
theorem Fr.lt {n : Nat} {h : H} (f : Fr n h) {b : Nat} {B : Blk} (hb : h.get b = some B) : b < n := by
  rcases Nat.lt_or_ge b n with h1 | h1
  · exact h1
  · rw [f b h1] at hb; cases hb
theorem Fr.set {n : Nat} {h : H} (f : Fr n h) {b : Nat} (B : Blk) (hb : b < n) : Fr n (h.set b B) := fun c hc => by rw [H.get_set_ne _ _ (by omega)]; exact f c hc
theorem Fr.new {n : Nat} {h : H} (f : Fr n h) (B : Blk) : Fr (n + 1) (h.set n B) := fun c hc => by rw [H.get_set_ne _ _ (by omega)]; exact f c (by omega)

theorem run_new {cs : List Value} {kd : Kind} {k : Nat → M β} (f : Fr n h) (h1 : cs.all one = true) : (bnd (new cs kd) k).run n h = (k n).run (n + 1) (h.set n ⟨cs, kd⟩) := by
  rw [run_bnd']
  show (newF cs kd n h).bind _ = _
  unfold newF
  rw [if_pos h1, f n (Nat.le_refl _)]
  rfl
theorem run_ptr {cs : List Value} (f : Fr n h) (h1 : cs.all one = true) : (bnd (opPtr cs) k).run n h = (k (pt n 0)).run (n + 1) (h.set n ⟨cs, .own⟩) := by
  unfold opPtr
  rw [bnd_assoc, run_new f h1]
  rfl
theorem run_box {cs : List Value} (f : Fr n h) (h1 : cs.all one = true) : (bnd (opBoxN (.agg cs.toArray)) k).run n h = (k (pt n 0)).run (n + 1) (h.set n ⟨cs, .own⟩) := by
  show (bnd (opPtr cs.toArray.toList) k).run n h = _
  rw [List.toList_toArray]
  exact run_ptr f h1
theorem run_build {m : Nat} {z cs : List Value} {ps : List (Nat × Nat × Bool × Value)} (hz : fillA z ps = some cs) (f : Fr n h) (h1 : cs.all one = true) : (bnd (opBuildSlice m z ps) k).run n h = (k (sl n 0 m m)).run (n + 1) (h.set n ⟨cs, .own⟩) := by
  unfold opBuildSlice
  rw [hz]
  simp only
  rw [bnd_assoc, run_new f h1]
  rfl
theorem run_make {bytes : Nat} {z : List Value} {l c : Int} (hb : 0 ≤ l ∧ l ≤ c ∧ c ≤ 1099511627776 ∧ bytes * c.toNat ≤ 70368744177664) (f : Fr n h) (h1 : (rep c.toNat z).all one = true) :
    (bnd (opMake bytes z (.int .i64 l) (.int .i64 c)) k).run n h = (k (sl n 0 l.toNat c.toNat)).run (n + 1) (h.set n ⟨rep c.toNat z, .own⟩) := by
  show (bnd (if 0 ≤ l ∧ l ≤ c ∧ c ≤ 1099511627776 ∧ bytes * c.toNat ≤ 70368744177664 then bnd (new (rep c.toNat z) .own) fun b => ret (sl b 0 l.toNat c.toNat) else fail) k).run n h = _
  rw [if_pos hb, bnd_assoc, run_new f h1]
  rfl
end

/-! ## Appending one value -/
section
variable {β : Type} {n : Nat} {h : H}

/-- A slice that grows by appends alone. -/
def Gl (h : H) (v : Value) (b : Nat) (cs : List Value) : Prop := (cs = [] ∧ v = nsl) ∨ (cs ≠ [] ∧ v = sl b 0 cs.length (U + 1) ∧ h.get b = some ⟨cs, .grow⟩)

theorem Gl.len {v : Value} {b : Nat} {cs : List Value} (g : Gl h v b cs) {k : Value → M β} : bnd (opLen v) k = k (i64 cs.length) := by
  rcases g with ⟨rfl, rfl⟩ | ⟨_, rfl, _⟩ <;> rfl
theorem Gl.keep {h' : H} {v : Value} {b : Nat} {cs : List Value} (g : Gl h v b cs) (hk : cs ≠ [] → h'.get b = h.get b) : Gl h' v b cs := by
  rcases g with ⟨rfl, rfl⟩ | ⟨g0, rfl, g1⟩
  · exact .inl ⟨rfl, rfl⟩
  · exact .inr ⟨g0, rfl, by rw [hk g0]; exact g1⟩
theorem Gl.lt {v : Value} {b : Nat} {cs : List Value} (g : Gl h v b cs) (f : Fr n h) (h0 : cs ≠ []) : b < n := by
  rcases g with ⟨rfl, _⟩ | ⟨_, _, g1⟩
  · exact absurd rfl h0
  · exact f.lt g1

/-- One value, in a slice of its own. -/
theorem run_single {z x : Value} (f : Fr n h) (h1 : one x = true) {k : Value → M β} : (bnd (opBuildSlice 1 (rep 1 [z]) [(0, 1, false, x)]) k).run n h = (k (sl n 0 1 1)).run (n + 1) (h.set n ⟨[x], .own⟩) :=
  run_build (by simp [fillA, rep, h1]) f (by simp [h1])

theorem cellsOf_gl {s b len cap : Nat} (hl : len ≠ 0) {k : List Value → M β} : bnd (cellsOf s (sl b 0 len cap)) k = bnd (rdN b 0 (len * s)) k := by
  show bnd (if len = 0 then ret [] else rdN b 0 (len * s)) k = _
  rw [if_neg hl]

theorem run_append {bytes m : Nat} {v x : Value} {b : Nat} {cs : List Value} {km : Kind} (g : Gl h v b cs) (f : Fr n h) (hm : h.get m = some ⟨[x], km⟩) (hkm : km ≠ .dead) (h1 : one x = true) (hall : cs.all one = true)
    (hmb : cs ≠ [] → b ≠ m) (hs : cs.length + 1 ≤ 1099511627776 ∧ (cs.length + 1) * bytes ≤ 70368744177664) :
    ∃ h', (∀ (k : Value → M β), (bnd (opAppend 1 bytes v (sl m 0 1 1)) k).run n h = (k (sl n 0 (cs.length + 1) (U + 1))).run (n + 1) h') ∧ Gl h' (sl n 0 (cs.length + 1) (U + 1)) n (cs ++ [x]) ∧
      Fr (n + 1) h' ∧ ∀ c, c ≠ n → (cs ≠ [] → c ≠ b) → h'.get c = h.get c := by
  have hml := f.lt hm
  rcases g with ⟨rfl, rfl⟩ | ⟨h0, rfl, hb⟩
  · refine ⟨h.set n ⟨[x], .grow⟩, fun k => ?_, .inr ⟨by simp, rfl, H.get_set_same _ _ _⟩, f.new _, fun c hc _ => H.get_set_ne _ _ hc⟩
    unfold opAppend
    simp only [List.length_nil, Nat.zero_add] at hs
    simp only [Nat.zero_add, if_neg (show ¬ (1 : Nat) = 0 by decide), if_pos hs]
    rw [bnd_assoc, cellsOf_gl (by decide), run_rdN, hm, ldN_some hkm (by simp), if_neg (by simp [U]), if_pos (by decide)]
    show (bnd (bnd (cellsOf 1 nsl) _) k).run n h = _
    rw [bnd_assoc]
    show (bnd (bnd (new ([] ++ (List.take (1 * 1) (List.drop 0 [x]))) .grow) _) k).run n h = _
    rw [bnd_assoc, run_new f (by simp [h1])]
    rfl
  · have hbl := f.lt hb
    have f1 : Fr n (h.set b dead) := f.set _ hbl
    have hlen : cs.length ≠ 0 := fun e => h0 (List.eq_nil_of_length_eq_zero e)
    refine ⟨(h.set b dead).set n ⟨cs ++ [x], .grow⟩, fun k => ?_, .inr ⟨by simp, by simp, H.get_set_same _ _ _⟩, f1.new _, fun c hc hcb => by rw [H.get_set_ne _ _ hc, H.get_set_ne _ _ (hcb h0)]⟩
    unfold opAppend
    simp only [if_neg (show ¬ (1 : Nat) = 0 by decide), if_pos hs]
    rw [bnd_assoc, cellsOf_gl (by decide), run_rdN, hm, ldN_some hkm (by simp)]
    simp only [if_true]
    rw [bnd_assoc, cellsOf_gl hlen, run_rdN, hb, ldN_some (by decide) (by simp)]
    rw [bnd_assoc]
    have hkill : (kill b).run n h = some ((), n, h.set b dead) := by
      show killF b n h = _
      unfold killF
      rw [hb]
    rw [run_bnd hkill, bnd_assoc, run_new f1 (by simp [h1]; simpa using hall)]
    simp
end

/-! ## A call that looks at nothing, reckoned in an empty heap -/

theorem Entry.more {G : Nat} {W : World} {n m : Nat} {ρ : Map} {h : H} (e : Entry G W n ρ h) (hm : n ≤ m) : Entry G W m ρ h := ⟨e.r, e.ro, fun b hb => e.fresh b (by omega)⟩

end Go.Fw
end
section
namespace Go.Fw
open Go.Sort

theorem R.heapMore {G : Nat} {ρ : Map} {h : H} {w w' : World} (r : R G ρ h w) (hk : ∀ k, k < w.heap.size → w'.heap[k]? = w.heap[k]?) : R G ρ h w' := by
  refine ⟨r.dom, r.glob, fun b B L hb hl hL => ?_, r.apart, fun b B L hb hm hL => (r.maps b B L hb hm hL).keep (Le.refl _) (hk _ (r.maps b B L hb hm hL).lt), r.lone⟩
  obtain ⟨⟨arr, elem, fz, ho, hf, hlim, hc⟩, hfits, hex⟩ := r.blk b B L hb hl hL
  refine ⟨⟨arr, elem, fz, ?_, hf, hlim, hc⟩, hfits, hex⟩
  rw [hk _ (Array.getElem?_eq_some_iff.1 ho).1]; exact ho

theorem Ext.heapMore {ρ : Map} {h : H} {w w' : World} (hs : w.heap.size ≤ w'.heap.size) (hk : ∀ k, k < w.heap.size → w'.heap[k]? = w.heap[k]?) (h1 : w'.os = w.os) (h2 : w'.tape = w.tape) (h3 : w'.output = w.output) : Ext ρ h w ρ h w' :=
  ⟨Le.refl _, h1, h2, h3, hs, fun k hk' _ => hk k hk', fun _ _ h => h⟩

theorem grow_at (w : World) (os : Array Obj) (k : Nat) (hk : k < w.heap.size) : (grow w os).heap[k]? = w.heap[k]? := by
  show (w.heap ++ os)[k]? = _
  rw [Array.getElem?_append_left hk]
theorem grow_size (w : World) (os : Array Obj) : w.heap.size ≤ (grow w os).heap.size := by
  show _ ≤ (w.heap ++ os).size
  rw [Array.size_append]; omega

/-- Numbers, and nothing else. -/
def intsOf : List Value → Option (List Int)
  | [] => some []
  | .int .i64 z :: r => (intsOf r).map (z :: ·)
  | _ => none
theorem intsOf_some : ∀ {vs : List Value} {zs : List Int}, intsOf vs = some zs → vs = zs.map i64
  | [], zs, e => by simp only [intsOf, Option.some.injEq] at e; subst e; rfl
  | v :: r, zs, e => by
    unfold intsOf at e
    split at e
    · rename_i h; cases h
    · rename_i z r' h
      simp only [List.cons.injEq] at h
      obtain ⟨rfl, rfl⟩ := h
      rw [Option.map_eq_some_iff] at e
      obtain ⟨ys, h1, rfl⟩ := e
      rw [intsOf_some h1]; rfl
    · cases e
theorem intsOf_ints : ∀ (zs : List Int), intsOf (zs.map i64) = some zs
  | [] => rfl
  | z :: r => by show (intsOf (r.map i64)).map _ = _; rw [intsOf_ints r]; rfl

/-! ## Sorting, plainly -/

def insBy {α : Type} (key : α → Int) (x : α) : List α → List α
  | [] => [x]
  | y :: r => if key x ≤ key y then x :: y :: r else y :: insBy key x r
def sortBy {α : Type} (key : α → Int) : List α → List α
  | [] => []
  | x :: r => insBy key x (sortBy key r)

theorem insBy_perm {α : Type} (key : α → Int) (x : α) : ∀ l, (insBy key x l).Perm (x :: l)
  | [] => .refl _
  | y :: r => by
    unfold insBy
    split
    · exact .refl _
    · exact ((insBy_perm key x r).cons y).trans (List.Perm.swap _ _ _)
theorem sortBy_perm {α : Type} (key : α → Int) : ∀ l, (sortBy key l).Perm l
  | [] => .refl _
  | x :: r => (insBy_perm key x _).trans ((sortBy_perm key r).cons x)
theorem insBy_pw {α : Type} (key : α → Int) (x : α) : ∀ l : List α, l.Pairwise (fun a b => key a ≤ key b) → (insBy key x l).Pairwise fun a b => key a ≤ key b
  | [], _ => List.pairwise_singleton _ _
  | y :: r, h => by
    unfold insBy
    rw [List.pairwise_cons] at h
    split
    · rename_i hxy
      refine List.pairwise_cons.2 ⟨fun z hz => ?_, List.pairwise_cons.2 h⟩
      rcases List.mem_cons.1 hz with rfl | hz
      · exact hxy
      · have := h.1 z hz; omega
    · rename_i hxy
      refine List.pairwise_cons.2 ⟨fun z hz => ?_, insBy_pw key x r h.2⟩
      rcases List.mem_cons.1 ((insBy_perm key x r).mem_iff.1 hz) with rfl | hz
      · omega
      · exact h.1 z hz
theorem sortBy_pw {α : Type} (key : α → Int) : ∀ l : List α, (sortBy key l).Pairwise fun a b => key a ≤ key b
  | [] => List.Pairwise.nil
  | x :: r => insBy_pw key x _ (sortBy_pw key r)

abbrev sortI (zs : List Int) : List Int := sortBy id zs
theorem sortI_merge (zs : List Int) : (zs.mergeSort fun x y => decide (x ≤ y)) = sortI zs := by
  refine List.Perm.eq_of_pairwise (le := fun a b : Int => decide (a ≤ b) = true) (fun a b _ _ h1 h2 => by simp only [decide_eq_true_eq] at h1 h2; omega)
    (List.pairwise_mergeSort (fun a b c h1 h2 => by simp only [decide_eq_true_eq] at *; omega) (fun a b => by simp only [Bool.or_eq_true, decide_eq_true_eq]; omega) zs)
    ((sortBy_pw id zs).imp fun {a b} h => decide_eq_true h) ((List.mergeSort_perm zs _).trans (sortBy_perm id zs).symm)

def sortM (x : Value) : M Value :=
  match x with
  | .slice (some ⟨b, o, none⟩) n _ => if n = 0 ∨ 1000000 < n then fail else bnd (rdN b o n) fun vs =>
    match intsOf vs with
    | some zs => bnd (wrN b o ((sortI zs).map i64)) fun _ => ret undef
    | none => fail
  | _ => fail
def sortL : List Value → M Value
  | [x] => sortM x
  | _ => fail

theorem VL.ints {ρ : Map} : ∀ {zs : List Int} {vs' : List Value}, VL ρ (zs.map i64) vs' → vs' = zs.map i64 := fun {zs vs'} h => by
  refine List.ext_getElem? fun i => ?_
  cases hv : vs'[i]? with
  | none =>
    rw [List.getElem?_eq_none_iff] at hv
    rw [List.getElem?_eq_none]
    rw [h.1]; exact hv
  | some v =>
    have hi : i < (zs.map i64).length := by rw [h.1]; exact (List.getElem?_eq_some_iff.1 hv).1
    have := h.2 i _ v (List.getElem?_eq_getElem hi) hv
    rw [List.getElem?_eq_getElem hi]
    rw [List.getElem_map] at this ⊢
    cases this; rfl
theorem VL.ofInts {ρ : Map} (zs : List Int) : VL ρ (zs.map i64) (zs.map i64) := ⟨rfl, fun i v v' h1 h2 => by
  rw [h1] at h2
  simp only [Option.some.injEq] at h2
  subst h2
  rw [List.getElem?_map, Option.map_eq_some_iff] at h1
  obtain ⟨z, _, rfl⟩ := h1
  exact .int _ _⟩

/-- slices.Sort at numbers. -/
theorem Sim.sortInts {P : Program} {G : Nat} {f : FuncId} (enter : ∀ (args : Array Value) (w : World), (callFunc f args).run P w = .ok (.enter f args) w)
    (hc : ∀ (blk off cap : Nat) (zs : List Int) (w : World), Go.Sort.Holds (Value.int .i64) w blk off zs.toArray → blk < w.heap.size → zs.length < 4611686018427387904 →
      Calls P f #[.slice (some ⟨blk, off, none⟩) zs.length cap] w fun e w' => e = .returned (.tuple #[]) ∧ ∃ n os, w' = grow (putRow (Value.int .i64) (Sort.ahead w n) blk off (zs.mergeSort fun x y => decide (x ≤ y)).toArray) os) : Sim P G f sortL := by
  refine ⟨enter, fun args n h v n' h' e ρ w args' r wl => ?_⟩
  unfold sortL at e
  split at e
  · rename_i x
    unfold sortM at e
    split at e
    · rename_i b o len cap
      split at e
      · cases e
      · rename_i hn
        replace e := bnd_some e
        obtain ⟨vs, n1, h1, e1, e⟩ := e
        obtain ⟨rfl, rfl, hk, L, hL, vs', hvl, hcell⟩ := r.rdN e1
        try dsimp only at e
        split at e
        · rename_i zs hz
          have hvs := intsOf_some hz
          subst hvs
          have := VL.ints hvl
          subst this
          replace e := bnd_some e
          obtain ⟨u, n2, h2, e2, e⟩ := e
          obtain ⟨rfl, B, hb, hm, hle, _, _⟩ := wrN_some e2
          simp only [ret, Option.some.injEq, Prod.mk.injEq] at e
          obtain ⟨rfl, rfl, rfl⟩ := e
          -- the argument in the world
          obtain ⟨hl, hw⟩ := wl
          match args', hl with
          | [x'], _ =>
            have hx := (hw 0 _ _ rfl rfl).strict rfl
            rw [List.length_map] at hk
            cases hx with
            | slice _ _ _ _ a' cap' L' hL' hs =>
              rw [hL] at hL'
              simp only [Option.some.injEq] at hL'
              subst hL'
              have hcap : cap' ≠ 0 := by have := hs.le; omega
              rw [hs.at_ hcap]
              have hcell' : ∀ j (hj : j < zs.length), w.cell? ⟨L.blk, L.off + o + j, none⟩ = some (i64 zs[j]) := fun j hj => hcell j _ (by rw [List.getElem?_eq_getElem (by simpa using hj), List.getElem_map])
              have hH : Go.Sort.Holds (Value.int .i64) w L.blk (L.off + o) zs.toArray := fun j hj => by
                have hj' : j < zs.length := by simpa using hj
                refine ⟨?_, r.unfrozen hb hm hL _⟩
                rw [hcell' j hj']
                simp [hj']
              have hblk : L.blk < w.heap.size := World.block_lt_of_cell? _ _ (hcell' 0 (by omega))
              subst hk
              refine (hc L.blk (L.off + o) cap' zs w hH hblk (by omega)).mono ?_
              rintro e w' ⟨rfl, q, os, rfl⟩
              rw [Lib.sorted_world (Value.int .i64) w L.blk (L.off + o) q zs.toArray (zs.mergeSort fun x y => decide (x ≤ y)) os hH (by simp), sortI_merge]
              have rq : R G ρ _ (w.drewN q) := r.heapMore fun k hk => rfl
              obtain ⟨_, L2, hL2, r2, x2, _, _, _⟩ := rq.wrN e2 (VL.ofInts _)
              rw [hL] at hL2
              simp only [Option.some.injEq] at hL2
              subst hL2
              refine ⟨_, ρ, rfl, .inl (.inl rfl), r2.heapMore fun k hk => grow_at _ _ _ hk, ?_⟩
              exact ((Ext.heapMore (w := w) (w' := w.drewN q) (Nat.le_refl _) (fun _ _ => rfl) rfl rfl rfl).trans x2).trans (Ext.heapMore (grow_size _ _) (fun k hk => grow_at _ _ _ hk) rfl rfl rfl)
        · cases e
    · cases e
  · cases e

end Go.Fw
end
section
namespace Go.Fw
open Go.Sort

def sortX : List Value → M Value
  | [.slice _ 0 _] => ret undef
  | xs => sortL xs

theorem Sim.sortX {P : Program} {G : Nat} {f : FuncId} (hs : Sim P G f sortL) (h0 : ∀ (p : Option Addr) (cap : Nat) (w : World), Calls P f #[.slice p 0 cap] w fun e w' => e = .returned (.tuple #[]) ∧ w' = w) : Sim P G f sortX := by
  refine ⟨hs.enter, fun args n h v n' h' e ρ w args' r wl => ?_⟩
  unfold Fw.sortX at e
  split at e
  · rename_i a c
    simp only [ret, Option.some.injEq, Prod.mk.injEq] at e
    obtain ⟨rfl, rfl, rfl⟩ := e
    obtain ⟨hl, hw⟩ := wl
    match args', hl with
    | [x'], _ =>
      have hx := (hw 0 _ _ rfl rfl).strict rfl
      cases hx with
      | nilslice => exact (h0 none 0 w).mono (by rintro e w' ⟨rfl, rfl⟩; exact ⟨_, ρ, rfl, .inl (.inl rfl), r, Ext.refl _ _ _⟩)
      | slice _ _ _ _ a' cap' L' hL' hs => exact (h0 (some a') cap' w).mono (by rintro e w' ⟨rfl, rfl⟩; exact ⟨_, ρ, rfl, .inl (.inl rfl), r, Ext.refl _ _ _⟩)
  · exact hs.calls args n h v n' h' e ρ w args' r wl
end Go.Fw
end
section
namespace Go.Fw

/-! ## A table -/
def tab (N : Nat) (f : Nat → Value) : List Value := (List.range N).map f
theorem tab_len {N : Nat} {f : Nat → Value} : (tab N f).length = N := by simp [tab]
theorem tab_get {N : Nat} {f : Nat → Value} {i : Nat} (h : i < N) : (tab N f)[i]? = some (f i) := by simp [tab, h]
theorem tab_none {N : Nat} {f : Nat → Value} {i : Nat} (h : N ≤ i) : (tab N f)[i]? = none := List.getElem?_eq_none (by rw [tab_len]; exact h)
theorem tab_ext {N : Nat} {f g : Nat → Value} (h : ∀ i, i < N → f i = g i) : tab N f = tab N g := by
  apply List.ext_getElem?
  intro i
  by_cases hi : i < N
  · rw [tab_get hi, tab_get hi, h i hi]
  · rw [tab_none (by omega), tab_none (by omega)]
theorem tab_set {N : Nat} {f : Nat → Value} {a : Nat} {v : Value} : (tab N f).set a v = tab N fun i => if i = a then v else f i := by
  apply List.ext_getElem?
  intro i
  rw [List.getElem?_set]
  by_cases h : i < N
  · rw [tab_get h, tab_get h, tab_len]
    by_cases e : a = i
    · subst e; simp [h]
    · rw [if_neg e, if_neg (Ne.symm e)]
  · rw [tab_none (by omega), tab_none (by omega), tab_len]
    split
    · rw [if_neg (by omega)]
    · rfl
theorem tab_succ {N : Nat} {f : Nat → Value} : tab (N + 1) f = tab N f ++ [f N] := by simp [tab, List.range_succ]
theorem tab_one {N : Nat} {f : Nat → Value} (h : ∀ i, i < N → one (f i) = true) : (tab N f).all one = true := by
  simp only [tab, List.all_map, List.all_eq_true, List.mem_range]
  exact h
theorem tab_ne {N : Nat} {f : Nat → Value} : tab N f ≠ [] ↔ N ≠ 0 := by
  constructor
  · rintro h rfl; exact h rfl
  · intro h e; exact h (by rw [← tab_len (N := N) (f := f), e]; rfl)
/-! ## Several cells at once -/
/-! ## Lists of lists -/

/-- A slice of slices: all of it lies at lo or behind, each piece by itself. -/
def LL (h : H) (v : Value) (lo G : Nat) (L : Nat → List Value) : Prop :=
  ∃ (ob : Nat) (iv : Nat → Value) (ib : Nat → Nat), Gl h v ob (tab G iv) ∧ (G ≠ 0 → lo ≤ ob) ∧ (∀ j, j < G → Gl h (iv j) (ib j) (L j) ∧ (L j ≠ [] → lo ≤ ib j ∧ ib j ≠ ob)) ∧
    ∀ i j, i < G → j < G → i ≠ j → L i ≠ [] → L j ≠ [] → ib i ≠ ib j

theorem LL.nil {h : H} {lo : Nat} {L : Nat → List Value} : LL h nsl lo 0 L := ⟨0, fun _ => nsl, fun _ => 0, .inl ⟨rfl, rfl⟩, fun h => absurd rfl h, fun j hj => by omega, fun i j hi => by omega⟩

theorem Gl.one_v {h : H} {v : Value} {b : Nat} {cs : List Value} (g : Gl h v b cs) : one v = true := by
  rcases g with ⟨_, rfl⟩ | ⟨_, rfl, _⟩ <;> rfl

theorem LL.keep {h h' : H} {v : Value} {lo n G : Nat} {L : Nat → List Value} (l : LL h v lo G L) (f : Fr n h) (hk : ∀ c, lo ≤ c → c < n → h'.get c = h.get c) : LL h' v lo G L := by
  obtain ⟨ob, iv, ib, g, hlo, hi, hd⟩ := l
  refine ⟨ob, iv, ib, g.keep fun h0 => hk ob (hlo (tab_ne.1 h0)) (g.lt f h0), hlo, fun j hj => ⟨(hi j hj).1.keep fun h0 => hk _ ((hi j hj).2 h0).1 ((hi j hj).1.lt f h0), (hi j hj).2⟩, hd⟩

theorem LL.mono {h : H} {v : Value} {lo lo' G : Nat} {L : Nat → List Value} (l : LL h v lo G L) (hl : lo' ≤ lo) : LL h v lo' G L := by
  obtain ⟨ob, iv, ib, g, hlo, hi, hd⟩ := l
  exact ⟨ob, iv, ib, g, fun h0 => Nat.le_trans hl (hlo h0), fun j hj => ⟨(hi j hj).1, fun h0 => ⟨Nat.le_trans hl ((hi j hj).2 h0).1, ((hi j hj).2 h0).2⟩⟩, hd⟩

theorem LL.congr {h : H} {v : Value} {lo G : Nat} {L L' : Nat → List Value} (l : LL h v lo G L) (e : ∀ j, j < G → L j = L' j) : LL h v lo G L' := by
  obtain ⟨ob, iv, ib, g, hlo, hi, hd⟩ := l
  exact ⟨ob, iv, ib, g, hlo, fun j hj => by rw [← e j hj]; exact hi j hj, fun i j hi' hj hne h1 h2 => hd i j hi' hj hne (by rw [e i hi']; exact h1) (by rw [e j hj]; exact h2)⟩

theorem LL.len {β : Type} {h : H} {v : Value} {lo G : Nat} {L : Nat → List Value} (l : LL h v lo G L) {k : Value → M β} : bnd (opLen v) k = k (i64 G) := by
  obtain ⟨ob, iv, ib, g, _⟩ := l
  rw [g.len, tab_len]

theorem LL.at_ {h : H} {v : Value} {lo G : Nat} {L : Nat → List Value} (l : LL h v lo G L) (hG : G ≠ 0) : ∃ ob, v = sl ob 0 G (U + 1) ∧ lo ≤ ob := by
  obtain ⟨ob, iv, ib, g, hlo, _⟩ := l
  rcases g with ⟨g0, _⟩ | ⟨_, g1, _⟩
  · exact absurd g0 (tab_ne.2 hG)
  · rw [tab_len] at g1; exact ⟨ob, g1, hlo hG⟩

/-- An empty list more. -/
theorem LL.push {h : H} {v : Value} {lo n G bytes : Nat} {L : Nat → List Value} (l : LL h v lo G L) (f : Fr n h) (hlo : lo ≤ n) (hL : L G = []) (hs : G + 1 ≤ 1099511627776 ∧ (G + 1) * bytes ≤ 70368744177664) {β : Type} :
    ∃ h' v', (∀ k : Value → M β, (bnd (opBuildSlice 1 (rep 1 [nsl]) [(0, 1, false, nsl)]) fun t => bnd (opAppend 1 bytes v t) k).run n h = (k v').run (n + 1 + 1) h') ∧ LL h' v' lo (G + 1) L ∧ Fr (n + 1 + 1) h' ∧ ∀ c, c < lo → h'.get c = h.get c := by
  obtain ⟨ob, iv, ib, g, hob, hi, hd⟩ := l
  have hbm : tab G iv ≠ [] → ob ≠ n := fun h0 => by have := g.lt f h0; omega
  have g1 : Gl (h.set n ⟨[nsl], .own⟩) v ob (tab G iv) := g.keep fun h0 => H.get_set_ne _ _ (hbm h0)
  obtain ⟨h2, e2, g2, f2, k2⟩ := run_append (β := β) (bytes := bytes) (x := nsl) g1 (f.new _) (H.get_set_same _ _ _) (by decide) rfl (tab_one fun j hj => (hi j hj).1.one_v) hbm (by rw [tab_len]; exact hs)
  rw [tab_len] at e2 g2
  refine ⟨h2, _, fun k => by rw [run_single f rfl]; exact e2 k, ⟨n + 1, fun j => if j = G then nsl else iv j, ib, ?_, fun _ => by omega, fun j hj => ?_, fun i j hi' hj hne h1 h2 => ?_⟩, f2, fun c hc => ?_⟩
  · rw [tab_succ, if_pos rfl, tab_ext (g := iv) fun i hi => if_neg (by omega)]; exact g2
  · dsimp only
    by_cases e : j = G
    · subst e; rw [if_pos rfl, hL]; exact ⟨.inl ⟨rfl, rfl⟩, fun h => absurd rfl h⟩
    · rw [if_neg e]
      have hj' : j < G := by omega
      have hne : tab G iv ≠ [] := tab_ne.2 (by omega)
      refine ⟨(hi j hj').1.keep fun h0 => ?_, fun h0 => ⟨((hi j hj').2 h0).1, ?_⟩⟩
      · have h3 := (hi j hj').1.lt f h0
        rw [k2 _ (by omega) (fun _ => ((hi j hj').2 h0).2), H.get_set_ne _ _ (by omega)]
      · have := (hi j hj').1.lt f h0; omega
  · have : i ≠ G := fun e => h1 (by rw [e]; exact hL)
    have : j ≠ G := fun e => h2 (by rw [e]; exact hL)
    exact hd i j (by omega) (by omega) hne h1 h2
  · rw [k2 c (by omega) (fun h0 => by have := hob (tab_ne.1 h0); omega), H.get_set_ne _ _ (by omega)]

/-- One value more in one of the lists. -/
theorem LL.app {h : H} {v : Value} {lo n G bytes J : Nat} {L : Nat → List Value} {x z : Value} (l : LL h v lo G L) (f : Fr n h) (hlo : lo ≤ n) (hJ : J < G) (h1 : one x = true) (hall : (L J).all one = true)
    (hs : (L J).length + 1 ≤ 1099511627776 ∧ ((L J).length + 1) * bytes ≤ 70368744177664) {β : Type} :
    ∃ h2 ob iv a, v = sl ob 0 G (U + 1) ∧ lo ≤ ob ∧ ob < n ∧ h.get ob = some ⟨tab G iv, .grow⟩ ∧ h2.get ob = some ⟨tab G iv, .grow⟩ ∧ one a = true ∧
      (∀ k : Value → M β, (bnd (opBuildSlice 1 (rep 1 [z]) [(0, 1, false, x)]) fun t => bnd (opAppend 1 bytes (iv J) t) k).run n h = (k a).run (n + 1 + 1) h2) ∧ Fr (n + 1 + 1) h2 ∧ (∀ c, c < lo → h2.get c = h.get c) ∧
      LL (h2.set ob ⟨(tab G iv).set J a, .grow⟩) v lo G (fun j => if j = J then L j ++ [x] else L j) ∧ Fr (n + 1 + 1) (h2.set ob ⟨(tab G iv).set J a, .grow⟩) := by
  obtain ⟨ob, iv, ib, g, hob, hi, hd⟩ := l
  have hG : G ≠ 0 := by omega
  have hne : tab G iv ≠ [] := tab_ne.2 hG
  rcases g with ⟨g0, _⟩ | ⟨_, gv, gb⟩
  · exact absurd g0 hne
  rw [tab_len] at gv
  have hobn := f.lt gb
  have gJ := (hi J hJ).1
  have hbm : L J ≠ [] → ib J ≠ n := fun h0 => by have := gJ.lt f h0; omega
  have g1 : Gl (h.set n ⟨[x], .own⟩) (iv J) (ib J) (L J) := gJ.keep fun h0 => H.get_set_ne _ _ (hbm h0)
  obtain ⟨h2, e2, g2, f2, k2⟩ := run_append (β := β) (bytes := bytes) (x := x) g1 (f.new _) (H.get_set_same _ _ _) (by decide) h1 hall hbm hs
  have hk : ∀ c, c < n → (L J ≠ [] → c ≠ ib J) → h2.get c = h.get c := fun c hc hcb => by rw [k2 c (by omega) hcb, H.get_set_ne _ _ (by omega)]
  have hob2 : h2.get ob = some ⟨tab G iv, .grow⟩ := by rw [hk ob hobn fun h0 => ((hi J hJ).2 h0).2.symm]; exact gb
  refine ⟨h2, ob, iv, _, gv, hob hG, hobn, gb, hob2, g2.one_v, fun k => by rw [run_single f h1]; exact e2 k, f2, fun c hc => hk c (by omega) fun h0 => by have := ((hi J hJ).2 h0).1; omega, ?_, f2.set _ (by omega)⟩
  refine ⟨ob, fun j => if j = J then sl (n + 1) 0 ((L J).length + 1) (U + 1) else iv j, fun j => if j = J then n + 1 else ib j, ?_, hob, fun j hj => ?_, fun i j hi' hj hij q1 q2 => ?_⟩
  · rw [← tab_set]
    refine .inr ⟨by rw [tab_set]; exact tab_ne.2 hG, by rw [tab_set, tab_len]; exact gv, H.get_set_same _ _ _⟩
  · dsimp only
    by_cases e : j = J
    · subst e
      rw [if_pos rfl, if_pos rfl, if_pos rfl]
      exact ⟨g2.keep fun _ => H.get_set_ne _ _ (by omega), fun _ => ⟨by omega, by omega⟩⟩
    · rw [if_neg e, if_neg e, if_neg e]
      refine ⟨(hi j hj).1.keep fun h0 => ?_, (hi j hj).2⟩
      rw [H.get_set_ne _ _ ((hi j hj).2 h0).2, hk _ ((hi j hj).1.lt f h0) fun h0' => (hd j J hj hJ e h0 h0')]
  · dsimp only at q1 q2 ⊢
    by_cases e1 : i = J
    · subst e1
      rw [if_neg (Ne.symm hij)] at q2
      rw [if_pos rfl, if_neg (Ne.symm hij)]
      have := (hi j hj).1.lt f q2; omega
    · rw [if_neg e1] at q1
      rw [if_neg e1]
      by_cases e2 : j = J
      · rw [if_pos e2]
        have := (hi i hi').1.lt f q1; omega
      · rw [if_neg e2] at q2
        rw [if_neg e2]
        exact hd i j hi' hj hij q1 q2

/-! ## Slices that are read -/

def Rd (h : H) (v : Value) (cs : List Value) : Prop := (cs = [] ∧ v = nsl) ∨ ∃ b o c k, v = sl b o cs.length c ∧ (cs ≠ [] → ∃ xs, h.get b = some ⟨xs, k⟩ ∧ k ≠ .dead ∧ ∀ i, i < cs.length → xs[o + i]? = cs[i]?)

theorem Gl.rd {h : H} {v : Value} {b : Nat} {cs : List Value} (g : Gl h v b cs) : Rd h v cs := by
  rcases g with ⟨rfl, rfl⟩ | ⟨_, rfl, g⟩
  · exact .inl ⟨rfl, rfl⟩
  · exact .inr ⟨b, 0, _, _, rfl, fun _ => ⟨cs, g, by decide, fun i _ => by rw [Nat.zero_add]⟩⟩
theorem Rd.len {β : Type} {h : H} {v : Value} {cs : List Value} (g : Rd h v cs) {k : Value → M β} : bnd (opLen v) k = k (i64 cs.length) := by
  rcases g with ⟨rfl, rfl⟩ | ⟨b, o, c, kd, rfl, _⟩ <;> rfl
theorem Rd.ix {β : Type} {h : H} {v : Value} {cs : List Value} (g : Rd h v cs) {i : Nat} {x : Value} (hx : cs[i]? = some x) :
    ∃ b o, (∀ k : Value → M β, bnd (opIndexAddr 1 v (i64 i)) k = k (pt b o)) ∧ ∀ (n : Nat) (k : Value → M β), (bnd (opLoad (pt b o)) k).run n h = (k x).run n h := by
  have hi : i < cs.length := (List.getElem?_eq_some_iff.1 hx).1
  rcases g with ⟨rfl, _⟩ | ⟨b, o, c, kk, rfl, g⟩
  · exact absurd hi (Nat.not_lt_zero _)
  · obtain ⟨xs, h1, h2, h3⟩ := g (by rintro rfl; exact absurd hi (Nat.not_lt_zero _))
    refine ⟨b, o + i, fun k => ?_, fun n k => ?_⟩
    · rw [st_ix, if_pos (by omega), Int.toNat_natCast, Nat.mul_one]
    · rw [run_load, h1, ldm_some h2 (by rw [h3 i hi]; exact hx)]

/-- A slice of slices that is read. -/
def RdLL (h : H) (v : Value) (G : Nat) (L : Nat → List Value) : Prop := ∃ iv, Rd h v (tab G iv) ∧ ∀ j, j < G → Rd h (iv j) (L j)
theorem LL.rd {h : H} {v : Value} {lo G : Nat} {L : Nat → List Value} (l : LL h v lo G L) : RdLL h v G L := by
  obtain ⟨ob, iv, ib, g, _, hi, _⟩ := l
  exact ⟨iv, g.rd, fun j hj => (hi j hj).1.rd⟩

end Go.Fw
end
section
namespace Go.Fw

abbrev u64 (a : Nat) : Value := .int .u64 (a : Int)

section
variable {β : Type} {k : Value → M β}

end

end Go.Fw
end
section
namespace Go.Fw

section
variable {β : Type} {n : Nat} {h : H} {k : Value → M β}

/-- One cell is looked at. -/
theorem ld1 {b o : Nat} {cs : List Value} {kd : Kind} {v : Value} (hb : h.get b = some ⟨cs, kd⟩) (hk : kd ≠ .dead) (hv : cs[o]? = some v) : (bnd (opLoad (pt b o)) k).run n h = (k v).run n h := by
  rw [run_load, hb, ldm_some hk hv]
theorem st1 {b o : Nat} {cs : List Value} {kd : Kind} {v : Value} (hb : h.get b = some ⟨cs, kd⟩) (hk : kd = .own ∨ kd = .grow) (h1 : one v = true) (ho : o < cs.length) : (bnd (opStore (pt b o) v) k).run n h = (k undef).run n (h.set b ⟨cs.set o v, kd⟩) := by
  rw [run_store, hb, stm_some hk h1 ho]
theorem Rd.get {v : Value} {cs : List Value} (g : Rd h v cs) {i : Nat} {x : Value} (hx : cs[i]? = some x) : (bnd (opIndexAddr 1 v (i64 i)) fun p => bnd (opLoad p) k).run n h = (k x).run n h := by
  obtain ⟨b, o, e1, e2⟩ := g.ix (β := β) hx
  rw [e1, e2]
theorem Rd.keep {h' : H} {v : Value} {cs : List Value} (g : Rd h v cs) (hk : ∀ b, (h.get b).isSome = true → h'.get b = h.get b) : Rd h' v cs := by
  rcases g with g | ⟨b, o, c, kd, rfl, g⟩
  · exact .inl g
  · refine .inr ⟨b, o, c, kd, rfl, fun h0 => ?_⟩
    obtain ⟨xs, h1, h2, h3⟩ := g h0
    exact ⟨xs, by rw [hk b (by rw [h1]; rfl)]; exact h1, h2, h3⟩
/-- What lies below n is kept. -/
theorem Rd.kept {m : Nat} {h' : H} {v : Value} {cs : List Value} (g : Rd h v cs) (f : Fr m h) (hk : ∀ b, b < m → h'.get b = h.get b) : Rd h' v cs := g.keep fun b hb => by
  rcases Nat.lt_or_ge b m with h1 | h1
  · exact hk b h1
  · rw [f b h1] at hb; cases hb
end

/-- Numbers in a slice that is read. -/
abbrev RdI (h : H) (v : Value) (zs : List Int) : Prop := Rd h v (zs.map i64)
/-- Numbers in a slice that grows by appends. -/
abbrev GlI (h : H) (v : Value) (b : Nat) (zs : List Int) : Prop := Gl h v b (zs.map i64)

section
variable {β : Type} {n : Nat} {h : H} {k : Value → M β}
theorem Rd.getI {v : Value} {zs : List Int} (g : RdI h v zs) {i : Nat} (hi : i < zs.length) : (bnd (opIndexAddr 1 v (i64 i)) fun p => bnd (opLoad p) k).run n h = (k (i64 zs[i])).run n h := g.get (by simp [hi])
theorem allI {zs : List Int} : (zs.map i64).all one = true := by simp [List.all_eq_true]; intro _ _; rfl

/-- One number more. -/
theorem Gl.pushI {v : Value} {b : Nat} {zs : List Int} {y z : Int} (g : GlI h v b zs) (f : Fr n h) (hl : zs.length < 1099511627776) :
    ∃ h' v', (∀ k : Value → M β, (bnd (opBuildSlice 1 (rep 1 [i64 y]) [(0, 1, false, i64 z)]) fun t => bnd (opAppend 1 8 v t) k).run n h = (k v').run (n + 2) h') ∧ GlI h' v' (n + 1) (zs ++ [z]) ∧ Fr (n + 2) h' ∧ ∀ c, c < n → (zs ≠ [] → c ≠ b) → h'.get c = h.get c := by
  have hne : zs.map i64 ≠ [] → b ≠ n := fun h0 => by have := g.lt f h0; omega
  have g1 : Gl (h.set n ⟨[i64 z], .own⟩) v b (zs.map i64) := g.keep fun h0 => H.get_set_ne _ _ (hne h0)
  obtain ⟨h2, e2, g2, f2, k2⟩ := run_append (β := β) (bytes := 8) (x := i64 z) g1 (f.new _) (H.get_set_same _ _ _) (by decide) rfl allI hne (by rw [List.length_map]; omega)
  refine ⟨h2, _, fun k => by rw [run_single f rfl]; exact e2 k, ?_, f2, fun c hc hcb => ?_⟩
  · unfold GlI; rw [List.map_append]; exact g2
  · rw [k2 c (by omega) (fun h0 => hcb (by rintro rfl; exact h0 rfl)), H.get_set_ne _ _ (by omega)]
end

/-! ## Moments -/

/-- From one moment to a later one: what is below and not in P is kept. -/
structure Ev (P : Nat → Prop) (n : Nat) (h : H) (n' : Nat) (h' : H) : Prop where
  f : Fr n' h'
  le : n ≤ n'
  keep : ∀ c, c < n → ¬ P c → h'.get c = h.get c

/-- Nobody. -/
abbrev No : Nat → Prop := fun _ => False

theorem Ev.refl {P : Nat → Prop} {n : Nat} {h : H} (f : Fr n h) : Ev P n h n h := ⟨f, Nat.le_refl _, fun _ _ _ => rfl⟩
theorem Ev.trans {P : Nat → Prop} {n n' n'' : Nat} {h h' h'' : H} {Q : Nat → Prop} (a : Ev P n h n' h') (b : Ev Q n' h' n'' h'') (hq : ∀ c, c < n → Q c → P c) : Ev P n h n'' h'' :=
  ⟨b.f, Nat.le_trans a.le b.le, fun c hc hP => by rw [b.keep c (by have := a.le; omega) fun q => hP (hq c hc q), a.keep c hc hP]⟩
theorem Ev.mono {P Q : Nat → Prop} {n n' : Nat} {h h' : H} (a : Ev P n h n' h') (hq : ∀ c, c < n → P c → Q c) : Ev Q n h n' h' := ⟨a.f, a.le, fun c hc hQ => a.keep c hc fun p => hQ (hq c hc p)⟩
theorem Ev.no {n n' : Nat} {h h' : H} (a : Ev No n h n' h') {c : Nat} (hc : c < n) : h'.get c = h.get c := a.keep c hc fun h => h

/-- Numbers in a list that was made at n or later. -/
def NewI (h : H) (n : Nat) (v : Value) (zs : List Int) : Prop := ∃ b, GlI h v b zs ∧ (zs ≠ [] → n ≤ b)
theorem NewI.nil {h : H} {n : Nat} : NewI h n nsl [] := ⟨0, .inl ⟨rfl, rfl⟩, fun h => absurd rfl h⟩
theorem NewI.rd {h : H} {n : Nat} {v : Value} {zs : List Int} (g : NewI h n v zs) : RdI h v zs := by
  obtain ⟨b, g, _⟩ := g; exact g.rd
theorem NewI.mono {h : H} {n m : Nat} {v : Value} {zs : List Int} (g : NewI h n v zs) (hm : m ≤ n) : NewI h m v zs := by
  obtain ⟨b, g, q⟩ := g; exact ⟨b, g, fun h => Nat.le_trans hm (q h)⟩
theorem NewI.keep {h h' : H} {n m : Nat} {v : Value} {zs : List Int} (g : NewI h n v zs) (f : Fr m h) (hk : ∀ c, n ≤ c → c < m → h'.get c = h.get c) : NewI h' n v zs := by
  obtain ⟨b, g, q⟩ := g
  exact ⟨b, g.keep fun h0 => hk b (q (by rintro rfl; exact h0 rfl)) (g.lt f h0), q⟩
theorem NewI.ev {h h' : H} {n m m' : Nat} {v : Value} {zs : List Int} {P : Nat → Prop} (g : NewI h n v zs) (f : Fr m h) (e : Ev P m h m' h') (hP : ∀ c, P c → c < n) : NewI h' n v zs := g.keep f fun c h1 h2 => e.keep c h2 fun p => by have := hP c p; omega

/-- One number more. -/
theorem NewI.push {β : Type} {lo n : Nat} {h : H} {v : Value} {zs : List Int} {y z : Int} (g : NewI h lo v zs) (f : Fr n h) (hlo : lo ≤ n) (hl : zs.length < 1099511627776) :
    ∃ h' v', (∀ k : Value → M β, (bnd (opBuildSlice 1 (rep 1 [i64 y]) [(0, 1, false, i64 z)]) fun t => bnd (opAppend 1 8 v t) k).run n h = (k v').run (n + 2) h') ∧ NewI h' lo v' (zs ++ [z]) ∧ Ev (fun c => lo ≤ c) n h (n + 2) h' := by
  obtain ⟨b, g, q⟩ := g
  obtain ⟨h', v', e, g', f', k⟩ := g.pushI (β := β) (y := y) (z := z) f hl
  exact ⟨h', v', e, ⟨n + 1, g', fun _ => by omega⟩, f', by omega, fun c hc hn => k c hc fun h0 => by have := q h0; omega⟩


end Go.Fw
end
section
namespace Go.Fw
open Go.ChangeShapes Go.WideShapes

/-- What an argument is: a number, a bool, a slice of numbers or of arrays of so many. -/
inductive AK where
  | int
  | bool
  | flat (s : Nat)

def Fit (z : Int) : Prop := -9223372036854775808 ≤ z ∧ z ≤ 9223372036854775807

theorem fit_of_wf {z : Int} (h : (Lit.int .i64 z).wf = true) : Fit z := by
  have h1 : IntKind.i64.min = -9223372036854775808 := rfl
  have h2 : IntKind.i64.max = 9223372036854775807 := rfl
  simp only [Lit.wf, h1, h2, Bool.and_eq_true, decide_eq_true_eq] at h
  exact h

section
variable {H' : Type} {enc : TypeId × Value → H'} {P : Program} {W : World}

end

/-! ## Pairs of numbers that came in -/

def Pairs (h : H) (v : Value) (len : Nat) (Z : Nat → Int) : Prop :=
  (len = 0 ∧ v = nsl) ∨ ∃ b cap, v = sl b 0 len cap ∧ len ≤ cap ∧ cap < 9223372036854775808 ∧ (len ≠ 0 → b < 8 ∧ h.get b = some ⟨tab (cap * 2) fun i => i64 (Z i), .ro⟩)

theorem Pairs.keep {h h' : H} {v : Value} {len : Nat} {Z : Nat → Int} (w : Pairs h v len Z) (hk : ∀ c, c < 8 → h'.get c = h.get c) : Pairs h' v len Z := by
  rcases w with w | ⟨b, cap, rfl, g1, g2, g3⟩
  · exact .inl w
  · exact .inr ⟨b, cap, rfl, g1, g2, fun h0 => ⟨(g3 h0).1, by rw [hk _ (g3 h0).1]; exact (g3 h0).2⟩⟩
theorem Pairs.len {β : Type} {h : H} {v : Value} {len : Nat} {Z : Nat → Int} (w : Pairs h v len Z) {k : Value → M β} : bnd (opLen v) k = k (i64 len) := by
  rcases w with ⟨rfl, rfl⟩ | ⟨b, cap, rfl, _⟩ <;> rfl
theorem Pairs.at_ {β : Type} {h : H} {v : Value} {len : Nat} {Z : Nat → Int} (w : Pairs h v len Z) {i : Nat} (hi : i < len) :
    ∃ b, (∀ k : Value → M β, bnd (opIndexAddr 2 v (i64 i)) k = k (pt b (i * 2))) ∧ ∃ cap, i * 2 + 1 < cap * 2 ∧ h.get b = some ⟨tab (cap * 2) fun i => i64 (Z i), .ro⟩ ∧ b < 8 := by
  rcases w with ⟨rfl, _⟩ | ⟨b, cap, rfl, g1, _, g3⟩
  · omega
  · refine ⟨b, fun k => ?_, cap, by omega, (g3 (by omega)).2, (g3 (by omega)).1⟩
    rw [st_ix, if_pos (by omega), Int.toNat_natCast, Nat.zero_add]

end Go.Fw
end
section
set_option linter.unusedVariables false
namespace Go.Fw

/-- A value without an address, or a closure that holds nothing. -/
def plainA : Value → Bool
  | .func (.func _) fi cs => fi.toList.isEmpty && cs.toList.isEmpty
  | v => okC0 v
theorem plainA_VR {ρ : Map} {v : Value} (h : plainA v = true) : VR ρ v v := by
  unfold plainA at h
  split at h
  · rename_i f fi cs
    simp only [Bool.and_eq_true, List.isEmpty_iff, Array.toList_eq_nil_iff] at h
    obtain ⟨rfl, rfl⟩ := h
    exact .func _ _ _ rfl (by simp)
  · exact VR.of_okC0 h
theorem VR.same_of_okC0 {ρ : Map} {v v' : Value} (h : VR ρ v v') (h0 : okC0 v = true) : v' = v := by
  cases h <;> first | rfl | simp [okC0] at h0
theorem VR.same_of_plainA {ρ : Map} {v v' : Value} (h : VR ρ v v') (h0 : plainA v = true) : v' = v := by
  cases h with
  | func fn cs cs' hs hv =>
    unfold plainA at h0
    split at h0
    · rename_i f fi cs2 heq
      simp only [Bool.and_eq_true, List.isEmpty_iff, Array.toList_eq_nil_iff] at h0
      cases heq
      have h1 := h0.2
      subst h1
      have : cs' = #[] := Array.eq_empty_of_size_eq_zero (by rw [← hs]; rfl)
      subst this
      rfl
    · cases h0
  | _ => first | rfl | simp [plainA, okC0] at h0
theorem plainA_one {v : Value} (h : plainA v = true) : one v = true := by
  cases v <;> first | rfl | simp [plainA, okC0] at h

theorem WL.plain {ρ ρ' : Map} {vs vs' : List Value} (h : WL ρ vs vs') (hp : vs.all plainA = true) : WL ρ' vs vs' := by
  refine ⟨h.1, fun i v v' hv hv' => ?_⟩
  have hpv := List.all_eq_true.1 hp v (List.mem_of_getElem? hv)
  have := (h.2 i v v' hv hv').strict (plainA_one hpv)
  rw [this.same_of_plainA hpv]
  exact (plainA_VR hpv).weak

theorem not_isMap_dead : ¬ Blk.isMap dead := fun h => by cases h.2
theorem not_mine_dead : ¬ Blk.mine dead := fun h => by rcases h with h | h <;> cases h
theorem not_live_dead : ¬ Blk.live dead := fun h => h rfl

end Go.Fw
end
section
set_option linter.unusedVariables false
namespace Go.Fw

/-- A package variable's block, as a run beside the heap sees it. -/
def resB (B : Blk) : Blk :=
  match B.kind with
  | .ro => if B.cells.all okC0 = true then B else dead
  | _ => dead
def resH (h : H) : Nat → H
  | 0 => .leaf
  | g + 1 => match h.get g with
    | some B => (resH h g).set g (resB B)
    | none => resH h g
theorem resH_get (h : H) : ∀ (G b : Nat), (resH h G).get b = if b < G then (h.get b).map resB else none
  | 0, b => by simp [resH, H.get]
  | g + 1, b => by
    unfold resH
    cases hg : h.get g with
    | none =>
      dsimp only
      rw [resH_get h g b]
      by_cases e : b = g
      · subst e; rw [if_neg (by omega), if_pos (by omega), hg]; rfl
      · by_cases h2 : b < g
        · rw [if_pos h2, if_pos (by omega)]
        · rw [if_neg h2, if_neg (by omega)]
    | some B =>
      dsimp only
      rw [H.get_set, resH_get h g b]
      by_cases e : b = g
      · subst e; rw [if_pos rfl, if_pos (by omega), hg]; rfl
      · rw [if_neg e]
        by_cases h2 : b < g
        · rw [if_pos h2, if_pos (by omega)]
        · rw [if_neg h2, if_neg (by omega)]
theorem resB_cases (B : Blk) : resB B = dead ∨ (resB B = B ∧ B.kind = .ro ∧ B.cells.all okC0 = true) := by
  unfold resB
  cases hk : B.kind with
  | ro =>
    dsimp only
    split
    · rename_i h; exact .inr ⟨rfl, rfl, h⟩
    · exact .inl rfl
  | _ => exact .inl rfl

def gbF (G : Nat) (m : List Value → M Value) (args : List Value) : Nat → H → Option (Value × Nat × H) := fun n h =>
  match args with
  | [] => match (m []).run G (resH h G) with
    | some (v, _, _) => if okC0 v = true then some (v, n, h) else none
    | none => none
  | _ => none
theorem gbF_local (G : Nat) (m : List Value → M Value) (args : List Value) : Local (gbF G m args) := by
  unfold gbF
  split
  · refine Local.look _ (fun n h a n' h' e => ?_) fun n h k a n' h' e hs => ?_
    · split at e
      · split at e
        · simp only [Option.some.injEq, Prod.mk.injEq] at e; exact ⟨e.2.1.symm, e.2.2.symm⟩
        · cases e
      · cases e
    · split at e
      case h_2 => cases e
      rename_i v n1 S hm
      split at e
      case isFalse => cases e
      rename_i hv
      simp only [Option.some.injEq, Prod.mk.injEq] at e
      obtain ⟨rfl, rfl, rfl⟩ := e
      have hsub : Sub (resH h G) (resH k G) := by
        intro b B hb
        rw [resH_get] at hb ⊢
        split at hb
        · rename_i hlt
          rw [if_pos hlt]
          cases hg : h.get b with
          | none => rw [hg] at hb; cases hb
          | some C => rw [hs b C hg]; rw [hg] at hb; exact hb
        · cases hb
      obtain ⟨k', hk, _⟩ := ((m []).loc _ _ _ _ _ hm).more (resH k G) hsub (fun b h1 h2 => by rw [resH_get, if_neg (by omega)])
      replace hk : (m []).run G (resH k G) = some (v, n1, k') := hk
      rw [hk]
      dsimp only
      rw [if_pos hv]
  · exact Local.nothing
def gbM (G : Nat) (m : List Value → M Value) (args : List Value) : M Value := ⟨gbF G m args, gbF_local G m args⟩

theorem gb_sim {P : Program} {G : Nat} {f : FuncId} {m : List Value → M Value} (hS : Sim P G f m) : Sim P G f (gbM G m) := by
  refine ⟨hS.enter, fun args n h v n' h' e ρ w args' r ha => ?_⟩
  replace e : gbF G m args n h = some (v, n', h') := e
  unfold gbF at e
  split at e
  case h_2 => cases e
  split at e
  case h_2 => cases e
  rename_i u q S hm
  split at e
  case isFalse => cases e
  rename_i hv
  simp only [Option.some.injEq, Prod.mk.injEq] at e
  obtain ⟨rfl, rfl, rfl⟩ := e
  let ρS : Map := fun c => if c < G then ρ c else none
  have see : ∀ c X, (resH h G).get c = some X → c < G ∧ (X = dead ∨ (h.get c = some X ∧ X.kind = .ro ∧ X.cells.all okC0 = true)) := by
    intro c X hX
    rw [resH_get] at hX
    split at hX
    · rename_i hlt
      refine ⟨hlt, ?_⟩
      cases hg : h.get c with
      | none => rw [hg] at hX; cases hX
      | some B =>
        rw [hg] at hX
        cases hX
        rcases resB_cases B with e | ⟨e1, e2, e3⟩
        · exact .inl e
        · rw [e1]; exact .inr ⟨rfl, e2, e3⟩
    · cases hX
  have noMine : ∀ c X, (resH h G).get c = some X → ¬ X.mine := by
    intro c X hX hm
    rcases (see c X hX).2 with e | ⟨_, e, _⟩
    · rw [e] at hm; exact not_mine_dead hm
    · rcases hm with h | h <;> rw [e] at h <;> cases h
  have noMap : ∀ c X, (resH h G).get c = some X → ¬ X.isMap := by
    intro c X hX hm
    rcases (see c X hX).2 with e | ⟨_, e, _⟩
    · rw [e] at hm; exact not_isMap_dead hm
    · have := hm.1; rw [e] at this; cases this
  have rS : R G ρS (resH h G) w := by
    refine ⟨fun c => ?_, fun g hg => ?_, fun c X M hX hl hM => ?_, fun c d X Y M N hne hX hY hlX hmY hM hN => ?_, fun c X M hX hmX hM => ?_, fun c d X Y M N hne hX hY hmX hmY hM hN => ?_⟩
    · rw [resH_get]
      show _ = (if c < G then ρ c else none).isSome
      split
      · rw [← r.dom]
        cases h.get c <;> rfl
      · rfl
    · obtain ⟨lim, hgl⟩ := r.glob g hg
      exact ⟨lim, by show (if g < G then ρ g else none) = _; rw [if_pos hg, hgl]⟩
    · obtain ⟨hlt, hX | ⟨hX, hk, hcs⟩⟩ := see c X hX
      · rw [hX] at hl; exact absurd hl not_live_dead
      · have hM : (if c < G then ρ c else none) = some M := hM
        rw [if_pos hlt] at hM
        obtain ⟨⟨arr, elem, fz, h1, h2, h3, h4⟩, h5, h6⟩ := r.blk c X M hX hl hM
        refine ⟨⟨arr, elem, fz, h1, h2, h3, fun i v hv => ?_⟩, h5, h6⟩
        obtain ⟨v', h7, h8⟩ := h4 i v hv
        have hp := List.all_eq_true.1 hcs v (List.mem_of_getElem? hv)
        have := h8.same_of_okC0 hp
        subst this
        exact ⟨_, h7, VR.of_okC0 hp⟩
    · exact absurd hmY (noMine d Y hY)
    · exact absurd hmX (noMap c X hX)
    · exact absurd hmX (noMap c X hX)
  refine (hS.calls _ _ _ _ _ _ hm ρS w _ rS (ha.plain rfl)).mono fun en w' hen => ?_
  obtain ⟨v', ρ1, rfl, hv', hR, hx⟩ := hen
  have noOwn : ∀ k, ¬ Own ρS (resH h G) k := by
    rintro k ⟨c, X, M, hX, ho, hM, rfl⟩
    rcases ho with ho | ho
    · exact noMine c X hX ho
    · exact noMap c X hX ho
  have keep : ∀ k, k < w.heap.size → w'.heap[k]? = w.heap[k]? := fun k hk => hx.frame k hk (noOwn k)
  refine ⟨v', ρ, rfl, ?_, ?_, ?_⟩
  · have h1 : one u = true := by cases u <;> first | rfl | (simp [okC0] at hv)
    have h2 := (hv'.strict h1).same_of_okC0 hv
    subst h2
    exact (VR.of_okC0 hv).weak
  · refine ⟨r.dom, r.glob, fun c X M hX hl hM => ?_, r.apart, fun c X M hX hmX hM => ?_, r.lone⟩
    · obtain ⟨⟨arr, elem, fz, h1, h2, h3, h4⟩, h5, h6⟩ := r.blk c X M hX hl hM
      exact ⟨⟨arr, elem, fz, by rw [keep _ (r.blk_lt hX hl hM)]; exact h1, h2, h3, h4⟩, h5, h6⟩
    · have hmo := r.maps c X M hX hmX hM
      exact hmo.keep (Le.refl _) (keep _ hmo.lt)
  · exact ⟨Le.refl _, hx.os, hx.tape, hx.output, hx.size, fun k hk _ => keep k hk, fun k _ ho => ho⟩

end Go.Fw
end
section
set_option maxRecDepth 20000
set_option linter.unusedVariables false
namespace Go.Fw
open Go.ChangeShapes Go.WideShapes

/-- A slice that came in, whose cells may lead to what came in before. -/
theorem Entry.sliceV {G : Nat} {W : World} {n : Nat} {ρ : Map} {h : H} (e : Entry G W n ρ h) (a : Addr) (len cap : Nat) (cs : List Value) (hlen : len ≤ cap) (hcap : cap < U) (hcs : 0 < cap → 0 < cs.length)
    (hc : ∀ i v, cs[i]? = some v → ∃ v', W.cell? (a.add i) = some v' ∧ VR ρ v v') :
    ∃ ρ' h', Entry G W (n + 1) ρ' h' ∧ Le ρ ρ' ∧ VR ρ' (.slice (some ⟨n, 0, none⟩) len cap) (.slice (some a) len cap) ∧ h' = h.set n ⟨if cap = 0 then [] else cs, if cap = 0 then .dead else .ro⟩ := by
  have hn : ρ n = none := by
    have := e.r.dom n
    rw [e.fresh n (Nat.le_refl _)] at this
    cases hq : ρ n with
    | none => rfl
    | some L => rw [hq] at this; cases this
  by_cases h0 : cap = 0
  · subst h0
    exact ⟨_, _, e.add ⟨a.block, a.off, 0⟩ (B := ⟨[], .dead⟩) not_ours_dead (fun hl => absurd rfl hl), Map.add_le _ hn, .slice n 0 len 0 a 0 ⟨a.block, a.off, 0⟩ (Map.add_same _ _ _) ⟨fun _ => rfl, hlen, fun h => absurd rfl h, fun s hs => by omega⟩, by simp⟩
  · have hpos := hcs (by omega)
    obtain ⟨v0, hv0⟩ : ∃ v, cs[0]? = some v := ⟨cs[0], by simp [hpos]⟩
    obtain ⟨w0, h00, _⟩ := hc 0 v0 hv0
    -- the block
    have hblk : ∃ arr elem fz, W.heap[a.block]? = some (.cells arr elem fz) ∧ a.spot = none := by
      unfold Addr.add at h00
      simp only [if_true] at h00
      unfold World.cell? at h00
      split at h00
      · rename_i c _ _ hh
        refine ⟨_, _, _, hh, ?_⟩
        cases hr : a.spot with
        | none => rfl
        | some x => simp [hr] at h00
      · cases h00
    obtain ⟨arr, elem, fz, hb, hr⟩ := hblk
    obtain ⟨ab, ao, ar⟩ := a
    simp only at hb hr
    subst hr
    have hcell : ∀ i v, cs[i]? = some v → ∃ v', arr[ao + i]? = some v' ∧ VR ρ v v' := by
      intro i v hi
      obtain ⟨v', this, hvr⟩ := hc i v hi
      have hadd : Addr.add ⟨ab, ao, none⟩ i = ⟨ab, ao + i, none⟩ := by
        unfold Addr.add
        split
        · rename_i h; subst h; rfl
        · rfl
      rw [hadd] at this
      unfold World.cell? at this
      simp only [hb] at this
      exact ⟨v', by simpa using this, hvr⟩
    have hsz : ao + cs.length ≤ arr.size := by
      obtain ⟨u, hu⟩ : ∃ u, cs[cs.length - 1]? = some u := ⟨cs[cs.length - 1], by simp [hpos]⟩
      obtain ⟨_, this, _⟩ := hcell _ _ hu
      have := (Array.getElem?_eq_some_iff.1 this).1
      omega
    exact ⟨_, _, e.add ⟨ab, ao, ao + cs.length⟩ (B := ⟨cs, .ro⟩) (not_ours_ro _) (fun _ => ⟨⟨arr, elem, fz, hb, fun h => absurd h (not_mine_ro _), hsz, fun i v hi => by
      obtain ⟨v', h1, h2⟩ := hcell i v hi
      exact ⟨v', h1, h2.mono (Map.add_le _ hn)⟩⟩, Nat.le_refl _, fun h => by cases h⟩), Map.add_le _ hn, .slice n 0 len cap _ cap _ (Map.add_same _ _ _) ⟨fun _ => rfl, hlen, fun _ => by simp, fun s hs => by omega⟩, by simp [h0]⟩

/-- An argument: one of the plain kinds, or a slice whose elements' cells are numbers and rows, of which the first so many are looked at. -/
inductive NK where
  | plain (k : AK)
  | nest (lay : List Bool) (lim : Nat)

def NK.size : NK → Nat
  | .plain _ => 1
  | .nest lay lim => lim * lay.length + 1

section
variable {H' : Type} {enc : TypeId × Value → H'} {P : Program} {W : World}

end

end Go.Fw
end
