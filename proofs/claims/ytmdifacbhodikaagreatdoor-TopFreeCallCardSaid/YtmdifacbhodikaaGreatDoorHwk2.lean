/-
  The framework by which the law is proved: FwMp, FwCl, FwRg, FwNa, FwJ, FwK, FwL, FwM, FwN, FwO, FwP, FkA, FkB, FwQ, FwR, FwV, FkC.
-/
import Derived.Test.YtmdifacbhodikaaGreatDoorHwk1
import Derived.Maps.RangeRun
import Derived.ProofKit
set_option linter.all false
section
namespace Go.Fw

/-! ### Entries -/

theorem flatE_inj : ∀ {E E' : List (Value × Value × Nat)}, flatE E = flatE E' → E = E'
  | [], [], _ => rfl
  | [], (_, _, _) :: _, h => by cases h
  | (_, _, _) :: _, [], h => by cases h
  | (a, b, e) :: r, (c, d, f) :: s, h => by
    simp only [flatE, List.cons.injEq, Value.int.injEq, true_and] at h
    obtain ⟨rfl, rfl, hef, h⟩ := h
    have : e = f := by omega
    subst this
    rw [flatE_inj h]

theorem entFind_some {n : Nat} {key : Value} (hk : ikey n key = true) : ∀ {E : List (Value × Value × Nat)} {v t : Value}, (∀ p, p ∈ E → ikey n p.1 = true) → entFind key (flatE E) = some (v, t) → ∃ (i : Nat) (c : Nat), E[i]? = some (key, v, c) ∧ t = .int .i64 c
  | [], v, t, _, h => by cases h
  | (a, b, c) :: r, v, t, hE, h => by
    simp only [flatE, entFind] at h
    split at h
    · rename_i q
      rw [(keq_iff hk (hE (a, b, c) (by simp)))] at q
      cases h
      exact ⟨0, c, by rw [q]; rfl, rfl⟩
    · obtain ⟨i, d, hi, ht⟩ := entFind_some hk (fun p hp => hE p (by simp [hp])) h
      exact ⟨i + 1, d, by simpa using hi, ht⟩
theorem entFind_none {n : Nat} {key : Value} (hk : ikey n key = true) : ∀ {E : List (Value × Value × Nat)}, (∀ p, p ∈ E → ikey n p.1 = true) → entFind key (flatE E) = none → ∀ p, p ∈ E → p.1 ≠ key
  | [], _, _, p, hp => by cases hp
  | (a, b, c) :: r, hE, h, p, hp => by
    simp only [flatE, entFind] at h
    split at h
    · cases h
    · rename_i q
      rw [(keq_iff hk (hE (a, b, c) (by simp)))] at q
      rcases List.mem_cons.1 hp with rfl | hp
      · exact fun e => q e.symm
      · exact entFind_none hk (fun p hp => hE p (by simp [hp])) h p hp

theorem entPut_new {n t : Nat} {key v : Value} (hk : ikey n key = true) : ∀ {E : List (Value × Value × Nat)}, (∀ p, p ∈ E → ikey n p.1 = true) → (∀ p, p ∈ E → p.1 ≠ key) → entPut key v t (flatE E) = flatE (E ++ [(key, v, t)])
  | [], _, _ => rfl
  | (a, b, c) :: r, hE, h => by
    have hne : ¬ keq key a = true := fun q => h (a, b, c) (by simp) ((keq_iff hk (hE (a, b, c) (by simp))).1 q).symm
    simp only [flatE, entPut, List.cons_append]
    rw [if_neg hne, entPut_new hk (fun p hp => hE p (by simp [hp])) fun p hp => h p (by simp [hp])]

theorem entPut_old {n t : Nat} {key v : Value} (hk : ikey n key = true) : ∀ {E : List (Value × Value × Nat)} {j : Nat} {u : Value} {d : Nat}, (∀ p, p ∈ E → ikey n p.1 = true) → E.Pairwise (fun p q => p.1 ≠ q.1) → E[j]? = some (key, u, d) → entPut key v t (flatE E) = flatE (E.set j (key, v, d))
  | [], j, _, _, _, _, h => by simp at h
  | (a, b, c) :: r, 0, u, d, hE, _, h => by
    simp only [List.getElem?_cons_zero, Option.some.injEq, Prod.mk.injEq] at h
    obtain ⟨rfl, rfl, rfl⟩ := h
    simp only [flatE, entPut, List.set_cons_zero]
    rw [if_pos ((keq_iff hk hk).2 rfl)]
  | (a, b, c) :: r, j + 1, u, d, hE, hd, h => by
    rw [List.getElem?_cons_succ] at h
    have hm := List.mem_of_getElem? h
    have hne : ¬ keq key a = true := fun q => (List.pairwise_cons.1 hd).1 _ hm ((keq_iff hk (hE (a, b, c) (by simp))).1 q).symm
    simp only [flatE, entPut, List.set_cons_succ]
    rw [if_neg hne, entPut_old hk (fun p hp => hE p (by simp [hp])) (List.pairwise_cons.1 hd).2 h]

section
variable {P : Program} {G : Nat} {ρ : Map} {h : H} {w : World} {N : Nat} {Γ : List (Nat × Value)} {a : Act} {E : Env} {n n' : Nat} {h' : H} {v : Value} {o : Oper}

theorem VW.map_inv {b : Nat} {v' : Value} (h : VW ρ (.map (some b)) v') : ∃ L, ρ b = some L ∧ v' = .map (some L.blk) := by
  rcases h with (h | ⟨h, _⟩) | h
  · cases h
  · cases h
  · cases h with | map b L hb => exact ⟨L, hb, rfl⟩

theorem VW.nilmap_inv {v' : Value} (h : VW ρ (.map none) v') : v' = .map none := by
  rcases h with (h | ⟨h, _⟩) | h
  · cases h
  · cases h
  · cases h; rfl

theorem not_live_isMap {B : Blk} (h : B.isMap) : ¬ B.live := fun q => q h.1
theorem not_mine_isMap {B : Blk} (h : B.isMap) : ¬ B.mine := fun q => not_live_isMap h q.live

/-- An object's block of the world is written. -/
theorem R.setObj (r : R G ρ h w) {b : Nat} {B B' : Blk} {L : Loc} {o' : Obj} (hb : h.get b = some B) (hmap : B.isMap) (hmap' : B'.isMap) (hL : ρ b = some L) (hok : MapOK ρ { w with heap := w.heap.setIfInBounds L.blk o' } L B') :
    R G ρ (h.set b B') { w with heap := w.heap.setIfInBounds L.blk o' } ∧ Ext ρ h w ρ (h.set b B') { w with heap := w.heap.setIfInBounds L.blk o' } := by
  have hlt : L.blk < w.heap.size := (r.maps b B L hb hmap hL).lt
  have hset : ∀ k, (w.heap.setIfInBounds L.blk o')[k]? = if k = L.blk then some o' else w.heap[k]? := fun k => by
    rw [Array.getElem?_setIfInBounds]
    by_cases e : L.blk = k
    · subst e; rw [if_pos rfl, if_pos rfl, if_pos hlt]
    · rw [if_neg e, if_neg (fun q => e q.symm)]
  refine ⟨⟨fun c => ?_, r.glob, fun c C N hc hl hN => ?_, fun c d C D N O hne hc hd' hl hm hN hO => ?_, fun c C N hc hm hN => ?_, fun c d C D N O hne hc hd' hm1 hm2 hN hO => ?_⟩, ⟨Le.refl _, rfl, rfl, rfl, by simp, fun k hk' hn => ?_, fun k hk' hn => ?_⟩⟩
  · rw [H.get_set]
    split
    · rename_i e; subst e; rw [← r.dom, hb]; rfl
    · exact r.dom c
  · rw [H.get_set] at hc
    split at hc
    · cases hc; exact absurd hl (not_live_isMap hmap')
    · obtain ⟨⟨arr, elem, fz, h1, h2, h3, h4⟩, h5, h6⟩ := r.blk c C N hc hl hN
      refine ⟨⟨arr, elem, fz, ?_, h2, h3, h4⟩, h5, h6⟩
      show (w.heap.setIfInBounds L.blk _)[N.blk]? = _
      rw [hset, if_neg (fun q => (r.maps b B L hb hmap hL).no (by rw [← q]; exact h1))]
      exact h1
  · rw [H.get_set] at hc hd'
    split at hc
    · cases hc; exact absurd hl (not_live_isMap hmap')
    · split at hd'
      · cases hd'; exact absurd hm (not_mine_isMap hmap')
      · exact r.apart c d C D N O hne hc hd' hl hm hN hO
  · rw [H.get_set] at hc
    split at hc
    · rename_i e
      subst e
      cases hc
      rw [hL] at hN
      cases hN
      exact hok
    · rename_i e
      have hne := r.lone c b C _ N L e hc hb hm hmap hN hL
      exact (r.maps c C N hc hm hN).keep (Le.refl _) (by show (w.heap.setIfInBounds L.blk _)[N.blk]? = _; rw [hset, if_neg hne])
  · rw [H.get_set] at hc hd'
    split at hc
    · rename_i e
      subst e
      rw [if_neg (fun q => hne q.symm)] at hd'
      exact r.lone c d _ D N O hne hb hd' hmap hm2 hN hO
    · split at hd'
      · rename_i e
        subst e
        exact r.lone c d C _ N O hne hc hb hm1 hmap hN hO
      · exact r.lone c d C D N O hne hc hd' hm1 hm2 hN hO
  · show (w.heap.setIfInBounds L.blk _)[k]? = _
    rw [hset, if_neg (fun e => hn ⟨b, _, L, hb, .inr hmap, hL, e.symm⟩)]
  · obtain ⟨c, C, N, hc, hm, hN, hkk⟩ := hn
    rw [H.get_set] at hc
    split at hc
    · rename_i e; subst e; exact ⟨c, _, N, hb, .inr hmap, hN, hkk⟩
    · exact ⟨c, C, N, hc, hm, hN, hkk⟩

/-- A map's block of the world is written. -/
theorem R.setMap (r : R G ρ h w) {b sz c0 : Nat} {E E' : List (Value × Value × Nat)} {L : Loc} {es es' : Array MapEntry} {clock clock' : Nat} (hb : h.get b = some (mapB sz c0 E)) (hL : ρ b = some L) (ho : w.heap[L.blk]? = some (.map es clock))
    (hs : E'.length = es'.size) (hk : ∀ p, p ∈ E' → ikey sz p.1 = true) (hd : E'.Pairwise (fun p q => p.1 ≠ q.1)) (hv : ∀ (i : Nat) p e, E'[i]? = some p → es'[i]? = some e → p.1 = e.key ∧ VR ρ p.2.1 e.val ∧ p.2.2 = e.born) :
    R G ρ (h.set b (mapB sz clock' E')) { w with heap := w.heap.setIfInBounds L.blk (.map es' clock') } ∧ Ext ρ h w ρ (h.set b (mapB sz clock' E')) { w with heap := w.heap.setIfInBounds L.blk (.map es' clock') } := by
  have hlt : L.blk < w.heap.size := (Array.getElem?_eq_some_iff.1 ho).1
  exact r.setObj hb (isMap_mapB _ _ _) (isMap_mapB _ _ _) hL ⟨.inl ⟨sz, E', es', clock', rfl, by show (w.heap.setIfInBounds L.blk _)[L.blk]? = _; rw [Array.getElem?_setIfInBounds, if_pos rfl, if_pos hlt], hs, hk, hd, hv⟩⟩

/-- A new object. -/
theorem R.newObj (r : R G ρ h w) {b : Nat} {cs : List Value} {o' : Obj} (e : Fw.new cs .dead n h = some (b, n', h')) (hmap : (⟨cs, .dead⟩ : Blk).isMap) (hok : MapOK (ρ.add b ⟨w.heap.size, 0, 0⟩) (w.alloc o') ⟨w.heap.size, 0, 0⟩ ⟨cs, .dead⟩) :
    R G (ρ.add b ⟨w.heap.size, 0, 0⟩) h' (w.alloc o') ∧ Ext ρ h w (ρ.add b ⟨w.heap.size, 0, 0⟩) h' (w.alloc o') := by
  obtain ⟨rfl, rfl, hn, rfl, h1⟩ := new_some e
  have hle := Map.add_le ⟨w.heap.size, 0, 0⟩ (r.fresh hn)
  have r1 := r.alloc o'
  have lt : ∀ c C N, h.get c = some C → C.isMap → ρ c = some N → N.blk < w.heap.size := fun c C N hc hm hN => by
    exact (r.maps c C N hc hm hN).lt
  refine ⟨⟨fun c => ?_, fun g hg => ?_, fun c C N hc hl hN => ?_, fun c d C D N O hne hc hd hl hm hN hO => ?_, fun c C N hc hm hN => ?_, fun c d C D N O hne hc hd hm1 hm2 hN hO => ?_⟩, ⟨hle, rfl, rfl, rfl, by simp, fun k hk _ => Go.RowKit.Below.heap_alloc _ _ _ hk, fun k hk ho => ?_⟩⟩
  · rw [H.get_set]
    unfold Map.add
    split
    · rfl
    · exact r.dom c
  · obtain ⟨lim, hl⟩ := r.glob g hg
    exact ⟨lim, hle _ _ hl⟩
  · rw [H.get_set] at hc
    unfold Map.add at hN
    split at hc
    · cases hc; exact absurd hl (not_live_isMap hmap)
    · rename_i e
      rw [if_neg e] at hN
      obtain ⟨⟨arr, elem, fz, h1, h2, h3, h4⟩, h5, h6⟩ := r1.blk c C N hc hl hN
      exact ⟨⟨arr, elem, fz, h1, h2, h3, fun i v hv => let ⟨v', k1, k2⟩ := h4 i v hv; ⟨v', k1, k2.mono hle⟩⟩, h5, h6⟩
  · rw [H.get_set] at hc hd
    unfold Map.add at hN hO
    split at hc
    · cases hc; exact absurd hl (not_live_isMap hmap)
    · rename_i e
      rw [if_neg e] at hN
      split at hd
      · cases hd; exact absurd hm (not_mine_isMap hmap)
      · rename_i e2
        rw [if_neg e2] at hO
        exact r1.apart c d C D N O hne hc hd hl hm hN hO
  · rw [H.get_set] at hc
    unfold Map.add at hN
    split at hc
    · rename_i e
      cases hc
      rw [if_pos e] at hN
      cases hN
      exact hok
    · rename_i e
      rw [if_neg e] at hN
      exact (r1.maps c C N hc hm hN).keep hle rfl
  · rw [H.get_set] at hc hd
    unfold Map.add at hN hO
    split at hc
    · rename_i e
      rw [if_pos e] at hN
      cases hN
      split at hd
      · rename_i e2; exact absurd (e.trans e2.symm) hne
      · rename_i e2
        rw [if_neg e2] at hO
        have := lt d D O hd hm2 hO
        show w.heap.size ≠ O.blk
        omega
    · rename_i e
      rw [if_neg e] at hN
      split at hd
      · rename_i e2
        rw [if_pos e2] at hO
        cases hO
        have := lt c C N hc hm1 hN
        show N.blk ≠ w.heap.size
        omega
      · rename_i e2
        rw [if_neg e2] at hO
        exact r.lone c d C D N O hne hc hd hm1 hm2 hN hO
  · obtain ⟨c, C, N, hc, hm, hN, hk'⟩ := ho
    rw [H.get_set] at hc
    unfold Map.add at hN
    split at hc
    · rename_i e
      rw [if_pos e] at hN
      cases hN
      simp at hk'
      omega
    · rename_i e
      rw [if_neg e] at hN
      exact ⟨c, C, N, hc, hm, hN, hk'⟩

/-- A new map. -/
theorem R.newMap (r : R G ρ h w) {sz b : Nat} (e : Fw.new [.nilFunc, .int .u64 sz, .int .u64 0] .dead n h = some (b, n', h')) :
    R G (ρ.add b ⟨w.heap.size, 0, 0⟩) h' (w.alloc (.map #[] 0)) ∧ Ext ρ h w (ρ.add b ⟨w.heap.size, 0, 0⟩) h' (w.alloc (.map #[] 0)) := by
  refine r.newObj e ⟨rfl, rfl⟩ ⟨.inl ⟨sz, [], #[], 0, rfl, heap_alloc_new w _, rfl, (fun p (hp : p ∈ ([] : List (Value × Value × Nat))) => by cases hp), List.Pairwise.nil, (fun (i : Nat) p e (hp : ([] : List (Value × Value × Nat))[i]? = some p) => by simp at hp)⟩⟩

theorem mapN_some {t : TypeId} {sz : Nat} {z : Value} (hm : mapN P t = some (sz, z)) : ∃ k e i, P.underlying t = some (.map k e) ∧ keyN P k = some sz ∧ P.info? e = some i ∧ i.zero = some z ∧ okC0 z = true := by
  unfold mapN at hm
  split at hm
  · rename_i k e hu
    cases hi : P.info? e with
    | none => simp [hi] at hm
    | some i =>
      cases hz : i.zero with
      | none => simp [hi, hz] at hm
      | some z' =>
        cases hk : keyN P k with
        | none => simp [hk] at hm
        | some n' =>
          simp only [hk, hi, hz, Option.bind_some] at hm
          split at hm
          · rename_i h0
            cases hm
            exact ⟨k, e, i, hu, hk, hi, hz, h0⟩
          · cases hm
  · cases hm

theorem sim_makeMap (r : R G ρ h w) {t : TypeId} (ho : o.op = .makeMap t none) (e : aop P G E Γ o.op n h = some (v, n', h')) : Does P G o a w ρ h v h' := by
  rw [ho] at e
  simp only [aop] at e
  cases hm : mapN P t with
  | none => simp only [hm] at e; cases e
  | some q =>
    obtain ⟨sz, z⟩ := q
    simp only [hm] at e
    obtain ⟨b, n1, h1, e1, e2⟩ := bnd_some e
    obtain ⟨rfl, rfl, rfl⟩ := ret_some e2
    obtain ⟨hr, hx⟩ := r.newMap e1
    refine ⟨.map (some w.heap.size), _, _, .inl ?_, VR.weak (.map b ⟨w.heap.size, 0, 0⟩ (Map.add_same _ _ _)), hr, hx⟩
    simp [execOp, ho, Instr.makeMap]

theorem mapEnts_some {sz c : Nat} {key : Value} {cs es : List Value} (h : mapEnts sz key cs = some (c, es)) : cs = .int .u64 sz :: .int .u64 c :: es ∧ ikey sz key = true := by
  unfold mapEnts at h
  split at h
  · split at h
    · rename_i m c' es' q
      cases h
      obtain ⟨rfl, hk⟩ := q
      exact ⟨rfl, hk⟩
    · cases h
  · cases h

/-- A map that is looked into. -/
theorem R.ents (r : R G ρ h w) {b : Nat} {sz c : Nat} {es : List Value} (hb : h.get b = some ⟨.nilFunc :: .int .u64 sz :: .int .u64 c :: es, .dead⟩) {L : Loc} (hL : ρ b = some L) :
    ∃ E ws, es = flatE E ∧ h.get b = some (mapB sz c E) ∧ w.heap[L.blk]? = some (.map ws c) ∧ E.length = ws.size ∧ (∀ p, p ∈ E → ikey sz p.1 = true) ∧ E.Pairwise (fun p q => p.1 ≠ q.1) ∧ ∀ (i : Nat) p e, E[i]? = some p → ws[i]? = some e → p.1 = e.key ∧ VR ρ p.2.1 e.val ∧ p.2.2 = e.born := by
  rcases (r.maps b _ L hb ⟨rfl, rfl⟩ hL).obj with ⟨sz2, E, ws, clock, g1, g2, g3, g4, g5, g6⟩ | ⟨m, since, last, seen, Lm, g1, _⟩ | ⟨g1, _⟩ | ⟨_, _, _, _, _, g1, _⟩
  case inr.inl => unfold iterB at g1; simp at g1
  case inr.inr.inl => unfold iterNB at g1; simp at g1
  case inr.inr.inr => unfold lookB at g1; simp at g1
  unfold mapB at g1
  simp only [Blk.mk.injEq, List.cons.injEq, Value.int.injEq, true_and, and_true] at g1
  obtain ⟨hz, hc, he⟩ := g1
  have hz' : sz = sz2 := by omega
  have hc' : c = clock := by omega
  subst hz'
  subst hc'
  subst he
  exact ⟨E, ws, rfl, hb, g2, g3, g4, g5, g6⟩

theorem key_find {k : TypeId} {sz : Nat} (K : KeyT P k sz) {key : Value} (hk : ikey sz key = true) {E : List (Value × Value × Nat)} {ws : Array MapEntry} (hs : E.length = ws.size) (hE : ∀ p, p ∈ E → ikey sz p.1 = true) (hv : ∀ (i : Nat) p e, E[i]? = some p → ws[i]? = some e → p.1 = e.key) :
    ((Instr.findKey k key ws.toList).run P w = .ok none w ∧ ∀ p, p ∈ E → p.1 ≠ key) ∨ ∃ (j : Nat) (p : Value × Value × Nat) (e : MapEntry), (Instr.findKey k key ws.toList).run P w = .ok (some (j, e.val)) w ∧ E[j]? = some p ∧ ws[j]? = some e ∧ p.1 = key ∧ e.key = key := by
  obtain ⟨lx, hlx⟩ := K.of hk
  have at_ : ∀ (i : Nat) e, ws[i]? = some e → ∃ p, E[i]? = some p ∧ p.1 = e.key := fun i e he => by
    have hi : i < E.length := by rw [hs]; exact (Array.getElem?_eq_some_iff.1 he).1
    exact ⟨E[i], List.getElem?_eq_getElem hi, hv i _ e (List.getElem?_eq_getElem hi) he⟩
  rcases K.law.find w hlx ws.toList (fun e he => by
    obtain ⟨i, hi⟩ := List.mem_iff_getElem?.1 he
    obtain ⟨p, hp, hpe⟩ := at_ i e (by simpa using hi)
    obtain ⟨l, hl⟩ := K.of (hE p (List.mem_of_getElem? hp))
    exact ⟨l, by rw [← hpe]; exact hl⟩) with ⟨h1, h2⟩ | ⟨j, e, h1, h2, h3⟩
  · refine .inl ⟨h1, fun p hp q => ?_⟩
    obtain ⟨i, hi⟩ := List.mem_iff_getElem?.1 hp
    have hi' : i < ws.size := by rw [← hs]; exact (List.getElem?_eq_some_iff.1 hi).1
    have := hv i p _ hi (Array.getElem?_eq_getElem hi')
    exact h2 ws[i] (by simp) (by rw [← this]; exact q)
  · have h2' : ws[j]? = some e := by simpa using h2
    obtain ⟨p, hp, hpe⟩ := at_ j e h2'
    exact .inr ⟨j, p, e, h1, hp, h2', by rw [hpe, h3], h3⟩

theorem pair_uniq {E : List (Value × Value × Nat)} (hd : E.Pairwise (fun p q => p.1 ≠ q.1)) {i j : Nat} {p q : Value × Value × Nat} (hp : E[i]? = some p) (hq : E[j]? = some q) (e : p.1 = q.1) : i = j := by
  obtain ⟨hi, rfl⟩ := List.getElem?_eq_some_iff.1 hp
  obtain ⟨hj, rfl⟩ := List.getElem?_eq_some_iff.1 hq
  rcases Nat.lt_trichotomy i j with g | g | g
  · exact absurd e (List.pairwise_iff_getElem.1 hd i j hi hj g)
  · exact g
  · exact absurd e.symm (List.pairwise_iff_getElem.1 hd j i hj hi g)

theorem lookEnts_some {sz : Nat} {key : Value} {cs es : List Value} (h : lookEnts sz key cs = some es) : cs = .int .i64 sz :: es ∧ ikey sz key = true := by
  unfold lookEnts at h
  split at h
  · split at h
    · rename_i m es' q
      cases h
      obtain ⟨rfl, hk⟩ := q
      exact ⟨rfl, hk⟩
    · cases h
  · cases h
theorem R.looks (r : R G ρ h w) {b : Nat} {sz : Nat} {es : List Value} (hb : h.get b = some ⟨.nilFunc :: .int .i64 sz :: es, .dead⟩) {L : Loc} (hL : ρ b = some L) :
    ∃ (E E' : List (Value × Value × Nat)) (ws : Array MapEntry) (clock : Nat), es = flatE E ∧ w.heap[L.blk]? = some (.map ws clock) ∧ E'.length = ws.size ∧ (∀ p, p ∈ E' → ikey sz p.1 = true) ∧ E'.Pairwise (fun p q => p.1 ≠ q.1) ∧ (∀ (i : Nat) p e, E'[i]? = some p → ws[i]? = some e → p.1 = e.key ∧ VR ρ p.2.1 e.val) ∧
      List.Perm (E.map fun p : Value × Value × Nat => (p.1, p.2.1)) (E'.map fun p : Value × Value × Nat => (p.1, p.2.1)) := by
  rcases (r.maps b _ L hb ⟨rfl, rfl⟩ hL).obj with ⟨sz2, E, ws, clock, g1, _⟩ | ⟨m, since, last, seen, Lm, g1, _⟩ | ⟨g1, _⟩ | ⟨n, E, E', ws, clock, g1, g2, g3, g4, g5, g6, g7⟩
  · unfold mapB at g1; simp at g1
  · unfold iterB at g1; simp at g1
  · unfold iterNB at g1; simp at g1
  · unfold lookB at g1
    simp only [Blk.mk.injEq, List.cons.injEq, Value.int.injEq, true_and, and_true] at g1
    obtain ⟨hz, he⟩ := g1
    have hz' : sz = n := by omega
    subst hz'
    exact ⟨E, E', ws, clock, he, g2, g3, g4, g5, g6, g7⟩
theorem entFind_perm {n : Nat} {key : Value} (hk : ikey n key = true) {E E' : List (Value × Value × Nat)} (hE : ∀ p, p ∈ E' → ikey n p.1 = true) (hd : E'.Pairwise fun p q => p.1 ≠ q.1) (hp : List.Perm (E.map fun p : Value × Value × Nat => (p.1, p.2.1)) (E'.map fun p : Value × Value × Nat => (p.1, p.2.1))) :
    (entFind key (flatE E)).map (·.1) = (entFind key (flatE E')).map (·.1) := by
  have to : ∀ {a b : Value}, (∃ c, (a, b, c) ∈ E) → ∃ c, (a, b, c) ∈ E' := fun {a b} ⟨c, hc⟩ => by
    have : (a, b) ∈ E'.map fun p : Value × Value × Nat => (p.1, p.2.1) := hp.mem_iff.1 (List.mem_map.2 ⟨_, hc, rfl⟩)
    obtain ⟨⟨a', b', c'⟩, h1, h2⟩ := List.mem_map.1 this
    cases h2
    exact ⟨c', h1⟩
  have fro : ∀ {a b : Value}, (∃ c, (a, b, c) ∈ E') → ∃ c, (a, b, c) ∈ E := fun {a b} ⟨c, hc⟩ => by
    have : (a, b) ∈ E.map fun p : Value × Value × Nat => (p.1, p.2.1) := hp.mem_iff.2 (List.mem_map.2 ⟨_, hc, rfl⟩)
    obtain ⟨⟨a', b', c'⟩, h1, h2⟩ := List.mem_map.1 this
    cases h2
    exact ⟨c', h1⟩
  have hE1 : ∀ p, p ∈ E → ikey n p.1 = true := fun p hp => by
    obtain ⟨c, hc⟩ := to (a := p.1) (b := p.2.1) ⟨p.2.2, hp⟩
    exact hE (p.1, p.2.1, c) hc
  cases h1 : entFind key (flatE E) with
  | none =>
    cases h2 : entFind key (flatE E') with
    | none => rfl
    | some u =>
      obtain ⟨u, t⟩ := u
      obtain ⟨i, c, hi, _⟩ := entFind_some hk hE h2
      obtain ⟨c', hc⟩ := fro ⟨c, List.mem_of_getElem? hi⟩
      exact absurd rfl (entFind_none hk hE1 h1 _ hc)
  | some u =>
    obtain ⟨u, t⟩ := u
    obtain ⟨i, c, hi, _⟩ := entFind_some hk hE1 h1
    obtain ⟨c', hc⟩ := to ⟨c, List.mem_of_getElem? hi⟩
    cases h2 : entFind key (flatE E') with
    | none => exact absurd rfl (entFind_none hk hE h2 _ hc)
    | some u' =>
      obtain ⟨u', t'⟩ := u'
      obtain ⟨j, c2, hj, _⟩ := entFind_some hk hE h2
      obtain ⟨j', hj'⟩ := List.mem_iff_getElem?.1 hc
      have := pair_uniq hd hj hj' rfl
      subst this
      rw [hj] at hj'
      cases hj'
      rfl

theorem sim_lookup (r : R G ρ h w) (l : Live ρ N Γ a) {t : TypeId} {x y : Operand} {ok : Bool} (ho : o.op = .lookup t x y ok) (e : aop P G E Γ o.op n h = some (v, n', h')) : Does P G o a w ρ h v h' := by
  rw [ho] at e
  simp only [aop] at e
  cases hm : mapN P t with
  | none => simp only [hm] at e; cases e
  | some q =>
    obtain ⟨sz, z⟩ := q
    simp only [hm] at e
    obtain ⟨k, el, zi, hu, hkn, hzi, hzu, hz0⟩ := mapN_some hm
    have K := keyN_law hkn
    have hx := ev_sim r l x
    have hy := ev_sim r l y
    have hzr : (zeroValue el).run P w = .ok z w := by simp [zeroValue, typeInfo, hzi, hzu]
    have hzVR : VR ρ z z := VR.of_okC0 hz0
    have tup : ∀ (u u' : Value) (c : Bool), VR ρ u u' → VR ρ (if ok then .tuple #[u, .bool c] else u) (if ok then .tuple #[u', .bool c] else u') := by
      intro u u' c hu
      cases ok with
      | false => exact hu
      | true =>
        refine .tuple _ _ rfl fun i p q hp hq => ?_
        match i, hp, hq with
        | 0, hp, hq => cases hp; cases hq; exact hu
        | 1, hp, hq => cases hp; cases hq; exact .bool _
        | i + 2, hp, hq => simp at hp
    unfold opLookup at e
    split at e
    case h_3 => cases e
    case h_2 =>
      rename_i hxe
      rw [hxe] at hx
      have hx' : a.eval x = .map none := hx.nilmap_inv
      split at e
      case isFalse => cases e
      rename_i hk
      obtain ⟨rfl, rfl, rfl⟩ := ret_some e
      have hy' := hy.ikey hk
      obtain ⟨lk, hlk⟩ := K.of hk
      have hchk := K.law.check w true hlk
      have hfind : (Instr.findKey k (ev G Γ y) []).run P w = .ok none w := by
        rcases K.law.find w hlk [] (fun e he => by cases he) with ⟨h1, _⟩ | ⟨j, e, _, h2, _⟩
        · exact h1
        · simp at h2
      refine Does.same r (v' := if ok then .tuple #[z, .bool false] else z) ?_ (tup z z false hzVR).weak
      cases ok <;> simp [execOp, ho, Instr.lookup, run_underlying hu, hx', hy', hchk, hfind, hzr]
    rename_i b hxe
    rw [hxe] at hx
    obtain ⟨L, hL, hx'⟩ := hx.map_inv
    obtain ⟨cs, n1, h1, e1, e2⟩ := bnd_some e
    obtain ⟨rfl, rfl, hb⟩ := mpGet_some e1
    obtain ⟨E, E', ws, clock, hk, hw, hs, hE, hd, hv, hfe, e3⟩ : ∃ (E E' : List (Value × Value × Nat)) (ws : Array MapEntry) (clock : Nat), ikey sz (ev G Γ y) = true ∧ w.heap[L.blk]? = some (.map ws clock) ∧ E'.length = ws.size ∧ (∀ p, p ∈ E' → ikey sz p.1 = true) ∧ E'.Pairwise (fun p q => p.1 ≠ q.1) ∧
        (∀ (i : Nat) p e, E'[i]? = some p → ws[i]? = some e → p.1 = e.key ∧ VR ρ p.2.1 e.val) ∧ (entFind (ev G Γ y) (flatE E)).map (·.1) = (entFind (ev G Γ y) (flatE E')).map (·.1) ∧
        (match entFind (ev G Γ y) (flatE E) with
          | some (v, _) => ret (if ok then Value.tuple #[v, .bool true] else v)
          | none => ret (if ok then Value.tuple #[z, .bool false] else z)).run n1 h1 = some (v, n', h') := by
      cases hme : mapEnts sz (ev G Γ y) cs with
      | some ces =>
        obtain ⟨clock, es⟩ := ces
        simp only [hme] at e2
        obtain ⟨rfl, hk⟩ := mapEnts_some hme
        obtain ⟨E, ws, rfl, hbE, hw, hs, hE, hd, hv⟩ := r.ents hb hL
        exact ⟨E, E, ws, clock, hk, hw, hs, hE, hd, fun i p e hp he => ⟨(hv i p e hp he).1, (hv i p e hp he).2.1⟩, rfl, e2⟩
      | none =>
        simp only [hme] at e2
        cases hle : lookEnts sz (ev G Γ y) cs with
        | none => simp only [hle] at e2; cases e2
        | some es =>
          simp only [hle] at e2
          obtain ⟨rfl, hk⟩ := lookEnts_some hle
          obtain ⟨E, E', ws, clock, rfl, hw, hs, hE, hd, hv, hp⟩ := r.looks hb hL
          exact ⟨E, E', ws, clock, hk, hw, hs, hE, hd, hv, entFind_perm hk hE hd hp, e2⟩
    have hy' := hy.ikey hk
    obtain ⟨lk, hlk⟩ := K.of hk
    have hchk := K.law.check w (ws.isEmpty) hlk
    have hrun : ∀ (fv : Option (Nat × Value)), (Instr.findKey k (ev G Γ y) ws.toList).run P w = .ok fv w →
        (execOp a.eval o).run P w = .ok (.value (match fv with
          | some (_, u) => if ok then .tuple #[u, .bool true] else u
          | none => if ok then .tuple #[z, .bool false] else z)) w := by
      intro fv hf
      cases fv with
      | none => cases ok <;> simp [execOp, ho, Instr.lookup, run_underlying hu, hx', hy', Go.MapKept.run_getObj_map hw, hchk, hf, hzr]
      | some u => obtain ⟨j, u⟩ := u; cases ok <;> simp [execOp, ho, Instr.lookup, run_underlying hu, hx', hy', Go.MapKept.run_getObj_map hw, hchk, hf]
    rcases key_find (w := w) K hk hs hE (fun i p e hp he => (hv i p e hp he).1) with ⟨hf, hno⟩ | ⟨j, p, e', hf, hp, he, hpk, _⟩
    · cases hef' : entFind (ev G Γ y) (flatE E') with
      | some ut =>
        obtain ⟨u, ut⟩ := ut
        obtain ⟨i, c, hi, _⟩ := entFind_some hk hE hef'
        exact absurd rfl (hno _ (List.mem_of_getElem? hi))
      | none =>
        rw [hef'] at hfe
        cases hef : entFind (ev G Γ y) (flatE E) with
        | some ut => rw [hef] at hfe; cases hfe
        | none =>
          simp only [hef] at e3
          obtain ⟨rfl, rfl, rfl⟩ := ret_some e3
          exact Does.same r (hrun none hf) (tup z z false hzVR).weak
    · cases hef' : entFind (ev G Γ y) (flatE E') with
      | none => exact absurd hpk (entFind_none hk hE hef' p (List.mem_of_getElem? hp))
      | some ut =>
        obtain ⟨u, ut⟩ := ut
        obtain ⟨i, c, hi, _⟩ := entFind_some hk hE hef'
        have : i = j := pair_uniq hd hi hp hpk.symm
        subst this
        rw [hi] at hp
        cases hp
        rw [hef'] at hfe
        cases hef : entFind (ev G Γ y) (flatE E) with
        | none => rw [hef] at hfe; cases hfe
        | some ut2 =>
          obtain ⟨u2, t2⟩ := ut2
          rw [hef] at hfe
          have hu2 : u2 = u := Option.some.inj hfe
          subst hu2
          simp only [hef] at e3
          obtain ⟨rfl, rfl, rfl⟩ := ret_some e3
          exact Does.same r (hrun _ hf) (tup u2 e'.val true (hv i _ e' hi he).2).weak

/-- The same heap, said otherwise. -/
theorem R.same {h2 : H} (r : R G ρ h w) (e : ∀ b, h.get b = h2.get b) : R G ρ h2 w :=
  ⟨fun b => by rw [← e b]; exact r.dom b, r.glob, fun b B L hb hl hL => r.blk b B L (by rw [e b]; exact hb) hl hL, fun b c B C L M hne hb hc hl hm hL hM => r.apart b c B C L M hne (by rw [e b]; exact hb) (by rw [e c]; exact hc) hl hm hL hM, fun b B L hb hm hL => r.maps b B L (by rw [e b]; exact hb) hm hL, fun b c B C L M hne hb hc h1 h2 hL hM => r.lone b c B C L M hne (by rw [e b]; exact hb) (by rw [e c]; exact hc) h1 h2 hL hM⟩
theorem Ext.same {ρ' : Map} {h1 h2 : H} {w' : World} (x : Ext ρ h w ρ' h1 w') (e : ∀ b, h1.get b = h2.get b) : Ext ρ h w ρ' h2 w' :=
  ⟨x.le, x.os, x.tape, x.output, x.size, x.frame, fun k hk ⟨b, B, L, hb, hm, hL, hk'⟩ => x.owns k hk ⟨b, B, L, by rw [e b]; exact hb, hm, hL, hk'⟩⟩

/-- One entry more. -/
theorem R.putNew (r : R G ρ h w) {b sz c : Nat} {E : List (Value × Value × Nat)} {L : Loc} {ws : Array MapEntry} {key v v' : Value} (hb : h.get b = some (mapB sz c E)) (hL : ρ b = some L) (hw : w.heap[L.blk]? = some (.map ws c)) (hs : E.length = ws.size)
    (hE : ∀ p, p ∈ E → ikey sz p.1 = true) (hd : E.Pairwise (fun p q => p.1 ≠ q.1)) (hv : ∀ (i : Nat) p e, E[i]? = some p → ws[i]? = some e → p.1 = e.key ∧ VR ρ p.2.1 e.val ∧ p.2.2 = e.born) (hk : ikey sz key = true) (hno : ∀ p, p ∈ E → p.1 ≠ key) (hvv : VR ρ v v') :
    R G ρ (h.set b (mapB sz (c + 1) (E ++ [(key, v, c)]))) { w with heap := w.heap.setIfInBounds L.blk (.map (ws.push { key := key, val := v', born := c }) (c + 1)) } ∧
      Ext ρ h w ρ (h.set b (mapB sz (c + 1) (E ++ [(key, v, c)]))) { w with heap := w.heap.setIfInBounds L.blk (.map (ws.push { key := key, val := v', born := c }) (c + 1)) } :=
  r.setMap (E' := E ++ [(key, v, c)]) (es' := ws.push { key := key, val := v', born := c }) (clock' := c + 1) hb hL hw (by simp [hs]) (fun q hq => by
      rcases List.mem_append.1 hq with hq | hq
      · exact hE q hq
      · rw [List.mem_singleton] at hq; subst hq; exact hk) (List.pairwise_append.2 ⟨hd, List.pairwise_singleton _ _, fun q hq q' hq' => by
        rw [List.mem_singleton] at hq'; subst hq'; exact hno q hq⟩) (fun i q f hq hf' => by
      by_cases hi : i < E.length
      · rw [List.getElem?_append_left hi] at hq
        rw [Array.getElem?_push, if_neg (by omega)] at hf'
        exact hv i q f hq hf'
      · have hi2 : i = E.length := by
          have := (List.getElem?_eq_some_iff.1 hq).1
          simp at this; omega
        subst hi2
        rw [hs, Array.getElem?_push, if_pos rfl] at hf'
        cases hf'
        simp at hq
        subst hq
        exact ⟨rfl, hvv, rfl⟩)

/-- One entry written. -/
theorem R.putOld (r : R G ρ h w) {b sz c j d : Nat} {E : List (Value × Value × Nat)} {L : Loc} {ws : Array MapEntry} {key v v' u : Value} {e' : MapEntry} (hb : h.get b = some (mapB sz c E)) (hL : ρ b = some L) (hw : w.heap[L.blk]? = some (.map ws c)) (hs : E.length = ws.size)
    (hE : ∀ p, p ∈ E → ikey sz p.1 = true) (hd : E.Pairwise (fun p q => p.1 ≠ q.1)) (hv : ∀ (i : Nat) p e, E[i]? = some p → ws[i]? = some e → p.1 = e.key ∧ VR ρ p.2.1 e.val ∧ p.2.2 = e.born) (hk : ikey sz key = true) (hp : E[j]? = some (key, u, d)) (he : ws[j]? = some e') (hvv : VR ρ v v') {g : MapEntry → MapEntry} (hg : g e' = { e' with key := key, val := v' }) :
    R G ρ (h.set b (mapB sz c (E.set j (key, v, d)))) { w with heap := w.heap.setIfInBounds L.blk (.map (ws.modify j g) c) } ∧
      Ext ρ h w ρ (h.set b (mapB sz c (E.set j (key, v, d)))) { w with heap := w.heap.setIfInBounds L.blk (.map (ws.modify j g) c) } := by
  have hj : j < ws.size := (Array.getElem?_eq_some_iff.1 he).1
  have hdb : d = e'.born := (hv j _ e' hp he).2.2
  refine r.setMap (E' := E.set j (key, v, d)) (es' := ws.modify j g) (clock' := c) hb hL hw (by simp [hs]) (fun q hq => by
      rcases List.mem_or_eq_of_mem_set hq with hq | hq
      · exact hE q hq
      · subst hq; exact hk) (by
      rw [List.pairwise_iff_getElem] at hd ⊢
      intro i m hi hm' him
      simp only [List.length_set] at hi hm'
      have ek : ∀ (i : Nat) (hi : i < E.length), ((E.set j (key, v, d))[i]'(by simpa using hi)).1 = E[i].1 := fun i hi => by
        rw [List.getElem_set]
        split
        · rename_i q; subst q
          obtain ⟨_, q⟩ := List.getElem?_eq_some_iff.1 hp
          rw [q]
        · rfl
      rw [ek i hi, ek m hm']
      exact hd i m hi hm' him) (fun i q f hq hf' => by
      rw [Array.getElem?_modify] at hf'
      by_cases hi : j = i
      · subst hi
        rw [if_pos rfl, he] at hf'
        simp only [Option.map_some, Option.some.injEq] at hf'
        subst hf'
        rw [List.getElem?_set, if_pos rfl, if_pos (by omega)] at hq
        cases hq
        rw [hg]
        exact ⟨rfl, hvv, hdb⟩
      · rw [if_neg hi] at hf'
        rw [List.getElem?_set, if_neg hi] at hq
        exact hv i q f hq hf')

theorem sim_insert (r : R G ρ h w) (l : Live ρ N Γ a) {t : TypeId} {x y u : Operand} (ho : o.op = .insert t x y u ∨ o.op = .mapUpdate t x y u) (e : aop P G E Γ o.op n h = some (v, n', h')) : Does P G o a w ρ h v h' := by
  have e : (match mapN P t with | some (n, _) => opInsert n (ev G Γ x) (ev G Γ y) (ev G Γ u) | none => fail) n h = some (v, n', h') := by
    rcases ho with ho | ho <;> (rw [ho] at e; exact e)
  cases hm : mapN P t with
  | none => simp only [hm] at e; cases e
  | some q =>
    obtain ⟨sz, z⟩ := q
    simp only [hm] at e
    obtain ⟨k, el, zi, hut, hkn, hzi, hzu, hz0⟩ := mapN_some hm
    have K := keyN_law hkn
    have hx := ev_sim r l x
    have hy := ev_sim r l y
    have huv := ev_sim r l u
    unfold opInsert at e
    split at e
    case h_2 => cases e
    rename_i b hxe
    rw [hxe] at hx
    obtain ⟨L, hL, hx'⟩ := hx.map_inv
    obtain ⟨cs, n1, h1, e1, e2⟩ := bnd_some e
    obtain ⟨rfl, rfl, hb⟩ := mpGet_some e1
    cases hme : mapEnts sz (ev G Γ y) cs with
    | none => simp only [hme] at e2; cases e2
    | some ces =>
      obtain ⟨clock, es⟩ := ces
      simp only [hme] at e2
      obtain ⟨rfl, hk⟩ := mapEnts_some hme
      have hy' := hy.ikey hk
      obtain ⟨E, ws, rfl, hbE, hw, hs, hE, hd, hv⟩ := r.ents hb hL
      obtain ⟨lk, hlk⟩ := K.of hk
      by_cases h1v : one (ev G Γ u) = true
      case neg => simp only [h1v, if_false] at e2; cases e2
      simp only [h1v, if_true] at e2
      have huR := huv.strict h1v
      have hchk := K.law.check w false hlk
      have hstay := K.law.stays w hlk
      rcases key_find (w := w) K hk hs hE (fun i p e hp he => (hv i p e hp he).1) with ⟨hf, hno⟩ | ⟨j, p, e', hf, hp, he, hpk, hek⟩
      · cases hef : entFind (ev G Γ y) (flatE E) with
        | some ut =>
          obtain ⟨u2, ut⟩ := ut
          obtain ⟨i, c, hi, _⟩ := entFind_some hk hE hef
          exact absurd rfl (hno _ (List.mem_of_getElem? hi))
        | none =>
          simp only [hef] at e2
          obtain ⟨_, n2, h2, e3, e4⟩ := bnd_some e2
          obtain ⟨rfl, rfl, rfl⟩ := ret_some e4
          obtain ⟨rfl, rfl⟩ := mpSet_some e3
          rw [entPut_new hk hE hno]
          obtain ⟨hr, hxt⟩ := r.putNew (key := ev G Γ y) hbE hL hw hs hE hd hv hk hno huR
          refine ⟨undef, ρ, _, .inr ⟨?_, rfl⟩, .inl (.inl rfl), hr, hxt⟩
          rcases ho with ho | ho <;> simp [execOp, ho, Instr.mapUpdate, run_underlying hut, hx', hy', Go.MapKept.run_getObj_map hw, hchk, hf, Go.MapKept.run_setObj_map _ hw]
      · cases hef : entFind (ev G Γ y) (flatE E) with
        | none => exact absurd hpk (entFind_none hk hE hef p (List.mem_of_getElem? hp))
        | some ut =>
          simp only [hef] at e2
          obtain ⟨_, n2, h2, e3, e4⟩ := bnd_some e2
          obtain ⟨rfl, rfl, rfl⟩ := ret_some e4
          obtain ⟨rfl, rfl⟩ := mpSet_some e3
          have hp' : E[j]? = some (ev G Γ y, p.2.1, p.2.2) := by rw [hp, ← hpk]
          rw [entPut_old hk hE hd hp']
          obtain ⟨hr, hxt⟩ := r.putOld (g := fun e => { e with key := ev G Γ y, val := a.eval u }) hbE hL hw hs hE hd hv hk hp' he huR rfl
          have hkey : ((ws[j]?).map (·.key)).getD (ev G Γ y) = ev G Γ y := by rw [he]; exact hek
          refine ⟨undef, ρ, _, .inr ⟨?_, rfl⟩, .inl (.inl rfl), hr, hxt⟩
          rcases ho with ho | ho <;> simp [execOp, ho, Instr.mapUpdate, run_underlying hut, hx', hy', Go.MapKept.run_getObj_map hw, hchk, hf, hkey, hstay, Go.MapKept.run_setObj_map _ hw]

theorem sim_mapEntry (r : R G ρ h w) (l : Live ρ N Γ a) {t : TypeId} {x y : Operand} (ho : o.op = .mapEntry t x y) (e : aop P G E Γ o.op n h = some (v, n', h')) : Does P G o a w ρ h v h' := by
  rw [ho] at e
  simp only [aop] at e
  cases hm : mapN P t with
  | none => simp only [hm] at e; cases e
  | some q =>
    obtain ⟨sz, z⟩ := q
    simp only [hm] at e
    obtain ⟨k, el, zi, hut, hkn, hzi, hzu, hz0⟩ := mapN_some hm
    have K := keyN_law hkn
    have hx := ev_sim r l x
    have hy := ev_sim r l y
    have hzr : (zeroValue el).run P w = .ok z w := by simp [zeroValue, typeInfo, hzi, hzu]
    have tup : ∀ (u u' : Value) (c : Int), VR ρ u u' → VR ρ (.tuple #[u, .int .i64 c]) (.tuple #[u', .int .i64 c]) := by
      intro u u' c hu
      refine .tuple _ _ rfl fun i p q hp hq => ?_
      match i, hp, hq with
      | 0, hp, hq => cases hp; cases hq; exact hu
      | 1, hp, hq => cases hp; cases hq; exact .int _ _
      | i + 2, hp, hq => simp at hp
    unfold opMapEntry at e
    split at e
    case h_2 => cases e
    rename_i b hxe
    rw [hxe] at hx
    obtain ⟨L, hL, hx'⟩ := hx.map_inv
    obtain ⟨cs, n1, h1, e1, e2⟩ := bnd_some e
    obtain ⟨rfl, rfl, hb⟩ := mpGet_some e1
    cases hme : mapEnts sz (ev G Γ y) cs with
    | none => simp only [hme] at e2; cases e2
    | some ces =>
      obtain ⟨clock, es⟩ := ces
      simp only [hme] at e2
      obtain ⟨rfl, hk⟩ := mapEnts_some hme
      have hy' := hy.ikey hk
      obtain ⟨E, ws, rfl, hbE, hw, hs, hE, hd, hv⟩ := r.ents hb hL
      obtain ⟨lk, hlk⟩ := K.of hk
      have hchk := K.law.check w false hlk
      have hstay := K.law.stays w hlk
      rcases key_find (w := w) K hk hs hE (fun i p e hp he => (hv i p e hp he).1) with ⟨hf, hno⟩ | ⟨j, p, e', hf, hp, he, hpk, hek⟩
      · cases hef : entFind (ev G Γ y) (flatE E) with
        | some ut =>
          obtain ⟨u2, ut⟩ := ut
          obtain ⟨i, c, hi, _⟩ := entFind_some hk hE hef
          exact absurd rfl (hno _ (List.mem_of_getElem? hi))
        | none =>
          simp only [hef] at e2
          obtain ⟨_, n2, h2, e3, e4⟩ := bnd_some e2
          obtain ⟨rfl, rfl, rfl⟩ := ret_some e4
          obtain ⟨rfl, rfl⟩ := mpSet_some e3
          rw [entPut_new hk hE hno]
          obtain ⟨hr, hxt⟩ := r.putNew (key := ev G Γ y) hbE hL hw hs hE hd hv hk hno (VR.of_okC0 hz0)
          refine ⟨.tuple #[z, .int .i64 clock], ρ, _, .inl ?_, (tup z z clock (VR.of_okC0 hz0)).weak, hr, hxt⟩
          simp [execOp, ho, Instr.mapEntry, run_underlying hut, hx', hy', Go.MapKept.run_getObj_map hw, hchk, hf, hzr, goInt, Go.MapKept.run_setObj_map _ hw]
      · cases hef : entFind (ev G Γ y) (flatE E) with
        | none => exact absurd hpk (entFind_none hk hE hef p (List.mem_of_getElem? hp))
        | some ut =>
          obtain ⟨u2, ut⟩ := ut
          obtain ⟨i, c, hi, rfl⟩ := entFind_some hk hE hef
          have : i = j := pair_uniq hd hi hp hpk.symm
          subst this
          rw [hi] at hp
          cases hp
          simp only [hef] at e2
          obtain ⟨rfl, rfl, rfl⟩ := ret_some e2
          obtain ⟨hkk, hvr, hbn⟩ := hv i _ e' hi he
          have hkey : ((ws[i]?).map (·.key)).getD (ev G Γ y) = ev G Γ y := by rw [he]; exact hek
          have hborn : ((ws[i]?).map (·.born)).getD 0 = c := by rw [he]; exact hbn.symm
          obtain ⟨hr, hxt⟩ := r.putOld (v := u2) (v' := e'.val) (g := fun e => { e with key := ev G Γ y }) hbE hL hw hs hE hd hv hk hi he hvr rfl
          have hset : E.set i (ev G Γ y, u2, c) = E := by
            apply List.ext_getElem?
            intro m
            rw [List.getElem?_set]
            split
            · rename_i q; subst q
              rw [if_pos (List.getElem?_eq_some_iff.1 hi).1, hi]
            · rfl
          rw [hset] at hr hxt
          have hsame : ∀ q, (h'.set b (mapB sz clock E)).get q = h'.get q := fun q => by
            rw [H.get_set]
            split
            · rename_i q; subst q; exact hbE.symm
            · rfl
          refine ⟨.tuple #[e'.val, .int .i64 c], ρ, _, .inl ?_, (tup u2 e'.val c hvr).weak, hr.same hsame, hxt.same hsame⟩
          · simp [execOp, ho, Instr.mapEntry, run_underlying hut, hx', hy', Go.MapKept.run_getObj_map hw, hchk, hf, hkey, hstay, goInt, Go.MapKept.run_setObj_map _ hw]
            rw [he]
            show ((e'.born : Nat) : Int) = (c : Int)
            rw [← hbn]

theorem stampIs_iff {s : Int} {c : Nat} : stampIs s (.int .i64 c) = true ↔ (c : Int) = s := by simp [stampIs]

theorem entSet_some {s : Int} {v : Value} : ∀ {E : List (Value × Value × Nat)} {es' : List Value}, entSet s v (flatE E) = some es' → ∃ (j : Nat) (k u : Value) (d : Nat), E[j]? = some (k, u, d) ∧ (d : Int) = s ∧ (∀ i, i < j → ∀ p, E[i]? = some p → ¬ (p.2.2 : Int) = s) ∧ es' = flatE (E.set j (k, v, d))
  | [], _, h => by cases h
  | (a, b, c) :: r, es', h => by
    simp only [flatE, entSet] at h
    split at h
    · rename_i q
      cases h
      exact ⟨0, a, b, c, rfl, stampIs_iff.1 q, fun i hi => by omega, rfl⟩
    · rename_i q
      cases hr : entSet s v (flatE r) with
      | none => simp [hr] at h
      | some l =>
        simp only [hr, Option.map_some, Option.some.injEq] at h
        subst h
        obtain ⟨j, k, u, d, h1, h2, h3, rfl⟩ := entSet_some hr
        refine ⟨j + 1, k, u, d, by simpa using h1, h2, fun i hi p hp => ?_, by simp [flatE]⟩
        cases i with
        | zero => simp at hp; subst hp; exact fun e => q (stampIs_iff.2 e)
        | succ i => exact h3 i (by omega) p (by simpa using hp)

theorem sim_entryStore (r : R G ρ h w) (l : Live ρ N Γ a) {t : TypeId} {x y u : Operand} (ho : o.op = .entryStore t x y u) (e : aop P G E Γ o.op n h = some (v, n', h')) : Does P G o a w ρ h v h' := by
  rw [ho] at e
  simp only [aop] at e
  have hx := ev_sim r l x
  have hy := ev_sim r l y
  have huv := ev_sim r l u
  unfold opEntryStore at e
  split at e
  case h_2 => cases e
  rename_i b s hxe hye
  rw [hxe] at hx
  rw [hye] at hy
  obtain ⟨L, hL, hx'⟩ := hx.map_inv
  have hy' := hy.int_inv
  obtain ⟨cs, n1, h1, e1, e2⟩ := bnd_some e
  obtain ⟨rfl, rfl, hb⟩ := mpGet_some e1
  split at e2
  case h_2 => cases e2
  rename_i c0 c1 es
  cases hes : entSet s (ev G Γ u) es with
  | none => simp only [hes] at e2; cases e2
  | some es' =>
    simp only [hes] at e2
    split at e2
    case isFalse => cases e2
    rename_i h1v
    have huR := huv.strict h1v
    obtain ⟨_, n2, h2, e3, e4⟩ := bnd_some e2
    obtain ⟨rfl, rfl, rfl⟩ := ret_some e4
    obtain ⟨rfl, rfl⟩ := mpSet_some e3
    rcases (r.maps b _ L hb ⟨rfl, rfl⟩ hL).obj with ⟨sz, E, ws, clock, g1, hw, hs, hE, hd, hv⟩ | ⟨m, since, last, seen, Lm, g1, _⟩ | ⟨g1, _⟩ | ⟨_, _, _, _, _, g1, _⟩
    case inr.inl => unfold iterB at g1; simp at g1
    case inr.inr.inl => unfold iterNB at g1; simp at g1
    case inr.inr.inr => unfold lookB at g1; simp at g1
    unfold mapB at g1
    simp only [Blk.mk.injEq, List.cons.injEq, true_and, and_true, Value.int.injEq] at g1
    obtain ⟨rfl, rfl, rfl⟩ := g1
    obtain ⟨j, k, u0, d, hj, hds, hmin, rfl⟩ := entSet_some hes
    have hjE : j < E.length := (List.getElem?_eq_some_iff.1 hj).1
    have hjw : j < ws.size := by omega
    have he : ws[j]? = some ws[j] := Array.getElem?_eq_getElem hjw
    obtain ⟨hkk, hvr, hbn⟩ := hv j _ _ hj he
    have hfind : ws.findIdx? (fun e => (e.born : Int) == s) = some j := by
      rw [Array.findIdx?_eq_some_iff_getElem]
      refine ⟨hjw, ?_, fun i hi => ?_⟩
      · rw [beq_iff_eq, ← hbn]; exact hds
      · have hiE : i < E.length := by omega
        have := hmin i hi _ (List.getElem?_eq_getElem hiE)
        have hb2 := (hv i _ _ (List.getElem?_eq_getElem hiE) (Array.getElem?_eq_getElem (show i < ws.size by omega))).2.2
        rw [hb2] at this
        simpa using this
    obtain ⟨hr, hxt⟩ := r.putOld (v := ev G Γ u) (v' := a.eval u) (g := fun e => { e with val := a.eval u }) hb hL hw hs hE hd hv (hE _ (List.mem_of_getElem? hj)) hj he huR (by rw [hkk])
    refine ⟨undef, ρ, _, .inr ⟨?_, rfl⟩, .inl (.inl rfl), hr, hxt⟩
    simp [execOp, ho, Instr.entryStore, hx', hy', asInt, asIntOf, Go.MapKept.run_getObj_map hw, hfind, Go.MapKept.run_setObj_map _ hw]
end
end Go.Fw
end
section
namespace Go.Fw

theorem entDel_new {n : Nat} {key : Value} (hk : ikey n key = true) : ∀ {E : List (Value × Value × Nat)}, (∀ p, p ∈ E → ikey n p.1 = true) → (∀ p, p ∈ E → p.1 ≠ key) → entDel key (flatE E) = flatE E
  | [], _, _ => rfl
  | (a, b, c) :: r, hE, h => by
    have hne : ¬ keq key a = true := fun q => h (a, b, c) (by simp) ((keq_iff hk (hE (a, b, c) (by simp))).1 q).symm
    simp only [flatE, entDel]
    rw [if_neg hne, entDel_new hk (fun p hp => hE p (by simp [hp])) fun p hp => h p (by simp [hp])]

theorem entDel_old {n : Nat} {key : Value} (hk : ikey n key = true) : ∀ {E : List (Value × Value × Nat)} {j : Nat} {u : Value} {d : Nat}, (∀ p, p ∈ E → ikey n p.1 = true) → E.Pairwise (fun p q => p.1 ≠ q.1) → E[j]? = some (key, u, d) → entDel key (flatE E) = flatE (E.eraseIdx j)
  | [], j, _, _, _, _, h => by simp at h
  | (a, b, c) :: r, 0, u, d, hE, _, h => by
    simp only [List.getElem?_cons_zero, Option.some.injEq, Prod.mk.injEq] at h
    obtain ⟨rfl, rfl, rfl⟩ := h
    simp only [flatE, entDel, List.eraseIdx_zero, List.tail_cons]
    rw [if_pos ((keq_iff hk hk).2 rfl)]
  | (a, b, c) :: r, j + 1, u, d, hE, hd, h => by
    rw [List.getElem?_cons_succ] at h
    have hm := List.mem_of_getElem? h
    have hne : ¬ keq key a = true := fun q => (List.pairwise_cons.1 hd).1 _ hm ((keq_iff hk (hE (a, b, c) (by simp))).1 q).symm
    simp only [flatE, entDel, List.eraseIdx_cons_succ]
    rw [if_neg hne, entDel_old hk (fun p hp => hE p (by simp [hp])) (List.pairwise_cons.1 hd).2 h]

section
variable {P : Program} {G : Nat} {ρ : Map} {h : H} {w : World} {N : Nat} {Γ : List (Nat × Value)} {a : Act} {E : Env} {n n' : Nat} {h' : H} {v : Value} {o : Oper}

theorem sim_delete (r : R G ρ h w) (l : Live ρ N Γ a) {c : Call} (ho : o.op = .call c) (hc : c.callee = .builtin .delete) (e : aop P G E Γ o.op n h = some (v, n', h')) : Does P G o a w ρ h v h' := by
  rw [ho] at e
  simp only [aop, hc] at e
  split at e
  case h_2 => cases e
  rename_i t t2 x y hta hxa
  have hta' : c.argTypes = #[t, t2] := by apply Array.toList_inj.1; simpa using hta
  have hxa' : c.args = #[x, y] := by apply Array.toList_inj.1; simpa using hxa
  cases hm : mapN P t with
  | none => simp only [hm] at e; cases e
  | some q =>
    obtain ⟨sz, z⟩ := q
    simp only [hm] at e
    obtain ⟨k, el, zi, hut, hkn, hzi, hzu, hz0⟩ := mapN_some hm
    have K := keyN_law hkn
    have hx := ev_sim r l x
    have hy := ev_sim r l y
    unfold opDelete at e
    split at e
    case h_3 => cases e
    case h_2 =>
      rename_i hxe
      rw [hxe] at hx
      have hx' := hx.nilmap_inv
      split at e
      case isFalse => cases e
      rename_i hk
      obtain ⟨rfl, rfl, rfl⟩ := ret_some e
      have hy' := hy.ikey hk
      obtain ⟨lk, hlk⟩ := K.of hk
      have hchk := K.law.check w true hlk
      refine Does.same r (v' := .tuple #[]) ?_ (.inl (.inl rfl))
      simp [execOp, ho, resolve, hc, hta', hxa', invoke, builtin, Builtin.delete_, run_underlying hut, hx', hy', hchk]
    rename_i b hxe
    rw [hxe] at hx
    obtain ⟨L, hL, hx'⟩ := hx.map_inv
    obtain ⟨cs, n1, h1, e1, e2⟩ := bnd_some e
    obtain ⟨rfl, rfl, hb⟩ := mpGet_some e1
    cases hme : mapEnts sz (ev G Γ y) cs with
    | none => simp only [hme] at e2; cases e2
    | some ces =>
      obtain ⟨clock, es⟩ := ces
      simp only [hme] at e2
      obtain ⟨rfl, hk⟩ := mapEnts_some hme
      have hy' := hy.ikey hk
      obtain ⟨E, ws, rfl, hbE, hw, hs, hE, hd, hv⟩ := r.ents hb hL
      obtain ⟨lk, hlk⟩ := K.of hk
      obtain ⟨_, n2, h2, e3, e4⟩ := bnd_some e2
      obtain ⟨rfl, rfl, rfl⟩ := ret_some e4
      obtain ⟨rfl, rfl⟩ := mpSet_some e3
      have hchk := K.law.check w ws.isEmpty hlk
      rcases key_find (w := w) K hk hs hE (fun i p e hp he => (hv i p e hp he).1) with ⟨hf, hno⟩ | ⟨j, p, e', hf, hp, he, hpk, hek⟩
      · rw [entDel_new hk hE hno]
        obtain ⟨hr, hxt⟩ := r.setMap (E' := E) (es' := ws) (clock' := clock) hbE hL hw hs hE hd hv
        refine ⟨.tuple #[], ρ, _, .inl ?_, .inl (.inl rfl), hr, hxt⟩
        simp [execOp, ho, resolve, hc, hta', hxa', invoke, builtin, Builtin.delete_, run_underlying hut, hx', hy', Go.MapKept.run_getObj_map hw, hchk, hf, Go.MapKept.run_setObj_map _ hw]
      · have hp' : E[j]? = some (ev G Γ y, p.2.1, p.2.2) := by rw [hp, ← hpk]
        rw [entDel_old hk hE hd hp']
        have hj : j < ws.size := (Array.getElem?_eq_some_iff.1 he).1
        have hws : (ws.eraseIdxIfInBounds j).toList = ws.toList.eraseIdx j := by
          unfold Array.eraseIdxIfInBounds
          rw [dif_pos hj]
          simp
        have hsz : (ws.eraseIdxIfInBounds j).size = ws.size - 1 := by
          rw [← Array.length_toList, hws, List.length_eraseIdx, if_pos (by simpa using hj), Array.length_toList]
        obtain ⟨hr, hxt⟩ := r.setMap (E' := E.eraseIdx j) (es' := ws.eraseIdxIfInBounds j) (clock' := clock) hbE hL hw (by rw [hsz, List.length_eraseIdx, if_pos (by omega), hs]) (fun q hq => hE q ((List.eraseIdx_sublist _ _).subset hq)) (hd.sublist (List.eraseIdx_sublist _ _)) (fun i q f hq hf' => by
            have hf2 : (ws.toList.eraseIdx j)[i]? = some f := by rw [← hws, Array.getElem?_toList]; exact hf'
            rw [List.getElem?_eraseIdx] at hq hf2
            split at hq
            · rename_i hi; rw [if_pos hi] at hf2; exact hv i q f hq (by simpa using hf2)
            · rename_i hi; rw [if_neg hi] at hf2; exact hv (i + 1) q f hq (by simpa using hf2))
        refine ⟨.tuple #[], ρ, _, .inl ?_, .inl (.inl rfl), hr, hxt⟩
        simp [execOp, ho, resolve, hc, hta', hxa', invoke, builtin, Builtin.delete_, run_underlying hut, hx', hy', Go.MapKept.run_getObj_map hw, hchk, hf, Go.MapKept.run_setObj_map _ hw]

theorem sim_makeInterface (r : R G ρ h w) (l : Live ρ N Γ a) {t : TypeId} {x : Operand} (ho : o.op = .makeInterface t x) (e : aop P G E Γ o.op n h = some (v, n', h')) : Does P G o a w ρ h v h' := by
  rw [ho] at e
  simp only [aop] at e
  have hx := ev_sim r l x
  cases hu : P.underlying t with
  | none => simp only [hu] at e; cases e
  | some d =>
    have key : opIface t (ev G Γ x) n h = some (v, n', h') → (∀ ms, d ≠ .interface ms) → Does P G o a w ρ h v h' := by
      intro e hd
      unfold opIface at e
      split at e
      case isFalse => cases e
      rename_i h1
      obtain ⟨rfl, rfl, rfl⟩ := ret_some e
      have hr := hx.strict h1
      refine Does.same r (v' := .iface t (a.eval x)) ?_ (VR.weak (.iface t _ _ hr))
      cases d <;> first
        | (simp [execOp, ho, Instr.makeInterface, run_underlying hu]; done)
        | exact absurd rfl (hd _)
    cases d <;> simp only [hu] at e <;> first
      | (cases e; done)
      | exact key e (fun ms h => by cases h)

theorem sim_clear (r : R G ρ h w) (l : Live ρ N Γ a) {c : Call} (ho : o.op = .call c) (hc : c.callee = .builtin .clear) (e : aop P G E Γ o.op n h = some (v, n', h')) : Does P G o a w ρ h v h' := by
  rw [ho] at e
  simp only [aop, hc] at e
  split at e
  case h_2 => cases e
  rename_i t x hta hxa
  have hta' : c.argTypes = #[t] := by apply Array.toList_inj.1; simpa using hta
  have hxa' : c.args = #[x] := by apply Array.toList_inj.1; simpa using hxa
  split at e
  case h_2 => cases e
  rename_i el hu
  cases hz : zeroL P el with
  | none => simp only [hz] at e; cases e
  | some z =>
    simp only [hz] at e
    obtain ⟨zi, zu, hzi, hzu, hzc, hzs, hzv, hz1⟩ := zeroL_some (ρ := ρ) hz
    have hx := ev_sim r l x
    unfold opClear at e
    split at e
    case h_3 => cases e
    case h_1 =>
      rename_i k cp hxe
      rw [hxe] at hx
      obtain ⟨rfl, rfl, hx'⟩ := hx.nilslice_inv
      obtain ⟨rfl, rfl, rfl⟩ := ret_some e
      refine Does.same r (v' := .tuple #[]) ?_ (.inl (.inl rfl))
      simp [execOp, ho, resolve, hc, hta', hxa', invoke, builtin, Builtin.clear_, run_underlying hu, hx']
    rename_i b ob k cp hxe
    rw [hxe] at hx
    obtain ⟨b', ob', L, a', cap', hbe, hL, hx', hsl⟩ := hx.slice_inv
    cases hbe
    split at e
    · rename_i hk0
      subst hk0
      obtain ⟨rfl, rfl, rfl⟩ := ret_some e
      refine Does.same r (v' := .tuple #[]) ?_ (.inl (.inl rfl))
      simp [execOp, ho, resolve, hc, hta', hxa', invoke, builtin, Builtin.clear_, run_underlying hu, hx']
    · rename_i hk0
      obtain ⟨_, n1, h1, e1, e2⟩ := bnd_some e
      obtain ⟨rfl, rfl, rfl⟩ := ret_some e2
      have hle := hsl.le
      have ha := hsl.at_ (by omega)
      subst ha
      obtain ⟨rfl, L', hL', hr, hex, hcells, hfz, hone⟩ := r.wrN e1 (hzv.rep k)
      rw [hL] at hL'
      cases hL'
      have hmade : (Builtin.zeroCells zu.cells k).toList = rep k z := by
        rw [← hzc]; exact made_cells zu.cells k
      have hst := run_storeCells_cells (P := P) L.blk (L.off + ob) (rep k z) 0 w (by simpa using hcells) (fun j _ => hfz _) hone
      simp only [Nat.add_zero] at hst
      refine ⟨.tuple #[], ρ, _, .inl ?_, .inl (.inl rfl), hr, hex⟩
      obtain ⟨k, rfl⟩ : ∃ j, k = j + 1 := ⟨k - 1, by omega⟩
      simp [execOp, ho, resolve, hc, hta', hxa', invoke, builtin, Builtin.clear_, run_underlying hu, hx', zeroValue, typeInfo, hzi, hzu, hmade, hst]
end
end Go.Fw
end
section
namespace Go.Fw

section
variable {P : Program} {G : Nat} {ρ : Map} {h : H} {w : World} {N : Nat} {Γ : List (Nat × Value)} {a : Act} {E : Env} {n n' : Nat} {h' : H} {v : Value} {o : Oper}

theorem sim_range (r : R G ρ h w) (l : Live ρ N Γ a) {t k el : TypeId} {x : Operand} (ho : o.op = .range t x) (hu : P.underlying t = some (.map k el)) (e : opRange (ev G Γ x) n h = some (v, n', h')) : Does P G o a w ρ h v h' := by
  have hx := ev_sim r l x
  unfold opRange at e
  split at e
  case h_3 => cases e
  · rename_i hxe
    rw [hxe] at hx
    have hx' := hx.nilmap_inv
    obtain ⟨i, n1, h1, e1, e2⟩ := bnd_some e
    obtain ⟨rfl, rfl, rfl⟩ := ret_some e2
    obtain ⟨hr, hxt⟩ := r.newObj (o' := .mapIter none 0 #[] 0) e1 ⟨rfl, rfl⟩ ⟨.inr (.inr (.inl ⟨rfl, heap_alloc_new w _, rfl⟩))⟩
    refine ⟨.pointer (some ⟨w.heap.size, 0, none⟩), _, _, .inl ?_, VR.weak (.ptr i 0 ⟨w.heap.size, 0, 0⟩ (Map.add_same _ _ _)), hr, hxt⟩
    simp [execOp, ho, Instr.range, run_underlying hu, hx']
  · rename_i b hxe
    rw [hxe] at hx
    obtain ⟨L, hL, hx'⟩ := hx.map_inv
    obtain ⟨cs, n1, h1, e1, e2⟩ := bnd_some e
    obtain ⟨rfl, rfl, hb⟩ := mpGet_some e1
    split at e2
    case h_2 => cases e2
    rename_i sz c es
    obtain ⟨i, n2, h2, e3, e4⟩ := bnd_some e2
    obtain ⟨rfl, rfl, rfl⟩ := ret_some e4
    rcases (r.maps b _ L hb ⟨rfl, rfl⟩ hL).obj with ⟨sz2, E2, ws, clock, g1, g2, _⟩ | ⟨m, since, last, seen, Lm, g1, _⟩ | ⟨g1, _⟩ | ⟨_, _, _, _, _, g1, _⟩
    case inr.inl => unfold iterB at g1; simp at g1
    case inr.inr.inl => unfold iterNB at g1; simp at g1
    case inr.inr.inr => unfold lookB at g1; simp at g1
    unfold mapB at g1
    simp only [Blk.mk.injEq, List.cons.injEq, Value.int.injEq, true_and, and_true] at g1
    obtain ⟨_, hc, _⟩ := g1
    have hc' : c = clock := Int.ofNat.inj hc
    subst hc'
    have hne : h1.get i = none := by rw [(new_some e3).1]; exact (new_some e3).2.2.1
    obtain ⟨hr, hxt⟩ := r.newObj (o' := .mapIter (some L.blk) c #[] c) e3 ⟨rfl, rfl⟩ ⟨.inr (.inl ⟨b, c, c, [], L, rfl, Map.add_le _ (r.fresh hne) _ _ hL, heap_alloc_new w _, rfl⟩)⟩
    refine ⟨.pointer (some ⟨w.heap.size, 0, none⟩), _, _, .inl ?_, VR.weak (.ptr i 0 ⟨w.heap.size, 0, 0⟩ (Map.add_same _ _ _)), hr, hxt⟩
    simp [execOp, ho, Instr.range, run_underlying hu, hx', Go.MapKept.run_getObj_map g2]
end
end Go.Fw
end
section
set_option linter.unusedVariables false
namespace Go.Fw
open Go.ChangeMaps (setBlock)

/-! ## A step of a walk -/

theorem seen_inj : ∀ {a b : List Nat}, a.map (fun t : Nat => Value.int .u64 t) = b.map (fun t : Nat => Value.int .u64 t) → a = b
  | [], [], _ => rfl
  | [], _ :: _, h => by simp at h
  | _ :: _, [], h => by simp at h
  | x :: a, y :: b, h => by
    simp only [List.map_cons, List.cons.injEq, Value.int.injEq, true_and] at h
    rw [Int.ofNat.inj h.1, seen_inj h.2]
theorem wf64_int {v : Value} (h : wf64 v = true) : ∃ z, v = .int .i64 z := by
  unfold wf64 at h
  split at h
  · exact ⟨_, rfl⟩
  · cases h
theorem ikey_VR {ρ : Map} {n : Nat} {v : Value} (h : ikey n v = true) : VR ρ v v := by
  unfold ikey at h
  split at h
  · obtain ⟨z, rfl⟩ := wf64_int h
    exact .int _ _
  · rename_i k cs
    rw [Bool.and_eq_true] at h
    refine .agg cs cs rfl fun i v v' hv hv' => ?_
    rw [hv] at hv'
    cases hv'
    obtain ⟨z, rfl⟩ := wf64_int (List.all_eq_true.1 h.2 v (Array.mem_toList_iff.2 (Array.mem_of_getElem? hv)))
    exact .int _ _
  · cases h

/-- What a map's block says of its object. -/
theorem R.mapObj {G : Nat} {ρ : Map} {h : H} {w : World} (r : R G ρ h w) {m sz c : Nat} {E : List (Value × Value × Nat)} (hm : h.get m = some (mapB sz c E)) {Lm : Loc} (hL : ρ m = some Lm) :
    ∃ es : Array MapEntry, w.heap[Lm.blk]? = some (.map es c) ∧ E.length = es.size ∧ ∀ (i : Nat) p e, E[i]? = some p → es[i]? = some e → p.1 = e.key ∧ VR ρ p.1 e.key ∧ VR ρ p.2.1 e.val ∧ p.2.2 = e.born := by
  rcases (r.maps m _ Lm hm (isMap_mapB sz c E) hL).obj with ⟨n, E2, es, clock, e1, e2, e3, e4, e5, e6⟩ | ⟨m2, since, last, seen, L2, e1, _⟩ | ⟨e1, _⟩ | ⟨_, _, _, _, _, e1, _⟩
  · unfold mapB at e1
    simp only [Blk.mk.injEq, List.cons.injEq, Value.int.injEq, true_and, and_true] at e1
    obtain ⟨_, hc, hE⟩ := e1
    have hc' : c = clock := Int.ofNat.inj hc
    subst hc'
    have hEE : E = E2 := flatE_inj hE
    subst hEE
    refine ⟨es, e2, e3, fun i p e hp he => ?_⟩
    obtain ⟨q1, q2, q3⟩ := e6 i p e hp he
    exact ⟨q1, q1 ▸ ikey_VR (e4 p (List.mem_of_getElem? hp)), q2, q3⟩
  · unfold mapB iterB at e1; simp at e1
  · unfold mapB iterNB at e1; simp at e1
  · unfold mapB lookB at e1; simp at e1
theorem R.iterObj {G : Nat} {ρ : Map} {h : H} {w : World} (r : R G ρ h w) {i m since last : Nat} {seen : List Nat} (hi : h.get i = some (iterB m since last seen)) {Li Lm : Loc} (hL : ρ i = some Li) (hM : ρ m = some Lm) :
    w.heap[Li.blk]? = some (.mapIter (some Lm.blk) since seen.toArray last) := by
  rcases (r.maps i _ Li hi (isMap_iterB m since last seen) hL).obj with ⟨n, E2, es, clock, e1, _⟩ | ⟨m2, s2, l2, sn2, L2, e1, e2, e3, _⟩ | ⟨e1, _⟩ | ⟨_, _, _, _, _, e1, _⟩
  · unfold mapB iterB at e1; simp at e1
  · unfold iterB at e1
    simp only [Blk.mk.injEq, List.cons.injEq, Value.int.injEq, true_and, and_true] at e1
    obtain ⟨h1, h2, h3, h4⟩ := e1
    have h1 : m = m2 := Int.ofNat.inj h1
    have h2 : since = s2 := Int.ofNat.inj h2
    have h3 : last = l2 := Int.ofNat.inj h3
    subst h1 h2 h3
    rw [hM] at e2
    cases e2
    have h4 : seen = sn2 := seen_inj h4
    subst h4
    exact e3
  · unfold iterNB iterB at e1; simp at e1
  · unfold lookB iterB at e1; simp at e1

/-- The entries of a map, by when they were born. -/
def borns (E : List (Value × Value × Nat)) : List Nat := E.map (·.2.2)

theorem next_sim {P : Program} {G : Nat} {ρ : Map} {h : H} {w : World} (r : R G ρ h w) {i m sz c last : Nat} {Li : Loc} {seen : List Nat} {E : List (Value × Value × Nat)} (hi : h.get i = some (iterB m c last seen)) (hm : h.get m = some (mapB sz c E)) (hL : ρ i = some Li) (hoff : Li.off = 0)
    (hold : ∀ p, p ∈ E → p.2.2 < c) (hlast : c ≤ last) (ty : TypeId) :
    ((∀ t, t ∈ borns E → t ∈ seen) ∧ (Instr.next (.pointer (some ⟨Li.blk, 0, none⟩)) false ty).run P w = .ok (.tuple #[.bool false]) w) ∨
    ∃ k v t v' w', (k, v, t) ∈ E ∧ t ∉ seen ∧ (Instr.next (.pointer (some ⟨Li.blk, 0, none⟩)) false ty).run P w = .ok v' w' ∧ R G ρ (h.set i (iterB m c c (seen ++ [t]))) w' ∧ Ext ρ h w ρ (h.set i (iterB m c c (seen ++ [t]))) w' ∧ (∃ a b, v' = .tuple #[.bool true, a, b]) ∧ VR ρ (.tuple #[.bool true, k, v]) v' := by
  obtain ⟨Lm, hLm⟩ : ∃ L, ρ m = some L := by
    have := r.dom m
    rw [hm] at this
    cases hq : ρ m with
    | none => rw [hq] at this; cases this
    | some L => exact ⟨L, rfl⟩
  obtain ⟨es, hes, hsz, hall⟩ := r.mapObj hm hLm
  have hit := r.iterObj hi hL hLm
  have born : ∀ x : MapEntry, x ∈ es.toList → ∃ (j : Nat) (p : Value × Value × Nat), E[j]? = some p ∧ es[j]? = some x ∧ p.2.2 = x.born := by
    intro x hx
    obtain ⟨j, hj⟩ := List.mem_iff_getElem?.1 hx
    have hj' : es[j]? = some x := by simpa using hj
    have hlt : j < E.length := by rw [hsz]; exact (Array.getElem?_eq_some_iff.1 hj').1
    exact ⟨j, E[j], List.getElem?_eq_getElem hlt, hj', (hall j _ _ (List.getElem?_eq_getElem hlt) hj').2.2.2⟩
  rcases run_next_at (P := P) w ty Li.blk Lm.blk c last seen.toArray es c hit hes (fun x hx => by
      obtain ⟨j, p, hp, _, hb⟩ := born x hx
      rw [← hb]; exact hold p (List.mem_of_getElem? hp)) hlast with ⟨h0, hr⟩ | ⟨e, he, w1, hw1, hr⟩
  · refine .inl ⟨fun t ht => ?_, hr⟩
    obtain ⟨p, hp, rfl⟩ := List.mem_map.1 ht
    obtain ⟨j, hj⟩ := List.mem_iff_getElem?.1 hp
    have hlt : j < es.size := by rw [← hsz]; exact (List.getElem?_eq_some_iff.1 hj).1
    have hb := (hall j p es[j] hj (Array.getElem?_eq_getElem hlt)).2.2.2
    by_cases hin : p.2.2 ∈ seen
    · exact hin
    · exfalso
      have hmem : es[j] ∈ leftOf es seen.toArray := by
        unfold leftOf
        rw [Array.mem_filter]
        refine ⟨Array.getElem_mem hlt, ?_⟩
        simp only [Bool.not_eq_true', Array.contains_eq_mem, List.mem_toArray, decide_eq_false_iff_not]
        rw [← hb]; exact hin
      have : leftOf es seen.toArray = #[] := Array.eq_empty_of_size_eq_zero h0
      rw [this] at hmem
      simp at hmem
  · right
    have he' : e ∈ leftOf es seen.toArray := Array.mem_toList_iff.1 he
    unfold leftOf at he'
    rw [Array.mem_filter] at he'
    obtain ⟨he1, he2⟩ := he'
    obtain ⟨j, p, hp, hj, hb⟩ := born e (Array.mem_toList_iff.2 he1)
    obtain ⟨k, v, t⟩ := p
    have hb : t = e.born := hb
    subst hb
    have hns : e.born ∉ seen := by
      simp only [Bool.not_eq_true', Array.contains_eq_mem, List.mem_toArray, decide_eq_false_iff_not] at he2
      exact he2
    have r1 : R G ρ h w1 ∧ Ext ρ h w ρ h w1 := by
      rcases hw1 with rfl | rfl
      · exact ⟨r, Ext.refl _ _ _⟩
      · exact ⟨r.drew, Ext.drew _ _ _⟩
    have hset := r1.1.setObj (o' := .mapIter (some Lm.blk) c (seen.toArray.push e.born) c) (B' := iterB m c c (seen ++ [e.born])) hi (isMap_iterB _ _ _ _) (isMap_iterB _ _ _ _) hL ⟨.inr (.inl ⟨m, c, c, seen ++ [e.born], Lm, rfl, hLm, ?_, hoff⟩)⟩
    · refine ⟨k, v, e.born, _, _, List.mem_of_getElem? hp, hns, hr, hset.1, r1.2.trans hset.2, ⟨_, _, rfl⟩, .tuple _ _ rfl fun x u u' hu hu' => ?_⟩
      match x, hu, hu' with
      | 0, hu, hu' => cases hu; cases hu'; exact .bool _
      | 1, hu, hu' => cases hu; cases hu'; exact (hall j _ _ hp hj).2.1
      | 2, hu, hu' => cases hu; cases hu'; exact (hall j _ _ hp hj).2.2.1
      | x + 3, hu, hu' => simp at hu
    · have hlt : Li.blk < w1.heap.size := by
        have : Li.blk < w.heap.size := (Array.getElem?_eq_some_iff.1 hit).1
        rcases hw1 with rfl | rfl <;> exact this
      show (w1.heap.setIfInBounds Li.blk _)[Li.blk]? = _
      rw [Array.getElem?_setIfInBounds, if_pos rfl, if_pos hlt]
      simp

theorem entry_sim {P : Program} {G : Nat} {ρ : Map} {h : H} {w : World} (r : R G ρ h w) {i m sz c t : Nat} {Li : Loc} {seen : List Nat} {E : List (Value × Value × Nat)} {k v : Value} (hi : h.get i = some (iterB m c c (seen ++ [t]))) (hm : h.get m = some (mapB sz c E)) (hL : ρ i = some Li)
    (hE : (k, v, t) ∈ E) (hnd : (borns E).Nodup) :
    ∃ v', (Instr.entry (.pointer (some ⟨Li.blk, 0, none⟩))).run P w = .ok v' w ∧ VR ρ (.tuple #[k, v]) v' := by
  obtain ⟨Lm, hLm⟩ : ∃ L, ρ m = some L := by
    have := r.dom m
    rw [hm] at this
    cases hq : ρ m with
    | none => rw [hq] at this; cases this
    | some L => exact ⟨L, rfl⟩
  obtain ⟨es, hes, hsz, hall⟩ := r.mapObj hm hLm
  have hit := r.iterObj hi hL hLm
  obtain ⟨j, hj⟩ := List.mem_iff_getElem?.1 hE
  have hlt : j < es.size := by rw [← hsz]; exact (List.getElem?_eq_some_iff.1 hj).1
  obtain ⟨h1, h2, h3, h4⟩ := hall j _ es[j] hj (Array.getElem?_eq_getElem hlt)
  have hb : t = es[j].born := h4
  have hnd' : (es.toList.map (·.born)).Nodup := by
    have : es.toList.map (·.born) = borns E := by
      apply List.ext_getElem?
      intro x
      unfold borns
      rw [List.getElem?_map, List.getElem?_map]
      cases hx : E[x]? with
      | none =>
        have : es.toList[x]? = none := by
          rw [List.getElem?_eq_none_iff] at hx ⊢
          simpa [← hsz] using hx
        rw [this]; rfl
      | some p =>
        have hlx : x < es.size := by rw [← hsz]; exact (List.getElem?_eq_some_iff.1 hx).1
        have := (hall x p es[x] hx (Array.getElem?_eq_getElem hlx)).2.2.2
        have e2 : es.toList[x]? = some es[x] := by simp [hlx]
        rw [e2]
        show some es[x].born = some p.2.2
        rw [this]
    rw [this]; exact hnd
  have hit' : w.heap[Li.blk]? = some (.mapIter (some Lm.blk) c (seen.toArray.push es[j].born) c) := by
    rw [hit, hb]; simp
  refine ⟨_, run_entry_at (P := P) w Li.blk Lm.blk c seen.toArray es c es[j] hit' hes (by simp) hnd', .tuple _ _ rfl fun x u u' hu hu' => ?_⟩
  match x, hu, hu' with
  | 0, hu, hu' => cases hu; cases hu'; exact h2
  | 1, hu, hu' => cases hu; cases hu'; exact h3
  | x + 2, hu, hu' => simp at hu

theorem decE_some : ∀ {l : List Value} {E : List (Value × Value × Nat)}, decE l = some E → l = flatE E
  | [], E, h => by cases h; rfl
  | [_], E, h => by simp [decE] at h
  | [_, _], E, h => by simp [decE] at h
  | k :: v :: t :: r, E, h => by
    unfold decE at h
    split at h
    · rename_i heq; simp at heq
    · rename_i k' v' t' r' heq
      simp only [List.cons.injEq] at heq
      obtain ⟨rfl, rfl, rfl, rfl⟩ := heq
      cases hr : decE r with
      | none => rw [hr] at h; cases h
      | some E' =>
        rw [hr] at h
        cases h
        rw [decE_some hr]
        rfl
    · cases h
theorem decS_some : ∀ {l : List Value} {S : List Nat}, decS l = some S → l = S.map fun t : Nat => Value.int .u64 t
  | [], S, h => by cases h; rfl
  | t :: r, S, h => by
    unfold decS at h
    split at h
    · rename_i heq; simp at heq
    · rename_i t' r' heq
      simp only [List.cons.injEq] at heq
      obtain ⟨rfl, rfl⟩ := heq
      cases hr : decS r with
      | none => rw [hr] at h; cases h
      | some S' =>
        rw [hr] at h
        cases h
        rw [decS_some hr]
        rfl
    · cases h

section
variable {P : Program} {G : Nat} {ρ : Map} {h : H} {w : World} {N : Nat} {Γ : List (Nat × Value)} {a : Act} {E : Env} {n n' : Nat} {h' : H} {v : Value} {o : Oper}

theorem R.iterOff (r : R G ρ h w) {i : Nat} {B : Blk} (hi : h.get i = some B) (hB : B.isMap) (hn : ∀ sz c E, B ≠ mapB sz c E) (hn2 : ∀ sz E, B ≠ lookB sz E) {L : Loc} (hL : ρ i = some L) : L.off = 0 := by
  rcases (r.maps i B L hi hB hL).obj with ⟨sz, E, es, cl, e1, _⟩ | ⟨m, s, l, sn, Lm, e1, e2, e3, e4⟩ | ⟨e1, e2, e3⟩ | ⟨_, _, _, _, _, e1, _⟩
  · exact absurd e1 (hn _ _ _)
  · exact e4
  · exact e3
  · exact absurd e1 (hn2 _ _)
theorem sim_next (r : R G ρ h w) (l : Live ρ N Γ a) {x : Operand} (ho : o.op = .next x false) (e : opNext (ev G Γ x) n h = some (v, n', h')) : Does P G o a w ρ h v h' := by
  have hx := ev_sim r l x
  unfold opNext at e
  split at e
  case h_2 => cases e
  rename_i i hxe
  rw [hxe] at hx
  obtain ⟨_, _, L, hb, hL, hx'⟩ := hx.ptr_inv
  cases hb
  obtain ⟨cs, n1, h1, e1, e2⟩ := bnd_some e
  obtain ⟨rfl, rfl, hi⟩ := mpGet_some e1
  split at e2
  · -- over no map
    obtain ⟨rfl, rfl, rfl⟩ := ret_some e2
    have hoff := r.iterOff hi ⟨rfl, rfl⟩ (fun sz c E q => by unfold mapB at q; simp at q) (fun sz E q => by unfold lookB at q; simp at q) hL
    rcases (r.maps i _ L hi ⟨rfl, rfl⟩ hL).obj with ⟨sz, E, es, cl, q, _⟩ | ⟨m, s, l', sn, Lm, q, _⟩ | ⟨q1, q2, q3⟩ | ⟨_, _, _, _, _, q, _⟩
    · unfold mapB at q; simp at q
    · unfold iterB at q; simp at q
    · refine .same r (v' := .tuple #[.bool false]) ?_ (VR.weak (.tuple _ _ rfl fun j u u' hu hu' => ?_))
      · rw [hoff] at hx'
        simp [execOp, ho, hx', Instr.next, getObj, Sem.run, q2]
      · match j, hu, hu' with
        | 0, hu, hu' => cases hu; cases hu'; exact .bool _
        | j + 1, hu, hu' => simp at hu
    · unfold lookB at q; simp at q
  · rename_i m since last sn
    obtain ⟨ms, n2, h2, e3, e4⟩ := bnd_some e2
    obtain ⟨rfl, rfl, hm⟩ := mpGet_some e3
    split at e4
    case h_2 => cases e4
    rename_i sz c es
    split at e4
    case h_2 => cases e4
    rename_i E seen hE hS
    have hE := decE_some hE
    have hS := decS_some hS
    subst hE hS
    split at e4
    case isFalse => cases e4
    rename_i hc
    simp only [Bool.and_eq_true, List.all_eq_true, decide_eq_true_eq] at hc
    obtain ⟨⟨hold, hsl⟩, rfl⟩ := hc
    have hi' : h2.get i = some (iterB m since last seen) := hi
    have hoff := r.iterOff hi ⟨rfl, rfl⟩ (fun sz c E q => by unfold mapB at q; simp at q) (fun sz E q => by unfold lookB at q; simp at q) hL
    obtain ⟨Lm, hLm⟩ : ∃ L, ρ m = some L := by
      have := r.dom m
      rw [hm] at this
      cases hq : ρ m with
      | none => rw [hq] at this; cases this
      | some L => exact ⟨L, rfl⟩
    obtain ⟨sz', hm'⟩ : ∃ sz', h2.get m = some (mapB sz' since E) := by
      rcases (r.maps m _ Lm hm ⟨rfl, rfl⟩ hLm).obj with ⟨s2, E2, es2, cl, q, _⟩ | ⟨m2, s2, l2, sn2, L2, q, _⟩ | ⟨q, _⟩ | ⟨_, _, _, _, _, q, _⟩
      · refine ⟨s2, ?_⟩
        rw [hm]
        unfold mapB at q ⊢
        simp only [Blk.mk.injEq, List.cons.injEq, Value.int.injEq, true_and, and_true] at q ⊢
        rw [q.1]
        rfl
      · unfold iterB at q; simp at q
      · unfold iterNB at q; simp at q
      · unfold lookB at q; simp at q
    rw [hoff, Nat.add_zero] at hx'
    rcases next_sim (P := P) r hi' hm' hL hoff (fun p hp => hold p hp) hsl o.type with ⟨hall, hr⟩ | ⟨k, u, t, v', w', hmem, hns, hr, r', ex', _, hv⟩
    · have hnil : E.filter (fun p => !seen.contains p.2.2) = [] := by
        rw [List.filter_eq_nil_iff]
        intro p hp
        have := hall _ (List.mem_map.2 ⟨p, hp, rfl⟩)
        simp [this]
      rw [hnil] at e4
      obtain ⟨rfl, rfl, rfl⟩ := ret_some e4
      refine .same r (v' := .tuple #[.bool false]) (by simp [execOp, ho, hx', hr]) (VR.weak (.tuple _ _ rfl fun j u u' hu hu' => ?_))
      match j, hu, hu' with
      | 0, hu, hu' => cases hu; cases hu'; exact .bool _
      | j + 1, hu, hu' => simp at hu
    · have hin : (k, u, t) ∈ E.filter (fun p => !seen.contains p.2.2) := by
        rw [List.mem_filter]
        exact ⟨hmem, by simpa using hns⟩
      split at e4
      · rename_i heq; rw [heq] at hin; simp at hin
      · rename_i k1 u1 t1 heq
        rw [heq] at hin
        have := List.mem_singleton.1 hin
        cases this
        obtain ⟨_, n3, h3, e5, e6⟩ := bnd_some e4
        obtain ⟨rfl, rfl, rfl⟩ := ret_some e6
        obtain ⟨rfl, rfl⟩ := mpSet_some e5
        exact ⟨v', ρ, w', .inl (by simp [execOp, ho, hx', hr]), hv.weak, r', ex'⟩
      · cases e4
  · cases e2

theorem sim_entry (r : R G ρ h w) (l : Live ρ N Γ a) {x : Operand} (ho : o.op = .entry x) (e : opEntry (ev G Γ x) n h = some (v, n', h')) : Does P G o a w ρ h v h' := by
  have hx := ev_sim r l x
  unfold opEntry at e
  split at e
  case h_2 => cases e
  rename_i i hxe
  rw [hxe] at hx
  obtain ⟨_, _, L, hb, hL, hx'⟩ := hx.ptr_inv
  cases hb
  obtain ⟨cs, n1, h1, e1, e2⟩ := bnd_some e
  obtain ⟨rfl, rfl, hi⟩ := mpGet_some e1
  split at e2
  case h_2 => cases e2
  rename_i m since last sn
  obtain ⟨ms, n2, h2, e3, e4⟩ := bnd_some e2
  obtain ⟨rfl, rfl, hm⟩ := mpGet_some e3
  split at e4
  case h_2 => cases e4
  rename_i sz c es
  split at e4
  case h_2 => cases e4
  rename_i E seen hE hS
  have hE := decE_some hE
  have hS := decS_some hS
  subst hE hS
  split at e4
  case h_2 => cases e4
  rename_i t hlast hc
  simp only [Bool.and_eq_true, decide_eq_true_eq] at hc
  obtain ⟨⟨hsc, hlc⟩, hnd⟩ := hc
  split at e4
  case h_2 => cases e4
  rename_i k u t' hf
  obtain ⟨rfl, rfl, rfl⟩ := ret_some e4
  have hmem := List.mem_of_find?_eq_some hf
  have ht : t' = t := by have := List.find?_some hf; simpa using this
  subst ht
  have hsplit : seen = seen.dropLast ++ [t'] := by
    have hne : seen ≠ [] := by rintro rfl; simp at hlast
    rw [List.getLast?_eq_some_getLast hne] at hlast
    have := List.dropLast_concat_getLast hne
    rw [Option.some.inj hlast] at this
    exact this.symm
  have hi' : h'.get i = some (iterB m c c (seen.dropLast ++ [t'])) := by rw [← hsplit]; rw [hsc, hlc] at hi; exact hi
  have hoff := r.iterOff hi ⟨rfl, rfl⟩ (fun sz c E q => by unfold mapB at q; simp at q) (fun sz E q => by unfold lookB at q; simp at q) hL
  obtain ⟨Lm, hLm⟩ : ∃ L, ρ m = some L := by
    have := r.dom m
    rw [hm] at this
    cases hq : ρ m with
    | none => rw [hq] at this; cases this
    | some L => exact ⟨L, rfl⟩
  obtain ⟨sz', hm'⟩ : ∃ sz', h'.get m = some (mapB sz' c E) := by
    rcases (r.maps m _ Lm hm ⟨rfl, rfl⟩ hLm).obj with ⟨s2, E2, es2, cl, q, _⟩ | ⟨m2, s2, l2, sn2, L2, q, _⟩ | ⟨q, _⟩ | ⟨_, _, _, _, _, q, _⟩
    · refine ⟨s2, ?_⟩
      rw [hm]
      unfold mapB at q ⊢
      simp only [Blk.mk.injEq, List.cons.injEq, Value.int.injEq, true_and, and_true] at q ⊢
      rw [q.1]
      rfl
    · unfold iterB at q; simp at q
    · unfold iterNB at q; simp at q
    · unfold lookB at q; simp at q
  rw [hoff, Nat.add_zero] at hx'
  obtain ⟨v', hr, hv⟩ := entry_sim (P := P) r hi' hm' hL hmem hnd
  exact .same r (v' := v') (by simp [execOp, ho, hx', hr]) hv.weak
end
end Go.Fw
end
section
namespace Go.Fw

/-- A function of the program does what an abstract one says, in every world that the heap speaks of. -/
structure Sim (P : Program) (G : Nat) (f : FuncId) (m : List Value → M Value) : Prop where
  enter : ∀ (args : Array Value) (w : World), (callFunc f args).run P w = .ok (.enter f args) w
  calls : ∀ (args : List Value) (n : Nat) (h : H) (v : Value) (n' : Nat) (h' : H), m args n h = some (v, n', h') → ∀ (ρ : Map) (w : World) (args' : List Value), R G ρ h w → WL ρ args args' →
    Calls P f args'.toArray w fun e w' => ∃ v' ρ', e = .returned v' ∧ VW ρ' v v' ∧ R G ρ' h' w' ∧ Ext ρ h w ρ' h' w'

def EnvOK (P : Program) (G : Nat) (E : Env) : Prop := ∀ f m, E f = some m → Sim P G f m

section
variable {P : Program} {G : Nat} {ρ : Map} {h : H} {w : World} {N : Nat} {Γ : List (Nat × Value)} {a : Act} {E : Env} {n n' : Nat} {h' : H} {v : Value} {o : Oper}

theorem Does.wp (hd : Does P G o a w ρ h v h') {next : Act → World → Prop} {Q : Exit → Act → World → Prop}
    (hn : ∀ v' ρ' w', VW ρ' v v' → R G ρ' h' w' → Ext ρ h w ρ' h' w' → next (a.put o.dst v') w') : o.wp P a w next Q := by
  obtain ⟨v', ρ', w', hr, hv, hR, hx⟩ := hd
  unfold Oper.wp
  rcases hr with hr | ⟨hr, rfl⟩
  · rw [hr]; exact hn v' ρ' w' hv hR hx
  · rw [hr]; exact hn _ ρ' w' hv hR hx

theorem opCall_some {f : Value} {args : List Value} (e : opCall E f args n h = some (v, n', h')) : ∃ g fi cs m, f = .func (.func g) fi cs ∧ E g = some m ∧ m (args ++ cs.toList) n h = some (v, n', h') := by
  obtain ⟨q, hq⟩ : ∃ q, q = opCall E f args := ⟨_, rfl⟩
  rw [← hq] at e
  unfold opCall at hq
  split at hq
  · rename_i g fi cs
    cases hE : E g with
    | none => simp only [hE] at hq; subst hq; cases e
    | some m => simp only [hE] at hq; subst hq; exact ⟨g, fi, cs, m, rfl, hE, e⟩
  · subst hq; cases e

theorem sim_call (hE : EnvOK P G E) (r : R G ρ h w) (l : Live ρ N Γ a) {c : Call} {f : Operand} (ho : o.op = .call c) (hc : c.callee = .value f) (e : aop P G E Γ o.op n h = some (v, n', h'))
    {next : Act → World → Prop} {Q : Exit → Act → World → Prop} (hn : ∀ v' ρ' w', VW ρ' v v' → R G ρ' h' w' → Ext ρ h w ρ' h' w' → next (a.put o.dst v') w') : o.wp P a w next Q := by
  rw [ho] at e
  simp only [aop, hc] at e
  obtain ⟨g, fi, cs, m, hf, hg, e⟩ := opCall_some e
  have hfv := ev_sim r l f
  rw [hf] at hfv
  obtain ⟨_, cs', hf', hcs⟩ := hfv.func_inv
  have hsim := hE g m hg
  have hcalls := hsim.calls _ _ _ _ _ _ e ρ w ((c.args.toList.map a.eval) ++ cs'.toList) r ((WL.map r l c.args.toList).append hcs.weak)
  have hargs : ((c.args.toList.map a.eval) ++ cs'.toList).toArray = c.args.map a.eval ++ cs' := by
    apply Array.toList_inj.1; simp
  rw [hargs] at hcalls
  unfold Oper.wp
  have hrun : (execOp a.eval o).run P w = .ok (.enter g (c.args.map a.eval ++ cs')) w := by
    simp [execOp, ho, resolve, hc, hf', Deferred.ofValue, invoke, hsim.enter]
  rw [hrun, Oper.upon_enter]
  refine hcalls.mono fun e' w' he => ?_
  obtain ⟨v', ρ', rfl, hv, hR, hx⟩ := he
  exact hn v' ρ' w' hv hR hx

/-- EACH OPERATION. -/
theorem sim_op (hE : EnvOK P G E) (r : R G ρ h w) (l : Live ρ N Γ a) (e : aop P G E Γ o.op n h = some (v, n', h'))
    {next : Act → World → Prop} {Q : Exit → Act → World → Prop} (hn : ∀ v' ρ' w', VW ρ' v v' → R G ρ' h' w' → Ext ρ h w ρ' h' w' → next (a.put o.dst v') w') : o.wp P a w next Q := by
  cases ho : o.op with
  | move x => exact (sim_move r l ho e).wp hn
  | assign x => exact (sim_assign r l ho e).wp hn
  | pick c x y => exact (sim_pick r l ho e).wp hn
  | alloc t => exact (sim_alloc r ho e).wp hn
  | box t x => exact (sim_box r l ho e).wp hn
  | build t ps => exact (sim_build r l ho e).wp hn
  | buildSlice t k ps => exact (sim_buildSlice r l ho e).wp hn
  | load t x => exact (sim_load r l ho e).wp hn
  | store t x y => exact (sim_store r l ho e).wp hn
  | nilCheck x => exact (sim_nilCheck r l ho e).wp hn
  | binOp op t x y yt => exact (sim_binOp r l ho e).wp hn
  | unOp op t x =>
    cases op with
    | not => exact (sim_not r l ho e).wp hn
    | neg => exact (sim_neg r l ho e).wp hn
    | xor => exact (sim_com r l ho e).wp hn
    | plus => rw [ho] at e; cases e
  | convert s d x => exact (sim_convert r l ho e).wp hn
  | makeFunc fn fi cs => exact (sim_makeFunc r l ho e).wp hn
  | makeSlice t x y => exact (sim_makeSlice r l ho e).wp hn
  | slice t x lo hi mx => exact (sim_slice r l ho e).wp hn
  | fieldAddr t x f => exact (sim_fieldAddr r l ho e).wp hn
  | field t x f => exact (sim_field r l ho e).wp hn
  | indexAddr t x i => exact (sim_indexAddr r l ho e).wp hn
  | index t x i => exact (sim_index r l ho e).wp hn
  | extract x i => exact (sim_extract r l ho e).wp hn
  | call c =>
    cases hc : c.callee with
    | value f => exact sim_call hE r l ho hc e hn
    | invoke rc m => rw [ho] at e; simp only [aop, hc] at e; cases e
    | builtin b =>
      cases b <;> first
        | exact (sim_len r l ho hc e).wp hn
        | exact (sim_cap r l ho hc e).wp hn
        | exact (sim_max r l ho hc e).wp hn
        | exact (sim_min r l ho hc e).wp hn
        | exact (sim_append r l ho hc e).wp hn
        | exact (sim_clear r l ho hc e).wp hn
        | exact (sim_delete r l ho hc e).wp hn
        | (rw [ho] at e; simp only [aop, hc] at e; cases e)
  | makeMap t r =>
    cases r with
    | none => exact (sim_makeMap ‹R G ρ h w› ho e).wp hn
    | some _ => rw [ho] at e; cases e
  | lookup t x y ok => exact (sim_lookup r l ho e).wp hn
  | makeInterface t x => exact (sim_makeInterface r l ho e).wp hn
  | mapEntry t x y => exact (sim_mapEntry r l ho e).wp hn
  | entryStore t x y u => exact (sim_entryStore r l ho e).wp hn
  | range t x =>
    rw [ho] at e
    simp only [aop] at e
    split at e
    · rename_i hu; exact (sim_range r l ho hu e).wp hn
    · cases e
  | next x b =>
    cases b with
    | true => rw [ho] at e; cases e
    | false => exact (sim_next r l ho (by rw [ho] at e; exact e)).wp hn
  | entry x => exact (sim_entry r l ho (by rw [ho] at e; exact e)).wp hn
  | insert t x y u => exact (sim_insert r l (.inl ho) e).wp hn
  | mapUpdate t x y u => exact (sim_insert r l (.inr ho) e).wp hn
  | _ => rw [ho] at e; cases e
end
end Go.Fw
end
section
namespace Go.Fw

/-! ## Kinds of operations -/

inductive Kd where
  | pure | load | alloc | act
  deriving DecidableEq

def kd : Op → Kd
  | .move _ => .pure
  | .assign _ => .pure
  | .pick _ _ _ => .pure
  | .build _ _ => .pure
  | .nilCheck _ => .pure
  | .binOp _ _ _ _ _ => .pure
  | .unOp _ _ _ => .pure
  | .convert _ _ _ => .pure
  | .makeFunc _ _ _ => .pure
  | .slice _ _ (some _) (some _) none => .act
  | .slice _ _ _ _ _ => .pure
  | .fieldAddr _ _ _ => .pure
  | .field _ _ _ => .pure
  | .indexAddr _ _ _ => .pure
  | .index _ _ _ => .pure
  | .extract _ _ => .pure
  | .makeInterface _ _ => .pure
  | .load _ _ => .load
  | .alloc _ => .alloc
  | .box _ _ => .alloc
  | .buildSlice _ _ _ => .alloc
  | .makeSlice _ _ _ => .alloc
  | .makeMap _ _ => .alloc
  | .call c => match c.callee with
    | .builtin .len => .pure
    | .builtin .cap => .pure
    | .builtin .max => .pure
    | .builtin .min => .pure
    | _ => .act
  | _ => .act

theorem kd_call (c : Call) : kd (.call c) = .pure ∨ kd (.call c) = .act := by
  show (match c.callee with
    | .builtin .len => Kd.pure
    | .builtin .cap => .pure
    | .builtin .max => .pure
    | .builtin .min => .pure
    | _ => .act) = _ ∨ (match c.callee with
    | .builtin .len => Kd.pure
    | .builtin .cap => .pure
    | .builtin .max => .pure
    | .builtin .min => .pure
    | _ => .act) = _
  cases c.callee with
  | builtin b => cases b <;> first | exact .inl rfl | exact .inr rfl
  | _ => exact .inr rfl

/-- A value that is at hand. -/
def IsRet (m : M Value) : Prop := (∃ v, m = ret v) ∨ m = fail

theorem IsRet.ret (v : Value) : IsRet (Fw.ret v) := .inl ⟨v, rfl⟩
theorem IsRet.fail : IsRet (Fw.fail : M Value) := .inr rfl

section
variable {P : Program} {G : Nat} {E : Env} {Γ Γ' : List (Nat × Value)}

theorem opPick_ret (c a b : Value) : IsRet (opPick c a b) := by unfold opPick; split <;> first | exact .ret _ | exact .fail
theorem opNil_ret (x : Value) : IsRet (opNil x) := by unfold opNil; split <;> first | exact .ret _ | exact .fail
theorem opBuild_ret (z : List Value) (ps : List (Nat × Nat × Bool × Value)) : IsRet (opBuild z ps) := by unfold opBuild; split <;> first | exact .ret _ | exact .fail
theorem opFieldAddr_ret (o : Nat) (x : Value) : IsRet (opFieldAddr o x) := by unfold opFieldAddr; split <;> first | exact .ret _ | exact .fail
theorem opField_ret (o : Nat) (x : Value) : IsRet (opField o x) := by unfold opField; split <;> (try split) <;> first | exact .ret _ | exact .fail
theorem opFieldN_ret (o s : Nat) (x : Value) : IsRet (opFieldN o s x) := by unfold opFieldN; split <;> (try split) <;> first | exact .ret _ | exact .fail
theorem opIndexAddr_ret (s : Nat) (x i : Value) : IsRet (opIndexAddr s x i) := by unfold opIndexAddr; split <;> (try split) <;> first | exact .ret _ | exact .fail
theorem opIndexAddrA_ret (l s : Nat) (x i : Value) : IsRet (opIndexAddrA l s x i) := by unfold opIndexAddrA; split <;> (try split) <;> first | exact .ret _ | exact .fail
theorem opIndexA_ret (l : Nat) (x i : Value) : IsRet (opIndexA l x i) := by unfold opIndexA; split <;> (try split) <;> (try split) <;> first | exact .ret _ | exact .fail
theorem opIndexS_ret (x i : Value) : IsRet (opIndexS x i) := by unfold opIndexS; split <;> (try split) <;> (try split) <;> first | exact .ret _ | exact .fail
theorem opExtract_ret (x : Value) (i : Nat) : IsRet (opExtract x i) := by unfold opExtract; split <;> (try split) <;> (try split) <;> first | exact .ret _ | exact .fail
theorem opBin_ret (op : BinOp) (x y : Value) : IsRet (opBin op x y) := by unfold opBin; split <;> first | exact .ret _ | exact .fail
theorem opEq_ret (f : Value → Value → Option Bool) (b : Bool) (x y : Value) : IsRet (opEq f b x y) := by unfold opEq; split <;> first | exact .ret _ | exact .fail
theorem opNot_ret (x : Value) : IsRet (opNot x) := by unfold opNot; split <;> first | exact .ret _ | exact .fail
theorem opNeg_ret (x : Value) : IsRet (opNeg x) := by unfold opNeg; split <;> first | exact .ret _ | exact .fail
theorem opCom_ret (x : Value) : IsRet (opCom x) := by unfold opCom; split <;> first | exact .ret _ | exact .fail
theorem opConv_ret (k : IntKind) (x : Value) : IsRet (opConv k x) := by unfold opConv; split <;> first | exact .ret _ | exact .fail
theorem opLen_ret (x : Value) : IsRet (opLen x) := by unfold opLen; split <;> first | exact .ret _ | exact .fail
theorem opCap_ret (x : Value) : IsRet (opCap x) := by unfold opCap; split <;> (try split) <;> first | exact .ret _ | exact .fail
theorem opLenS_ret (x : Value) : IsRet (opLenS x) := by unfold opLenS; split <;> first | exact .ret _ | exact .fail
theorem opMax_ret (xs : List Value) : IsRet (opMax xs) := by unfold opMax; split <;> (try split) <;> first | exact .ret _ | exact .fail
theorem opMin_ret (xs : List Value) : IsRet (opMin xs) := by unfold opMin; split <;> (try split) <;> first | exact .ret _ | exact .fail
theorem opFunc_ret (fn : Fn) (cs : List Value) : IsRet (opFunc fn cs) := by unfold opFunc; split <;> first | exact .ret _ | exact .fail
theorem opSlice_ret (s : Nat) (x : Value) (lo hi mx : Option Value) : IsRet (opSlice s x lo hi mx) := by
  unfold opSlice
  split
  · split
    · split
      · split
        · split
          · split
            · split <;> first | exact .ret _ | exact .fail
            · split
              · split <;> first | exact .ret _ | exact .fail
              · exact .fail
          · exact .fail
        · split
          · split
            · split <;> first | exact .ret _ | exact .fail
            · exact .ret _
            · exact .fail
          · exact .fail
      · exact .fail
    · exact .fail
  · exact .fail

theorem aop_pure {op : Op} (hk : kd op = .pure) : IsRet (aop P G E Γ op) := by
  cases op <;> simp only [kd] at hk <;> try (cases hk; done)
  case move x => exact .ret _
  case assign x => exact .ret _
  case pick c a b => exact opPick_ret _ _ _
  case build t ps =>
    simp only [aop]
    split
    · split
      · split
        · exact opBuild_ret _ _
        · exact .fail
      · exact .fail
    · split
      · split
        · exact opBuild_ret _ _
        · exact .fail
      · exact .fail
    · exact .fail
  case nilCheck x => exact opNil_ret _
  case binOp op t x y yt =>
    cases op <;> simp only [aop] <;> try exact opBin_ret _ _ _
    all_goals
      split <;> first | exact opEq_ret _ _ _ _ | exact opBin_ret _ _ _ | (split <;> first | exact opEq_ret _ _ _ _ | exact .fail)
  case unOp op t x => cases op <;> first | exact opNot_ret _ | exact opNeg_ret _ | exact opCom_ret _ | exact .fail
  case convert s d x => simp only [aop]; split <;> first | exact opConv_ret _ _ | exact .fail
  case makeInterface t x => simp only [aop]; split <;> first | exact .fail | (unfold opIface; split <;> first | exact .ret _ | exact .fail)
  case makeFunc fn fi cs => simp only [aop]; split <;> first | exact opFunc_ret _ _ | exact .fail
  case slice t x lo hi mx =>
    simp only [aop]; split
    · split
      · split
        · cases hk
        · exact opSlice_ret _ _ _ _ _
      · exact .fail
    · exact .fail
  case fieldAddr t x f =>
    simp only [aop]; split
    · split
      · split
        · split <;> first | exact opFieldAddr_ret _ _ | exact .fail
        · exact .fail
      · exact .fail
    · exact .fail
  case field t x f =>
    simp only [aop]; split
    · split
      · split
        · split <;> first | exact opField_ret _ _ | exact opFieldN_ret _ _ _
        · exact .fail
      · exact .fail
    · exact .fail
  case indexAddr t x i =>
    simp only [aop]; split
    · split <;> first | exact opIndexAddr_ret _ _ _ | exact .fail
    · split <;> first | exact opIndexAddrA_ret _ _ _ _ | exact .fail
    · exact .fail
  case index t x i =>
    simp only [aop]; split
    · split
      · split
        · exact .fail
        · split <;> first | exact opIndexA_ret _ _ _ | exact .fail
      · exact .fail
    · exact opIndexS_ret _ _
    · exact .fail
  case extract x i => exact opExtract_ret _ _
  case call c =>
    split at hk <;> rename_i hc <;> try (cases hk; done)
    all_goals simp only [aop, hc]
    · split
      · split <;> first | exact opLen_ret _ | exact opLenS_ret _ | exact .fail
      · exact .fail
    · split
      · split <;> first | exact opCap_ret _ | exact .fail
      · exact .fail
    · exact opMax_ret _
    · exact opMin_ret _

/-- A look at some cells. -/
inductive IsLook : M Value → Prop where
  | rd (b o : Nat) : IsLook (rd b o)
  | rdN (b o k : Nat) : IsLook (bnd (rdN b o k) fun cs => ret (.agg cs.toArray))
  | fail : IsLook fail

theorem aop_load {op : Op} (hk : kd op = .load) : IsLook (aop P G E Γ op) := by
  cases op <;> simp only [kd] at hk <;> try (cases hk; done)
  case load t x =>
    simp only [aop]
    split
    · split
      · unfold opLoadN; split <;> first | exact .rdN _ _ _ | exact .fail
      · unfold opLoad; split <;> first | exact .rd _ _ | exact .fail
    · exact .fail
  case slice t x lo hi mx => cases lo <;> cases hi <;> cases mx <;> simp at hk
  case call c => rcases kd_call c with e | e <;> simp only [kd] at e <;> rw [e] at hk <;> cases hk

/-- A new block. -/
def IsNew (m : M Value) : Prop := (∃ (cs : List Value) (k : Kind) (f : Nat → Value), m = bnd (new cs k) fun b => ret (f b)) ∨ m = fail

theorem aop_alloc {op : Op} (hk : kd op = .alloc) : IsNew (aop P G E Γ op) := by
  have hp : ∀ cs, IsNew (opPtr cs) := fun cs => .inl ⟨cs, _, _, rfl⟩
  cases op <;> simp only [kd] at hk <;> try (cases hk; done)
  case alloc t => simp only [aop]; split <;> first | exact hp _ | exact .inr rfl
  case box t x =>
    simp only [aop]
    split
    · unfold opBoxN; split <;> first | exact hp _ | exact .inr rfl
    · exact hp _
  case buildSlice t k ps =>
    simp only [aop]
    split
    · split
      · split
        · split
          · unfold opBuildSlice; split <;> first | exact .inl ⟨_, _, _, rfl⟩ | exact .inr rfl
          · exact .inr rfl
        · exact .inr rfl
      · exact .inr rfl
    · exact .inr rfl
  case makeMap t r =>
    cases r with
    | some _ => exact .inr rfl
    | none =>
      simp only [aop]
      split
      · exact .inl ⟨_, _, fun b => .map (some b), rfl⟩
      · exact .inr rfl
  case makeSlice t l c =>
    simp only [aop]
    split
    · split
      · unfold opMake
        split
        · split <;> first | exact .inl ⟨_, _, _, rfl⟩ | exact .inr rfl
        · exact .inr rfl
      · exact .inr rfl
    · exact .inr rfl
  case slice t x lo hi mx => cases lo <;> cases hi <;> cases mx <;> simp at hk
  case call c => rcases kd_call c with e | e <;> simp only [kd] at e <;> rw [e] at hk <;> cases hk

/-- An operation looks at its operands alone. -/
theorem aop_congr {op : Op} (hx : ∀ x ∈ op.operands, ev G Γ x = ev G Γ' x) : aop P G E Γ op = aop P G E Γ' op := by
  have pairs : ∀ ps : Array (Nat × Operand), (∀ x ∈ (ps.toList.map (·.2)).toArray, ev G Γ x = ev G Γ' x) → (ps.toList.map fun p => (p.1, ev G Γ p.2)) = (ps.toList.map fun p => (p.1, ev G Γ' p.2)) := fun ps hp =>
    List.map_congr_left fun p hm => by
      rw [hp p.2 (by simp; exact ⟨p.1, by simpa using hm⟩)]
  have maps : ∀ xs : Array Operand, (∀ x ∈ xs, ev G Γ x = ev G Γ' x) → xs.toList.map (ev G Γ) = xs.toList.map (ev G Γ') := fun xs hp => List.map_congr_left fun x hm => hp x (by simpa using hm)
  cases op <;> simp only [Op.operands] at hx <;> simp only [aop]
  case move x => rw [hx x (by simp)]
  case assign x => rw [hx x (by simp)]
  case pick c a b => rw [hx c (by simp), hx a (by simp), hx b (by simp)]
  case box t x => rw [hx x (by simp)]
  case build t ps => rw [pairs ps hx]
  case buildSlice t k ps => rw [pairs ps hx]
  case load t x => rw [hx x (by simp)]
  case store t x y => rw [hx x (by simp), hx y (by simp)]
  case nilCheck x => rw [hx x (by simp)]
  case binOp op t x y yt => cases op <;> simp only [hx x (by simp), hx y (by simp)]
  case unOp op t x => cases op <;> simp only [hx x (by simp)]
  case convert s d x => rw [hx x (by simp)]
  case makeFunc fn fi cs => rw [maps cs fun x hm => hx x (by simp [hm])]
  case makeSlice t x y => rw [hx x (by simp), hx y (by simp)]
  case slice t x lo hi mx =>
    have h0 := hx x (by simp)
    have h1 : lo.map (ev G Γ) = lo.map (ev G Γ') := by cases lo <;> simp_all
    have h2 : hi.map (ev G Γ) = hi.map (ev G Γ') := by cases hi <;> simp_all
    have h3 : mx.map (ev G Γ) = mx.map (ev G Γ') := by cases mx <;> simp_all
    rw [h0, h1, h2, h3]
    cases lo <;> cases hi <;> cases mx <;> first | rfl | (simp only [Option.map_some, Option.some.injEq] at h1 h2; simp only [h1, h2])
  case fieldAddr t x f => rw [hx x (by simp)]
  case field t x f => rw [hx x (by simp)]
  case indexAddr t x i => rw [hx x (by simp), hx i (by simp)]
  case index t x i => rw [hx x (by simp), hx i (by simp)]
  case extract x i => rw [hx x (by simp)]
  case insert t m k x => rw [hx m (by simp), hx k (by simp), hx x (by simp)]
  case mapUpdate t m k x => rw [hx m (by simp), hx k (by simp), hx x (by simp)]
  case makeInterface t x => rw [hx x (by simp)]
  case mapEntry t m k => rw [hx m (by simp), hx k (by simp)]
  case entryStore t m s x => rw [hx m (by simp), hx s (by simp), hx x (by simp)]
  case lookup t m k b => rw [hx m (by simp), hx k (by simp)]
  case range t x => rw [hx x (by simp)]
  case next x b => cases b <;> simp only [hx x (by simp)]
  case entry x => rw [hx x (by simp)]
  case makeMap t r => cases r <;> rfl
  case call c =>
    have ha := maps c.args fun x hm => hx x (by simp [Call.operands, hm])
    cases hc : c.callee with
    | value f => simp only; rw [ha, hx f (by simp [Call.operands, hc])]
    | invoke r m => rfl
    | builtin b =>
      cases b <;> simp only [ha]
      · cases ht : c.argTypes.toList with
        | nil => rfl
        | cons t ts =>
        cases ts with
        | nil => rfl
        | cons u ts =>
        cases ts with
        | cons _ _ => rfl
        | nil =>
        cases hl : c.args.toList with
        | nil => rfl
        | cons s xs =>
        cases xs with
        | nil => rfl
        | cons x xs =>
        cases xs with
        | cons _ _ => rfl
        | nil =>
          rw [hl] at ha
          simp only [List.map_cons, List.map_nil, List.cons.injEq, and_true] at ha
          simp only [ha.1, ha.2]
      · cases ht : c.argTypes.toList with
        | nil => rfl
        | cons t ts =>
        cases ts with
        | cons _ _ => rfl
        | nil =>
        cases hl : c.args.toList with
        | nil => rfl
        | cons s xs =>
        cases xs with
        | cons _ _ => rfl
        | nil =>
          rw [hl] at ha
          simp only [List.map_cons, List.map_nil, List.cons.injEq, and_true] at ha
          simp only [ha]
      · cases ht : c.argTypes.toList with
        | nil => rfl
        | cons t ts =>
        cases ts with
        | cons _ _ => rfl
        | nil =>
        cases hl : c.args.toList with
        | nil => rfl
        | cons s xs =>
        cases xs with
        | cons _ _ => rfl
        | nil =>
          rw [hl] at ha
          simp only [List.map_cons, List.map_nil, List.cons.injEq, and_true] at ha
          simp only [ha]
      · cases ht : c.argTypes.toList with
        | nil => rfl
        | cons t ts =>
        cases ts with
        | nil => rfl
        | cons u ts =>
        cases ts with
        | cons _ _ => rfl
        | nil =>
        cases hl : c.args.toList with
        | nil => rfl
        | cons s xs =>
        cases xs with
        | nil => rfl
        | cons x xs =>
        cases xs with
        | cons _ _ => rfl
        | nil =>
          rw [hl] at ha
          simp only [List.map_cons, List.map_nil, List.cons.injEq, and_true] at ha
          simp only [ha.1, ha.2]
      · cases ht : c.argTypes.toList with
        | nil => rfl
        | cons t ts =>
        cases ts with
        | cons _ _ => rfl
        | nil =>
        cases hl : c.args.toList with
        | nil => rfl
        | cons s xs =>
        cases xs with
        | cons _ _ => rfl
        | nil =>
          rw [hl] at ha
          simp only [List.map_cons, List.map_nil, List.cons.injEq, and_true] at ha
          simp only [ha]
end
end Go.Fw
end
section
namespace Go.Fw

section
variable (P : Program) (G : Nat) (E : Env) (N : Nat) (ops : Array Oper)

def isSkip : Value → Bool
  | .tuple vs => match vs.toList with
    | [.nilFunc] => true
    | _ => false
  | _ => false

/-- Is an operation wanted, by its guard? -/
def gwant (Γ : List (Nat × Value)) (o : Oper) : Option Bool :=
  match o.guard with
  | none => some true
  | some (j, want) => match (ops[j]?).bind (·.dst) with
    | some t => match look Γ t with
      | .bool b => some (b == want)
      | v => if isSkip v then some false else none
    | none => none

def putG (dst : Option Tmp) (v : Value) (Γ : List (Nat × Value)) : Option (List (Nat × Value)) :=
  match dst with
  | none => some Γ
  | some d => if d < N then some ((d, v) :: Γ) else none

def liftO {α : Type} : Option α → M α
  | some a => ret a
  | none => fail

/-- What the operation i gives. -/
def sval (Γ : List (Nat × Value)) (i : Nat) : M Value :=
  match ops[i]? with
  | none => fail
  | some o => match gwant ops Γ o with
    | none => fail
    | some false => ret skipV
    | some true => aop P G E Γ o.op

def dstOf (i : Nat) : Option Tmp := (ops[i]?).bind (·.dst)

def step (i : Nat) (Γ : List (Nat × Value)) : M (List (Nat × Value)) :=
  bnd (sval P G E ops Γ i) fun v => liftO (putG N (dstOf ops i) v Γ)

def runL : List Nat → List (Nat × Value) → M (List (Nat × Value))
  | [], Γ => ret Γ
  | i :: l, Γ => bnd (step P G E N ops i Γ) (runL l)
end

section
variable {P : Program} {G : Nat} {E : Env} {N : Nat} {ops : Array Oper} {ρ : Map} {h : H} {w : World} {Γ Γ' : List (Nat × Value)} {a : Act} {n n' : Nat} {h' : H}

theorem liftO_some {α : Type} {x : Option α} {v : α} {n n' : Nat} {h h' : H} (e : liftO x n h = some (v, n', h')) : x = some v ∧ n' = n ∧ h' = h := by
  cases x with
  | none => cases e
  | some a => obtain ⟨rfl, rfl, rfl⟩ := ret_some e; exact ⟨rfl, rfl, rfl⟩

theorem putG_live (l : Live ρ N Γ a) {dst : Option Tmp} {v v' : Value} (hp : putG N dst v Γ = some Γ') (hv : VW ρ v v') : Live ρ N Γ' (a.put dst v') := by
  unfold putG at hp
  split at hp
  · cases hp; exact l
  · split at hp
    · rename_i hd; cases hp; exact l.put hd hv
    · cases hp

theorem isSkip_eq {v : Value} (h : isSkip v = true) : v = skipV := by
  unfold isSkip at h
  split at h
  · rename_i vs
    split at h
    · rename_i hv
      unfold skipV
      congr 1
      exact Array.toList_inj.1 hv
    · cases h
  · cases h

theorem gwant_wanted (l : Live ρ N Γ a) {o : Oper} {b : Bool} (hg : gwant ops Γ o = some b) : Region.wanted o (yielded ops a.tmps) = b := by
  unfold gwant at hg
  unfold Region.wanted
  split at hg
  · rename_i hgd; rw [hgd]; simp at hg; simp [hg]
  · rename_i j want hgd
    rw [hgd]
    split at hg
    · rename_i t ht
      split at hg
      · rename_i c hc
        simp only [Option.some.injEq] at hg
        have := l.at_ t
        rw [hc] at this
        have hb := this.bool_inv
        have ht' : t < a.tmps.size := by
          rcases Nat.lt_or_ge t a.tmps.size with h | h
          · exact h
          · simp [Array.getD, Nat.not_lt.2 h, undef] at hb
        have hy : yielded ops a.tmps j = some c := by
          unfold yielded
          rw [ht]
          have : a.tmps[t]? = some (.bool c) := by
            simp only [Array.getD, ht', dif_pos] at hb
            simp [ht', ← hb]
          simp [this]
        simp only [hy]
        rw [← hg]
        simp
      · split at hg
        case isFalse => cases hg
        rename_i hs
        simp only [Option.some.injEq] at hg
        have hat := l.at_ t
        rw [isSkip_eq hs] at hat
        have hnb : ∀ b, a.tmps.getD t undef ≠ .bool b := by
          intro b hb
          rw [hb] at hat
          rcases hat with (h | ⟨_, h⟩) | h
          · cases h
          · cases h
          · cases h
        have hy : yielded ops a.tmps j = none := by
          unfold yielded
          rw [ht]
          cases hq : a.tmps[t]? with
          | none => simp [hq]
          | some u =>
            have hu : a.tmps.getD t undef = u := by rw [Array.getD_eq_getD_getElem?, hq]; rfl
            rw [hu] at hnb
            cases u <;> simp [hq]
            exact absurd rfl (hnb _)
        simp only [hy]
        rw [← hg]
        rfl
    · cases hg

/-- A step of the abstract region is a step of the region. -/
theorem step_wpOp (hE : EnvOK P G E) (r : R G ρ h w) (l : Live ρ N Γ a) {i : Nat} (e : step P G E N ops i Γ n h = some (Γ', n', h')) {K : Act → World → Prop} {Q : Exit → Act → World → Prop}
    (hK : ∀ a' ρ' w', Live ρ' N Γ' a' → a'.defers = a.defers → R G ρ' h' w' → Ext ρ h w ρ' h' w' → K a' w') : wpOp P ops Q i K a w := by
  obtain ⟨v, n1, h1, e1, e2⟩ := bnd_some e
  obtain ⟨hput, rfl, rfl⟩ := liftO_some e2
  unfold wpOp
  unfold sval at e1
  cases ho : ops[i]? with
  | none => simp only [ho] at e1; cases e1
  | some o =>
    simp only [ho] at e1
    have hd : dstOf ops i = o.dst := by simp [dstOf, ho]
    rw [hd] at hput
    have hdf : ∀ (a : Act) (d : Option Tmp) (v : Value), (a.put d v).defers = a.defers := by intro a d v; cases d <;> rfl
    cases hg : gwant ops Γ o with
    | none => simp only [hg] at e1; cases e1
    | some b =>
      have hw := gwant_wanted l hg
      cases b with
      | false =>
        simp only [hg] at e1
        obtain ⟨rfl, rfl, rfl⟩ := ret_some e1
        simp only [hw, Bool.false_eq_true, if_false]
        exact hK _ ρ w (putG_live l hput (.inl (.inr ⟨rfl, rfl⟩))) (hdf _ _ _) r (Ext.refl _ _ _)
      | true =>
        simp only [hg] at e1
        simp only [hw, if_true]
        exact .inl (sim_op hE r l e1 fun v' ρ' w' hv hr hx => hK _ ρ' w' (putG_live (l.mono hx.le) hput hv) (hdf _ _ _) hr hx)

theorem runL_wpOps (hE : EnvOK P G E) {Q : Exit → Act → World → Prop} : ∀ (l : List Nat) (ρ : Map) (h : H) (w : World) (Γ Γ' : List (Nat × Value)) (a : Act) (n n' : Nat) (h' : H), R G ρ h w → Live ρ N Γ a → runL P G E N ops l Γ n h = some (Γ', n', h') →
    (∀ a' ρ' w', Live ρ' N Γ' a' → a'.defers = a.defers → R G ρ' h' w' → Ext ρ h w ρ' h' w' → Q .normal a' w') → wpOps P ops Q l a w
  | [], ρ, h, w, Γ, Γ', a, n, n', h', r, lv, e, hQ => by
    obtain ⟨rfl, rfl, rfl⟩ := ret_some e
    exact hQ a ρ w lv rfl r (Ext.refl _ _ _)
  | i :: l, ρ, h, w, Γ, Γ', a, n, n', h', r, lv, e, hQ => by
    obtain ⟨Γ1, n1, h1, e1, e2⟩ := bnd_some e
    rw [wpOps_cons]
    refine step_wpOp hE r lv e1 fun a1 ρ1 w1 lv1 hd1 r1 x1 => ?_
    exact runL_wpOps hE l ρ1 h1 w1 Γ1 Γ' a1 n1 n' h' r1 lv1 e2 fun a' ρ' w' lv' hd r' x' => hQ a' ρ' w' lv' (hd.trans hd1) r' (x1.trans x')

/-! ## Two steps in either order -/

/-- The same temporaries. -/
def Same (Γ Γ' : List (Nat × Value)) : Prop := ∀ t, look Γ t = look Γ' t
theorem Same.refl (Γ : List (Nat × Value)) : Same Γ Γ := fun _ => rfl
theorem Same.symm (h : Same Γ Γ') : Same Γ' Γ := fun t => (h t).symm
theorem Same.trans {Γ'' : List (Nat × Value)} (h : Same Γ Γ') (k : Same Γ' Γ'') : Same Γ Γ'' := fun t => (h t).trans (k t)
theorem Same.cons (h : Same Γ Γ') (d : Nat) (v : Value) : Same ((d, v) :: Γ) ((d, v) :: Γ') := fun t => by simp only [look]; split <;> first | rfl | exact h t
theorem Same.ev (h : Same Γ Γ') (x : Operand) : ev G Γ x = ev G Γ' x := by cases x <;> first | rfl | exact h _
theorem Same.gwant (h : Same Γ Γ') (o : Oper) : gwant ops Γ o = gwant ops Γ' o := by
  unfold Fw.gwant
  split
  · rfl
  · split
    · rw [h]
    · rfl
theorem Same.sval (h : Same Γ Γ') (i : Nat) : sval P G E ops Γ i = sval P G E ops Γ' i := by
  unfold Fw.sval
  split
  · rfl
  · rw [h.gwant]
    split
    · rfl
    · rfl
    · exact aop_congr fun x _ => h.ev x
theorem Same.live (h : Same Γ Γ') (l : Live ρ N Γ a) : Live ρ N Γ' a := ⟨l.size, fun t => by rw [← h t]; exact l.at_ t⟩

theorem putG_same (hs : Same Γ Γ') {d : Option Tmp} {v : Value} {Γ1 : List (Nat × Value)} (hp : putG N d v Γ = some Γ1) : ∃ Γ1', putG N d v Γ' = some Γ1' ∧ Same Γ1 Γ1' := by
  unfold putG at hp ⊢
  split at hp
  · cases hp; exact ⟨_, rfl, hs⟩
  · split at hp
    · rename_i hd; cases hp; exact ⟨_, by simp [hd], hs.cons _ _⟩
    · cases hp

/-- The same heap. -/
def HEq' (h h' : H) : Prop := ∀ b, h.get b = h'.get b
theorem HEq'.sub {h h' : H} (e : HEq' h h') : Sub h h' := fun b B hb => by rw [← e b]; exact hb
theorem HEq'.r (e : HEq' h h') (r : R G ρ h w) : R G ρ h' w :=
  ⟨fun b => by rw [← e b]; exact r.dom b, r.glob, fun b B L hb hl hL => r.blk b B L (by rw [e b]; exact hb) hl hL, fun b c B C L M hne hb hc hl hm hL hM => r.apart b c B C L M hne (by rw [e b]; exact hb) (by rw [e c]; exact hc) hl hm hL hM, fun b B L hb hm hL => r.maps b B L (by rw [e b]; exact hb) hm hL, fun b c B C L M hne hb hc h1 h2 hL hM => r.lone b c B C L M hne (by rw [e b]; exact hb) (by rw [e c]; exact hc) h1 h2 hL hM⟩
theorem HEq'.own (e : HEq' h h') {k : Nat} (ho : Own ρ h k) : Own ρ h' k := by
  obtain ⟨b, B, L, hb, hm, hL, hk⟩ := ho
  exact ⟨b, B, L, by rw [← e b]; exact hb, hm, hL, hk⟩
theorem HEq'.symm {h h' : H} (e : HEq' h h') : HEq' h' h := fun b => (e b).symm
theorem HEq'.ext {ρ' : Map} {w' : World} {h0 : H} (e : HEq' h h') (x : Ext ρ h0 w ρ' h w') : Ext ρ h0 w ρ' h' w' := ⟨x.le, x.os, x.tape, x.output, x.size, x.frame, fun k hk ho => x.owns k hk (e.symm.own ho)⟩
/-- In the same heap the same comes of it. -/
theorem M.same {α : Type} (m : M α) {n n' : Nat} {h h' k : H} {v : α} (e : m n h = some (v, n', h')) (hk : HEq' h k) : ∃ k', m n k = some (v, n', k') ∧ HEq' h' k' := by
  have l := m.loc _ _ _ _ _ e
  obtain ⟨k', h1, h2⟩ := l.more k hk.sub fun b hb1 hb2 => by rw [← hk b]; exact l.fresh b hb1 hb2
  refine ⟨k', h1, fun b => ?_⟩
  rw [h2]
  split
  · rfl
  · rename_i hs
    have : ¬ (h.get b).isSome = true := fun hh => hs ((l.dom b).2 (.inl hh))
    have e1 : h'.get b = none := by simpa using hs
    have e2 : h.get b = none := by simpa using this
    rw [e1, ← hk b, e2]

/-! ### What a load saw still stands -/

def veq : Value → Value → Bool
  | .bool a, .bool b => a == b
  | .int k a, .int k' b => decide (k = k') && decide (a = b)
  | .pointer a, .pointer b => decide (a = b)
  | .slice a l c, .slice b m d => decide (a = b) && decide (l = m) && decide (c = d)
  | .nilFunc, .nilFunc => true
  | .nilIface, .nilIface => true
  | .map a, .map b => decide (a = b)
  | _, _ => false
theorem veq_eq {a b : Value} (h : veq a b = true) : a = b := by
  unfold veq at h
  split at h <;> simp_all
def veqL : List Value → List Value → Bool
  | [], [] => true
  | a :: r, b :: s => veq a b && veqL r s
  | _, _ => false
theorem veqL_eq : ∀ {a b : List Value}, veqL a b = true → a = b
  | [], [], _ => rfl
  | a :: r, b :: s, h => by
    simp only [veqL, Bool.and_eq_true] at h
    rw [veq_eq h.1, veqL_eq h.2]
  | [], _ :: _, h => by cases h
  | _ :: _, [], h => by cases h

def wcells (ag : Bool) (v : Value) : List Value := if ag then v.cells.toList else [v]

/-- Do the cells at an address still hold a value? -/
def opChk (ag : Bool) (x v : Value) : M Unit :=
  match x with
  | .pointer (some ⟨b, o, none⟩) => bnd (rdN b o (wcells ag v).length) fun cs => if veqL cs (wcells ag v) then ret () else fail
  | _ => fail

def Holds (ag : Bool) (x v : Value) (h : H) : Prop :=
  ∃ b o, x = .pointer (some ⟨b, o, none⟩) ∧ ∃ B, h.get b = some B ∧ B.live ∧ o + (wcells ag v).length ≤ B.cells.length ∧ ∀ (j : Nat), j < (wcells ag v).length → B.cells[o + j]? = (wcells ag v)[j]?

theorem opChk_some {ag : Bool} {x v : Value} {n : Nat} {h : H} {z : Unit × Nat × H} (e : opChk ag x v n h = some z) : z = ((), n, h) ∧ Holds ag x v h := by
  obtain ⟨q, hq⟩ : ∃ q, q = opChk ag x v := ⟨_, rfl⟩
  rw [← hq] at e
  unfold opChk at hq
  split at hq
  · rename_i b o
    subst hq
    obtain ⟨cs, n1, h1, e1, e2⟩ := bnd_some e
    have hle : ∀ B, h.get b = some B → o + (wcells ag v).length ≤ B.cells.length := by
      intro B hB
      replace e1 : rdNF b o (wcells ag v).length n h = some (cs, n1, h1) := e1
      unfold rdNF at e1
      rw [hB] at e1
      obtain ⟨bc, bk⟩ := B
      cases bk <;> simp at e1 <;> exact e1.1
    obtain ⟨rfl, rfl, hl, B, hb, hlv, hc⟩ := rdN_some e1
    by_cases hv : veqL cs (wcells ag v) = true
    · simp only [hv, if_true] at e2
      obtain ⟨u, m, k⟩ := z
      obtain ⟨rfl, rfl, rfl⟩ := ret_some e2
      refine ⟨rfl, b, o, rfl, B, hb, hlv, hle B hb, fun j hj => ?_⟩
      rw [← veqL_eq hv] at hj ⊢
      rw [(hc j (by omega)).1]
    · simp only [hv, if_false] at e2; cases e2
  · subst hq; cases e

theorem Holds.sub {ag : Bool} {x v : Value} {h k : H} (hh : Holds ag x v h) (hs : Sub h k) : Holds ag x v k := by
  obtain ⟨b, o, hx, B, hb, hl, hle, hc⟩ := hh
  exact ⟨b, o, hx, B, hs b B hb, hl, hle, hc⟩

/-- A load that saw v sees v wherever v still stands. -/
theorem look_holds {op : Op} {t : TypeId} {x : Operand} (ho : op = .load t x) {n n' : Nat} {h h' k : H} {v : Value} (e : aop P G E Γ op n h = some (v, n', h')) (hh : Holds (aggT P t) (ev G Γ x) v k) :
    n' = n ∧ h' = h ∧ aop P G E Γ op n k = some (v, n, k) := by
  subst ho
  simp only [aop] at e ⊢
  cases hu : P.underlying t with
  | none => simp only [hu] at e; cases e
  | some d =>
  cases hi : P.info? t with
  | none => simp only [hu, hi] at e; cases e
  | some i =>
  simp only [hu, hi] at e ⊢
  obtain ⟨b, o, hx, B, hb, hl, hle, hc⟩ := hh
  by_cases hag : aggT P t = true
  · simp only [hag, if_true] at e ⊢
    obtain ⟨b', o', hx', e⟩ := opLoadN_some e
    rw [hx] at hx' ⊢
    cases hx'
    obtain ⟨cs, n1, h1, e1, e2⟩ := bnd_some e
    obtain ⟨rfl, rfl, rfl⟩ := ret_some e2
    obtain ⟨rfl, rfl, hk, _⟩ := rdN_some e1
    refine ⟨rfl, rfl, ?_⟩
    have hw : wcells (aggT P t) (.agg cs.toArray) = cs := by simp [wcells, hag, cells_agg]
    rw [hw] at hc
    have : rdN b o i.size n' k = some (cs, n', k) := by
      show rdNF b o i.size n' k = _
      unfold rdNF
      rw [hb]
      obtain ⟨bc, bk⟩ := B
      have hlec : o + i.size ≤ bc.length := by rw [hw] at hle; simpa [hk] using hle
      have hcs : (bc.drop o).take i.size = cs := by
        apply List.ext_getElem?
        intro j
        by_cases hj : j < i.size
        · rw [← hc j (by omega)]; simp [List.getElem?_take, hj]
        · rw [List.getElem?_eq_none (by simp; omega), List.getElem?_eq_none (by omega)]
      cases bk <;> first | (exact absurd rfl hl) | simp [hlec, hcs]
    show bnd (rdN b o i.size) (fun cs => ret (Value.agg cs.toArray)) n' k = _
    rw [bnd_of this]
    rfl
  · simp only [hag, if_false, Bool.false_eq_true] at e ⊢
    obtain ⟨b', o', hx', e⟩ := opLoad_some e
    rw [hx] at hx' ⊢
    cases hx'
    obtain ⟨rfl, rfl, _⟩ := rd_some e
    refine ⟨rfl, rfl, ?_⟩
    have hw : wcells (aggT P t) v = [v] := by simp [wcells, hag]
    rw [hw] at hc
    have h0 := hc 0 (by simp)
    show rdF b o n' k = _
    unfold rdF
    rw [hb]
    obtain ⟨bc, bk⟩ := B
    simp at h0
    cases bk <;> first | (exact absurd rfl hl) | simp [h0]
end
end Go.Fw
end
section
namespace Go.Fw

/-! ## What stands before what -/

def befRow (acc : List Nat) (o : Oper) : Nat := o.after.toList.foldl (fun s e => if Region.binds .any e then s ||| 2 ^ e.on ||| acc.getD e.on 0 else s) 0
def befs : List Oper → List Nat → List Nat
  | [], acc => acc
  | o :: r, acc => befs r (acc ++ [befRow acc o])
def bef (ops : Array Oper) : List Nat := befs ops.toList []
def comp (bf : List Nat) (i x : Nat) : Bool := (bf.getD x 0).testBit i

theorem befRow_bit (acc : List Nat) (i : Nat) : ∀ (l : List Edge) (s : Nat), (l.foldl (fun s e => if Region.binds .any e then s ||| 2 ^ e.on ||| acc.getD e.on 0 else s) s).testBit i = true ↔
    (s.testBit i = true ∨ ∃ e ∈ l, Region.binds .any e = true ∧ (e.on = i ∨ (acc.getD e.on 0).testBit i = true))
  | [], s => by simp
  | e :: l, s => by
    simp only [List.foldl_cons]
    rw [befRow_bit acc i l]
    by_cases hb : Region.binds .any e = true
    · simp only [hb, if_true, Nat.testBit_or, Bool.or_eq_true, Nat.testBit_two_pow, decide_eq_true_eq, List.mem_cons]
      constructor
      · rintro (((h | h) | h) | ⟨x, hx, h⟩)
        · exact .inl h
        · exact .inr ⟨e, .inl rfl, hb, .inl h⟩
        · exact .inr ⟨e, .inl rfl, hb, .inr h⟩
        · exact .inr ⟨x, .inr hx, h⟩
      · rintro (h | ⟨x, rfl | hx, h1, h2⟩)
        · exact .inl (.inl (.inl h))
        · rcases h2 with h2 | h2
          · exact .inl (.inl (.inr h2))
          · exact .inl (.inr h2)
        · exact .inr ⟨x, hx, h1, h2⟩
    · simp only [hb, if_false, Bool.false_eq_true, List.mem_cons]
      constructor
      · rintro (h | ⟨x, hx, h⟩)
        · exact .inl h
        · exact .inr ⟨x, .inr hx, h⟩
      · rintro (h | ⟨x, rfl | hx, h1, h2⟩)
        · exact .inl h
        · exact absurd h1 hb
        · exact .inr ⟨x, hx, h1, h2⟩

theorem befs_spec : ∀ (l : List Oper) (acc : List Nat), (befs l acc).length = acc.length + l.length ∧ (∀ k, k < acc.length → (befs l acc)[k]? = acc[k]?) ∧
    ∀ k o, l[k]? = some o → (befs l acc)[acc.length + k]? = some (befRow ((befs l acc).take (acc.length + k)) o)
  | [], acc => ⟨by simp [befs], fun _ _ => rfl, by simp⟩
  | o :: l, acc => by
    obtain ⟨h1, h2, h3⟩ := befs_spec l (acc ++ [befRow acc o])
    simp only [befs]
    refine ⟨by rw [h1]; simp; omega, fun k hk => ?_, fun k x hx => ?_⟩
    · rw [h2 k (by simp; omega), List.getElem?_append_left hk]
    · cases k with
      | zero =>
        simp only [List.getElem?_cons_zero, Option.some.injEq] at hx
        subst hx
        rw [Nat.add_zero, h2 acc.length (by simp), List.getElem?_append_right (by omega)]
        simp only [Nat.sub_self, List.getElem?_cons_zero, Option.some.injEq]
        congr 1
        apply List.ext_getElem?
        intro j
        rw [List.getElem?_take]
        split
        · rename_i hj
          rw [h2 j (by simp; omega), List.getElem?_append_left hj]
        · rename_i hj
          rw [List.getElem?_eq_none (by omega)]
      | succ k =>
        have := h3 k x (by simpa using hx)
        simp only [List.length_append, List.length_cons, List.length_nil] at this
        rw [show acc.length + (k + 1) = acc.length + (0 + 1) + k by omega]
        exact this

theorem comp_iff {ops : Array Oper} {i j : Nat} {o : Oper} (ho : ops[j]? = some o) :
    comp (bef ops) i j = true ↔ ∃ e ∈ o.after.toList, Region.binds .any e = true ∧ (e.on = i ∨ (e.on < j ∧ comp (bef ops) i e.on = true)) := by
  obtain ⟨h1, _, h3⟩ := befs_spec ops.toList []
  have := h3 j o (by simpa using ho)
  simp only [List.length_nil, Nat.zero_add] at this
  have hg : (bef ops).getD j 0 = befRow ((bef ops).take j) o := by
    unfold bef
    rw [List.getD_eq_getElem?_getD, this]
    rfl
  unfold comp
  rw [hg]
  unfold befRow
  rw [befRow_bit]
  simp only [Nat.zero_testBit, Bool.false_eq_true, false_or]
  constructor
  · rintro ⟨e, he, hb, h | h⟩
    · exact ⟨e, he, hb, .inl h⟩
    · refine ⟨e, he, hb, .inr ?_⟩
      by_cases hlt : e.on < j
      · refine ⟨hlt, ?_⟩
        rw [List.getD_eq_getElem?_getD, List.getElem?_take, if_pos hlt, ← List.getD_eq_getElem?_getD] at h
        exact h
      · rw [List.getD_eq_getElem?_getD, List.getElem?_take, if_neg hlt] at h
        simp at h
  · rintro ⟨e, he, hb, h | ⟨hlt, h⟩⟩
    · exact ⟨e, he, hb, .inl h⟩
    · refine ⟨e, he, hb, .inr ?_⟩
      rw [List.getD_eq_getElem?_getD, List.getElem?_take, if_pos hlt, ← List.getD_eq_getElem?_getD]
      exact h

/-! ## The run in a good order -/

def isE (ops : Array Oper) (i : Nat) : Bool :=
  match ops[i]? with
  | some o => decide (kd o.op = .act)
  | none => false

def kindsOK : Kd → Kd → Bool
  | .pure, _ => true
  | .load, _ => true
  | .alloc, .pure => true
  | .alloc, .alloc => true
  | .act, .pure => true
  | .act, .alloc => true
  | _, _ => false

/-- c may come ahead of x, for all that is between them. -/
def pairOK (ops : Array Oper) (bf : List Nat) (c x : Nat) : Bool :=
  match ops[c]?, ops[x]? with
  | some oc, some ox => !(comp bf x c) && (comp bf c x || (oc.apart ops ox && kindsOK (kd oc.op) (kd ox.op)))
  | _, _ => false

abbrev Watch := List (Nat × Bool × Value × Value)

def watchOf (P : Program) (G : Nat) (ops : Array Oper) (bf : List Nat) (i : Nat) (Γ : List (Nat × Value)) (v : Value) (l : List Nat) : Watch :=
  match ops[i]? with
  | some o => match o.op with
    | .load t x => (l.filter fun y => isE ops y && !comp bf i y).map fun y => (y, aggT P t, ev G Γ x, v)
    | _ => []
  | none => []

section
variable (P : Program) (G : Nat) (E : Env) (N : Nat) (ops : Array Oper) (β ε : Nat → Nat)

inductive Crun : List Nat → Watch → List (Nat × Value) → H → List (Nat × Value) → H → Prop where
  | nil (W : Watch) (Γ : List (Nat × Value)) (h : H) : Crun [] W Γ h Γ h
  | cons (i : Nat) (l : List Nat) (W : Watch) (Γ Γ1 Γ2 : List (Nat × Value)) (h h1 h2 : H) (v : Value) (b : Bool) :
      sval P G E ops Γ i (β i) h = some (v, ε i, h1) → putG N (dstOf ops i) v Γ = some Γ1 → (∀ e ∈ W, e.1 = i → Holds e.2.1 e.2.2.1 e.2.2.2 h1) →
      ((ops[i]?).bind (gwant ops Γ) = some b) →
      Crun l (W ++ (if b then watchOf P G ops (bef ops) i Γ v l else [])) Γ1 h1 Γ2 h2 → Crun (i :: l) W Γ h Γ2 h2
end

section
variable {P : Program} {G : Nat} {E : Env} {N : Nat} {ops : Array Oper} {β ε : Nat → Nat}

theorem Same.watchOf {Γ Γ' : List (Nat × Value)} (hs : Same Γ Γ') (i : Nat) (v : Value) (l : List Nat) : watchOf P G ops (bef ops) i Γ v l = watchOf P G ops (bef ops) i Γ' v l := by
  unfold Fw.watchOf
  split
  · split
    · rw [hs.ev]
    · rfl
  · rfl

theorem HEq'.refl (h : H) : HEq' h h := fun _ => rfl
theorem HEq'.trans {a b c : H} (h : HEq' a b) (k : HEq' b c) : HEq' a c := fun x => (h x).trans (k x)

/-- What is the same runs the same; who watches less runs, too. -/
theorem Crun.congr {l : List Nat} {W : Watch} {Γ Γ2 : List (Nat × Value)} {h h2 : H} (c : Crun P G E N ops β ε l W Γ h Γ2 h2) :
    ∀ {W' : Watch} {Γ' : List (Nat × Value)} {h' : H}, (∀ e ∈ W', e ∈ W) → Same Γ Γ' → HEq' h h' → ∃ Γ2' h2', Crun P G E N ops β ε l W' Γ' h' Γ2' h2' ∧ Same Γ2 Γ2' ∧ HEq' h2 h2' := by
  induction c with
  | nil W Γ h => intro W' Γ' h' _ hs hh; exact ⟨Γ', h', .nil _ _ _, hs, hh⟩
  | cons i l W Γ Γ1 Γ2 h h1 h2 v b e1 e2 e3 e4 _ ih =>
    intro W' Γ' h' hW hs hh
    rw [hs.sval] at e1
    obtain ⟨h1', k1, k2⟩ := M.same _ e1 hh
    obtain ⟨Γ1', g1, g2⟩ := putG_same hs e2
    have e4' : (ops[i]?).bind (gwant ops Γ') = some b := by
      rw [← e4]; congr 1; funext o; exact (hs.gwant o).symm
    obtain ⟨Γ2', h2', r1, r2, r3⟩ := ih (W' := W' ++ (if b then watchOf P G ops (bef ops) i Γ' v l else [])) (fun e he => by
      rw [List.mem_append] at he ⊢
      rcases he with he | he
      · exact .inl (hW e he)
      · right; rw [hs.watchOf]; exact he) g2 k2
    exact ⟨Γ2', h2', .cons i l W' Γ' Γ1' Γ2' h' h1' h2' v b k1 g1 (fun e he hi => (e3 e (hW e he) hi).sub k2.sub) e4' r1, r2, r3⟩

theorem look_some {m : M Value} (hm : IsLook m) {n n' : Nat} {h h' : H} {v : Value} (e : m n h = some (v, n', h')) : n' = n ∧ h' = h := by
  cases hm with
  | rd b o => obtain ⟨h1, h2, _⟩ := rd_some e; exact ⟨h1, h2⟩
  | rdN b o k =>
    obtain ⟨cs, n1, h1, e1, e2⟩ := bnd_some e
    obtain ⟨rfl, rfl, rfl⟩ := ret_some e2
    obtain ⟨h1, h2, _⟩ := rdN_some e1
    exact ⟨h1, h2⟩
  | fail => cases e
theorem isRet_some {m : M Value} (hm : IsRet m) {n n' : Nat} {h h' : H} {v : Value} (e : m n h = some (v, n', h')) : n' = n ∧ h' = h ∧ m = ret v := by
  rcases hm with ⟨u, rfl⟩ | rfl
  · obtain ⟨rfl, rfl, rfl⟩ := ret_some e; exact ⟨rfl, rfl, rfl⟩
  · cases e
theorem isNew_some {m : M Value} (hm : IsNew m) {n n' : Nat} {h h' : H} {v : Value} (e : m n h = some (v, n', h')) :
    n' = n + 1 ∧ h.get n = none ∧ ∃ B, h' = h.set n B ∧ ∀ k : H, k.get n = none → m n k = some (v, n + 1, k.set n B) := by
  rcases hm with ⟨cs, kd, f, rfl⟩ | rfl
  · obtain ⟨b, n1, h1, e1, e2⟩ := bnd_some e
    obtain ⟨rfl, rfl, rfl⟩ := ret_some e2
    obtain ⟨rfl, rfl, hn, rfl, hall⟩ := new_some e1
    refine ⟨rfl, hn, _, rfl, fun k hk => ?_⟩
    have : new cs kd b k = some (b, b + 1, k.set b ⟨cs, kd⟩) := by
      show newF cs kd b k = _
      unfold newF
      simp [hall, hk]
    show bnd (new cs kd) (fun b => ret (f b)) b k = _
    rw [bnd_of this]
    rfl
  · cases e

/-- Two values in either order. -/
theorem comm_val {mc mi : M Value} {bc ec bi ei : Nat} {h hc hci : H} {vc v : Value} (e1 : mc bc h = some (vc, ec, hc)) (e2 : mi bi hc = some (v, ei, hci)) (hdis : ec ≤ bi ∨ ei ≤ bc)
    (hf : (IsRet mi ∨ IsNew mi) ∨ IsRet mc ∨ (IsLook mc ∧ (IsLook mi ∨ mc bc hci = some (vc, ec, hci)))) :
    ∃ hi hic, mi bi h = some (v, ei, hi) ∧ mc bc hi = some (vc, ec, hic) ∧ HEq' hci hic ∧ (IsRet mc ∨ IsLook mc → hi = hci) ∧ (IsRet mi ∨ IsNew mi → Sub hc hic) := by
  by_cases hmi : IsRet mi ∨ IsNew mi
  · rcases hmi with hr | hn
    · obtain ⟨rfl, rfl, rfl⟩ := isRet_some hr e2
      exact ⟨h, hci, rfl, e1, .refl _, fun hh => by rcases hh with hh | hh; exact (isRet_some hh e1).2.1.symm; exact (look_some hh e1).2.symm, fun _ _ _ hb => hb⟩
    · obtain ⟨rfl, hnone, B, rfl, hk⟩ := isNew_some hn e2
      have lc := mc.loc _ _ _ _ _ e1
      have hnone' : h.get bi = none := by
        cases hg : h.get bi with
        | none => rfl
        | some C =>
          have := (lc.dom bi).2 (.inl (by rw [hg]; rfl))
          rw [hnone] at this; cases this
      have hsub : Sub h (h.set bi B) := fun b C hb => by
        rw [H.get_set]
        split
        · rename_i e; subst e; rw [hnone'] at hb; cases hb
        · exact hb
      obtain ⟨k', g1, g2⟩ := lc.more (h.set bi B) hsub fun b h1 h2 => by
        rw [H.get_set_ne _ _ (by omega)]
        exact lc.fresh b h1 h2
      have hheq : HEq' (hc.set bi B) k' := fun b => by
        rw [g2, H.get_set, H.get_set]
        by_cases hb : b = bi
        · subst hb; simp [hnone]
        · simp only [hb, if_false]
          split
          · rfl
          · rename_i hs
            have : ¬ (h.get b).isSome = true := fun hh => hs ((lc.dom b).2 (.inl hh))
            have e3 : hc.get b = none := by simpa using hs
            have e4 : h.get b = none := by simpa using this
            rw [e3, e4]
      refine ⟨h.set bi B, k', hk h hnone', g1, hheq, fun hh => ?_, fun _ b C hb => ?_⟩
      · have : hc = h := by rcases hh with hh | hh; exact (isRet_some hh e1).2.1; exact (look_some hh e1).2
        rw [this]
      · rw [g2, hb]; rfl
  · rcases hf with hf | hr | ⟨hl, hf⟩
    · exact absurd hf hmi
    · obtain ⟨rfl, rfl, rfl⟩ := isRet_some hr e1
      exact ⟨hci, hci, e2, rfl, .refl _, fun _ => rfl, fun hh => absurd hh hmi⟩
    · obtain ⟨rfl, rfl⟩ := look_some hl e1
      rcases hf with hf | hf
      · obtain ⟨rfl, rfl⟩ := look_some hf e2
        exact ⟨hci, hci, e2, e1, .refl _, fun _ => rfl, fun hh => absurd hh hmi⟩
      · exact ⟨hci, hci, e2, hf, .refl _, fun _ => rfl, fun hh => absurd hh hmi⟩

theorem sval_kinds {Γ : List (Nat × Value)} {i : Nat} {o : Oper} (ho : ops[i]? = some o) :
    (kd o.op = .pure → IsRet (sval P G E ops Γ i)) ∧ (kd o.op = .load → IsRet (sval P G E ops Γ i) ∨ IsLook (sval P G E ops Γ i)) ∧ (kd o.op = .alloc → IsRet (sval P G E ops Γ i) ∨ IsNew (sval P G E ops Γ i)) := by
  unfold sval
  simp only [ho]
  cases gwant ops Γ o with
  | none => exact ⟨fun _ => .inr rfl, fun _ => .inl (.inr rfl), fun _ => .inl (.inr rfl)⟩
  | some b =>
    cases b with
    | false => exact ⟨fun _ => .inl ⟨_, rfl⟩, fun _ => .inl (.inl ⟨_, rfl⟩), fun _ => .inl (.inl ⟨_, rfl⟩)⟩
    | true => exact ⟨fun h => aop_pure h, fun h => .inr (aop_load h), fun h => .inr (aop_alloc h)⟩

theorem look_put {Γ Γ1 : List (Nat × Value)} {d : Option Tmp} {v : Value} (hp : putG N d v Γ = some Γ1) {t : Nat} (ht : d ≠ some t) : look Γ1 t = look Γ t := by
  unfold putG at hp
  split at hp
  · cases hp; rfl
  · split at hp
    · cases hp
      simp only [look]
      rw [if_neg (fun e => ht (by rw [e]))]
    · cases hp

/-- An operation that doesn't look at what was written gives the same. -/
theorem sval_apart {Γ Γ1 : List (Nat × Value)} {d : Option Tmp} {v : Value} (hp : putG N d v Γ = some Γ1) {i : Nat} {o : Oper} (ho : ops[i]? = some o) (hd : ∀ t, d = some t → t ∉ o.looksAt ops) :
    sval P G E ops Γ1 i = sval P G E ops Γ i ∧ gwant ops Γ1 o = gwant ops Γ o ∧ ∀ x ∈ o.op.operands, ev G Γ1 x = ev G Γ x := by
  have hev : ∀ x ∈ o.op.operands, ev G Γ1 x = ev G Γ x := by
    intro x hx
    cases x with
    | tmp t =>
      refine look_put hp fun e => hd t e ?_
      exact List.mem_append_left _ (List.mem_filterMap.2 ⟨.tmp t, by simpa using hx, rfl⟩)
    | _ => rfl
  have hgw : gwant ops Γ1 o = gwant ops Γ o := by
    unfold gwant
    split
    · rfl
    · rename_i j want hg
      split
      · rename_i t ht
        rw [look_put hp fun e => hd t e (by simp [Oper.looksAt, hg, ht])]
      · rfl
  refine ⟨?_, hgw, hev⟩
  unfold sval
  simp only [ho, hgw]
  rw [aop_congr hev]

theorem putG_comm {Γ Γc Γi Γci : List (Nat × Value)} {dc di : Option Tmp} {vc v : Value} (h1 : putG N dc vc Γ = some Γc) (h2 : putG N di v Γc = some Γci) (hne : ∀ t, dc = some t → di ≠ some t) (h3 : putG N di v Γ = some Γi) :
    ∃ Γic, putG N dc vc Γi = some Γic ∧ Same Γci Γic := by
  cases dc with
  | none =>
    simp only [putG, Option.some.injEq] at h1
    subst h1
    rw [h3] at h2
    cases h2
    exact ⟨Γi, rfl, .refl _⟩
  | some c =>
    simp only [putG] at h1
    split at h1
    · rename_i hc
      cases h1
      cases di with
      | none =>
        simp only [putG, Option.some.injEq] at h2 h3
        subst h2 h3
        exact ⟨_, by simp [putG, hc], .refl _⟩
      | some d =>
        simp only [putG] at h2 h3
        split at h2
        · rename_i hd
          simp only [hd, if_true, Option.some.injEq] at h2 h3
          subst h2 h3
          refine ⟨_, by simp [putG, hc]; rfl, fun t => ?_⟩
          have hcd : c ≠ d := fun e => hne c rfl (by rw [e])
          simp only [look]
          by_cases ht : t = d
          · subst ht; simp [Ne.symm hcd]
          · simp [ht]
        · cases h2
    · cases h1

theorem putG_exists {Γ Γ1 Γ2 : List (Nat × Value)} {d : Option Tmp} {v : Value} (h : putG N d v Γ1 = some Γ2) : ∃ Γ3, putG N d v Γ = some Γ3 := by
  unfold putG at h ⊢
  split at h
  · exact ⟨_, rfl⟩
  · split at h
    · rename_i hd; exact ⟨_, by simp [hd]; rfl⟩
    · cases h

/-- WHAT MAY COME FIRST CAN COME FIRST. -/
theorem Crun.pull (i : Nat) (C2 : List Nat) : ∀ (C1 : List Nat) (W : Watch) (Γ : List (Nat × Value)) (h : H) (Γ2 : List (Nat × Value)) (h2 : H), (∀ c ∈ C1, pairOK ops (bef ops) c i = true ∧ comp (bef ops) c i = false) → (∀ c ∈ C1, ε c ≤ β i ∨ ε i ≤ β c) →
    (∀ e ∈ W, isE ops e.1 = true) → Crun P G E N ops β ε (C1 ++ i :: C2) W Γ h Γ2 h2 →
    ∃ v Γi hi Γ2' h2', sval P G E ops Γ i (β i) h = some (v, ε i, hi) ∧ putG N (dstOf ops i) v Γ = some Γi ∧ (∀ e ∈ W, e.1 = i → Holds e.2.1 e.2.2.1 e.2.2.2 hi) ∧ Crun P G E N ops β ε (C1 ++ C2) W Γi hi Γ2' h2' ∧ Same Γ2 Γ2' ∧ HEq' h2 h2'
  | [], W, Γ, h, Γ2, h2, _, _, _, hc => by
    cases hc with
    | cons _ _ _ _ Γ1 _ _ h1 _ v b e1 e2 e3 e4 e5 =>
      obtain ⟨Γ2', h2', r1, r2, r3⟩ := e5.congr (W' := W) (fun e he => List.mem_append_left _ he) (.refl _) (.refl _)
      exact ⟨v, Γ1, h1, Γ2', h2', e1, e2, e3, r1, r2, r3⟩
  | c :: C1, W, Γ, h, Γ2, h2, hp, hd, hW, hc => by
    cases hc with
    | cons _ _ _ _ Γc _ _ hc' _ vc b e1 e2 e3 e4 e5 =>
    obtain ⟨hpc, hcomp⟩ := hp c (by simp)
    have hdc := hd c (by simp)
    obtain ⟨oc, oi, hoc, hoi, hap, hk⟩ : ∃ oc oi, ops[c]? = some oc ∧ ops[i]? = some oi ∧ oc.apart ops oi = true ∧ kindsOK (kd oc.op) (kd oi.op) = true := by
      unfold pairOK at hpc
      split at hpc
      · rename_i oc oi hoc hoi
        simp only [hcomp, Bool.false_or, Bool.and_eq_true] at hpc
        exact ⟨oc, oi, hoc, hoi, hpc.2.1, hpc.2.2⟩
      · cases hpc
    obtain ⟨ap1, ap2, ap3⟩ := Oper.apart_spec hap
    have hdc1 : dstOf ops c = oc.dst := by simp [dstOf, hoc]
    have hdi1 : dstOf ops i = oi.dst := by simp [dstOf, hoi]
    have hW' : ∀ e ∈ W ++ (if b then watchOf P G ops (bef ops) c Γ vc (C1 ++ i :: C2) else []), isE ops e.1 = true := by
      intro e he
      rw [List.mem_append] at he
      rcases he with he | he
      · exact hW e he
      · cases b with
        | false => simp at he
        | true =>
          simp only [if_true] at he
          unfold watchOf at he
          simp only [hoc] at he
          split at he
          · simp only [List.mem_map, List.mem_filter, Bool.and_eq_true] at he
            obtain ⟨y, ⟨_, hy, _⟩, rfl⟩ := he
            exact hy
          · simp at he
    obtain ⟨v, Γci, hci, Γ2', h2', f1, f2, f3, f4, f5, f6⟩ := Crun.pull i C2 C1 _ Γc hc' Γ2 h2 (fun x hx => hp x (by simp [hx])) (fun x hx => hd x (by simp [hx])) hW' e5
    -- i ahead of c
    obtain ⟨hsi, _, _⟩ := sval_apart (P := P) (G := G) (E := E) e2 hoi (fun t ht => ap1 t (by rw [← hdc1]; exact ht))
    rw [hsi] at f1
    obtain ⟨Γi, hΓi⟩ : ∃ Γi, putG N (dstOf ops i) v Γ = some Γi := putG_exists f2
    obtain ⟨hsc, hgc, hevc⟩ := sval_apart (P := P) (G := G) (E := E) hΓi hoc (fun t ht => ap3 t (by rw [← hdi1]; exact ht))
    obtain ⟨Γic, hΓic, hsame⟩ := putG_comm e2 f2 (fun t ht => by rw [hdi1]; exact ap2 t (by rw [← hdc1]; exact ht)) hΓi
    obtain ⟨c1, c2, c3⟩ := sval_kinds (P := P) (G := G) (E := E) (Γ := Γ) hoc
    obtain ⟨i1, i2, i3⟩ := sval_kinds (P := P) (G := G) (E := E) (Γ := Γ) hoi
    have hbc : gwant ops Γ oc = some b := by rw [hoc] at e4; exact e4
    have hf : (IsRet (sval P G E ops Γ i) ∨ IsNew (sval P G E ops Γ i)) ∨ IsRet (sval P G E ops Γ c) ∨ (IsLook (sval P G E ops Γ c) ∧ (IsLook (sval P G E ops Γ i) ∨ sval P G E ops Γ c (β c) hci = some (vc, ε c, hci))) := by
      cases hkc : kd oc.op with
      | pure => exact .inr (.inl (c1 hkc))
      | alloc =>
        rw [hkc] at hk
        cases hki : kd oi.op <;> rw [hki] at hk <;> first | exact .inl (.inl (i1 hki)) | exact .inl (i3 hki) | cases hk
      | act =>
        rw [hkc] at hk
        cases hki : kd oi.op <;> rw [hki] at hk <;> first | exact .inl (.inl (i1 hki)) | exact .inl (i3 hki) | cases hk
      | load =>
        rcases c2 hkc with hr | hl
        · exact .inr (.inl hr)
        · cases hki : kd oi.op with
          | pure => exact .inl (.inl (i1 hki))
          | alloc => exact .inl (i3 hki)
          | load =>
            rcases i2 hki with hr | hli
            · exact .inl (.inl hr)
            · exact .inr (.inr ⟨hl, .inl hli⟩)
          | act =>
            cases b with
            | false =>
              right; left
              have : sval P G E ops Γ c = ret skipV := by unfold sval; simp only [hoc, hbc]
              exact .inl ⟨_, this⟩
            | true =>
              refine .inr (.inr ⟨hl, .inr ?_⟩)
              obtain ⟨t, x, hop⟩ : ∃ t x, oc.op = .load t x := by
                cases hop : oc.op <;> rw [hop] at hkc <;> simp only [kd] at hkc <;> try (cases hkc; done)
                case load t x => exact ⟨t, x, rfl⟩
                case slice t x lo hi mx => cases lo <;> cases hi <;> cases mx <;> simp at hkc
                case call cc => rcases kd_call cc with e | e <;> simp only [kd] at e <;> rw [e] at hkc <;> cases hkc
              have hmem : ((i, aggT P t, ev G Γ x, vc) : Nat × Bool × Value × Value) ∈ watchOf P G ops (bef ops) c Γ vc (C1 ++ i :: C2) := by
                unfold watchOf
                simp only [hoc, hop, List.mem_map, List.mem_filter, Bool.and_eq_true]
                refine ⟨i, ⟨by simp, by simp [isE, hoi, hki], by simp [hcomp]⟩, rfl⟩
              have hh := f3 _ (List.mem_append_right _ (by simpa using hmem)) rfl
              have hsv : sval P G E ops Γ c = aop P G E Γ oc.op := by unfold sval; simp only [hoc, hbc]
              rw [hsv] at e1 ⊢
              obtain ⟨g1, g2, _⟩ := look_holds hop e1 hh
              rw [g1] at e1 ⊢
              exact (look_holds hop e1 hh).2.2
    obtain ⟨hi, hic, k1, k2, k3, k4, k5⟩ := comm_val e1 f1 hdc hf
    obtain ⟨Γ3, h3, g1, g2, g3⟩ := f4.congr (W' := W ++ (if b then watchOf P G ops (bef ops) c Γi vc (C1 ++ C2) else [])) (fun e he => by
      rw [List.mem_append] at he ⊢
      rcases he with he | he
      · exact .inl he
      · right
        cases b with
        | false => simp at he
        | true =>
          simp only [if_true] at he ⊢
          unfold watchOf at he ⊢
          simp only [hoc] at he ⊢
          split at he
          · rename_i t x hop
            rw [hevc x (by simp [hop, Op.operands])] at he
            simp only [List.mem_map, List.mem_filter] at he ⊢
            obtain ⟨y, ⟨hy, hy2⟩, rfl⟩ := he
            exact ⟨y, ⟨by simp at hy ⊢; rcases hy with hy | hy; exact .inl hy; exact .inr (.inr hy), hy2⟩, rfl⟩
          · simp at he) hsame k3
    refine ⟨v, Γi, hi, Γ3, h3, k1, hΓi, fun e he hei => ?_, ?_, f5.trans g2, f6.trans g3⟩
    · -- i is an act: c only looks
      have hie : isE ops i = true := by rw [← hei]; exact hW e he
      have hki : kd oi.op = .act := by simpa [isE, hoi] using hie
      have hcl : IsRet (sval P G E ops Γ c) ∨ IsLook (sval P G E ops Γ c) := by
        rw [hki] at hk
        cases hkc : kd oc.op <;> rw [hkc] at hk <;> first | exact .inl (c1 hkc) | exact c2 hkc | cases hk
      rw [k4 hcl]
      exact f3 e (List.mem_append_left _ he) hei
    · refine .cons c (C1 ++ C2) W Γi Γic Γ3 hi hic h3 vc b (by rw [hsc]; exact k2) hΓic (fun e he hec => ?_) (by rw [hoc]; exact hgc.trans hbc) g1
      have hce : isE ops c = true := by rw [← hec]; exact hW e he
      have hkc : kd oc.op = .act := by simpa [isE, hoc] using hce
      have hin : IsRet (sval P G E ops Γ i) ∨ IsNew (sval P G E ops Γ i) := by
        rw [hkc] at hk
        cases hki : kd oi.op <;> rw [hki] at hk <;> first | exact .inl (i1 hki) | exact i3 hki | cases hk
      exact (e3 e he hec).sub (k5 hin)
end
end Go.Fw
end
section
namespace Go.Fw

section
variable {P : Program} {G : Nat} {E : Env} {N : Nat} {ops : Array Oper}

def edgesOK (ops : Array Oper) : Bool := ops.toList.zipIdx.all fun p => p.1.after.toList.all fun e => !(Region.binds .any e) || decide (e.on < p.2)

theorem edges_lt (he : edgesOK ops = true) {j : Nat} {o : Oper} (ho : ops[j]? = some o) : ∀ e ∈ o.after, Region.binds .any e = true → e.on < j := by
  intro e hm hb
  have hmem : (o, j) ∈ ops.toList.zipIdx := by
    rw [List.mem_zipIdx_iff_getElem?]
    simpa using ho
  have := List.all_eq_true.1 he _ hmem
  have := List.all_eq_true.1 this e (by simpa using hm)
  simpa [hb] using this

def Closed (ops : Array Oper) (listed : Array Bool) : Prop := ∀ j o, ops[j]? = some o → listed.getD j false = true → ∀ e ∈ o.after, Region.binds .any e = true → listed.getD e.on false = true

theorem comp_listed {listed : Array Bool} (hc : Closed ops listed) {c : Nat} : ∀ (i : Nat) (o : Oper), ops[i]? = some o → (∀ e ∈ o.after, Region.binds .any e = true → listed.getD e.on false = true) → comp (bef ops) c i = true → listed.getD c false = true := by
  intro i
  induction i using Nat.strongRecOn with
  | _ i ih =>
    intro o ho hp hcomp
    obtain ⟨e, he, hb, h⟩ := (comp_iff ho).1 hcomp
    have hl := hp e (by simpa using he) hb
    rcases h with rfl | ⟨hlt, h⟩
    · exact hl
    · have hsz : i < ops.size := (Array.getElem?_eq_some_iff.1 ho).1
      have ho' : ops[e.on]? = some ops[e.on] := Array.getElem?_eq_getElem (by omega)
      exact ih e.on hlt _ ho' (hc e.on _ ho' hl) h

theorem wpAny_of_crun (hE : EnvOK P G E) (he : edgesOK ops = true) {β ε : Nat → Nat} {Q : Exit → Act → World → Prop} :
    ∀ (fuel : Nat) (listed : Array Bool) (C : List Nat) (Γ Γ2 : List (Nat × Value)) (h h2 : H) (ρ : Map) (a : Act) (w : World), listed.size = ops.size → (∀ i, i ∈ C ↔ i < ops.size ∧ listed.getD i true = false) → C.length ≤ fuel → Closed ops listed →
      C.Pairwise (fun c x => c ≠ x ∧ pairOK ops (bef ops) c x = true) → C.Pairwise (fun c x => ε c ≤ β x) → Crun P G E N ops β ε C [] Γ h Γ2 h2 → R G ρ h w → Live ρ N Γ a →
      (∀ a' ρ' w' Γ' h', Same Γ2 Γ' → HEq' h2 h' → Live ρ' N Γ' a' → a'.defers = a.defers → R G ρ' h' w' → Ext ρ h w ρ' h' w' → Q .normal a' w') → wpAny P .any ops Q fuel listed a w := by
  have empty : ∀ (listed : Array Bool) (C : List Nat), listed.size = ops.size → (∀ i, i ∈ C ↔ i < ops.size ∧ listed.getD i true = false) → C.Pairwise (fun c x => c ≠ x ∧ pairOK ops (bef ops) c x = true) → Region.ready .any ops listed = [] → C = [] := by
    intro listed C hsz hC hp hr
    cases C with
    | nil => rfl
    | cons c C =>
      exfalso
      obtain ⟨hc, hcl⟩ := (hC c).1 (by simp)
      have ho : ops[c]? = some ops[c] := Array.getElem?_eq_getElem hc
      have hmem : c ∈ Region.ready .any ops listed := by
        rw [mem_ready]
        refine ⟨hcl, _, ho, fun e hem hb => ?_⟩
        have hlt := edges_lt he ho e hem hb
        cases hl : listed.getD e.on false with
        | true => rfl
        | false =>
          exfalso
          have hin : e.on ∈ c :: C := (hC e.on).2 ⟨by omega, by
            have : e.on < listed.size := by omega
            simp [this] at hl ⊢
            exact hl⟩
          simp only [List.mem_cons] at hin
          rcases hin with hin | hin
          · omega
          · have := (List.pairwise_cons.1 hp).1 e.on hin
            have hcm : comp (bef ops) e.on c = true := (comp_iff ho).2 ⟨e, by simpa using hem, hb, .inl rfl⟩
            have hp2 := this.2
            unfold pairOK at hp2
            split at hp2
            · simp [hcm] at hp2
            · cases hp2
      rw [hr] at hmem
      cases hmem
  intro fuel
  induction fuel with
  | zero =>
    intro listed C Γ Γ2 h h2 ρ a w hsz hC hlen hcl hp hrg hc r l hQ
    have hC0 : C = [] := List.eq_nil_of_length_eq_zero (by omega)
    subst hC0
    cases hc
    refine ⟨?_, hQ a ρ w _ _ (.refl _) (.refl _) l rfl r (Ext.refl _ _ _)⟩
    rw [List.eq_nil_iff_forall_not_mem]
    intro j hj
    rw [mem_ready] at hj
    obtain ⟨hjl, o, ho, _⟩ := hj
    have : j ∈ ([] : List Nat) := (hC j).2 ⟨(Array.getElem?_eq_some_iff.1 ho).1, hjl⟩
    cases this
  | succ fuel ih =>
    intro listed C Γ Γ2 h h2 ρ a w hsz hC hlen hcl hp hrg hc r l hQ
    refine ⟨fun hr => ?_, fun i hi => ?_⟩
    · have hC0 := empty listed C hsz hC hp hr
      subst hC0
      cases hc
      exact hQ a ρ w _ _ (.refl _) (.refl _) l rfl r (Ext.refl _ _ _)
    · rw [mem_ready] at hi
      obtain ⟨hil, o, ho, hpre⟩ := hi
      have hisz : i < ops.size := (Array.getElem?_eq_some_iff.1 ho).1
      have hiC : i ∈ C := (hC i).2 ⟨hisz, hil⟩
      obtain ⟨C1, C2, rfl⟩ := List.append_of_mem hiC
      have hp1 : ∀ c ∈ C1, c ≠ i ∧ pairOK ops (bef ops) c i = true := fun c hcm => (List.pairwise_append.1 hp).2.2 c hcm i (by simp)
      have hncomp : ∀ c ∈ C1, comp (bef ops) c i = false := by
        intro c hcm
        cases hcc : comp (bef ops) c i with
        | false => rfl
        | true =>
          have := comp_listed hcl i o ho hpre hcc
          have hc2 := ((hC c).1 (by simp [hcm])).2
          have hcs := ((hC c).1 (by simp [hcm])).1
          have hlt : c < listed.size := by omega
          simp [hlt] at this hc2
          rw [this] at hc2; cases hc2
      obtain ⟨v, Γi, hi', Γ2', h2', e1, e2, _, e4, e5, e6⟩ := Crun.pull i C2 C1 [] Γ h Γ2 h2 (fun c hcm => ⟨(hp1 c hcm).2, hncomp c hcm⟩) (fun c hcm => .inl ((List.pairwise_append.1 hrg).2.2 c hcm i (by simp))) (by simp) hc
      have hstep : step P G E N ops i Γ (β i) h = some (Γi, ε i, hi') := by
        unfold step
        show bnd _ _ (β i) h = _
        rw [bnd_of e1, e2]
        rfl
      refine step_wpOp hE r l hstep fun a' ρ' w' l' hd' r' x' => ?_
      refine ih (listed.setIfInBounds i true) (C1 ++ C2) Γi Γ2' hi' h2' ρ' a' w' (by simpa using hsz) (fun j => ?_) (by simp at hlen ⊢; omega) (fun j oj hoj hjl e hem hb => ?_) ?_ ?_ e4 r' l' fun a2 ρ2 w2 Γ3 h3 s1 s2 l2 d2 r2 x2 => hQ a2 ρ2 w2 Γ3 h3 (e5.trans s1) (e6.trans s2) l2 (d2.trans hd') r2 (x'.trans x2)
      · have hnd : ∀ x ∈ C1 ++ C2, x ≠ i := by
          intro x hx
          rw [List.mem_append] at hx
          rcases hx with hx | hx
          · exact (hp1 x hx).1
          · have := (List.pairwise_cons.1 (List.pairwise_append.1 hp).2.1).1 x hx
            exact fun e => this.1 e.symm
        constructor
        · intro hj
          have hji := hnd j hj
          have := (hC j).1 (by simp at hj ⊢; rcases hj with hj | hj; exact .inl hj; exact .inr (.inr hj))
          refine ⟨this.1, ?_⟩
          rw [getD_set_ne _ (Ne.symm hji)]; exact this.2
        · rintro ⟨hj1, hj2⟩
          have hji : j ≠ i := by
            intro e; subst e
            have : j < listed.size := by omega
            simp [this] at hj2
          rw [getD_set_ne _ (Ne.symm hji)] at hj2
          have := (hC j).2 ⟨hj1, hj2⟩
          simp at this ⊢
          rcases this with h | h | h
          · exact .inl h
          · exact absurd h hji
          · exact .inr h
      · by_cases hji : j = i
        · subst hji
          rw [hoj] at ho
          cases ho
          exact getD_set_true (hpre e hem hb)
        · rw [getD_set_ne _ (Ne.symm hji)] at hjl
          exact getD_set_true (hcl j oj hoj hjl e hem hb)
      · exact hp.sublist (List.Sublist.append (List.Sublist.refl C1) (List.sublist_cons_self i C2))
      · exact hrg.sublist (List.Sublist.append (List.Sublist.refl C1) (List.sublist_cons_self i C2))

/-- The order in which the abstract machine runs a region is a good one. -/
def goodOrder (ops : Array Oper) (C : List Nat) : Bool :=
  edgesOK ops && C.length == ops.size && C.all (fun i => decide (i < ops.size)) && (List.range ops.size).all (fun i => C.contains i) && pairs (bef ops) C
where
  pairs (bf : List Nat) : List Nat → Bool
    | [] => true
    | c :: l => l.all (fun x => c != x && pairOK ops bf c x) && pairs bf l

theorem goodOrder_pairs : ∀ {C : List Nat}, goodOrder.pairs ops (bef ops) C = true → C.Pairwise (fun c x => c ≠ x ∧ pairOK ops (bef ops) c x = true)
  | [], _ => .nil
  | c :: l, h => by
    simp only [goodOrder.pairs, Bool.and_eq_true] at h
    refine List.pairwise_cons.2 ⟨fun x hx => ?_, goodOrder_pairs h.2⟩
    have := List.all_eq_true.1 h.1 x hx
    simpa using this

theorem draw_wp (hm : P.follows .mixedOrders = true) (hE : EnvOK P G E) {C : List Nat} (hg : goodOrder ops C = true) {β ε : Nat → Nat} (hrg : C.Pairwise (fun c x => ε c ≤ β x)) {Γ Γ2 : List (Nat × Value)} {h h2 : H} (hc : Crun P G E N ops β ε C [] Γ h Γ2 h2)
    {ρ : Map} {a : Act} {w : World} (r : R G ρ h w) (l : Live ρ N Γ a) {Q : Exit → Act → World → Prop} {id : Nat}
    (hQ : ∀ a' ρ' w', Live ρ' N Γ2 a' → a'.defers = a.defers → R G ρ' h2 w' → Ext ρ h w ρ' h2 w' → Q .normal a' w') : (Code.region id ops true).wp P Q a w := by
  simp only [goodOrder, Bool.and_eq_true, beq_iff_eq] at hg
  obtain ⟨⟨⟨⟨g1, g2⟩, g3⟩, g4⟩, g5⟩ := hg
  refine wp_region_any hm ?_
  refine wpAny_of_crun hE g1 ops.size (Array.replicate ops.size false) C Γ Γ2 h h2 ρ a w.drew (by simp) (fun i => ⟨fun hi => ?_, fun hi => ?_⟩) (by omega) (fun j o ho hj => ?_) (goodOrder_pairs g5) hrg hc r.drew l (fun a' ρ' w' Γ' h' s1 s2 l' d' r' x' => ?_)
  · have := List.all_eq_true.1 g3 i hi
    have hlt : i < ops.size := by simpa using this
    exact ⟨hlt, by simp [hlt]⟩
  · have := List.all_eq_true.1 g4 i (by simpa using hi.1)
    simpa using this
  · have hlt : j < ops.size := (Array.getElem?_eq_some_iff.1 ho).1
    simp [hlt] at hj
  · exact hQ a' ρ' w' (s1.symm.live l') d' (s2.symm.r r') (s2.symm.ext ((Ext.drew _ _ _).trans x'))
end

/-! ## The abstract machine's own run of a region, with what comes behind it -/

section
variable (P : Program) (G : Nat) (E : Env) (N : Nat) (ops : Array Oper)

/-- Is an operation another one's guard? Then its value is looked into at once. -/
def isG (i : Nat) : Bool := ops.toList.any fun o => match o.guard with
  | some (j, _) => j == i
  | none => false

def onB {β : Type} (v : Value) (t f : M β) : M β :=
  match v with
  | .bool true => t
  | .bool false => f
  | _ => fail

def onG {β : Type} (g : Bool) (v : Value) (k : Value → M β) : M β := if g then onB v (k (.bool true)) (k (.bool false)) else k v

/-- An operation, and what comes behind it: what only moves a value takes no step of its own. -/
def bop {β : Type} (Γ : List (Nat × Value)) (op : Op) (k : Value → M β) : M β :=
  match op with
  | .move x => k (ev G Γ x)
  | .assign x => k (ev G Γ x)
  | .pick c a b => onB (ev G Γ c) (k (ev G Γ a)) (k (ev G Γ b))
  | op => bnd (aop P G E Γ op) k

def chkK {β : Type} : Watch → M β → M β
  | [], m => m
  | (_, ag, x, v) :: r, m => bnd (opChk ag x v) fun _ => chkK r m

def runK {β : Type} : List Nat → List (Nat × Value) → (List (Nat × Value) → M β) → M β
  | [], Γ, K => K Γ
  | i :: l, Γ, K =>
    match ops[i]? with
    | none => fail
    | some o => match gwant ops Γ o with
      | none => fail
      | some false => (match putG N o.dst skipV Γ with
        | some Γ' => runK l Γ' K
        | none => fail)
      | some true => bop P G E Γ o.op fun v => onG (isG ops i) v fun v => (match putG N o.dst v Γ with
        | some Γ' => runK l Γ' K
        | none => fail)

def drawK {β : Type} (bf : List Nat) : List Nat → Watch → List (Nat × Value) → (List (Nat × Value) → M β) → M β
  | [], _, Γ, K => K Γ
  | i :: l, W, Γ, K =>
    match ops[i]? with
    | none => fail
    | some o => match gwant ops Γ o with
      | none => fail
      | some false => chkK (W.filter fun e => e.1 == i) (match putG N o.dst skipV Γ with
        | some Γ' => drawK bf l W Γ' K
        | none => fail)
      | some true => bop P G E Γ o.op fun v => onG (isG ops i) v fun v => chkK (W.filter fun e => e.1 == i) (match putG N o.dst v Γ with
        | some Γ' => drawK bf l (W ++ watchOf P G ops bf i Γ v l) Γ' K
        | none => fail)
end

section
variable {P : Program} {G : Nat} {E : Env} {N : Nat} {ops : Array Oper}

theorem onB_some {β : Type} {v : Value} {t f : M β} {n : Nat} {h : H} {z : β × Nat × H} (e : onB v t f n h = some z) : (v = .bool true ∧ t n h = some z) ∨ (v = .bool false ∧ f n h = some z) := by
  obtain ⟨q, hq⟩ : ∃ q, q = onB v t f := ⟨_, rfl⟩
  rw [← hq] at e
  unfold onB at hq
  split at hq
  · subst hq; exact .inl ⟨rfl, e⟩
  · subst hq; exact .inr ⟨rfl, e⟩
  · subst hq; cases e

theorem bop_some {β : Type} {Γ : List (Nat × Value)} {op : Op} {k : Value → M β} {n : Nat} {h : H} {z : β × Nat × H} (e : bop P G E Γ op k n h = some z) : bnd (aop P G E Γ op) k n h = some z := by
  unfold bop at e
  split at e
  · exact e
  · exact e
  · rcases onB_some e with ⟨hb, e⟩ | ⟨hb, e⟩
    · simp only [aop, opPick, hb]; exact e
    · simp only [aop, opPick, hb]; exact e
  · exact e

theorem onG_some {β : Type} {g : Bool} {v : Value} {k : Value → M β} {n : Nat} {h : H} {z : β × Nat × H} (e : onG g v k n h = some z) : k v n h = some z := by
  unfold onG at e
  cases g with
  | false => simpa using e
  | true =>
    simp only [if_true] at e
    rcases onB_some e with ⟨rfl, e⟩ | ⟨rfl, e⟩ <;> exact e

theorem chkK_some {β : Type} {m : M β} {n : Nat} {h : H} {z : β × Nat × H} : ∀ {W : Watch}, chkK W m n h = some z → m n h = some z ∧ ∀ e ∈ W, Holds e.2.1 e.2.2.1 e.2.2.2 h
  | [], e => ⟨e, by simp⟩
  | (i, ag, x, v) :: r, e => by
    obtain ⟨u, n1, h1, e1, e2⟩ := bnd_some e
    obtain ⟨hz, hh⟩ := opChk_some e1
    simp only [Prod.mk.injEq, true_and] at hz
    obtain ⟨rfl, rfl⟩ := hz
    obtain ⟨g1, g2⟩ := chkK_some e2
    refine ⟨g1, fun e he => ?_⟩
    rcases List.mem_cons.1 he with rfl | he
    · exact hh
    · exact g2 e he

theorem runK_runL {β : Type} {K : List (Nat × Value) → M β} {z : β × Nat × H} : ∀ (l : List Nat) (Γ : List (Nat × Value)) (n : Nat) (h : H), runK P G E N ops l Γ K n h = some z →
    ∃ Γ' n' h', runL P G E N ops l Γ n h = some (Γ', n', h') ∧ K Γ' n' h' = some z
  | [], Γ, n, h, e => ⟨Γ, n, h, rfl, e⟩
  | i :: l, Γ, n, h, e => by
    simp only [runK] at e
    cases ho : ops[i]? with
    | none => simp only [ho] at e; cases e
    | some o =>
      simp only [ho] at e
      have hd : dstOf ops i = o.dst := by simp [dstOf, ho]
      cases hg : gwant ops Γ o with
      | none => simp only [hg] at e; cases e
      | some b =>
        simp only [hg] at e
        have key : ∀ v n1 h1, sval P G E ops Γ i n h = some (v, n1, h1) → (match putG N o.dst v Γ with | some Γ' => runK P G E N ops l Γ' K | none => fail : M β) n1 h1 = some z →
            ∃ Γ' n' h', runL P G E N ops (i :: l) Γ n h = some (Γ', n', h') ∧ K Γ' n' h' = some z := by
          intro v n1 h1 e1 e2
          cases hp : putG N o.dst v Γ with
          | none => simp only [hp] at e2; cases e2
          | some Γ1 =>
            simp only [hp] at e2
            obtain ⟨Γ', n', h', g1, g2⟩ := runK_runL l Γ1 n1 h1 e2
            refine ⟨Γ', n', h', ?_, g2⟩
            have hs : step P G E N ops i Γ n h = some (Γ1, n1, h1) := by
              unfold step
              rw [bnd_of e1, hd, hp]; rfl
            unfold runL
            rw [bnd_of hs]
            exact g1
        cases b with
        | false => exact key skipV n h (by unfold sval; simp only [ho, hg]; rfl) e
        | true =>
          obtain ⟨v, n1, h1, e1, e2⟩ := bnd_some (bop_some e)
          exact key v n1 h1 (by unfold sval; simp only [ho, hg]; exact e1) (onG_some e2)

theorem Crun.agree {β ε β' ε' : Nat → Nat} {l : List Nat} {W : Watch} {Γ Γ2 : List (Nat × Value)} {h h2 : H} (c : Crun P G E N ops β ε l W Γ h Γ2 h2) : (∀ i ∈ l, β i = β' i ∧ ε i = ε' i) → Crun P G E N ops β' ε' l W Γ h Γ2 h2 := by
  induction c with
  | nil W Γ h => intro _; exact .nil _ _ _
  | cons i l W Γ Γ1 Γ2 h h1 h2 v b e1 e2 e3 e4 _ ih =>
    intro ha
    obtain ⟨hb, he⟩ := ha i (by simp)
    rw [hb, he] at e1
    exact .cons i l W Γ Γ1 Γ2 h h1 h2 v b e1 e2 e3 e4 (ih fun j hj => ha j (by simp [hj]))

theorem drawK_crun {γ : Type} {K : List (Nat × Value) → M γ} {z : γ × Nat × H} : ∀ (l : List Nat) (W : Watch) (Γ : List (Nat × Value)) (n : Nat) (h : H), l.Pairwise (· ≠ ·) → drawK P G E N ops (bef ops) l W Γ K n h = some z →
    ∃ β ε Γ2 n2 h2, Crun P G E N ops β ε l W Γ h Γ2 h2 ∧ (∀ i ∈ l, n ≤ β i ∧ β i ≤ ε i) ∧ l.Pairwise (fun c x => ε c ≤ β x) ∧ K Γ2 n2 h2 = some z
  | [], W, Γ, n, h, _, e => ⟨id, id, Γ, n, h, .nil _ _ _, by simp, .nil, e⟩
  | i :: l, W, Γ, n, h, hnd, e => by
    simp only [drawK] at e
    obtain ⟨hnd1, hnd2⟩ := List.pairwise_cons.1 hnd
    cases ho : ops[i]? with
    | none => simp only [ho] at e; cases e
    | some o =>
      simp only [ho] at e
      have hd : dstOf ops i = o.dst := by simp [dstOf, ho]
      cases hg : gwant ops Γ o with
      | none => simp only [hg] at e; cases e
      | some b =>
        simp only [hg] at e
        have key : ∀ v n1 h1, sval P G E ops Γ i n h = some (v, n1, h1) → chkK (W.filter fun e => e.1 == i) (match putG N o.dst v Γ with | some Γ' => drawK P G E N ops (bef ops) l (W ++ (if b then watchOf P G ops (bef ops) i Γ v l else [])) Γ' K | none => fail : M γ) n1 h1 = some z →
            ∃ β ε Γ2 n2 h2, Crun P G E N ops β ε (i :: l) W Γ h Γ2 h2 ∧ (∀ j ∈ i :: l, n ≤ β j ∧ β j ≤ ε j) ∧ (i :: l).Pairwise (fun c x => ε c ≤ β x) ∧ K Γ2 n2 h2 = some z := by
          intro v n1 h1 e1 e2
          obtain ⟨e2, hh⟩ := chkK_some e2
          cases hp : putG N o.dst v Γ with
          | none => simp only [hp] at e2; cases e2
          | some Γ1 =>
            simp only [hp] at e2
            obtain ⟨β, ε, Γ2, n2, h2, g1, g2, g3, g4⟩ := drawK_crun l _ Γ1 n1 h1 hnd2 e2
            have hn1 := ((sval P G E ops Γ i).loc _ _ _ _ _ e1).le
            have hne : ∀ j ∈ l, j ≠ i := fun j hj => (hnd1 j hj).symm
            refine ⟨fun j => if j = i then n else β j, fun j => if j = i then n1 else ε j, Γ2, n2, h2, .cons i l W Γ Γ1 Γ2 h h1 h2 v b (by simpa using e1) (by rw [hd]; exact hp) (fun e he hei => hh e (by simp [he, hei])) (by rw [ho]; exact hg) (g1.agree fun j hj => by simp [hne j hj]), fun j hj => ?_, ?_, g4⟩
            · rcases List.mem_cons.1 hj with rfl | hj
              · simp; omega
              · have := g2 j hj
                simp only [hne j hj, if_false]; omega
            · refine List.pairwise_cons.2 ⟨fun x hx => ?_, ?_⟩
              · have := g2 x hx
                simp only [if_true, hne x hx, if_false]; omega
              · refine g3.imp_of_mem fun {c x} hc hx hh => ?_
                simp only [hne c hc, hne x hx, if_false]; exact hh
        cases b with
        | false => exact key skipV n h (by unfold sval; simp only [ho, hg]; rfl) (by simpa using e)
        | true =>
          obtain ⟨v, n1, h1, e1, e2⟩ := bnd_some (bop_some e)
          exact key v n1 h1 (by unfold sval; simp only [ho, hg]; exact e1) (by simpa using onG_some e2)
end
end Go.Fw
end
section
namespace Go.Fw

/-- What is fixed while a function's code is gone through. -/
structure Ctx where
  P : Program
  G : Nat
  E : Env
  N : Nat
  ρ : Map
  h : H
  w : World
  z : Value × Nat × H

/-- The place behind a piece of code, left in a way e: what is known of the temporaries is Γ, and what is left to do is m. -/
def OKq (c : Ctx) (Q : Exit → Act → World → Prop) (e : Exit) (Γ : List (Nat × Value)) (m : M Value) : Prop :=
  ∀ n h ρ w a, m n h = some c.z → R c.G ρ h w → Ext c.ρ c.h c.w ρ h w → Live ρ c.N Γ a → a.defers = [] → Q e a w

/-- The place ahead of a piece of code. -/
def OKc (c : Ctx) (x : Code) (Γ : List (Nat × Value)) (m : M Value) (Q : Exit → Act → World → Prop) : Prop :=
  ∀ n h ρ w a, m n h = some c.z → R c.G ρ h w → Ext c.ρ c.h c.w ρ h w → Live ρ c.N Γ a → a.defers = [] → x.wp c.P Q a w

section
variable {c : Ctx} {Q : Exit → Act → World → Prop} {Γ : List (Nat × Value)} {m : M Value}

theorem rSkip (h : OKq c Q .normal Γ m) : OKc c .skip Γ m Q := fun _ _ _ _ _ e r x l d => wp_skip (h _ _ _ _ _ e r x l d)
theorem rLabel {k : Nat} (h : OKq c Q .normal Γ m) : OKc c (.label k) Γ m Q := fun _ _ _ _ _ e r x l d => wp_label (h _ _ _ _ _ e r x l d)
theorem rExit {id : Nat} (h : OKq c Q (.exit id) Γ m) : OKc c (.exit id) Γ m Q := fun _ _ _ _ _ e r x l d => wp_exit (h _ _ _ _ _ e r x l d)
theorem rRet (h : OKq c Q .ret Γ m) : OKc c .ret Γ m Q := fun _ _ _ _ _ e r x l d => wp_ret (h _ _ _ _ _ e r x l d)
theorem rSeq {x y : Code} (h : OKc c x Γ m (Exit.then (fun a w => y.wp c.P Q a w) Q)) : OKc c (.seq x y) Γ m Q := fun _ _ _ _ _ e r x l d => wp_seq (h _ _ _ _ _ e r x l d)
theorem rThen {y : Code} (h : OKc c y Γ m Q) : OKq c (Exit.then (fun a w => y.wp c.P Q a w) Q) .normal Γ m := fun _ _ _ _ _ e r x l d => h _ _ _ _ _ e r x l d
theorem rBlock {id : Nat} {x : Code} (h : OKc c x Γ m (Exit.inBlock id Q)) : OKc c (.block id x) Γ m Q := fun _ _ _ _ _ e r x l d => wp_block (h _ _ _ _ _ e r x l d)
theorem rOut {id : Nat} (h : OKq c Q .normal Γ m) : OKq c (Exit.inBlock id Q) (.exit id) Γ m := fun _ _ _ _ _ e r x l d => by
  show if id = id then _ else _
  rw [if_pos rfl]
  exact h _ _ _ _ _ e r x l d
theorem rPast {id id' : Nat} (hne : Nat.beq id' id = false) (h : OKq c Q (.exit id') Γ m) : OKq c (Exit.inBlock id Q) (.exit id') Γ m := fun _ _ _ _ _ e r x l d => by
  show if id' = id then _ else _
  rw [if_neg (Nat.ne_of_beq_eq_false hne)]
  exact h _ _ _ _ _ e r x l d

theorem rFail {x : Code} : OKc c x Γ fail Q := fun _ _ _ _ _ e => by cases e
theorem qFail {ex : Exit} : OKq c Q ex Γ fail := fun _ _ _ _ _ e => by cases e

/-- What is known of some of the temporaries. -/
theorem Live.some {ρ : Map} {N : Nat} {a : Act} (l : Live ρ N Γ a) (ts : List Nat) : Live ρ N (ts.map fun t => (t, look Γ t)) a := by
  refine ⟨l.size, fun t => ?_⟩
  have : look (ts.map fun t => (t, look Γ t)) t = undef ∨ look (ts.map fun t => (t, look Γ t)) t = look Γ t := by
    induction ts with
    | nil => exact .inl rfl
    | cons s ts ih =>
      simp only [List.map_cons, look]
      split
      · rename_i e; subst e; exact .inr rfl
      · exact ih
  rcases this with h | h
  · exact .inl (.inl h)
  · rw [h]; exact l.at_ t

theorem OKq.less {ex : Exit} (ts : List Nat) (h : OKq c Q ex (ts.map fun t => (t, look Γ t)) m) : OKq c Q ex Γ m := fun _ _ _ _ _ e r x l d => h _ _ _ _ _ e r x (l.some ts) d
theorem OKc.less {x : Code} (ts : List Nat) (h : OKc c x (ts.map fun t => (t, look Γ t)) m Q) : OKc c x Γ m Q := fun _ _ _ _ _ e r x l d => h _ _ _ _ _ e r x (l.some ts) d

theorem rCond {o : Operand} {x y : Code} (mt mf : M Value) (hm : m = onB (ev c.G Γ o) mt mf) (hx : OKc c x Γ mt Q) (hy : OKc c y Γ mf Q) : OKc c (.cond o x y) Γ m Q := by
  intro n h ρ w a e r xx l d
  rw [hm] at e
  have ho := ev_sim r l o
  rcases onB_some e with ⟨hb, e⟩ | ⟨hb, e⟩
  · rw [hb] at ho
    exact wp_cond_true ho.bool_inv (hx _ _ _ _ _ e r xx l d)
  · rw [hb] at ho
    exact wp_cond_false ho.bool_inv (hy _ _ _ _ _ e r xx l d)

/-- A loop, by how many rounds are left at the most. -/
theorem rLoop {σ : Type} (Γs : σ → List (Nat × Value)) (sh : Nat → σ → M Value) (h0 : ∀ s, sh 0 s = fail) {body : Code}
    (hb : ∀ (I : Nat → Act → World → Prop), (∀ k s, OKq c (fun _ a w => I k a w) .normal (Γs s) (sh k s)) → ∀ k s, OKc c body (Γs s) (sh (k + 1) s) (Exit.then (fun a w => I k a w) Q)) (F : Nat) (s : σ) :
    OKc c (.loop body) (Γs s) (sh F s) Q := by
  intro n h ρ w a e r x l d b' k' cs
  let I : Nat → Act → World → Prop := fun k a w => ∃ s n h ρ, sh k s n h = some c.z ∧ R c.G ρ h w ∧ Ext c.ρ c.h c.w ρ h w ∧ Live ρ c.N (Γs s) a ∧ a.defers = []
  have hI : ∀ k s, OKq c (fun _ a w => I k a w) .normal (Γs s) (sh k s) := fun k s n h ρ w a e r x l d => ⟨s, n, h, ρ, e, r, x, l, d⟩
  have round := hb I hI
  have key : ∀ k a w, I k a w → ∃ e a' w', Q e a' w' ∧ Arrives c.P (lone (b'.at a (.code body :: .inLoop body :: k')) cs w) b' k' cs e a' w' := by
    intro k
    induction k with
    | zero =>
      rintro a w ⟨s, n, h, ρ, e, _⟩
      rw [h0] at e; cases e
    | succ k ih =>
      rintro a w ⟨s, n, h, ρ, e, r, x, l, d⟩
      obtain ⟨e, a₁, w₁, hq, harr⟩ := round k s n h ρ w a e r x l d b' (.inLoop body :: k') cs
      cases e with
      | normal =>
        obtain ⟨e₂, a₂, w₂, hq₂, harr₂⟩ := ih a₁ w₁ hq
        exact ⟨e₂, a₂, w₂, hq₂, .of_steps (Steps.trans harr (.one step_inLoop)) harr₂⟩
      | exit id => exact ⟨_, a₁, w₁, hq, .pass (x := .inLoop body) rfl (fun _ _ => .inl (by simp)) harr⟩
      | goto l => exact ⟨_, a₁, w₁, hq, .pass (x := .inLoop body) rfl (fun _ _ => .inl (by simp)) harr⟩
      | ret => exact ⟨_, a₁, w₁, hq, .pass (x := .inLoop body) rfl (fun _ _ => .inl (by simp)) harr⟩
      | panic ch => exact ⟨_, a₁, w₁, hq, .pass (x := .inLoop body) rfl (fun _ _ => .inl (by simp)) harr⟩
      | outgrown => exact ⟨_, a₁, w₁, hq, .pass (x := .inLoop body) rfl (fun _ _ => .inl (by simp)) harr⟩
  obtain ⟨e, a', w', hq, harr⟩ := key F a w ⟨s, n, h, ρ, e, r, x, l, d⟩
  exact ⟨e, a', w', hq, .of_steps (.one step_loop) harr⟩
end

/-! ## The whole function -/

/-- No tuple: what may stand in a tuple of results. -/
def stv : Value → Bool
  | .tuple _ => false
  | _ => true

section
variable (P : Program) (G : Nat) (E : Env)

/-- The results, one by one. -/
def resK {β : Type} : List ResultVar → List (Nat × Value) → (List Value → M β) → M β
  | [], _, K => K []
  | .tmp t :: r, Γ, K => resK r Γ fun vs => K (look Γ t :: vs)
  | .cell a t :: r, Γ, K => bnd (aop P G E Γ (.load t (.tmp a))) fun v => resK r Γ fun vs => K (v :: vs)

def tupK (vs : List Value) : M Value :=
  match vs with
  | [v] => ret v
  | vs => if vs.all stv then ret (.tuple vs.toArray) else fail

def retK (rs : List ResultVar) (Γ : List (Nat × Value)) : M Value := resK P G E rs Γ tupK
end

section
variable {P : Program} {G : Nat} {E : Env} {ρ : Map} {h : H} {w : World} {N : Nat} {Γ : List (Nat × Value)} {a : Act}

theorem VW.stv {v v' : Value} (h : VW ρ v v') (h1 : Fw.stv v = true) : VR ρ v v' := by
  rcases h with (rfl | ⟨rfl, _⟩) | h
  · simp [undef, Fw.stv] at h1
  · simp [skipV, Fw.stv] at h1
  · exact h

def resOne (a : Act) : ResultVar → Sem Value
  | .tmp t => pure (a.tmps.getD t undef)
  | .cell b t => do loadVar t (← asAddr (a.tmps.getD b undef))

theorem results_eq (fn : Func) (a : Act) : results fn a.tmps = (do
    let vs ← fn.results.mapM (resOne a)
    pure (if h : vs.size = 1 then vs[0] else .tuple vs)) := rfl

theorem run_result (r : R G ρ h w) (l : Live ρ N Γ a) : ∀ (rs : List ResultVar) (K : List Value → M Value) (n n' : Nat) (h' : H) (v : Value), resK P G E rs Γ K n h = some (v, n', h') →
    ∃ vs vs', (rs.mapM (resOne a)).run P w = .ok vs' w ∧ WL ρ vs vs' ∧ K vs n h = some (v, n', h')
  | [], K, n, n', h', v, e => ⟨[], [], by simp, WL.nil, e⟩
  | .tmp t :: rs, K, n, n', h', v, e => by
    obtain ⟨vs, vs', h1, h2, h3⟩ := run_result r l rs _ n n' h' v e
    refine ⟨look Γ t :: vs, a.tmps.getD t undef :: vs', ?_, WL.cons (l.at_ t) h2, h3⟩
    rw [List.mapM_cons]
    simp [resOne, h1]
  | .cell b t :: rs, K, n, n', h', v, e => by
    obtain ⟨u, n1, h1, e1, e2⟩ := bnd_some e
    have hd : Does P G { (default : Oper) with op := .load t (.tmp b) } a w ρ h u h1 := sim_load (E := E) r l (o := { (default : Oper) with op := .load t (.tmp b) }) rfl e1
    obtain ⟨hn, hh⟩ : n = n1 ∧ h = h1 := by
      have := aop_load (P := P) (G := G) (E := E) (Γ := Γ) (op := .load t (.tmp b)) rfl
      obtain ⟨h1, h2⟩ := look_some this e1
      exact ⟨h1.symm, h2.symm⟩
    subst hn hh
    obtain ⟨u', ρ', w', hr, hv, hR, hx⟩ := hd
    obtain ⟨vs, vs', g1, g2, g3⟩ := run_result r l rs _ n n' h' v e2
    -- the load leaves the world alone
    have hxb := l.at_ b
    have hload : ∃ u2, (resOne a (.cell b t)).run P w = .ok u2 w ∧ VW ρ u u2 := by
      simp only [aop] at e1
      cases hu : P.underlying t with
      | none => simp only [hu] at e1; cases e1
      | some d =>
      cases hi : P.info? t with
      | none => simp only [hu, hi] at e1; cases e1
      | some i =>
      simp only [hu, hi] at e1
      by_cases hag : aggT P t = true
      · simp only [hag, if_true] at e1
        obtain ⟨b', o', hb, e1⟩ := opLoadN_some e1
        rw [show look Γ b = .pointer (some ⟨b', o', none⟩) from hb] at hxb
        obtain ⟨_, _, L, hxe, hL, hv'⟩ := hxb.ptr_inv
        cases hxe
        obtain ⟨cs, n2, h2, e3, e4⟩ := bnd_some e1
        obtain ⟨rfl, rfl, rfl⟩ := ret_some e4
        obtain ⟨_, _, hk, L', hL', vs2, hvs, hc⟩ := r.rdN e3
        rw [hL] at hL'
        cases hL'
        have := run_loadVar_agg (P := P) (w := w) (x := ⟨L.blk, L.off + o', none⟩) (cs := vs2) hag hi (by rw [← hvs.1]; exact hk) (fun j u hj => by rw [addr_add]; exact hc j u hj)
        exact ⟨_, by simp [resOne, hv', asAddr, this], hvs.agg.weak⟩
      · simp only [hag, if_false, Bool.false_eq_true] at e1
        obtain ⟨b', o', hb, e1⟩ := opLoad_some e1
        rw [show look Γ b = .pointer (some ⟨b', o', none⟩) from hb] at hxb
        obtain ⟨_, _, L, hxe, hL, hv'⟩ := hxb.ptr_inv
        cases hxe
        obtain ⟨_, _, L', hL', v2, hvr, hc⟩ := r.rd e1
        rw [hL] at hL'
        cases hL'
        have := run_loadVar_one (P := P) (t := t) hu (by simpa using hag) hc
        exact ⟨_, by simp [resOne, hv', asAddr, this], hvr.weak⟩
    obtain ⟨u2, k1, k2⟩ := hload
    refine ⟨u :: vs, u2 :: vs', ?_, WL.cons k2 g2, g3⟩
    rw [List.mapM_cons]
    simp only [Sem.run_bind, k1, Result.andThen_ok, g1]
    rfl

theorem retK_sim {fn : Func} (r : R G ρ h w) (l : Live ρ N Γ a) {n n' : Nat} {h' : H} {v : Value} (e : retK P G E fn.results.toList Γ n h = some (v, n', h')) :
    h' = h ∧ ∃ v', (results fn a.tmps).run P w = .ok v' w ∧ VW ρ v v' := by
  obtain ⟨vs, vs', h1, h2, h3⟩ := run_result r l _ _ _ _ _ _ e
  have hm : (results fn a.tmps).run P w = .ok (if h : vs'.toArray.size = 1 then vs'.toArray[0] else .tuple vs'.toArray) w := by
    rw [results_eq, Array.mapM_eq_mapM_toList]
    simp only [Sem.run_bind, Sem.run_map]
    rw [h1]
    rfl
  unfold tupK at h3
  split at h3
  · rename_i u
    obtain ⟨rfl, rfl, rfl⟩ := ret_some h3
    obtain ⟨u', us, rfl, hu, hus⟩ := h2.head
    have : us = [] := List.eq_nil_of_length_eq_zero (by have := hus.1; simpa using this.symm)
    subst this
    exact ⟨rfl, u', by rw [hm]; simp, hu⟩
  · rename_i hne
    by_cases hall : vs.all stv = true
    · simp only [hall, if_true] at h3
      obtain ⟨rfl, rfl, rfl⟩ := ret_some h3
      refine ⟨rfl, .tuple vs'.toArray, ?_, VR.weak (.tuple _ _ (by simpa using h2.1) fun i x y hx hy => ?_)⟩
      · rw [hm]
        have : vs'.toArray.size ≠ 1 := by
          intro h
          have hl : vs.length = 1 := by rw [h2.1]; simpa using h
          obtain ⟨u, rfl⟩ := List.length_eq_one_iff.1 hl
          exact hne u rfl
        rw [dif_neg this]
      · exact (h2.2 i x y (by simpa using hx) (by simpa using hy)).stv (List.all_eq_true.1 hall x (List.mem_of_getElem? (by simpa using hx)))
    · simp only [hall, if_false] at h3; cases h3
end

/-- What a call comes to in the end. -/
def Done (c : Ctx) : Ending → World → Prop := fun e w' => ∃ v' ρ', e = .returned v' ∧ VW ρ' c.z.1 v' ∧ R c.G ρ' c.z.2.2 w' ∧ Ext c.ρ c.h c.w ρ' c.z.2.2 w'

theorem rDone {c : Ctx} {fn : Func} {Γ : List (Nat × Value)} {m : M Value} {e : Exit} (he : e = .normal ∨ e = .ret) (hm : m = retK c.P c.G c.E fn.results.toList Γ) : OKq c (bodyPost c.P fn (Done c)) e Γ m := by
  intro n h ρ w a e r x l d
  rw [hm] at e
  obtain ⟨hh, v', h1, h2⟩ := retK_sim r l (show _ = some (c.z.1, c.z.2.1, c.z.2.2) from e)
  rcases he with rfl | rfl
  · exact ⟨d, v', h1, v', ρ, rfl, h2, hh ▸ r, hh ▸ x⟩
  · exact ⟨d, v', h1, v', ρ, rfl, h2, hh ▸ r, hh ▸ x⟩

/-- The arguments, as temporaries. -/
def args0 : Nat → List Value → List (Nat × Value)
  | _, [] => []
  | i, v :: r => (i, v) :: args0 (i + 1) r

theorem look_args0 : ∀ (vs : List Value) (i t : Nat), look (args0 i vs) t = if i ≤ t then vs.getD (t - i) undef else undef
  | [], i, t => by simp [args0, look]
  | v :: r, i, t => by
    simp only [args0, look]
    rw [look_args0 r (i + 1) t]
    by_cases h : t = i
    · subst h; simp
    · rw [if_neg h]
      by_cases h2 : i ≤ t
      · rw [if_pos (by omega), if_pos h2]
        rw [show t - i = (t - (i + 1)) + 1 by omega]
        simp
      · rw [if_neg (by omega), if_neg h2]

theorem Sim.of_body {P : Program} {G : Nat} {E : Env} {f : FuncId} {fn : Func} {x : Code} {m : List Value → M Value} (hf : P.funcs[f]? = some fn) (hb : fn.body = some x) (hcall : ∀ (args : Array Value) (w : World), (callFunc f args).run P w = .ok (.enter f args) w)
    (hlen : ∀ args : List Value, fn.ntmps < args.length → m args = fail)
    (h : ∀ (args : List Value) (ρ : Map) (h : H) (w : World) (z : Value × Nat × H), OKc ⟨P, G, E, fn.ntmps, ρ, h, w, z⟩ x (args0 0 args) (m args) (bodyPost P fn (Done ⟨P, G, E, fn.ntmps, ρ, h, w, z⟩))) : Sim P G f m := by
  refine ⟨hcall, fun args n h0 v n' h' e ρ w args' r hargs => ?_⟩
  have hle : args.length ≤ fn.ntmps := by
    rcases Nat.lt_or_ge fn.ntmps args.length with hlt | hge
    · rw [hlen args hlt] at e; cases e
    · exact hge
  have hl : Live ρ fn.ntmps (args0 0 args) { tmps := args'.toArray ++ Array.replicate (fn.ntmps - args'.toArray.size) undef, defers := [] } := by
    refine ⟨by have := hargs.1; simp; omega, fun t => ?_⟩
    rw [look_args0]
    simp only [Nat.zero_le, if_true, Nat.sub_zero]
    by_cases ht : t < args.length
    · have ht' : t < args'.length := hargs.1 ▸ ht
      have := hargs.2 t args[t] args'[t] (List.getElem?_eq_getElem ht) (List.getElem?_eq_getElem ht')
      have e1 : args.getD t undef = args[t] := by simp [List.getD, ht]
      have e2 : (args'.toArray ++ Array.replicate (fn.ntmps - args'.toArray.size) undef).getD t undef = args'[t] := by
        rw [Array.getD_eq_getD_getElem?, Array.getElem?_append_left (by simpa using ht')]
        simp [ht']
      rw [e1]
      show VW ρ _ ((args'.toArray ++ Array.replicate (fn.ntmps - args'.toArray.size) undef).getD t undef)
      rw [e2]
      exact this
    · left; left
      simp [List.getD, Nat.not_lt.1 ht]
  exact calls_of_wp hf hb (h args ρ h0 w (v, n', h') n h0 ρ w _ e r (Ext.refl _ _ _) hl rfl)
end Go.Fw
end
section
namespace Go.Fw

/-! ## Functions of the temporaries that live on -/

def Fn : List Nat → Type
  | [] => M Value
  | _ :: ts => Value → Fn ts

def appL : (ts : List Nat) → List Value → Fn ts → M Value
  | [], _, m => m
  | _ :: ts, x :: xs, k => appL ts xs (k x)
  | _ :: ts, [], k => appL ts [] (k undef)

def zipL : List Nat → List Value → List (Nat × Value) → List (Nat × Value)
  | [], _, acc => acc
  | t :: ts, x :: xs, acc => zipL ts xs ((t, x) :: acc)
  | t :: ts, [], acc => zipL ts [] ((t, undef) :: acc)

/-- The function at what is known of the temporaries. -/
def appK : (ts : List Nat) → List (Nat × Value) → Fn ts → M Value
  | [], _, m => m
  | t :: ts, Γ, k => appK ts Γ (k (look Γ t))

theorem appK_appL : ∀ (ts : List Nat) (Γ : List (Nat × Value)) (k : Fn ts), appK ts Γ k = appL ts (ts.map (look Γ)) k
  | [], _, _ => rfl
  | _ :: ts, Γ, k => appK_appL ts Γ (k _)

def AllK (c : Ctx) (Q : Exit → Act → World → Prop) (e : Exit) : (ts : List Nat) → List (Nat × Value) → Fn ts → Prop
  | [], acc, m => OKq c Q e acc m
  | t :: ts, acc, k => ∀ x, AllK c Q e ts ((t, x) :: acc) (k x)

def AllC (c : Ctx) (y : Code) (Q : Exit → Act → World → Prop) : (ts : List Nat) → List (Nat × Value) → Fn ts → Prop
  | [], acc, m => OKc c y acc m Q
  | t :: ts, acc, k => ∀ x, AllC c y Q ts ((t, x) :: acc) (k x)

def AllF : (ts : List Nat) → Fn ts → Prop
  | [], m => m = fail
  | _ :: ts, k => ∀ x, AllF ts (k x)

section
variable {c : Ctx} {Q : Exit → Act → World → Prop} {e : Exit} {y : Code}

theorem AllK.at_ : ∀ (ts : List Nat) (xs : List Value) (acc : List (Nat × Value)) (k : Fn ts), AllK c Q e ts acc k → OKq c Q e (zipL ts xs acc) (appL ts xs k)
  | [], _, _, _, h => h
  | _ :: ts, x :: xs, _, _, h => AllK.at_ ts xs _ _ (h x)
  | _ :: ts, [], _, _, h => AllK.at_ ts [] _ _ (h undef)
theorem AllC.at_ : ∀ (ts : List Nat) (xs : List Value) (acc : List (Nat × Value)) (k : Fn ts), AllC c y Q ts acc k → OKc c y (zipL ts xs acc) (appL ts xs k) Q
  | [], _, _, _, h => h
  | _ :: ts, x :: xs, _, _, h => AllC.at_ ts xs _ _ (h x)
  | _ :: ts, [], _, _, h => AllC.at_ ts [] _ _ (h undef)
theorem AllF.at_ : ∀ (ts : List Nat) (xs : List Value) (k : Fn ts), AllF ts k → appL ts xs k = fail
  | [], _, _, h => h
  | _ :: ts, x :: xs, _, h => AllF.at_ ts xs _ (h x)
  | _ :: ts, [], _, h => AllF.at_ ts [] _ (h undef)
theorem AllK.mk : ∀ (ts : List Nat) (acc : List (Nat × Value)) (k : Fn ts), (∀ xs, OKq c Q e (zipL ts xs acc) (appL ts xs k)) → AllK c Q e ts acc k
  | [], _, _, h => h []
  | _ :: ts, _, k, h => fun x => AllK.mk ts _ (k x) fun xs => h (x :: xs)

/-- What is known of the temporaries that live on, out of what is known of all. -/
theorem Live.zip {ρ : Map} {N : Nat} {Γ : List (Nat × Value)} {a : Act} (l : Live ρ N Γ a) : ∀ (ts : List Nat) (acc : List (Nat × Value)), Live ρ N acc a → Live ρ N (zipL ts (ts.map (look Γ)) acc) a
  | [], _, h => h
  | t :: ts, acc, h => Live.zip l ts _ ⟨h.size, fun s => by
      simp only [look]
      split
      · rename_i e; subst e; exact l.at_ s
      · exact h.at_ s⟩

theorem Live.nil {ρ : Map} {N : Nat} {Γ : List (Nat × Value)} {a : Act} (l : Live ρ N Γ a) : Live ρ N [] a := ⟨l.size, fun _ => .inl (.inl rfl)⟩

theorem qLess {Γ : List (Nat × Value)} {m : M Value} (ts : List Nat) (h : OKq c Q e (ts.map fun t => (t, look Γ t)) m) : OKq c Q e Γ m := OKq.less ts h
theorem cLess {Γ : List (Nat × Value)} {m : M Value} (ts : List Nat) (h : OKc c y (ts.map fun t => (t, look Γ t)) m Q) : OKc c y Γ m Q := OKc.less ts h

theorem cAs {Γ : List (Nat × Value)} {m m' : M Value} (hm : m = m') (h : OKc c y Γ m' Q) : OKc c y Γ m Q := hm ▸ h

theorem xRegion (hE : EnvOK c.P c.G c.E) (ts : List Nat) {Γ : List (Nat × Value)} {m : M Value} {id : Nat} {ops : Array Oper} {k : Fn ts} (hm : m = runK c.P c.G c.E c.N ops (List.range ops.size) Γ fun Γ' => appK ts Γ' k)
    (hK : AllK c Q .normal ts [] k) : OKc c (.region id ops false) Γ m Q := by
  intro n h ρ w a e r x l d
  rw [hm] at e
  obtain ⟨Γ', n', h', e1, e2⟩ := runK_runL _ _ _ _ e
  refine wp_region (runL_wpOps hE _ ρ h w Γ Γ' a n n' h' r l e1 fun a' ρ' w' l' d' r' x' => ?_)
  rw [appK_appL] at e2
  exact AllK.at_ ts _ _ _ hK _ _ _ _ _ e2 r' (x.trans x') (l'.zip ts [] l'.nil) (d'.trans d)

theorem xDraw (hmix : c.P.follows .mixedOrders = true) (hE : EnvOK c.P c.G c.E) (ts : List Nat) {Γ : List (Nat × Value)} {m : M Value} {id : Nat} {ops : Array Oper} {C : List Nat} {k : Fn ts} (hg : goodOrder ops C = true)
    (hm : m = drawK c.P c.G c.E c.N ops (bef ops) C [] Γ fun Γ' => appK ts Γ' k) (hK : AllK c Q .normal ts [] k) : OKc c (.region id ops true) Γ m Q := by
  intro n h ρ w a e r x l d
  rw [hm] at e
  have hnd : C.Pairwise (· ≠ ·) := by
    have := hg
    simp only [goodOrder, Bool.and_eq_true] at this
    exact (goodOrder_pairs this.2).imp fun h => h.1
  obtain ⟨β, ε, Γ2, n2, h2, hc, _, hrg, e2⟩ := drawK_crun C [] Γ n h hnd e
  refine draw_wp hmix hE hg hrg hc r l fun a' ρ' w' l' d' r' x' => ?_
  rw [appK_appL] at e2
  exact AllK.at_ ts _ _ _ hK _ _ _ _ _ e2 r' (x.trans x') (l'.zip ts [] l'.nil) (d'.trans d)

theorem xCond {Γ : List (Nat × Value)} {m : M Value} {o : Operand} {x z : Code} {v : Value} {mt mf : M Value} (hm : m = onB v mt mf) (ho : v = ev c.G Γ o) (hx : OKc c x Γ mt Q) (hz : OKc c z Γ mf Q) : OKc c (.cond o x z) Γ m Q :=
  rCond mt mf (by rw [hm, ho]) hx hz

/-- What comes behind is done once, however it is come to. -/
theorem xSeq {Γ : List (Nat × Value)} {m : M Value} {x z : Code} (ts : List Nat) (k : Fn ts) (hz : AllC c z Q ts [] k) (hx : AllK c (Exit.then (fun a w => z.wp c.P Q a w) Q) .normal ts [] k → OKc c x Γ m (Exit.then (fun a w => z.wp c.P Q a w) Q)) : OKc c (.seq x z) Γ m Q :=
  rSeq (hx (AllK.mk ts [] k fun xs => rThen (AllC.at_ ts xs [] k hz)))

theorem xThenX {K : Act → World → Prop} {Γ : List (Nat × Value)} {m : M Value} {id : Nat} (h : OKq c Q (.exit id) Γ m) : OKq c (Exit.then K Q) (.exit id) Γ m := h
theorem xThenR {K : Act → World → Prop} {Γ : List (Nat × Value)} {m : M Value} (h : OKq c Q .ret Γ m) : OKq c (Exit.then K Q) .ret Γ m := h
theorem xBlockN {id : Nat} {Γ : List (Nat × Value)} {m : M Value} (h : OKq c Q .normal Γ m) : OKq c (Exit.inBlock id Q) .normal Γ m := h
theorem xBlockR {id : Nat} {Γ : List (Nat × Value)} {m : M Value} (h : OKq c Q .ret Γ m) : OKq c (Exit.inBlock id Q) .ret Γ m := h

theorem xLoop (ts : List Nat) (Γf : List (Nat × Value)) (sh : Nat → Fn ts) (h0 : AllF ts (sh 0)) {body : Code}
    (hb : ∀ (I : Nat → Act → World → Prop), (∀ k, AllK c (Exit.then (fun a w => I k a w) Q) .normal ts Γf (sh k)) → ∀ k, AllC c body (Exit.then (fun a w => I k a w) Q) ts Γf (sh (k + 1))) (F : Nat) (xs : List Value) :
    OKc c (.loop body) (zipL ts xs Γf) (appL ts xs (sh F)) Q := by
  refine rLoop (σ := List Value) (fun xs => zipL ts xs Γf) (fun k xs => appL ts xs (sh k)) (fun s => AllF.at_ ts s _ h0) (fun I hI k s => ?_) F xs
  exact AllC.at_ ts s Γf _ (hb I (fun k => AllK.mk ts Γf _ fun xs => hI k xs) k)

theorem xLoopAt (ts : List Nat) (Γf : List (Nat × Value)) (sh : Nat → Fn ts) (F : Nat) (xs : List Value) {Γ : List (Nat × Value)} {m : M Value} (hm : m = appL ts xs (sh F)) (hΓ : Γ = zipL ts xs Γf) (h0 : AllF ts (sh 0)) {body : Code}
    (hb : ∀ (I : Nat → Act → World → Prop), (∀ k, AllK c (Exit.then (fun a w => I k a w) Q) .normal ts Γf (sh k)) → ∀ k, AllC c body (Exit.then (fun a w => I k a w) Q) ts Γf (sh (k + 1))) :
    OKc c (.loop body) Γ m Q := by
  subst hm hΓ
  exact xLoop ts Γf sh h0 hb F xs
end

theorem Sim.of_fail {P : Program} {G : Nat} {f : FuncId} {m : List Value → M Value} (hcall : ∀ (args : Array Value) (w : World), (callFunc f args).run P w = .ok (.enter f args) w) (hm : ∀ args, m args = fail) : Sim P G f m :=
  ⟨hcall, fun args n h v n' h' e => by rw [hm] at e; cases e⟩

/-! ## The environment of callees, as a list -/

def envOf : List (FuncId × (List Value → M Value)) → Env
  | [], _ => none
  | (g, m) :: r, f => if f = g then some m else envOf r f

theorem EnvOK.nil {P : Program} {G : Nat} : EnvOK P G (envOf []) := fun _ _ h => by cases h
theorem EnvOK.cons {P : Program} {G : Nat} {g : FuncId} {m : List Value → M Value} {r : List (FuncId × (List Value → M Value))} (h : Sim P G g m) (hr : EnvOK P G (envOf r)) : EnvOK P G (envOf ((g, m) :: r)) := by
  intro f m' hf
  unfold envOf at hf
  split at hf
  · rename_i e; subst e; cases hf; exact h
  · exact hr f m' hf

/-! ## A region's operations, out of the function -/

def findR (id : Nat) : Code → Option (Array Oper)
  | .region i ops _ => if i = id then some ops else none
  | .seq a b => (findR id a).or (findR id b)
  | .cond _ a b => (findR id a).or (findR id b)
  | .block _ b => findR id b
  | .loop b => findR id b
  | .scope b => findR id b
  | _ => none
def opsOf (fn : Func) (id : Nat) : Array Oper :=
  match fn.body with
  | some x => (findR id x).getD #[]
  | none => #[]

/-- A region of a function, and what is done with the temporaries that live on. -/
def rK (P : Program) (G : Nat) (E : Env) (f : Func) (id : Nat) (Γ : List (Nat × Value)) (ts : List Nat) (k : Fn ts) : M Value := runK P G E f.ntmps (opsOf f id) (List.range (opsOf f id).size) Γ fun Γ' => appK ts Γ' k
def dK (P : Program) (G : Nat) (E : Env) (f : Func) (id : Nat) (C : List Nat) (Γ : List (Nat × Value)) (ts : List Nat) (k : Fn ts) : M Value := drawK P G E f.ntmps (opsOf f id) (bef (opsOf f id)) C [] Γ fun Γ' => appK ts Γ' k

theorem xR {c : Ctx} {Q : Exit → Act → World → Prop} (hE : EnvOK c.P c.G c.E) (ts : List Nat) {Γ : List (Nat × Value)} {m : M Value} {f : Func} {id : Nat} {k : Fn ts} (hN : c.N = f.ntmps) (hm : m = rK c.P c.G c.E f id Γ ts k)
    (hK : AllK c Q .normal ts [] k) : OKc c (.region id (opsOf f id) false) Γ m Q :=
  xRegion hE ts (k := k) (by rw [hm, hN]; rfl) hK
theorem xD {c : Ctx} {Q : Exit → Act → World → Prop} (hmix : c.P.follows .mixedOrders = true) (hE : EnvOK c.P c.G c.E) (ts : List Nat) {Γ : List (Nat × Value)} {m : M Value} {f : Func} {id : Nat} {C : List Nat} {k : Fn ts} (hN : c.N = f.ntmps) (hg : goodOrder (opsOf f id) C = true)
    (hm : m = dK c.P c.G c.E f id C Γ ts k) (hK : AllK c Q .normal ts [] k) : OKc c (.region id (opsOf f id) true) Γ m Q :=
  xDraw hmix hE ts (k := k) hg (by rw [hm, hN]; rfl) hK

/-- How many rounds a loop may make at the most. -/
def fuel : Nat := 1000000000000000000

end Go.Fw
end
section
set_option linter.unusedVariables false
namespace Go.Fk
open Go Go.Fw

/-! ## Digits, addresses -/

inductive D where
  | d0 | d1 | d2 | d3 | d4 | d5 | d6 | d7 | d8 | d9 | d10 | d11 | d12 | d13 | d14 | d15
  deriving DecidableEq
structure Ad where
  d3 : D
  d2 : D
  d1 : D
  d0 : D
  deriving DecidableEq

/-! ## Values -/

inductive V where
  | u
  | sk
  | b (x : Bool)
  | i (z : Int)
  | k (k : IntKind) (z : Int)
  | w (n : Nat)
  | p (a : Ad) (o : Nat)
  | np
  | s (a : Ad) (o len cap : Nat)
  | ns
  | nil
  | cons (x r : V)
  | a (l : V)
  | t (l : V)
  | m (a : Ad)
  | nm
  | f (g : Nat) (l : V)
  | nf
  | c (t : Nat) (v : V)
  | ni
  | str (s : ByteArray)

/-- A block: none; read only; the run's own; grown by an append; one that is not looked at (a map's). -/
inductive Bk where
  | no
  | ro (l : V)
  | own (l : V)
  | grow (l : V)
  | dead (l : V)

/-! ## The tree -/

structure T1 where
  c0 : Bk
  c1 : Bk
  c2 : Bk
  c3 : Bk
  c4 : Bk
  c5 : Bk
  c6 : Bk
  c7 : Bk
  c8 : Bk
  c9 : Bk
  c10 : Bk
  c11 : Bk
  c12 : Bk
  c13 : Bk
  c14 : Bk
  c15 : Bk

structure T2 where
  c0 : T1
  c1 : T1
  c2 : T1
  c3 : T1
  c4 : T1
  c5 : T1
  c6 : T1
  c7 : T1
  c8 : T1
  c9 : T1
  c10 : T1
  c11 : T1
  c12 : T1
  c13 : T1
  c14 : T1
  c15 : T1

structure T3 where
  c0 : T2
  c1 : T2
  c2 : T2
  c3 : T2
  c4 : T2
  c5 : T2
  c6 : T2
  c7 : T2
  c8 : T2
  c9 : T2
  c10 : T2
  c11 : T2
  c12 : T2
  c13 : T2
  c14 : T2
  c15 : T2

structure T4 where
  c0 : T3
  c1 : T3
  c2 : T3
  c3 : T3
  c4 : T3
  c5 : T3
  c6 : T3
  c7 : T3
  c8 : T3
  c9 : T3
  c10 : T3
  c11 : T3
  c12 : T3
  c13 : T3
  c14 : T3
  c15 : T3

noncomputable def g1 : D → T1 → Bk := @D.rec (fun _ => T1 → Bk) (fun t => t.c0) (fun t => t.c1) (fun t => t.c2) (fun t => t.c3) (fun t => t.c4) (fun t => t.c5) (fun t => t.c6) (fun t => t.c7) (fun t => t.c8) (fun t => t.c9) (fun t => t.c10) (fun t => t.c11) (fun t => t.c12) (fun t => t.c13) (fun t => t.c14) (fun t => t.c15)
noncomputable def u1_0 (f : Bk → Bk) (t : T1) : T1 := @T1.rec (fun _ => T1) (fun c0 c1 c2 c3 c4 c5 c6 c7 c8 c9 c10 c11 c12 c13 c14 c15 => T1.mk (f c0) c1 c2 c3 c4 c5 c6 c7 c8 c9 c10 c11 c12 c13 c14 c15) t
noncomputable def u1_1 (f : Bk → Bk) (t : T1) : T1 := @T1.rec (fun _ => T1) (fun c0 c1 c2 c3 c4 c5 c6 c7 c8 c9 c10 c11 c12 c13 c14 c15 => T1.mk c0 (f c1) c2 c3 c4 c5 c6 c7 c8 c9 c10 c11 c12 c13 c14 c15) t
noncomputable def u1_2 (f : Bk → Bk) (t : T1) : T1 := @T1.rec (fun _ => T1) (fun c0 c1 c2 c3 c4 c5 c6 c7 c8 c9 c10 c11 c12 c13 c14 c15 => T1.mk c0 c1 (f c2) c3 c4 c5 c6 c7 c8 c9 c10 c11 c12 c13 c14 c15) t
noncomputable def u1_3 (f : Bk → Bk) (t : T1) : T1 := @T1.rec (fun _ => T1) (fun c0 c1 c2 c3 c4 c5 c6 c7 c8 c9 c10 c11 c12 c13 c14 c15 => T1.mk c0 c1 c2 (f c3) c4 c5 c6 c7 c8 c9 c10 c11 c12 c13 c14 c15) t
noncomputable def u1_4 (f : Bk → Bk) (t : T1) : T1 := @T1.rec (fun _ => T1) (fun c0 c1 c2 c3 c4 c5 c6 c7 c8 c9 c10 c11 c12 c13 c14 c15 => T1.mk c0 c1 c2 c3 (f c4) c5 c6 c7 c8 c9 c10 c11 c12 c13 c14 c15) t
noncomputable def u1_5 (f : Bk → Bk) (t : T1) : T1 := @T1.rec (fun _ => T1) (fun c0 c1 c2 c3 c4 c5 c6 c7 c8 c9 c10 c11 c12 c13 c14 c15 => T1.mk c0 c1 c2 c3 c4 (f c5) c6 c7 c8 c9 c10 c11 c12 c13 c14 c15) t
noncomputable def u1_6 (f : Bk → Bk) (t : T1) : T1 := @T1.rec (fun _ => T1) (fun c0 c1 c2 c3 c4 c5 c6 c7 c8 c9 c10 c11 c12 c13 c14 c15 => T1.mk c0 c1 c2 c3 c4 c5 (f c6) c7 c8 c9 c10 c11 c12 c13 c14 c15) t
noncomputable def u1_7 (f : Bk → Bk) (t : T1) : T1 := @T1.rec (fun _ => T1) (fun c0 c1 c2 c3 c4 c5 c6 c7 c8 c9 c10 c11 c12 c13 c14 c15 => T1.mk c0 c1 c2 c3 c4 c5 c6 (f c7) c8 c9 c10 c11 c12 c13 c14 c15) t
noncomputable def u1_8 (f : Bk → Bk) (t : T1) : T1 := @T1.rec (fun _ => T1) (fun c0 c1 c2 c3 c4 c5 c6 c7 c8 c9 c10 c11 c12 c13 c14 c15 => T1.mk c0 c1 c2 c3 c4 c5 c6 c7 (f c8) c9 c10 c11 c12 c13 c14 c15) t
noncomputable def u1_9 (f : Bk → Bk) (t : T1) : T1 := @T1.rec (fun _ => T1) (fun c0 c1 c2 c3 c4 c5 c6 c7 c8 c9 c10 c11 c12 c13 c14 c15 => T1.mk c0 c1 c2 c3 c4 c5 c6 c7 c8 (f c9) c10 c11 c12 c13 c14 c15) t
noncomputable def u1_10 (f : Bk → Bk) (t : T1) : T1 := @T1.rec (fun _ => T1) (fun c0 c1 c2 c3 c4 c5 c6 c7 c8 c9 c10 c11 c12 c13 c14 c15 => T1.mk c0 c1 c2 c3 c4 c5 c6 c7 c8 c9 (f c10) c11 c12 c13 c14 c15) t
noncomputable def u1_11 (f : Bk → Bk) (t : T1) : T1 := @T1.rec (fun _ => T1) (fun c0 c1 c2 c3 c4 c5 c6 c7 c8 c9 c10 c11 c12 c13 c14 c15 => T1.mk c0 c1 c2 c3 c4 c5 c6 c7 c8 c9 c10 (f c11) c12 c13 c14 c15) t
noncomputable def u1_12 (f : Bk → Bk) (t : T1) : T1 := @T1.rec (fun _ => T1) (fun c0 c1 c2 c3 c4 c5 c6 c7 c8 c9 c10 c11 c12 c13 c14 c15 => T1.mk c0 c1 c2 c3 c4 c5 c6 c7 c8 c9 c10 c11 (f c12) c13 c14 c15) t
noncomputable def u1_13 (f : Bk → Bk) (t : T1) : T1 := @T1.rec (fun _ => T1) (fun c0 c1 c2 c3 c4 c5 c6 c7 c8 c9 c10 c11 c12 c13 c14 c15 => T1.mk c0 c1 c2 c3 c4 c5 c6 c7 c8 c9 c10 c11 c12 (f c13) c14 c15) t
noncomputable def u1_14 (f : Bk → Bk) (t : T1) : T1 := @T1.rec (fun _ => T1) (fun c0 c1 c2 c3 c4 c5 c6 c7 c8 c9 c10 c11 c12 c13 c14 c15 => T1.mk c0 c1 c2 c3 c4 c5 c6 c7 c8 c9 c10 c11 c12 c13 (f c14) c15) t
noncomputable def u1_15 (f : Bk → Bk) (t : T1) : T1 := @T1.rec (fun _ => T1) (fun c0 c1 c2 c3 c4 c5 c6 c7 c8 c9 c10 c11 c12 c13 c14 c15 => T1.mk c0 c1 c2 c3 c4 c5 c6 c7 c8 c9 c10 c11 c12 c13 c14 (f c15)) t
noncomputable def s1 : D → (Bk → Bk) → T1 → T1 := @D.rec (fun _ => (Bk → Bk) → T1 → T1) u1_0 u1_1 u1_2 u1_3 u1_4 u1_5 u1_6 u1_7 u1_8 u1_9 u1_10 u1_11 u1_12 u1_13 u1_14 u1_15
theorem g1_same (d : D) (f : Bk → Bk) (t : T1) : g1 d (s1 d f t) = f (g1 d t) := by cases d <;> cases t <;> rfl
theorem g1_ne {d e : D} (h : d ≠ e) (f : Bk → Bk) (t : T1) : g1 d (s1 e f t) = g1 d t := by cases d <;> cases e <;> first | exact absurd rfl h | (cases t; rfl)

noncomputable def g2 : D → T2 → T1 := @D.rec (fun _ => T2 → T1) (fun t => t.c0) (fun t => t.c1) (fun t => t.c2) (fun t => t.c3) (fun t => t.c4) (fun t => t.c5) (fun t => t.c6) (fun t => t.c7) (fun t => t.c8) (fun t => t.c9) (fun t => t.c10) (fun t => t.c11) (fun t => t.c12) (fun t => t.c13) (fun t => t.c14) (fun t => t.c15)
noncomputable def u2_0 (f : T1 → T1) (t : T2) : T2 := @T2.rec (fun _ => T2) (fun c0 c1 c2 c3 c4 c5 c6 c7 c8 c9 c10 c11 c12 c13 c14 c15 => T2.mk (f c0) c1 c2 c3 c4 c5 c6 c7 c8 c9 c10 c11 c12 c13 c14 c15) t
noncomputable def u2_1 (f : T1 → T1) (t : T2) : T2 := @T2.rec (fun _ => T2) (fun c0 c1 c2 c3 c4 c5 c6 c7 c8 c9 c10 c11 c12 c13 c14 c15 => T2.mk c0 (f c1) c2 c3 c4 c5 c6 c7 c8 c9 c10 c11 c12 c13 c14 c15) t
noncomputable def u2_2 (f : T1 → T1) (t : T2) : T2 := @T2.rec (fun _ => T2) (fun c0 c1 c2 c3 c4 c5 c6 c7 c8 c9 c10 c11 c12 c13 c14 c15 => T2.mk c0 c1 (f c2) c3 c4 c5 c6 c7 c8 c9 c10 c11 c12 c13 c14 c15) t
noncomputable def u2_3 (f : T1 → T1) (t : T2) : T2 := @T2.rec (fun _ => T2) (fun c0 c1 c2 c3 c4 c5 c6 c7 c8 c9 c10 c11 c12 c13 c14 c15 => T2.mk c0 c1 c2 (f c3) c4 c5 c6 c7 c8 c9 c10 c11 c12 c13 c14 c15) t
noncomputable def u2_4 (f : T1 → T1) (t : T2) : T2 := @T2.rec (fun _ => T2) (fun c0 c1 c2 c3 c4 c5 c6 c7 c8 c9 c10 c11 c12 c13 c14 c15 => T2.mk c0 c1 c2 c3 (f c4) c5 c6 c7 c8 c9 c10 c11 c12 c13 c14 c15) t
noncomputable def u2_5 (f : T1 → T1) (t : T2) : T2 := @T2.rec (fun _ => T2) (fun c0 c1 c2 c3 c4 c5 c6 c7 c8 c9 c10 c11 c12 c13 c14 c15 => T2.mk c0 c1 c2 c3 c4 (f c5) c6 c7 c8 c9 c10 c11 c12 c13 c14 c15) t
noncomputable def u2_6 (f : T1 → T1) (t : T2) : T2 := @T2.rec (fun _ => T2) (fun c0 c1 c2 c3 c4 c5 c6 c7 c8 c9 c10 c11 c12 c13 c14 c15 => T2.mk c0 c1 c2 c3 c4 c5 (f c6) c7 c8 c9 c10 c11 c12 c13 c14 c15) t
noncomputable def u2_7 (f : T1 → T1) (t : T2) : T2 := @T2.rec (fun _ => T2) (fun c0 c1 c2 c3 c4 c5 c6 c7 c8 c9 c10 c11 c12 c13 c14 c15 => T2.mk c0 c1 c2 c3 c4 c5 c6 (f c7) c8 c9 c10 c11 c12 c13 c14 c15) t
noncomputable def u2_8 (f : T1 → T1) (t : T2) : T2 := @T2.rec (fun _ => T2) (fun c0 c1 c2 c3 c4 c5 c6 c7 c8 c9 c10 c11 c12 c13 c14 c15 => T2.mk c0 c1 c2 c3 c4 c5 c6 c7 (f c8) c9 c10 c11 c12 c13 c14 c15) t
noncomputable def u2_9 (f : T1 → T1) (t : T2) : T2 := @T2.rec (fun _ => T2) (fun c0 c1 c2 c3 c4 c5 c6 c7 c8 c9 c10 c11 c12 c13 c14 c15 => T2.mk c0 c1 c2 c3 c4 c5 c6 c7 c8 (f c9) c10 c11 c12 c13 c14 c15) t
noncomputable def u2_10 (f : T1 → T1) (t : T2) : T2 := @T2.rec (fun _ => T2) (fun c0 c1 c2 c3 c4 c5 c6 c7 c8 c9 c10 c11 c12 c13 c14 c15 => T2.mk c0 c1 c2 c3 c4 c5 c6 c7 c8 c9 (f c10) c11 c12 c13 c14 c15) t
noncomputable def u2_11 (f : T1 → T1) (t : T2) : T2 := @T2.rec (fun _ => T2) (fun c0 c1 c2 c3 c4 c5 c6 c7 c8 c9 c10 c11 c12 c13 c14 c15 => T2.mk c0 c1 c2 c3 c4 c5 c6 c7 c8 c9 c10 (f c11) c12 c13 c14 c15) t
noncomputable def u2_12 (f : T1 → T1) (t : T2) : T2 := @T2.rec (fun _ => T2) (fun c0 c1 c2 c3 c4 c5 c6 c7 c8 c9 c10 c11 c12 c13 c14 c15 => T2.mk c0 c1 c2 c3 c4 c5 c6 c7 c8 c9 c10 c11 (f c12) c13 c14 c15) t
noncomputable def u2_13 (f : T1 → T1) (t : T2) : T2 := @T2.rec (fun _ => T2) (fun c0 c1 c2 c3 c4 c5 c6 c7 c8 c9 c10 c11 c12 c13 c14 c15 => T2.mk c0 c1 c2 c3 c4 c5 c6 c7 c8 c9 c10 c11 c12 (f c13) c14 c15) t
noncomputable def u2_14 (f : T1 → T1) (t : T2) : T2 := @T2.rec (fun _ => T2) (fun c0 c1 c2 c3 c4 c5 c6 c7 c8 c9 c10 c11 c12 c13 c14 c15 => T2.mk c0 c1 c2 c3 c4 c5 c6 c7 c8 c9 c10 c11 c12 c13 (f c14) c15) t
noncomputable def u2_15 (f : T1 → T1) (t : T2) : T2 := @T2.rec (fun _ => T2) (fun c0 c1 c2 c3 c4 c5 c6 c7 c8 c9 c10 c11 c12 c13 c14 c15 => T2.mk c0 c1 c2 c3 c4 c5 c6 c7 c8 c9 c10 c11 c12 c13 c14 (f c15)) t
noncomputable def s2 : D → (T1 → T1) → T2 → T2 := @D.rec (fun _ => (T1 → T1) → T2 → T2) u2_0 u2_1 u2_2 u2_3 u2_4 u2_5 u2_6 u2_7 u2_8 u2_9 u2_10 u2_11 u2_12 u2_13 u2_14 u2_15
theorem g2_same (d : D) (f : T1 → T1) (t : T2) : g2 d (s2 d f t) = f (g2 d t) := by cases d <;> cases t <;> rfl
theorem g2_ne {d e : D} (h : d ≠ e) (f : T1 → T1) (t : T2) : g2 d (s2 e f t) = g2 d t := by cases d <;> cases e <;> first | exact absurd rfl h | (cases t; rfl)

noncomputable def g3 : D → T3 → T2 := @D.rec (fun _ => T3 → T2) (fun t => t.c0) (fun t => t.c1) (fun t => t.c2) (fun t => t.c3) (fun t => t.c4) (fun t => t.c5) (fun t => t.c6) (fun t => t.c7) (fun t => t.c8) (fun t => t.c9) (fun t => t.c10) (fun t => t.c11) (fun t => t.c12) (fun t => t.c13) (fun t => t.c14) (fun t => t.c15)
noncomputable def u3_0 (f : T2 → T2) (t : T3) : T3 := @T3.rec (fun _ => T3) (fun c0 c1 c2 c3 c4 c5 c6 c7 c8 c9 c10 c11 c12 c13 c14 c15 => T3.mk (f c0) c1 c2 c3 c4 c5 c6 c7 c8 c9 c10 c11 c12 c13 c14 c15) t
noncomputable def u3_1 (f : T2 → T2) (t : T3) : T3 := @T3.rec (fun _ => T3) (fun c0 c1 c2 c3 c4 c5 c6 c7 c8 c9 c10 c11 c12 c13 c14 c15 => T3.mk c0 (f c1) c2 c3 c4 c5 c6 c7 c8 c9 c10 c11 c12 c13 c14 c15) t
noncomputable def u3_2 (f : T2 → T2) (t : T3) : T3 := @T3.rec (fun _ => T3) (fun c0 c1 c2 c3 c4 c5 c6 c7 c8 c9 c10 c11 c12 c13 c14 c15 => T3.mk c0 c1 (f c2) c3 c4 c5 c6 c7 c8 c9 c10 c11 c12 c13 c14 c15) t
noncomputable def u3_3 (f : T2 → T2) (t : T3) : T3 := @T3.rec (fun _ => T3) (fun c0 c1 c2 c3 c4 c5 c6 c7 c8 c9 c10 c11 c12 c13 c14 c15 => T3.mk c0 c1 c2 (f c3) c4 c5 c6 c7 c8 c9 c10 c11 c12 c13 c14 c15) t
noncomputable def u3_4 (f : T2 → T2) (t : T3) : T3 := @T3.rec (fun _ => T3) (fun c0 c1 c2 c3 c4 c5 c6 c7 c8 c9 c10 c11 c12 c13 c14 c15 => T3.mk c0 c1 c2 c3 (f c4) c5 c6 c7 c8 c9 c10 c11 c12 c13 c14 c15) t
noncomputable def u3_5 (f : T2 → T2) (t : T3) : T3 := @T3.rec (fun _ => T3) (fun c0 c1 c2 c3 c4 c5 c6 c7 c8 c9 c10 c11 c12 c13 c14 c15 => T3.mk c0 c1 c2 c3 c4 (f c5) c6 c7 c8 c9 c10 c11 c12 c13 c14 c15) t
noncomputable def u3_6 (f : T2 → T2) (t : T3) : T3 := @T3.rec (fun _ => T3) (fun c0 c1 c2 c3 c4 c5 c6 c7 c8 c9 c10 c11 c12 c13 c14 c15 => T3.mk c0 c1 c2 c3 c4 c5 (f c6) c7 c8 c9 c10 c11 c12 c13 c14 c15) t
noncomputable def u3_7 (f : T2 → T2) (t : T3) : T3 := @T3.rec (fun _ => T3) (fun c0 c1 c2 c3 c4 c5 c6 c7 c8 c9 c10 c11 c12 c13 c14 c15 => T3.mk c0 c1 c2 c3 c4 c5 c6 (f c7) c8 c9 c10 c11 c12 c13 c14 c15) t
noncomputable def u3_8 (f : T2 → T2) (t : T3) : T3 := @T3.rec (fun _ => T3) (fun c0 c1 c2 c3 c4 c5 c6 c7 c8 c9 c10 c11 c12 c13 c14 c15 => T3.mk c0 c1 c2 c3 c4 c5 c6 c7 (f c8) c9 c10 c11 c12 c13 c14 c15) t
noncomputable def u3_9 (f : T2 → T2) (t : T3) : T3 := @T3.rec (fun _ => T3) (fun c0 c1 c2 c3 c4 c5 c6 c7 c8 c9 c10 c11 c12 c13 c14 c15 => T3.mk c0 c1 c2 c3 c4 c5 c6 c7 c8 (f c9) c10 c11 c12 c13 c14 c15) t
noncomputable def u3_10 (f : T2 → T2) (t : T3) : T3 := @T3.rec (fun _ => T3) (fun c0 c1 c2 c3 c4 c5 c6 c7 c8 c9 c10 c11 c12 c13 c14 c15 => T3.mk c0 c1 c2 c3 c4 c5 c6 c7 c8 c9 (f c10) c11 c12 c13 c14 c15) t
noncomputable def u3_11 (f : T2 → T2) (t : T3) : T3 := @T3.rec (fun _ => T3) (fun c0 c1 c2 c3 c4 c5 c6 c7 c8 c9 c10 c11 c12 c13 c14 c15 => T3.mk c0 c1 c2 c3 c4 c5 c6 c7 c8 c9 c10 (f c11) c12 c13 c14 c15) t
noncomputable def u3_12 (f : T2 → T2) (t : T3) : T3 := @T3.rec (fun _ => T3) (fun c0 c1 c2 c3 c4 c5 c6 c7 c8 c9 c10 c11 c12 c13 c14 c15 => T3.mk c0 c1 c2 c3 c4 c5 c6 c7 c8 c9 c10 c11 (f c12) c13 c14 c15) t
noncomputable def u3_13 (f : T2 → T2) (t : T3) : T3 := @T3.rec (fun _ => T3) (fun c0 c1 c2 c3 c4 c5 c6 c7 c8 c9 c10 c11 c12 c13 c14 c15 => T3.mk c0 c1 c2 c3 c4 c5 c6 c7 c8 c9 c10 c11 c12 (f c13) c14 c15) t
noncomputable def u3_14 (f : T2 → T2) (t : T3) : T3 := @T3.rec (fun _ => T3) (fun c0 c1 c2 c3 c4 c5 c6 c7 c8 c9 c10 c11 c12 c13 c14 c15 => T3.mk c0 c1 c2 c3 c4 c5 c6 c7 c8 c9 c10 c11 c12 c13 (f c14) c15) t
noncomputable def u3_15 (f : T2 → T2) (t : T3) : T3 := @T3.rec (fun _ => T3) (fun c0 c1 c2 c3 c4 c5 c6 c7 c8 c9 c10 c11 c12 c13 c14 c15 => T3.mk c0 c1 c2 c3 c4 c5 c6 c7 c8 c9 c10 c11 c12 c13 c14 (f c15)) t
noncomputable def s3 : D → (T2 → T2) → T3 → T3 := @D.rec (fun _ => (T2 → T2) → T3 → T3) u3_0 u3_1 u3_2 u3_3 u3_4 u3_5 u3_6 u3_7 u3_8 u3_9 u3_10 u3_11 u3_12 u3_13 u3_14 u3_15
theorem g3_same (d : D) (f : T2 → T2) (t : T3) : g3 d (s3 d f t) = f (g3 d t) := by cases d <;> cases t <;> rfl
theorem g3_ne {d e : D} (h : d ≠ e) (f : T2 → T2) (t : T3) : g3 d (s3 e f t) = g3 d t := by cases d <;> cases e <;> first | exact absurd rfl h | (cases t; rfl)

noncomputable def g4 : D → T4 → T3 := @D.rec (fun _ => T4 → T3) (fun t => t.c0) (fun t => t.c1) (fun t => t.c2) (fun t => t.c3) (fun t => t.c4) (fun t => t.c5) (fun t => t.c6) (fun t => t.c7) (fun t => t.c8) (fun t => t.c9) (fun t => t.c10) (fun t => t.c11) (fun t => t.c12) (fun t => t.c13) (fun t => t.c14) (fun t => t.c15)
noncomputable def u4_0 (f : T3 → T3) (t : T4) : T4 := @T4.rec (fun _ => T4) (fun c0 c1 c2 c3 c4 c5 c6 c7 c8 c9 c10 c11 c12 c13 c14 c15 => T4.mk (f c0) c1 c2 c3 c4 c5 c6 c7 c8 c9 c10 c11 c12 c13 c14 c15) t
noncomputable def u4_1 (f : T3 → T3) (t : T4) : T4 := @T4.rec (fun _ => T4) (fun c0 c1 c2 c3 c4 c5 c6 c7 c8 c9 c10 c11 c12 c13 c14 c15 => T4.mk c0 (f c1) c2 c3 c4 c5 c6 c7 c8 c9 c10 c11 c12 c13 c14 c15) t
noncomputable def u4_2 (f : T3 → T3) (t : T4) : T4 := @T4.rec (fun _ => T4) (fun c0 c1 c2 c3 c4 c5 c6 c7 c8 c9 c10 c11 c12 c13 c14 c15 => T4.mk c0 c1 (f c2) c3 c4 c5 c6 c7 c8 c9 c10 c11 c12 c13 c14 c15) t
noncomputable def u4_3 (f : T3 → T3) (t : T4) : T4 := @T4.rec (fun _ => T4) (fun c0 c1 c2 c3 c4 c5 c6 c7 c8 c9 c10 c11 c12 c13 c14 c15 => T4.mk c0 c1 c2 (f c3) c4 c5 c6 c7 c8 c9 c10 c11 c12 c13 c14 c15) t
noncomputable def u4_4 (f : T3 → T3) (t : T4) : T4 := @T4.rec (fun _ => T4) (fun c0 c1 c2 c3 c4 c5 c6 c7 c8 c9 c10 c11 c12 c13 c14 c15 => T4.mk c0 c1 c2 c3 (f c4) c5 c6 c7 c8 c9 c10 c11 c12 c13 c14 c15) t
noncomputable def u4_5 (f : T3 → T3) (t : T4) : T4 := @T4.rec (fun _ => T4) (fun c0 c1 c2 c3 c4 c5 c6 c7 c8 c9 c10 c11 c12 c13 c14 c15 => T4.mk c0 c1 c2 c3 c4 (f c5) c6 c7 c8 c9 c10 c11 c12 c13 c14 c15) t
noncomputable def u4_6 (f : T3 → T3) (t : T4) : T4 := @T4.rec (fun _ => T4) (fun c0 c1 c2 c3 c4 c5 c6 c7 c8 c9 c10 c11 c12 c13 c14 c15 => T4.mk c0 c1 c2 c3 c4 c5 (f c6) c7 c8 c9 c10 c11 c12 c13 c14 c15) t
noncomputable def u4_7 (f : T3 → T3) (t : T4) : T4 := @T4.rec (fun _ => T4) (fun c0 c1 c2 c3 c4 c5 c6 c7 c8 c9 c10 c11 c12 c13 c14 c15 => T4.mk c0 c1 c2 c3 c4 c5 c6 (f c7) c8 c9 c10 c11 c12 c13 c14 c15) t
noncomputable def u4_8 (f : T3 → T3) (t : T4) : T4 := @T4.rec (fun _ => T4) (fun c0 c1 c2 c3 c4 c5 c6 c7 c8 c9 c10 c11 c12 c13 c14 c15 => T4.mk c0 c1 c2 c3 c4 c5 c6 c7 (f c8) c9 c10 c11 c12 c13 c14 c15) t
noncomputable def u4_9 (f : T3 → T3) (t : T4) : T4 := @T4.rec (fun _ => T4) (fun c0 c1 c2 c3 c4 c5 c6 c7 c8 c9 c10 c11 c12 c13 c14 c15 => T4.mk c0 c1 c2 c3 c4 c5 c6 c7 c8 (f c9) c10 c11 c12 c13 c14 c15) t
noncomputable def u4_10 (f : T3 → T3) (t : T4) : T4 := @T4.rec (fun _ => T4) (fun c0 c1 c2 c3 c4 c5 c6 c7 c8 c9 c10 c11 c12 c13 c14 c15 => T4.mk c0 c1 c2 c3 c4 c5 c6 c7 c8 c9 (f c10) c11 c12 c13 c14 c15) t
noncomputable def u4_11 (f : T3 → T3) (t : T4) : T4 := @T4.rec (fun _ => T4) (fun c0 c1 c2 c3 c4 c5 c6 c7 c8 c9 c10 c11 c12 c13 c14 c15 => T4.mk c0 c1 c2 c3 c4 c5 c6 c7 c8 c9 c10 (f c11) c12 c13 c14 c15) t
noncomputable def u4_12 (f : T3 → T3) (t : T4) : T4 := @T4.rec (fun _ => T4) (fun c0 c1 c2 c3 c4 c5 c6 c7 c8 c9 c10 c11 c12 c13 c14 c15 => T4.mk c0 c1 c2 c3 c4 c5 c6 c7 c8 c9 c10 c11 (f c12) c13 c14 c15) t
noncomputable def u4_13 (f : T3 → T3) (t : T4) : T4 := @T4.rec (fun _ => T4) (fun c0 c1 c2 c3 c4 c5 c6 c7 c8 c9 c10 c11 c12 c13 c14 c15 => T4.mk c0 c1 c2 c3 c4 c5 c6 c7 c8 c9 c10 c11 c12 (f c13) c14 c15) t
noncomputable def u4_14 (f : T3 → T3) (t : T4) : T4 := @T4.rec (fun _ => T4) (fun c0 c1 c2 c3 c4 c5 c6 c7 c8 c9 c10 c11 c12 c13 c14 c15 => T4.mk c0 c1 c2 c3 c4 c5 c6 c7 c8 c9 c10 c11 c12 c13 (f c14) c15) t
noncomputable def u4_15 (f : T3 → T3) (t : T4) : T4 := @T4.rec (fun _ => T4) (fun c0 c1 c2 c3 c4 c5 c6 c7 c8 c9 c10 c11 c12 c13 c14 c15 => T4.mk c0 c1 c2 c3 c4 c5 c6 c7 c8 c9 c10 c11 c12 c13 c14 (f c15)) t
noncomputable def s4 : D → (T3 → T3) → T4 → T4 := @D.rec (fun _ => (T3 → T3) → T4 → T4) u4_0 u4_1 u4_2 u4_3 u4_4 u4_5 u4_6 u4_7 u4_8 u4_9 u4_10 u4_11 u4_12 u4_13 u4_14 u4_15
theorem g4_same (d : D) (f : T3 → T3) (t : T4) : g4 d (s4 d f t) = f (g4 d t) := by cases d <;> cases t <;> rfl
theorem g4_ne {d e : D} (h : d ≠ e) (f : T3 → T3) (t : T4) : g4 d (s4 e f t) = g4 d t := by cases d <;> cases e <;> first | exact absurd rfl h | (cases t; rfl)

def z1 : T1 := ⟨.no, .no, .no, .no, .no, .no, .no, .no, .no, .no, .no, .no, .no, .no, .no, .no⟩
def z2 : T2 := ⟨z1, z1, z1, z1, z1, z1, z1, z1, z1, z1, z1, z1, z1, z1, z1, z1⟩
def z3 : T3 := ⟨z2, z2, z2, z2, z2, z2, z2, z2, z2, z2, z2, z2, z2, z2, z2, z2⟩
def z4 : T4 := ⟨z3, z3, z3, z3, z3, z3, z3, z3, z3, z3, z3, z3, z3, z3, z3, z3⟩

noncomputable def get (a : Ad) (t : T4) : Bk := g1 a.d0 (g2 a.d1 (g3 a.d2 (g4 a.d3 t)))
noncomputable def upd (a : Ad) (f : Bk → Bk) (t : T4) : T4 := s4 a.d3 (s3 a.d2 (s2 a.d1 (s1 a.d0 f))) t
noncomputable def put (a : Ad) (x : Bk) (t : T4) : T4 := upd a (fun _ => x) t

theorem get_upd (a : Ad) (f : Bk → Bk) (t : T4) : get a (upd a f t) = f (get a t) := by
  unfold get upd
  rw [g4_same, g3_same, g2_same, g1_same]
theorem get_upd_ne {a e : Ad} (h : a ≠ e) (f : Bk → Bk) (t : T4) : get a (upd e f t) = get a t := by
  obtain ⟨a3, a2, a1, a0⟩ := a
  obtain ⟨e3, e2, e1, e0⟩ := e
  unfold get upd
  dsimp only
  by_cases h3 : a3 = e3
  · subst h3
    rw [g4_same]
    by_cases h2 : a2 = e2
    · subst h2
      rw [g3_same]
      by_cases h1 : a1 = e1
      · subst h1
        rw [g2_same]
        have h0 : a0 ≠ e0 := fun q => h (by rw [q])
        rw [g1_ne h0]
      · rw [g2_ne h1]
    · rw [g3_ne h2]
  · rw [g4_ne h3]
theorem get_put (a : Ad) (x : Bk) (t : T4) : get a (put a x t) = x := get_upd _ _ _
theorem get_put_ne {a e : Ad} (h : a ≠ e) (x : Bk) (t : T4) : get a (put e x t) = get a t := get_upd_ne h _ _
theorem get_z (a : Ad) : get a z4 = .no := by
  obtain ⟨a3, a2, a1, a0⟩ := a
  have h4 : g4 a3 z4 = z3 := by cases a3 <;> rfl
  have h3 : g3 a2 z3 = z2 := by cases a2 <;> rfl
  have h2 : g2 a1 z2 = z1 := by cases a1 <;> rfl
  have h1 : g1 a0 z1 = .no := by cases a0 <;> rfl
  unfold get
  dsimp only
  rw [h4, h3, h2, h1]

/-! ## Numbers of addresses -/

def dn : D → Nat
  | .d0 => 0
  | .d1 => 1
  | .d2 => 2
  | .d3 => 3
  | .d4 => 4
  | .d5 => 5
  | .d6 => 6
  | .d7 => 7
  | .d8 => 8
  | .d9 => 9
  | .d10 => 10
  | .d11 => 11
  | .d12 => 12
  | .d13 => 13
  | .d14 => 14
  | .d15 => 15
theorem dn_lt (d : D) : dn d < 16 := by cases d <;> decide
theorem dn_inj {d e : D} (h : dn d = dn e) : d = e := by cases d <;> cases e <;> first | rfl | (exact absurd h (by decide))
def dOf : Nat → D
  | 0 => .d0
  | 1 => .d1
  | 2 => .d2
  | 3 => .d3
  | 4 => .d4
  | 5 => .d5
  | 6 => .d6
  | 7 => .d7
  | 8 => .d8
  | 9 => .d9
  | 10 => .d10
  | 11 => .d11
  | 12 => .d12
  | 13 => .d13
  | 14 => .d14
  | _ => .d15
theorem dn_dOf {n : Nat} (h : n < 16) : dn (dOf n) = n := by
  have : n = 0 ∨ n = 1 ∨ n = 2 ∨ n = 3 ∨ n = 4 ∨ n = 5 ∨ n = 6 ∨ n = 7 ∨ n = 8 ∨ n = 9 ∨ n = 10 ∨ n = 11 ∨ n = 12 ∨ n = 13 ∨ n = 14 ∨ n = 15 := by omega
  rcases this with rfl | rfl | rfl | rfl | rfl | rfl | rfl | rfl | rfl | rfl | rfl | rfl | rfl | rfl | rfl | rfl <;> rfl

def num (a : Ad) : Nat := ((dn a.d3 * 16 + dn a.d2) * 16 + dn a.d1) * 16 + dn a.d0
theorem num_inj {a e : Ad} (h : num a = num e) : a = e := by
  obtain ⟨a3, a2, a1, a0⟩ := a
  obtain ⟨e3, e2, e1, e0⟩ := e
  unfold num at h
  dsimp only at h
  have := dn_lt a3; have := dn_lt a2; have := dn_lt a1; have := dn_lt a0
  have := dn_lt e3; have := dn_lt e2; have := dn_lt e1; have := dn_lt e0
  have h3 : dn a3 = dn e3 := by omega
  have h2 : dn a2 = dn e2 := by omega
  have h1 : dn a1 = dn e1 := by omega
  have h0 : dn a0 = dn e0 := by omega
  rw [dn_inj h3, dn_inj h2, dn_inj h1, dn_inj h0]
def adOf (n : Nat) : Ad := ⟨dOf (n / 4096), dOf (n / 256 % 16), dOf (n / 16 % 16), dOf (n % 16)⟩
theorem num_adOf {n : Nat} (h : n < 65536) : num (adOf n) = n := by
  unfold num adOf
  dsimp only
  rw [dn_dOf (by omega), dn_dOf (by omega), dn_dOf (by omega), dn_dOf (by omega)]
  omega

/-! ## What a run comes to -/

inductive R where
  | bad
  | ok (v : V) (a : Ad) (t : T4)
abbrev St := Ad → T4 → R
noncomputable def bad : St := fun _ _ => .bad

/-- The next address; there is none behind the last. -/
noncomputable def inc (k : Ad → T4 → R) : Ad → T4 → R := @Ad.rec (fun _ => T4 → R) (fun a3 a2 a1 a0 => (@D.rec (fun _ => T4 → R) (k ⟨a3, a2, a1, .d1⟩) (k ⟨a3, a2, a1, .d2⟩) (k ⟨a3, a2, a1, .d3⟩) (k ⟨a3, a2, a1, .d4⟩) (k ⟨a3, a2, a1, .d5⟩) (k ⟨a3, a2, a1, .d6⟩) (k ⟨a3, a2, a1, .d7⟩) (k ⟨a3, a2, a1, .d8⟩) (k ⟨a3, a2, a1, .d9⟩) (k ⟨a3, a2, a1, .d10⟩) (k ⟨a3, a2, a1, .d11⟩) (k ⟨a3, a2, a1, .d12⟩) (k ⟨a3, a2, a1, .d13⟩) (k ⟨a3, a2, a1, .d14⟩) (k ⟨a3, a2, a1, .d15⟩) (@D.rec (fun _ => T4 → R) (k ⟨a3, a2, .d1, .d0⟩) (k ⟨a3, a2, .d2, .d0⟩) (k ⟨a3, a2, .d3, .d0⟩) (k ⟨a3, a2, .d4, .d0⟩) (k ⟨a3, a2, .d5, .d0⟩) (k ⟨a3, a2, .d6, .d0⟩) (k ⟨a3, a2, .d7, .d0⟩) (k ⟨a3, a2, .d8, .d0⟩) (k ⟨a3, a2, .d9, .d0⟩) (k ⟨a3, a2, .d10, .d0⟩) (k ⟨a3, a2, .d11, .d0⟩) (k ⟨a3, a2, .d12, .d0⟩) (k ⟨a3, a2, .d13, .d0⟩) (k ⟨a3, a2, .d14, .d0⟩) (k ⟨a3, a2, .d15, .d0⟩) (@D.rec (fun _ => T4 → R) (k ⟨a3, .d1, .d0, .d0⟩) (k ⟨a3, .d2, .d0, .d0⟩) (k ⟨a3, .d3, .d0, .d0⟩) (k ⟨a3, .d4, .d0, .d0⟩) (k ⟨a3, .d5, .d0, .d0⟩) (k ⟨a3, .d6, .d0, .d0⟩) (k ⟨a3, .d7, .d0, .d0⟩) (k ⟨a3, .d8, .d0, .d0⟩) (k ⟨a3, .d9, .d0, .d0⟩) (k ⟨a3, .d10, .d0, .d0⟩) (k ⟨a3, .d11, .d0, .d0⟩) (k ⟨a3, .d12, .d0, .d0⟩) (k ⟨a3, .d13, .d0, .d0⟩) (k ⟨a3, .d14, .d0, .d0⟩) (k ⟨a3, .d15, .d0, .d0⟩) (@D.rec (fun _ => T4 → R) (k ⟨.d1, .d0, .d0, .d0⟩) (k ⟨.d2, .d0, .d0, .d0⟩) (k ⟨.d3, .d0, .d0, .d0⟩) (k ⟨.d4, .d0, .d0, .d0⟩) (k ⟨.d5, .d0, .d0, .d0⟩) (k ⟨.d6, .d0, .d0, .d0⟩) (k ⟨.d7, .d0, .d0, .d0⟩) (k ⟨.d8, .d0, .d0, .d0⟩) (k ⟨.d9, .d0, .d0, .d0⟩) (k ⟨.d10, .d0, .d0, .d0⟩) (k ⟨.d11, .d0, .d0, .d0⟩) (k ⟨.d12, .d0, .d0, .d0⟩) (k ⟨.d13, .d0, .d0, .d0⟩) (k ⟨.d14, .d0, .d0, .d0⟩) (k ⟨.d15, .d0, .d0, .d0⟩) (fun _ => .bad) a3) a2) a1) a0))
theorem inc_ok {k : Ad → T4 → R} {a : Ad} {t : T4} {v : V} {b : Ad} {t' : T4} (h : inc k a t = .ok v b t') : ∃ e, num e = num a + 1 ∧ k e t = .ok v b t' := by
  obtain ⟨a3, a2, a1, a0⟩ := a
  cases a0
  case d15 =>
    cases a1
    case d15 =>
      cases a2
      case d15 =>
        cases a3
        case d15 => cases h
        all_goals exact ⟨_, rfl, h⟩
      all_goals exact ⟨_, by unfold num; dsimp only; generalize dn a3 = q; simp only [dn] <;> omega, h⟩
    all_goals exact ⟨_, by unfold num; dsimp only; generalize dn a3 = q; generalize dn a2 = r; simp only [dn] <;> omega, h⟩
  all_goals exact ⟨_, by unfold num; dsimp only; generalize dn a3 = q; generalize dn a2 = r; generalize dn a1 = s; simp only [dn] <;> omega, h⟩

end Go.Fk
end
section
set_option linter.unusedVariables false
namespace Go.Fk
open Go Go.Fw

/-! ## Values -/

mutual
def cv : V → Value
  | .u => undef
  | .sk => skipV
  | .b x => .bool x
  | .i z => .int .i64 z
  | .k kd z => .int kd z
  | .w n => .int .u64 n
  | .p a o => .pointer (some ⟨num a, o, none⟩)
  | .np => .pointer none
  | .s a o len cap => .slice (some ⟨num a, o, none⟩) len cap
  | .ns => .slice none 0 0
  | .nil => undef
  | .cons _ _ => undef
  | .a l => .agg (cvL l).toArray
  | .t l => .tuple (cvL l).toArray
  | .m a => .map (some (num a))
  | .nm => .map none
  | .f g l => .func (.func g) #[] (cvL l).toArray
  | .nf => .nilFunc
  | .c t v => .iface t (cv v)
  | .ni => .nilIface
  | .str s => .string s
def cvL : V → List Value
  | .cons x r => cv x :: cvL r
  | _ => []
end

def ofL : List V → V
  | [] => .nil
  | x :: r => .cons x (ofL r)
theorem cvL_ofL : ∀ l, cvL (ofL l) = l.map cv
  | [] => rfl
  | x :: r => by simp [ofL, cvL, cvL_ofL r]

/-- What is known of a value: nothing, or all. -/
def VRel (v : V) (w : Value) : Prop := v = .u ∨ cv v = w
theorem VRel.of (v : V) : VRel v (cv v) := .inr rfl
theorem VRel.u (w : Value) : VRel .u w := .inl rfl

def cvB : Bk → Option Blk
  | .no => none
  | .ro l => some ⟨cvL l, .ro⟩
  | .own l => some ⟨cvL l, .own⟩
  | .grow l => some ⟨cvL l, .grow⟩
  | .dead l => some ⟨cvL l, .dead⟩

structure HR (a : Ad) (t : T4) (n : Nat) (h : H) : Prop where
  n_eq : n = num a
  blk : ∀ d, h.get (num d) = cvB (get d t)
  fresh : ∀ b, n ≤ b → h.get b = none

/-- Where the second machine's run comes to an end, the first one's does, and to the same. -/
def VF (v : V) (w : Value) : Prop := (v ≠ .sk ∧ VRel v w) ∨ (v = .sk ∧ w = .bool true)
def HF (v : V) (a : Ad) (t : T4) (n : Nat) (h : H) : Prop := HR a t n h ∨ v = .sk
theorem VF.rel {v : V} {w : Value} (h : VF v w) (h0 : v ≠ .sk) : VRel v w := h.elim And.right fun q => absurd q.1 h0
theorem HF.rel {v : V} {a : Ad} {t : T4} {n : Nat} {h : H} (q : HF v a t n h) (h0 : v ≠ .sk) : HR a t n h := q.elim id fun q => absurd q h0
def Ref (k : St) (m : M Value) : Prop := ∀ a t n h, HR a t n h → ∀ v a' t', k a t = .ok v a' t' → ∃ w n' h', m n h = some (w, n', h') ∧ VF v w ∧ HF v a' t' n' h'
def KR (K : V → St) (K' : Value → M Value) : Prop := ∀ v w, VRel v w → Ref (K v) (K' w)

theorem Ref.bad {m : M Value} : Ref bad m := fun _ _ _ _ _ _ _ _ e => by cases e

/-! ## Values, taken apart -/

noncomputable def on_b (x : V) (k : Bool → R) : R := @V.rec (fun _ => R) (.bad) (.bad) (fun x => k x) (fun _ => .bad) (fun _ _ => .bad) (fun _ => .bad) (fun _ _ => .bad) (.bad) (fun _ _ _ _ => .bad) (.bad) (.bad) (fun _ _ _ _ => .bad) (fun _ _ => .bad) (fun _ _ => .bad) (fun _ => .bad) (.bad) (fun _ _ _ => .bad) (.bad) (fun _ _ _ => .bad) (.bad) (fun _ => .bad) x
theorem on_b_ok {x : V} {k : Bool → R} {v : V} {a : Ad} {t : T4} (h : on_b x k = .ok v a t) : ∃ x_, x = .b x_ ∧ k x_ = .ok v a t := by cases x <;> first | exact ⟨_, rfl, h⟩ | cases h
noncomputable def on_i (x : V) (k : Int → R) : R := @V.rec (fun _ => R) (.bad) (.bad) (fun _ => .bad) (fun z => k z) (fun _ _ => .bad) (fun _ => .bad) (fun _ _ => .bad) (.bad) (fun _ _ _ _ => .bad) (.bad) (.bad) (fun _ _ _ _ => .bad) (fun _ _ => .bad) (fun _ _ => .bad) (fun _ => .bad) (.bad) (fun _ _ _ => .bad) (.bad) (fun _ _ _ => .bad) (.bad) (fun _ => .bad) x
theorem on_i_ok {x : V} {k : Int → R} {v : V} {a : Ad} {t : T4} (h : on_i x k = .ok v a t) : ∃ z_, x = .i z_ ∧ k z_ = .ok v a t := by cases x <;> first | exact ⟨_, rfl, h⟩ | cases h
noncomputable def on_k (x : V) (k : IntKind → Int → R) : R := @V.rec (fun _ => R) (.bad) (.bad) (fun _ => .bad) (fun _ => .bad) (fun kd z => k kd z) (fun _ => .bad) (fun _ _ => .bad) (.bad) (fun _ _ _ _ => .bad) (.bad) (.bad) (fun _ _ _ _ => .bad) (fun _ _ => .bad) (fun _ _ => .bad) (fun _ => .bad) (.bad) (fun _ _ _ => .bad) (.bad) (fun _ _ _ => .bad) (.bad) (fun _ => .bad) x
theorem on_k_ok {x : V} {k : IntKind → Int → R} {v : V} {a : Ad} {t : T4} (h : on_k x k = .ok v a t) : ∃ kd_ z_, x = .k kd_ z_ ∧ k kd_ z_ = .ok v a t := by cases x <;> first | exact ⟨_, _, rfl, h⟩ | cases h
noncomputable def on_w (x : V) (k : Nat → R) : R := @V.rec (fun _ => R) (.bad) (.bad) (fun _ => .bad) (fun _ => .bad) (fun _ _ => .bad) (fun n => k n) (fun _ _ => .bad) (.bad) (fun _ _ _ _ => .bad) (.bad) (.bad) (fun _ _ _ _ => .bad) (fun _ _ => .bad) (fun _ _ => .bad) (fun _ => .bad) (.bad) (fun _ _ _ => .bad) (.bad) (fun _ _ _ => .bad) (.bad) (fun _ => .bad) x
theorem on_w_ok {x : V} {k : Nat → R} {v : V} {a : Ad} {t : T4} (h : on_w x k = .ok v a t) : ∃ n_, x = .w n_ ∧ k n_ = .ok v a t := by cases x <;> first | exact ⟨_, rfl, h⟩ | cases h
noncomputable def on_p (x : V) (k : Ad → Nat → R) : R := @V.rec (fun _ => R) (.bad) (.bad) (fun _ => .bad) (fun _ => .bad) (fun _ _ => .bad) (fun _ => .bad) (fun a o => k a o) (.bad) (fun _ _ _ _ => .bad) (.bad) (.bad) (fun _ _ _ _ => .bad) (fun _ _ => .bad) (fun _ _ => .bad) (fun _ => .bad) (.bad) (fun _ _ _ => .bad) (.bad) (fun _ _ _ => .bad) (.bad) (fun _ => .bad) x
theorem on_p_ok {x : V} {k : Ad → Nat → R} {v : V} {a : Ad} {t : T4} (h : on_p x k = .ok v a t) : ∃ a_ o_, x = .p a_ o_ ∧ k a_ o_ = .ok v a t := by cases x <;> first | exact ⟨_, _, rfl, h⟩ | cases h
noncomputable def on_s (x : V) (k : Ad → Nat → Nat → Nat → R) : R := @V.rec (fun _ => R) (.bad) (.bad) (fun _ => .bad) (fun _ => .bad) (fun _ _ => .bad) (fun _ => .bad) (fun _ _ => .bad) (.bad) (fun a o len cap => k a o len cap) (.bad) (.bad) (fun _ _ _ _ => .bad) (fun _ _ => .bad) (fun _ _ => .bad) (fun _ => .bad) (.bad) (fun _ _ _ => .bad) (.bad) (fun _ _ _ => .bad) (.bad) (fun _ => .bad) x
theorem on_s_ok {x : V} {k : Ad → Nat → Nat → Nat → R} {v : V} {a : Ad} {t : T4} (h : on_s x k = .ok v a t) : ∃ a_ o_ len_ cap_, x = .s a_ o_ len_ cap_ ∧ k a_ o_ len_ cap_ = .ok v a t := by cases x <;> first | exact ⟨_, _, _, _, rfl, h⟩ | cases h
noncomputable def on_cons (x : V) (k : V → V → R) : R := @V.rec (fun _ => R) (.bad) (.bad) (fun _ => .bad) (fun _ => .bad) (fun _ _ => .bad) (fun _ => .bad) (fun _ _ => .bad) (.bad) (fun _ _ _ _ => .bad) (.bad) (.bad) (fun x r _ _ => k x r) (fun _ _ => .bad) (fun _ _ => .bad) (fun _ => .bad) (.bad) (fun _ _ _ => .bad) (.bad) (fun _ _ _ => .bad) (.bad) (fun _ => .bad) x
theorem on_cons_ok {x : V} {k : V → V → R} {v : V} {a : Ad} {t : T4} (h : on_cons x k = .ok v a t) : ∃ x_ r_, x = .cons x_ r_ ∧ k x_ r_ = .ok v a t := by cases x <;> first | exact ⟨_, _, rfl, h⟩ | cases h
noncomputable def on_a (x : V) (k : V → R) : R := @V.rec (fun _ => R) (.bad) (.bad) (fun _ => .bad) (fun _ => .bad) (fun _ _ => .bad) (fun _ => .bad) (fun _ _ => .bad) (.bad) (fun _ _ _ _ => .bad) (.bad) (.bad) (fun _ _ _ _ => .bad) (fun l _ => k l) (fun _ _ => .bad) (fun _ => .bad) (.bad) (fun _ _ _ => .bad) (.bad) (fun _ _ _ => .bad) (.bad) (fun _ => .bad) x
theorem on_a_ok {x : V} {k : V → R} {v : V} {a : Ad} {t : T4} (h : on_a x k = .ok v a t) : ∃ l_, x = .a l_ ∧ k l_ = .ok v a t := by cases x <;> first | exact ⟨_, rfl, h⟩ | cases h
noncomputable def on_t (x : V) (k : V → R) : R := @V.rec (fun _ => R) (.bad) (.bad) (fun _ => .bad) (fun _ => .bad) (fun _ _ => .bad) (fun _ => .bad) (fun _ _ => .bad) (.bad) (fun _ _ _ _ => .bad) (.bad) (.bad) (fun _ _ _ _ => .bad) (fun _ _ => .bad) (fun l _ => k l) (fun _ => .bad) (.bad) (fun _ _ _ => .bad) (.bad) (fun _ _ _ => .bad) (.bad) (fun _ => .bad) x
theorem on_t_ok {x : V} {k : V → R} {v : V} {a : Ad} {t : T4} (h : on_t x k = .ok v a t) : ∃ l_, x = .t l_ ∧ k l_ = .ok v a t := by cases x <;> first | exact ⟨_, rfl, h⟩ | cases h
noncomputable def on_m (x : V) (k : Ad → R) : R := @V.rec (fun _ => R) (.bad) (.bad) (fun _ => .bad) (fun _ => .bad) (fun _ _ => .bad) (fun _ => .bad) (fun _ _ => .bad) (.bad) (fun _ _ _ _ => .bad) (.bad) (.bad) (fun _ _ _ _ => .bad) (fun _ _ => .bad) (fun _ _ => .bad) (fun a => k a) (.bad) (fun _ _ _ => .bad) (.bad) (fun _ _ _ => .bad) (.bad) (fun _ => .bad) x
theorem on_m_ok {x : V} {k : Ad → R} {v : V} {a : Ad} {t : T4} (h : on_m x k = .ok v a t) : ∃ a_, x = .m a_ ∧ k a_ = .ok v a t := by cases x <;> first | exact ⟨_, rfl, h⟩ | cases h
noncomputable def on_f (x : V) (k : Nat → V → R) : R := @V.rec (fun _ => R) (.bad) (.bad) (fun _ => .bad) (fun _ => .bad) (fun _ _ => .bad) (fun _ => .bad) (fun _ _ => .bad) (.bad) (fun _ _ _ _ => .bad) (.bad) (.bad) (fun _ _ _ _ => .bad) (fun _ _ => .bad) (fun _ _ => .bad) (fun _ => .bad) (.bad) (fun g l _ => k g l) (.bad) (fun _ _ _ => .bad) (.bad) (fun _ => .bad) x
theorem on_f_ok {x : V} {k : Nat → V → R} {v : V} {a : Ad} {t : T4} (h : on_f x k = .ok v a t) : ∃ g_ l_, x = .f g_ l_ ∧ k g_ l_ = .ok v a t := by cases x <;> first | exact ⟨_, _, rfl, h⟩ | cases h
/-- A block that may be looked at. -/
noncomputable def live (x : Bk) (k : V → R) : R := @Bk.rec (fun _ => R) .bad k k k (fun _ => .bad) x
theorem live_ok {x : Bk} {k : V → R} {v : V} {a : Ad} {t : T4} (h : live x k = .ok v a t) : ∃ l kd, cvB x = some ⟨cvL l, kd⟩ ∧ kd ≠ .dead ∧ k l = .ok v a t := by
  cases x with
  | no => cases h
  | ro l => exact ⟨l, .ro, rfl, by decide, h⟩
  | own l => exact ⟨l, .own, rfl, by decide, h⟩
  | grow l => exact ⟨l, .grow, rfl, by decide, h⟩
  | dead l => cases h
/-- A block that may be written: how, and what it holds. -/
noncomputable def mine (x : Bk) (k : (V → Bk) → V → R) : R := @Bk.rec (fun _ => R) .bad (fun _ => .bad) (k .own) (k .grow) (fun _ => .bad) x
theorem mine_ok {x : Bk} {k : (V → Bk) → V → R} {v : V} {a : Ad} {t : T4} (h : mine x k = .ok v a t) : ∃ l f kd, (kd = .own ∨ kd = .grow) ∧ cvB x = some ⟨cvL l, kd⟩ ∧ (∀ l', cvB (f l') = some ⟨cvL l', kd⟩) ∧ k f l = .ok v a t := by
  cases x with
  | no => cases h
  | ro l => cases h
  | own l => exact ⟨l, .own, .own, .inl rfl, rfl, fun _ => rfl, h⟩
  | grow l => exact ⟨l, .grow, .grow, .inr rfl, rfl, fun _ => rfl, h⟩
  | dead l => cases h
noncomputable def grown (x : Bk) (k : V → R) : R := @Bk.rec (fun _ => R) .bad (fun _ => .bad) (fun _ => .bad) k (fun _ => .bad) x
theorem grown_ok {x : Bk} {k : V → R} {v : V} {a : Ad} {t : T4} (h : grown x k = .ok v a t) : ∃ l, x = .grow l ∧ k l = .ok v a t := by
  cases x <;> first | exact ⟨_, rfl, h⟩ | cases h
noncomputable def deadB (x : Bk) (k : V → R) : R := @Bk.rec (fun _ => R) .bad (fun _ => .bad) (fun _ => .bad) (fun _ => .bad) k x
theorem deadB_ok {x : Bk} {k : V → R} {v : V} {a : Ad} {t : T4} (h : deadB x k = .ok v a t) : ∃ l, x = .dead l ∧ k l = .ok v a t := by
  cases x <;> first | exact ⟨_, rfl, h⟩ | cases h

/-! ## Numbers -/

/-- A number that is not negative; else. -/
noncomputable def on_n (x : V) (k : Nat → R) (e : R) : R := @V.rec (fun _ => R) (e) (e) (fun _ => e) (fun z => @Int.rec (fun _ => R) k (fun _ => e) z) (fun _ _ => e) (fun _ => e) (fun _ _ => e) (e) (fun _ _ _ _ => e) (e) (e) (fun _ _ _ _ => e) (fun _ _ => e) (fun _ _ => e) (fun _ => e) (e) (fun _ _ _ => e) (e) (fun _ _ _ => e) (e) (fun _ => e) x
noncomputable def on_w2 (x : V) (k : Nat → R) (e : R) : R := @V.rec (fun _ => R) (e) (e) (fun _ => e) (fun _ => e) (fun _ _ => e) (fun n => k n) (fun _ _ => e) (e) (fun _ _ _ _ => e) (e) (e) (fun _ _ _ _ => e) (fun _ _ => e) (fun _ _ => e) (fun _ => e) (e) (fun _ _ _ => e) (e) (fun _ _ _ => e) (e) (fun _ => e) x
theorem on_n_ok {x : V} {k : Nat → R} {e : R} {v : V} {a : Ad} {t : T4} (h : on_n x k e = .ok v a t) : (∃ n : Nat, x = .i (.ofNat n) ∧ k n = .ok v a t) ∨ e = .ok v a t := by
  cases x with
  | i z => cases z with
    | ofNat n => exact .inl ⟨n, rfl, h⟩
    | negSucc n => exact .inr h
  | _ => exact .inr h
theorem on_w2_ok {x : V} {k : Nat → R} {e : R} {v : V} {a : Ad} {t : T4} (h : on_w2 x k e = .ok v a t) : (∃ n : Nat, x = .w n ∧ k n = .ok v a t) ∨ e = .ok v a t := by
  cases x with
  | w n => exact .inl ⟨n, rfl, h⟩
  | _ => exact .inr h

/-! ## Lists of cells -/

noncomputable def nthK : Nat → V → (V → R) → R := @Nat.rec (fun _ => V → (V → R) → R) (fun l k => on_cons l fun x _ => k x) (fun _ g l k => on_cons l fun _ r => g r k)
theorem nthK_ok : ∀ {o : Nat} {l : V} {k : V → R} {v : V} {a : Ad} {t : T4}, nthK o l k = .ok v a t → ∃ x, (cvL l)[o]? = some (cv x) ∧ k x = .ok v a t
  | 0, l, k, v, a, t, h => by
    obtain ⟨x, r, rfl, h⟩ := on_cons_ok (show on_cons l (fun x _ => k x) = _ from h)
    exact ⟨x, by simp [cvL], h⟩
  | o + 1, l, k, v, a, t, h => by
    obtain ⟨x, r, rfl, h⟩ := on_cons_ok (show on_cons l (fun _ r => nthK o r k) = _ from h)
    obtain ⟨y, h1, h2⟩ := nthK_ok (o := o) h
    exact ⟨y, by simpa [cvL] using h1, h2⟩

noncomputable def setK (y : V) : Nat → V → (V → R) → R := @Nat.rec (fun _ => V → (V → R) → R) (fun l k => on_cons l fun _ r => k (.cons y r)) (fun _ g l k => on_cons l fun x r => g r fun r' => k (.cons x r'))
theorem setK_ok {y : V} : ∀ {o : Nat} {l : V} {k : V → R} {v : V} {a : Ad} {t : T4}, setK y o l k = .ok v a t → ∃ l', cvL l' = (cvL l).set o (cv y) ∧ o < (cvL l).length ∧ k l' = .ok v a t
  | 0, l, k, v, a, t, h => by
    obtain ⟨x, r, rfl, h⟩ := on_cons_ok (show on_cons l (fun _ r => k (.cons y r)) = _ from h)
    exact ⟨_, by simp [cvL], by simp [cvL], h⟩
  | o + 1, l, k, v, a, t, h => by
    obtain ⟨x, r, rfl, h⟩ := on_cons_ok (show on_cons l (fun x r => setK y o r fun r' => k (.cons x r')) = _ from h)
    obtain ⟨r', h1, h2, h3⟩ := setK_ok (o := o) h
    exact ⟨_, by simp [cvL, h1], by simpa [cvL] using h2, h3⟩

noncomputable def dropK : Nat → V → (V → R) → R := @Nat.rec (fun _ => V → (V → R) → R) (fun l k => k l) (fun _ g l k => on_cons l fun _ r => g r k)
theorem dropK_ok : ∀ {o : Nat} {l : V} {k : V → R} {v : V} {a : Ad} {t : T4}, dropK o l k = .ok v a t → ∃ l', cvL l' = (cvL l).drop o ∧ o ≤ (cvL l).length ∧ k l' = .ok v a t
  | 0, l, k, v, a, t, h => ⟨l, by simp, by simp, h⟩
  | o + 1, l, k, v, a, t, h => by
    obtain ⟨x, r, rfl, h⟩ := on_cons_ok (show on_cons l (fun _ r => dropK o r k) = _ from h)
    obtain ⟨r', h1, h2, h3⟩ := dropK_ok (o := o) h
    exact ⟨r', by simpa [cvL] using h1, by simpa [cvL] using h2, h3⟩

noncomputable def takeK : Nat → V → (V → R) → R := @Nat.rec (fun _ => V → (V → R) → R) (fun l k => k .nil) (fun _ g l k => on_cons l fun x r => g r fun r' => k (.cons x r'))
theorem takeK_ok : ∀ {o : Nat} {l : V} {k : V → R} {v : V} {a : Ad} {t : T4}, takeK o l k = .ok v a t → ∃ l', cvL l' = (cvL l).take o ∧ o ≤ (cvL l).length ∧ k l' = .ok v a t
  | 0, l, k, v, a, t, h => ⟨.nil, by simp [cvL], by simp, h⟩
  | o + 1, l, k, v, a, t, h => by
    obtain ⟨x, r, rfl, h⟩ := on_cons_ok (show on_cons l (fun x r => takeK o r fun r' => k (.cons x r')) = _ from h)
    obtain ⟨r', h1, h2, h3⟩ := takeK_ok (o := o) h
    exact ⟨_, by simp [cvL, h1], by simpa [cvL] using h2, h3⟩

/-- So many cells, and no more? -/
noncomputable def lenV : V → Nat := @V.rec (fun _ => Nat) (0) (0) (fun _ => 0) (fun _ => 0) (fun _ _ => 0) (fun _ => 0) (fun _ _ => 0) (0) (fun _ _ _ _ => 0) (0) (0) (fun _ _ _ n => Nat.succ n) (fun _ _ => 0) (fun _ _ => 0) (fun _ => 0) (0) (fun _ _ _ => 0) (0) (fun _ _ _ => 0) (0) (fun _ => 0)
theorem lenV_eq : ∀ l, (cvL l).length = lenV l := by
  intro l
  induction l with
  | cons x r _ ih => show (cv x :: cvL r).length = Nat.succ (lenV r); simp [ih]
  | _ => rfl
noncomputable def app (l m : V) : V := @V.rec (fun _ => V) (m) (m) (fun _ => m) (fun _ => m) (fun _ _ => m) (fun _ => m) (fun _ _ => m) (m) (fun _ _ _ _ => m) (m) (m) (fun x _ _ r => .cons x r) (fun _ _ => m) (fun _ _ => m) (fun _ => m) (m) (fun _ _ _ => m) (m) (fun _ _ _ => m) (m) (fun _ => m) l
theorem app_eq : ∀ l m, cvL (app l m) = cvL l ++ cvL m := by
  intro l m
  induction l with
  | cons x r _ ih => show cv x :: cvL (app r m) = _; rw [ih]; simp [cvL]
  | _ => rfl
noncomputable def repK (z : V) : Nat → V := @Nat.rec (fun _ => V) .nil (fun _ r => app z r)
theorem repK_eq (z : V) : ∀ n, cvL (repK z n) = rep n (cvL z)
  | 0 => by simp [repK, rep, cvL]
  | n + 1 => by
    show cvL (app z (repK z n)) = _
    rw [app_eq, repK_eq z n]
    simp [rep, List.replicate_succ]
/-- A value that fits one cell. -/
noncomputable def oneK (x : V) (k : R) : R := @V.rec (fun _ => R) (.bad) (.bad) (fun _ => k) (fun _ => k) (fun _ _ => k) (fun _ => k) (fun _ _ => k) (k) (fun _ _ _ _ => k) (k) (.bad) (fun _ _ _ _ => .bad) (fun _ _ => .bad) (fun _ _ => .bad) (fun _ => k) (k) (fun _ _ _ => k) (k) (fun _ _ _ => k) (k) (fun _ => k) x
theorem oneK_ok {x : V} {k : R} {v : V} {a : Ad} {t : T4} (h : oneK x k = .ok v a t) : one (cv x) = true ∧ k = .ok v a t := by cases x <;> first | exact ⟨rfl, h⟩ | cases h
noncomputable def onesK (l : V) (k : R) : R := @V.rec (fun _ => R) (k) (k) (fun _ => k) (fun _ => k) (fun _ _ => k) (fun _ => k) (fun _ _ => k) (k) (fun _ _ _ _ => k) (k) (k) (fun x _ _ ih => oneK x ih) (fun _ _ => k) (fun _ _ => k) (fun _ => k) (k) (fun _ _ _ => k) (k) (fun _ _ _ => k) (k) (fun _ => k) l
theorem onesK_ok {k : R} {v : V} {a : Ad} {t : T4} : ∀ {l : V}, onesK l k = .ok v a t → (cvL l).all one = true ∧ k = .ok v a t := by
  intro l
  induction l with
  | cons x r _ ih =>
    intro h
    obtain ⟨h1, h2⟩ := oneK_ok (show oneK x (onesK r k) = _ from h)
    obtain ⟨h3, h4⟩ := ih h2
    exact ⟨by simp [cvL, h1, h3], h4⟩
  | _ => intro h; exact ⟨rfl, h⟩
/-- Cells, laid over the first ones of others. -/
noncomputable def overK (l : V) : V → (V → R) → R := @V.rec (fun _ => V → (V → R) → R) (fun cs k => k cs) (fun cs k => k cs) (fun _ => fun cs k => k cs) (fun _ => fun cs k => k cs) (fun _ _ => fun cs k => k cs) (fun _ => fun cs k => k cs) (fun _ _ => fun cs k => k cs) (fun cs k => k cs) (fun _ _ _ _ => fun cs k => k cs) (fun cs k => k cs) (fun cs k => k cs) (fun x _ _ ih cs k => on_cons cs fun _ r => ih r fun r' => k (.cons x r')) (fun _ _ => fun cs k => k cs) (fun _ _ => fun cs k => k cs) (fun _ => fun cs k => k cs) (fun cs k => k cs) (fun _ _ _ => fun cs k => k cs) (fun cs k => k cs) (fun _ _ _ => fun cs k => k cs) (fun cs k => k cs) (fun _ => fun cs k => k cs) l
theorem overK_ok : ∀ {l cs : V} {k : V → R} {v : V} {a : Ad} {t : T4}, overK l cs k = .ok v a t → ∃ l', cvL l' = cvL l ++ (cvL cs).drop (cvL l).length ∧ (cvL l).length ≤ (cvL cs).length ∧ k l' = .ok v a t := by
  intro l
  induction l with
  | cons x r _ ih =>
    intro cs k v a t h
    obtain ⟨y, r2, rfl, h⟩ := on_cons_ok (show on_cons cs (fun _ q => overK r q fun r' => k (.cons x r')) = _ from h)
    obtain ⟨r', h1, h2, h3⟩ := ih h
    exact ⟨_, by simp [cvL, h1], by simpa [cvL] using h2, h3⟩
  | _ => intro cs k v a t h; exact ⟨cs, by simp [cvL], by simp [cvL], h⟩
noncomputable def overAtK (l : V) : Nat → V → (V → R) → R := @Nat.rec (fun _ => V → (V → R) → R) (overK l) (fun _ g cs k => on_cons cs fun x r => g r fun r' => k (.cons x r'))
theorem overAtK_ok {l : V} : ∀ {o : Nat} {cs : V} {k : V → R} {v : V} {a : Ad} {t : T4}, overAtK l o cs k = .ok v a t → ∃ l', cvL l' = over (cvL cs) o (cvL l) ∧ o + (cvL l).length ≤ (cvL cs).length ∧ k l' = .ok v a t
  | 0, cs, k, v, a, t, h => by
    obtain ⟨l', h1, h2, h3⟩ := overK_ok (show overK l cs k = _ from h)
    exact ⟨l', by simp [over, h1], by omega, h3⟩
  | o + 1, cs, k, v, a, t, h => by
    obtain ⟨y, r2, rfl, h⟩ := on_cons_ok (show on_cons cs (fun x q => overAtK l o q fun r' => k (.cons x r')) = _ from h)
    obtain ⟨r', h1, h2, h3⟩ := overAtK_ok (o := o) h
    refine ⟨_, ?_, by simp only [cvL, List.length_cons]; omega, h3⟩
    simp only [over] at h1
    simp [cvL, h1, over, show o + 1 + (cvL l).length = o + (cvL l).length + 1 by omega]

end Go.Fk
end
section
namespace Go.Fw

/-- A world that came in, as an abstract heap: nothing of it may be written. -/
structure Entry (G : Nat) (W : World) (n : Nat) (ρ : Map) (h : H) : Prop where
  r : R G ρ h W
  ro : ∀ b B, h.get b = some B → ¬ B.ours
  fresh : ∀ b, n ≤ b → h.get b = none

theorem Entry.noOwn {G : Nat} {W : World} {n : Nat} {ρ : Map} {h : H} (e : Entry G W n ρ h) (k : Nat) : ¬ Own ρ h k := fun ⟨b, B, _, hb, hm, _, _⟩ => e.ro b B hb hm

theorem Entry.nil (W : World) : Entry 0 W 0 (fun _ => none) .leaf := by
  refine ⟨⟨fun b => by simp [H.get], fun g hg => by omega, fun b B L hb => by simp [H.get] at hb, fun b c B C L M _ hb => by simp [H.get] at hb, fun b B L hb => by simp [H.get] at hb, fun b c B C L M _ hb => by simp [H.get] at hb⟩, fun b B hb => by simp [H.get] at hb, fun b _ => by simp [H.get]⟩

theorem not_mine_ro (cs : List Value) : ¬ (⟨cs, .ro⟩ : Blk).mine := fun h => by rcases h with h | h <;> cases h
theorem not_ours_ro (cs : List Value) : ¬ (⟨cs, .ro⟩ : Blk).ours := fun h => by
  rcases h with h | h
  · exact not_mine_ro cs h
  · cases h.1
theorem not_ours_dead : ¬ (⟨[], .dead⟩ : Blk).ours := fun h => by
  rcases h with (h | h) | h
  · cases h
  · cases h
  · cases h.2

theorem Entry.add {G : Nat} {W : World} {n : Nat} {ρ : Map} {h : H} (e : Entry G W n ρ h) (L : Loc) {B : Blk} (hm : ¬ B.ours) (hB : B.live → BlkOK (ρ.add n L) W L B) : Entry G W (n + 1) (ρ.add n L) (h.set n B) := by
  have hn : ρ n = none := by
    have := e.r.dom n
    rw [e.fresh n (Nat.le_refl _)] at this
    cases hq : ρ n with
    | none => rfl
    | some L => rw [hq] at this; cases this
  have hle := Map.add_le L hn
  refine ⟨⟨fun c => ?_, fun g hg => ?_, fun c C N hc hl hN => ?_, fun c d C D N O hne hc hd hl hmd hN hO => ?_, fun c C N hc hmm hN => ?_, fun c d C D N O hne hc hd hmc hmd hN hO => ?_⟩, fun c C hc => ?_, fun c hc => ?_⟩
  rotate_left 4
  · exfalso
    rw [H.get_set] at hc
    split at hc
    · cases hc; exact hm (.inr hmm)
    · exact e.ro _ _ hc (.inr hmm)
  · exfalso
    rw [H.get_set] at hd
    split at hd
    · cases hd; exact hm (.inr hmd)
    · exact e.ro _ _ hd (.inr hmd)
  rotate_left 2
  · rw [H.get_set]; unfold Map.add
    split
    · rfl
    · exact e.r.dom c
  · obtain ⟨lim, hl⟩ := e.r.glob g hg
    exact ⟨lim, hle _ _ hl⟩
  · rw [H.get_set] at hc
    unfold Map.add at hN
    split at hc
    · rename_i ee; subst ee; simp only [if_true, Option.some.injEq] at hc hN; subst hc hN; exact hB hl
    · rename_i ne
      rw [if_neg ne] at hN
      obtain ⟨⟨arr, elem, fz, g1, g2, g3, g4⟩, g5, g6⟩ := e.r.blk c C N hc hl hN
      exact ⟨⟨arr, elem, fz, g1, g2, g3, fun i v hv => let ⟨v', h1, h2⟩ := g4 i v hv; ⟨v', h1, h2.mono hle⟩⟩, g5, g6⟩
  · exfalso
    rw [H.get_set] at hd
    split at hd
    · cases hd; exact hm (.inl hmd)
    · exact e.ro _ _ hd (.inl hmd)
  · rw [H.get_set] at hc
    split at hc
    · cases hc; exact hm
    · exact e.ro _ _ hc
  · rw [H.get_set]
    split
    · omega
    · exact e.fresh c (by omega)

/-- A slice that came in: its cells, all of which are known. -/
theorem Entry.slice {G : Nat} {W : World} {n : Nat} {ρ : Map} {h : H} (e : Entry G W n ρ h) (a : Addr) (len cap : Nat) (cs : List Value) (hlen : len ≤ cap) (hcap : cap < U) (hcs : 0 < cap → 0 < cs.length)
    (hc : ∀ i v, cs[i]? = some v → W.cell? (a.add i) = some v) (hv : ∀ v ∈ cs, VR (fun _ => none) v v) :
    ∃ ρ' h', Entry G W (n + 1) ρ' h' ∧ Le ρ ρ' ∧ VW ρ' (.slice (some ⟨n, 0, none⟩) len cap) (.slice (some a) len cap) ∧ h' = h.set n ⟨if cap = 0 then [] else cs, if cap = 0 then .dead else .ro⟩ := by
  have hn : ρ n = none := by
    have := e.r.dom n
    rw [e.fresh n (Nat.le_refl _)] at this
    cases hq : ρ n with
    | none => rfl
    | some L => rw [hq] at this; cases this
  by_cases h0 : cap = 0
  · subst h0
    refine ⟨_, _, e.add ⟨a.block, a.off, 0⟩ (B := ⟨[], .dead⟩) not_ours_dead (fun hl => absurd rfl hl), Map.add_le _ hn, .inr (.slice n 0 len 0 a 0 ⟨a.block, a.off, 0⟩ (Map.add_same _ _ _) ⟨fun _ => rfl, hlen, fun h => absurd rfl h, fun s hs => by omega⟩), by simp⟩
  · have hpos := hcs (by omega)
    obtain ⟨v0, hv0⟩ : ∃ v, cs[0]? = some v := ⟨cs[0], by simp [hpos]⟩
    have h00 := hc 0 v0 hv0
    -- the block
    have hblk : ∃ arr elem fz, W.heap[a.block]? = some (.cells arr elem fz) ∧ a.spot = none := by
      unfold Addr.add at h00
      simp only [if_true] at h00
      unfold World.cell? at h00
      split at h00
      · rename_i c _ _ hh
        refine ⟨_, _, _, hh, ?_⟩
        cases hr : a.spot with
        | none => rfl
        | some x => simp [hr] at h00
      · cases h00
    obtain ⟨arr, elem, fz, hb, hr⟩ := hblk
    obtain ⟨ab, ao, ar⟩ := a
    simp only at hb hr
    subst hr
    have hcell : ∀ i v, cs[i]? = some v → arr[ao + i]? = some v := by
      intro i v hi
      have := hc i v hi
      have hadd : Addr.add ⟨ab, ao, none⟩ i = ⟨ab, ao + i, none⟩ := by
        unfold Addr.add
        split
        · rename_i h; subst h; rfl
        · rfl
      rw [hadd] at this
      unfold World.cell? at this
      simp only [hb] at this
      simpa using this
    have hsz : ao + cs.length ≤ arr.size := by
      obtain ⟨u, hu⟩ : ∃ u, cs[cs.length - 1]? = some u := ⟨cs[cs.length - 1], by simp [hpos]⟩
      have := hcell _ _ hu
      have := (Array.getElem?_eq_some_iff.1 this).1
      omega
    refine ⟨_, _, e.add ⟨ab, ao, ao + cs.length⟩ (B := ⟨cs, .ro⟩) (not_ours_ro _) (fun _ => ⟨⟨arr, elem, fz, hb, fun h => absurd h (not_mine_ro _), hsz, fun i v hi => ⟨v, hcell i v hi, ?_⟩⟩, Nat.le_refl _, fun h => by cases h⟩), Map.add_le _ hn, .inr (.slice n 0 len cap _ cap _ (Map.add_same _ _ _) ⟨fun _ => rfl, hlen, fun _ => by simp, fun s hs => by omega⟩), by simp [h0]⟩
    exact (hv v (List.mem_of_getElem? hi)).mono fun _ _ h => by cases h

theorem sameAt_of_heap {W W' : World} (hk : ∀ k, k < W.heap.size → W'.heap[k]? = W.heap[k]?) {p : MemPlace} (hp : p.block < W.heap.size) : W.sameAt W' p := by
  cases p with
  | cell b o =>
    show W'.cell? ⟨b, o, none⟩ = W.cell? ⟨b, o, none⟩
    unfold World.cell?
    rw [show W'.heap[(⟨b, o, none⟩ : Addr).block]? = W.heap[(⟨b, o, none⟩ : Addr).block]? from hk b hp]
  | map b => exact hk b hp

theorem trodAll_carry {H' : Type} {enc : TypeId × Value → H'} {P : Program} {W W' : World} {base : Nat} {spare : Nat → Bool} {held : Bool} : ∀ {ts : List TypeId} {vs : List Value} {ds : List (DataW H')} {ps : List MemPlace},
    DataW.TrodAll enc P W base spare held ts vs ds ps → (∀ p ∈ ps, W.sameAt W' p) → DataW.TrodAll enc P W' base spare held ts vs ds ps
  | [], [], [], _, h, _ => h
  | _ :: _, _ :: _, _ :: _, _, ⟨p, q, ⟨n, h1⟩, h2, e⟩, hs =>
    ⟨p, q, ⟨n, DataW.trod_carry n _ _ _ h1 fun x hx => hs x (by rw [e]; exact List.mem_append_left _ hx)⟩, trodAll_carry h2 (fun x hx => hs x (by rw [e]; exact List.mem_append_right _ hx)), e⟩

theorem keptBut_of_heap {W W' : World} {may : MemPlace → Prop} (hk : ∀ k, k < W.heap.size → W'.heap[k]? = W.heap[k]?) (hos : W'.os = W.os) (hout : W'.output = W.output) : W.keptBut W' may := by
  refine ⟨hos, hout, fun i hi => ?_⟩
  rw [hk i hi]
  cases hq : W.heap[i]? with
  | none => rfl
  | some o =>
    cases o with
    | cells c t fr => exact ⟨rfl, rfl, rfl, fun _ _ => rfl⟩
    | map es clock => exact .inr ⟨rfl, rfl⟩
    | _ => rfl

/-- What the row asks behind the call of a law. -/
theorem law_post {H' : Type} {enc : TypeId × Value → H'} {P : Program} {f : Func} {s : ChangeSpec} {apart fresh handsOn : Bool} {W W' : World} {args : Array Value} {tb : TypeId} {ds : List (DataW H')} {before : List MemPlace}
    (hW : DataW.Whole enc P f.params.toList s.vars apart W args.toList ds [] before) (hvars : s.vars = []) (hfn : s.fn H' (ds ++ []) = { results := [.lit (.bool true)], args := ds })
    (hres : f.resultTypes = #[tb]) (hb : P.underlying tb = some .bool) (hk : ∀ k, k < W.heap.size → W'.heap[k]? = W.heap[k]?) (hos : W'.os = W.os) (hout : W'.output = W.output)
    (K : Kids P (· < P.types.size)) (hfull : ∀ t e, t < P.types.size → P.underlying t = some (.slice e) → 0 < P.cellsOf e) (hts : ∀ t ∈ f.params.toList, t < P.types.size) :
    s.post enc P f apart fresh handsOn false W args (.bool true) W' := by
  have hlt := hW.lt
  have hW0 := hW
  obtain ⟨p, q, h1, h2, h3, _, _⟩ := hW
  rw [hvars] at h2
  have hq : q = [] := h2
  subst hq
  rw [List.append_nil] at h3
  subst h3
  refine ⟨ds, [], before, [], before, [], hW0, ?_, ?_, ?_, keptBut_of_heap hk hos hout, fun h => by cases h⟩
  · rw [hfn, hres]
    exact Go.ChangeShapes.trodAll_mk1 (Go.RowKit.shut_bool hb true)
  · rw [hfn]
    exact trodAll_carry (DataW.TrodAll.respare K hfull hts h1 fun x hx => by simpa using hlt x hx) fun x hx => sameAt_of_heap hk (hlt x hx)
  · rw [hfn, hvars]
    rfl

/-- A law's call, out of the abstract one. -/
theorem law_calls {H' : Type} {enc : TypeId × Value → H'} {P : Program} {G g : Nat} {f : Func} {s : ChangeSpec} {apart fresh handsOn : Bool} {W : World} {args : Array Value} {tb : TypeId} {ds : List (DataW H')} {before : List MemPlace} {m : List Value → M Value}
    (hS : Sim P G g m) {n : Nat} {ρ : Map} {h : H} (he : Entry G W n ρ h) {vs : List Value} (hvs : WL ρ vs args.toList) {n' : Nat} {h' : H} (hm : m vs n h = some (.bool true, n', h'))
    (hW : DataW.Whole enc P f.params.toList s.vars apart W args.toList ds [] before) (hvars : s.vars = []) (hfn : s.fn H' (ds ++ []) = { results := [.lit (.bool true)], args := ds })
    (hres : f.resultTypes = #[tb]) (hb : P.underlying tb = some .bool)
    (K : Kids P (· < P.types.size)) (hfull : ∀ t e, t < P.types.size → P.underlying t = some (.slice e) → 0 < P.cellsOf e) (hts : (f.params.toList.all fun t => decide (t < P.types.size)) = true) :
    Calls P g args W fun e W' => ∃ v, e = .returned v ∧ s.post enc P f apart fresh handsOn false W args v W' := by
  have := hS.calls vs n h _ _ _ hm ρ W args.toList he.r hvs
  rw [Array.toArray_toList] at this
  refine this.mono fun e W' ⟨v', ρ', e1, e2, e3, e4⟩ => ?_
  have := e2.bool_inv
  subst this
  exact ⟨_, e1, law_post hW hvars hfn hres hb (fun k hk => e4.frame k hk (he.noOwn k)) e4.os e4.output K hfull (fun t ht => by simpa using List.all_eq_true.1 hts t ht)⟩

end Go.Fw
end
section
namespace Go.Fw

abbrev pt (b o : Nat) : Value := .pointer (some ⟨b, o, none⟩)
abbrev sl (b o len cap : Nat) : Value := .slice (some ⟨b, o, none⟩) len cap
abbrev nsl : Value := .slice none 0 0
abbrev i64 (z : Int) : Value := .int .i64 z
abbrev bo (b : Bool) : Value := .bool b

/-! ## Numbers -/

theorem wrap64 {z : Int} (h : -9223372036854775808 ≤ z ∧ z ≤ 9223372036854775807) : IntKind.i64.wrap z = z := by
  have h1 : IntKind.i64.signed = true := rfl
  have h2 : IntKind.i64.bits = 64 := rfl
  unfold IntKind.wrap
  rw [h1, h2]
  show (if (true && decide (z % (2 ^ 64 : Int) ≥ (2 ^ (64 - 1) : Int))) = true then z % (2 ^ 64 : Int) - (2 ^ 64 : Int) else z % (2 ^ 64 : Int)) = z
  rw [show (2 ^ 64 : Int) = 18446744073709551616 by rfl, show (2 ^ (64 - 1) : Int) = 9223372036854775808 by rfl]
  simp only [Bool.true_and, decide_eq_true_eq]
  split <;> omega

/-! ## Steps -/
section
variable {β : Type} {n : Nat} {h : H} {k : Value → M β}

theorem st_add {kd : IntKind} {a b : Int} : bnd (opBin .add (.int kd a) (.int kd b)) k = k (.int kd (kd.wrap (a + b))) := by simp [opBin, bin]
theorem st_sub {kd : IntKind} {a b : Int} : bnd (opBin .sub (.int kd a) (.int kd b)) k = k (.int kd (kd.wrap (a - b))) := by simp [opBin, bin]
theorem st_neq {kd : IntKind} {a b : Int} : bnd (opBin .neq (.int kd a) (.int kd b)) k = k (.bool (a != b)) := by simp [opBin, bin]
theorem st_lss {kd : IntKind} {a b : Int} : bnd (opBin .lss (.int kd a) (.int kd b)) k = k (.bool (decide (a < b))) := by simp [opBin, bin]
theorem st_leq {kd : IntKind} {a b : Int} : bnd (opBin .leq (.int kd a) (.int kd b)) k = k (.bool (decide (a ≤ b))) := by simp [opBin, bin]
theorem st_gtr {kd : IntKind} {a b : Int} : bnd (opBin .gtr (.int kd a) (.int kd b)) k = k (.bool (decide (b < a))) := by simp [opBin, bin]
theorem st_conv {kd kd' : IntKind} {z : Int} : bnd (opConv kd (.int kd' z)) k = k (.int kd (kd.wrap z)) := rfl
theorem st_len {a : Option Addr} {l c : Nat} : bnd (opLen (.slice a l c)) k = k (.int .i64 l) := rfl
theorem st_ix {s b o len cap : Nat} {kd : IntKind} {i : Int} : bnd (opIndexAddr s (sl b o len cap) (.int kd i)) k = if 0 ≤ i ∧ i < (len : Int) then k (pt b (o + i.toNat * s)) else fail := by
  show bnd (if 0 ≤ i ∧ i < (len : Int) then ret (pt b (o + i.toNat * s)) else fail) k = _
  split <;> rfl
/-! ## Memory -/

/-- Nothing is from n on. -/
def Fr (n : Nat) (h : H) : Prop := ∀ b, n ≤ b → h.get b = none
theorem Fr.run {α : Type} {m : M α} {n n' : Nat} {h h' : H} {v : α} (f : Fr n h) (e : m.run n h = some (v, n', h')) : Fr n' h' ∧ n ≤ n' := by
  have l := m.loc _ _ _ _ _ e
  refine ⟨fun b hb => ?_, l.le⟩
  cases hg : h'.get b with
  | none => rfl
  | some B =>
    have := (l.dom b).1 (by rw [hg]; rfl)
    have hle := l.le
    rcases this with h1 | h1
    · rw [f b (by omega)] at h1; cases h1
    · omega
theorem Fr.lt {n : Nat} {h : H} (f : Fr n h) {b : Nat} {B : Blk} (hb : h.get b = some B) : b < n := by
  rcases Nat.lt_or_ge b n with h1 | h1
  · exact h1
  · rw [f b h1] at hb; cases hb
theorem Fr.set {n : Nat} {h : H} (f : Fr n h) {b : Nat} (B : Blk) (hb : b < n) : Fr n (h.set b B) := fun c hc => by rw [H.get_set_ne _ _ (by omega)]; exact f c hc
theorem Fr.new {n : Nat} {h : H} (f : Fr n h) (B : Blk) : Fr (n + 1) (h.set n B) := fun c hc => by rw [H.get_set_ne _ _ (by omega)]; exact f c (by omega)

end

/-! ## Appending one value -/
section
variable {β : Type} {n : Nat} {h : H}

/-- A slice that grows by appends alone. -/
def Gl (h : H) (v : Value) (b : Nat) (cs : List Value) : Prop := (cs = [] ∧ v = nsl) ∨ (cs ≠ [] ∧ v = sl b 0 cs.length (U + 1) ∧ h.get b = some ⟨cs, .grow⟩)

theorem Gl.len {v : Value} {b : Nat} {cs : List Value} (g : Gl h v b cs) {k : Value → M β} : bnd (opLen v) k = k (i64 cs.length) := by
  rcases g with ⟨rfl, rfl⟩ | ⟨_, rfl, _⟩ <;> rfl
theorem Gl.keep {h' : H} {v : Value} {b : Nat} {cs : List Value} (g : Gl h v b cs) (hk : cs ≠ [] → h'.get b = h.get b) : Gl h' v b cs := by
  rcases g with ⟨rfl, rfl⟩ | ⟨g0, rfl, g1⟩
  · exact .inl ⟨rfl, rfl⟩
  · exact .inr ⟨g0, rfl, by rw [hk g0]; exact g1⟩
theorem Gl.lt {v : Value} {b : Nat} {cs : List Value} (g : Gl h v b cs) (f : Fr n h) (h0 : cs ≠ []) : b < n := by
  rcases g with ⟨rfl, _⟩ | ⟨_, _, g1⟩
  · exact absurd rfl h0
  · exact f.lt g1

end

/-! ## A call that looks at nothing, reckoned in an empty heap -/

theorem Entry.more {G : Nat} {W : World} {n m : Nat} {ρ : Map} {h : H} (e : Entry G W n ρ h) (hm : n ≤ m) : Entry G W m ρ h := ⟨e.r, e.ro, fun b hb => e.fresh b (by omega)⟩

end Go.Fw
end
section
namespace Go.Fw

abbrev u64 (a : Nat) : Value := .int .u64 (a : Int)

theorem wrapU {z : Int} (h : 0 ≤ z ∧ z < 18446744073709551616) : IntKind.u64.wrap z = z := by
  have h1 : IntKind.u64.signed = false := rfl
  have h2 : IntKind.u64.bits = 64 := rfl
  unfold IntKind.wrap
  rw [h1, h2]
  show (if (false && decide (z % (2 ^ 64 : Int) ≥ (2 ^ (64 - 1) : Int))) = true then z % (2 ^ 64 : Int) - (2 ^ 64 : Int) else z % (2 ^ 64 : Int)) = z
  rw [show (2 ^ 64 : Int) = 18446744073709551616 by rfl]
  simp only [Bool.false_and, Bool.false_eq_true, if_false]
  omega
theorem wrapU_mod {z : Int} : IntKind.u64.wrap z = z % 18446744073709551616 := by
  have h1 : IntKind.u64.signed = false := rfl
  have h2 : IntKind.u64.bits = 64 := rfl
  unfold IntKind.wrap
  rw [h1, h2]
  show (if (false && decide (z % (2 ^ 64 : Int) ≥ (2 ^ (64 - 1) : Int))) = true then z % (2 ^ 64 : Int) - (2 ^ 64 : Int) else z % (2 ^ 64 : Int)) = _
  rw [show (2 ^ 64 : Int) = 18446744073709551616 by rfl]
  simp only [Bool.false_and, Bool.false_eq_true, if_false]

theorem ofInt_nat {a : Nat} : BitVec.ofInt 64 (a : Int) = BitVec.ofNat 64 a := by
  apply BitVec.eq_of_toNat_eq
  simp

section
variable {β : Type} {k : Value → M β}

theorem st_orU {a b : Nat} (ha : a < 2 ^ 64) (hb : b < 2 ^ 64) : bnd (opBin .or (u64 a) (u64 b)) k = k (u64 (a ||| b)) := by
  have hor : a ||| b < 2 ^ 64 := Nat.or_lt_two_pow ha hb
  have e : bin .or (u64 a) (u64 b) = some (u64 (a ||| b)) := by
    show (if IntKind.u64 = IntKind.u64 then some (Value.int .u64 (IntKind.u64.wrap ((BitVec.ofInt 64 (a : Int) ||| BitVec.ofInt 64 (b : Int)).toNat : Int))) else none) = _
    rw [if_pos rfl, ofInt_nat, ofInt_nat, BitVec.toNat_or, BitVec.toNat_ofNat, BitVec.toNat_ofNat, Nat.mod_eq_of_lt ha, Nat.mod_eq_of_lt hb, wrapU (by omega)]
  unfold opBin; rw [e]; rfl
theorem st_andU {a b : Nat} (ha : a < 2 ^ 64) (hb : b < 2 ^ 64) : bnd (opBin .and (u64 a) (u64 b)) k = k (u64 (a &&& b)) := by
  have hor : a &&& b < 2 ^ 64 := Nat.lt_of_le_of_lt Nat.and_le_left ha
  have e : bin .and (u64 a) (u64 b) = some (u64 (a &&& b)) := by
    show (if IntKind.u64 = IntKind.u64 then some (Value.int .u64 (IntKind.u64.wrap ((BitVec.ofInt 64 (a : Int) &&& BitVec.ofInt 64 (b : Int)).toNat : Int))) else none) = _
    rw [if_pos rfl, ofInt_nat, ofInt_nat, BitVec.toNat_and, BitVec.toNat_ofNat, BitVec.toNat_ofNat, Nat.mod_eq_of_lt ha, Nat.mod_eq_of_lt hb, wrapU (by omega)]
  unfold opBin; rw [e]; rfl
/-- What is in a and not in b. -/
def andNot (a b : Nat) : Nat := a &&& (2 ^ 64 - 1 - b)
theorem andNot_lt {a b : Nat} (ha : a < 2 ^ 64) : andNot a b < 2 ^ 64 := Nat.lt_of_le_of_lt Nat.and_le_left ha
theorem st_andNotU {a b : Nat} (ha : a < 2 ^ 64) (hb : b < 2 ^ 64) : bnd (opBin .andNot (u64 a) (u64 b)) k = k (u64 (andNot a b)) := by
  have hor := andNot_lt (b := b) ha
  have e : bin .andNot (u64 a) (u64 b) = some (u64 (andNot a b)) := by
    show (if IntKind.u64 = IntKind.u64 then some (Value.int .u64 (IntKind.u64.wrap ((BitVec.ofInt 64 (a : Int) &&& ~~~BitVec.ofInt 64 (b : Int)).toNat : Int))) else none) = _
    rw [if_pos rfl, ofInt_nat, ofInt_nat, BitVec.toNat_and, BitVec.toNat_not, BitVec.toNat_ofNat, BitVec.toNat_ofNat, Nat.mod_eq_of_lt ha, Nat.mod_eq_of_lt hb]
    rw [wrapU (by unfold andNot at hor; omega)]
    rfl
  unfold opBin; rw [e]; rfl
theorem st_shrU {a s : Nat} {kd : IntKind} (hs : s ≤ 64) : bnd (opBin .shr (u64 a) (.int kd (s : Int))) k = k (u64 (a / 2 ^ s)) := by
  have e : bin .shr (u64 a) (.int kd (s : Int)) = some (u64 (a / 2 ^ s)) := by
    show (if (s : Int) < 0 then none else some (Value.int .u64 ((a : Int).fdiv (2 ^ (min (s : Int).toNat 64))))) = _
    rw [if_neg (by omega), Int.toNat_natCast, Nat.min_eq_left hs]
    have h2 : ((2 : Int) ^ s) = ((2 ^ s : Nat) : Int) := by simp
    rw [h2, Int.fdiv_eq_ediv_of_nonneg _ (Int.natCast_nonneg _)]
    rfl
  unfold opBin; rw [e]; rfl
end

end Go.Fw
end
section
set_option linter.unusedVariables false
namespace Go.Fk
open Go Go.Fw

/-! ## From the first machine's values -/

def vc0 : Value → V
  | .bool b => .b b
  | .int .i64 z => .i z
  | .int .u64 (.ofNat n) => .w n
  | .int k z => .k k z
  | .string s => .str s
  | .pointer none => .np
  | .slice none 0 0 => .ns
  | .nilFunc => .nf
  | .nilIface => .ni
  | .map none => .nm
  | _ => .u
theorem vc0_rel (v : Value) : VRel (vc0 v) v := by
  unfold vc0
  split <;> first | exact .inl rfl | exact .inr rfl
theorem vc0_ok {v : Value} (h : okC0 v = true) : cv (vc0 v) = v := by
  rcases vc0_rel v with e | e
  · exfalso
    unfold okC0 at h
    split at h <;> (unfold vc0 at e; split at e <;> simp_all)
  · exact e
def vcl (cs : List Value) : V := ofL (cs.map vc0)
theorem vcl_ok {cs : List Value} (h : cs.all okC0 = true) : cvL (vcl cs) = cs := by
  unfold vcl
  rw [cvL_ofL, List.map_map]
  conv => rhs; rw [← List.map_id cs]
  apply List.map_congr_left
  intro v hv
  exact vc0_ok (List.all_eq_true.1 h v hv)
def vc : Value → V
  | .agg cs => if cs.toList.all okC0 then .a (vcl cs.toList) else .u
  | v => vc0 v
theorem vc_rel (v : Value) : VRel (vc v) v := by
  unfold vc
  split
  · rename_i cs
    split
    · rename_i h; right; show Value.agg (cvL (vcl cs.toList)).toArray = _; rw [vcl_ok h]
    · exact .inl rfl
  · exact vc0_rel _

theorem VRel.got {v : V} {w : Value} (h : VRel v w) (h1 : v ≠ .u) : w = cv v := by
  rcases h with h | h
  · exact absurd h h1
  · exact h.symm

/-! ## A step, and what comes behind it -/

theorem Ref.step {k : St} {m : M Value} {K : V → St} {K' : Value → M Value} (hK : KR K K')
    (h : ∀ a t n h, HR a t n h → ∀ v a' t', k a t = .ok v a' t' → ∃ x w0 a1 t1 n1 h1, m n h = some (w0, n1, h1) ∧ VRel x w0 ∧ HR a1 t1 n1 h1 ∧ K x a1 t1 = .ok v a' t') : Ref k (bnd m K') := by
  intro a t n hh hr v a' t' e
  obtain ⟨x, w0, a1, t1, n1, h1, e1, e2, e3, e4⟩ := h a t n hh hr v a' t' e
  obtain ⟨w, n', h', e5, e6, e7⟩ := hK x w0 e2 _ _ _ _ e3 _ _ _ e4
  exact ⟨w, n', h', by rw [bnd_of e1]; exact e5, e6, e7⟩

/-- What gives a value at once. -/
theorem Ref.val {k : St} {m : M Value} {K : V → St} {K' : Value → M Value} (hK : KR K K')
    (h : ∀ a t v a' t', k a t = .ok v a' t' → ∃ x w0, m = ret w0 ∧ VRel x w0 ∧ K x a t = .ok v a' t') : Ref k (bnd m K') :=
  Ref.step hK fun a t n hh hr v a' t' e => by
    obtain ⟨x, w0, rfl, e2, e3⟩ := h a t v a' t' e
    exact ⟨x, w0, a, t, n, hh, rfl, e2, hr, e3⟩

/-- A value that is at hand in the first machine, in whatever way it is reckoned there. -/
noncomputable def kVal (m : M Value) (K : V → St) : St :=
  match m.run 0 .leaf with
  | some (w, _, _) => K (vc w)
  | none => bad
theorem kVal_ref {m : M Value} (hm : IsRet m) {K : V → St} {K' : Value → M Value} (hK : KR K K') : Ref (kVal m K) (bnd m K') := by
  rcases hm with ⟨w, rfl⟩ | rfl
  · refine Ref.val hK fun a t v a' t' e => ⟨vc w, w, rfl, vc_rel w, e⟩
  · intro a t n h hr v a' t' e; cases e

/-! ## Numbers -/

noncomputable def slowR (op : BinOp) (x y : V) (K : V → R) : R := @Option.rec Value (fun _ => R) .bad (fun w => K (vc w)) (bin op (cv x) (cv y))
noncomputable def ifR (b : Bool) (t f : R) : R := @Bool.rec (fun _ => R) f t b

/-- A way to reckon an operator. -/
def BinOK (op : BinOp) (f : V → V → (V → R) → R) : Prop := ∀ x y K v a t, f x y K = .ok v a t → ∃ z w, bin op (cv x) (cv y) = some w ∧ VRel z w ∧ K z = .ok v a t

theorem slowR_ok (op : BinOp) : BinOK op (slowR op) := by
  intro x y K v a t h
  unfold slowR at h
  cases e : bin op (cv x) (cv y) with
  | none => rw [e] at h; cases h
  | some w => rw [e] at h; exact ⟨vc w, w, rfl, vc_rel w, h⟩
theorem ifR_ok {b : Bool} {t f : R} {v : V} {a : Ad} {t' : T4} (h : ifR b t f = .ok v a t') : (b = true ∧ t = .ok v a t') ∨ (b = false ∧ f = .ok v a t') := by
  cases b
  · exact .inr ⟨rfl, h⟩
  · exact .inl ⟨rfl, h⟩

noncomputable def addR (x y : V) (K : V → R) : R := on_n x (fun m => on_n y (fun n => ifR (Nat.blt (Nat.add m n) 9223372036854775808) (K (.i (.ofNat (Nat.add m n)))) (slowR .add x y K)) (slowR .add x y K)) (on_w2 x (fun m => on_w2 y (fun n => K (.w (Nat.mod (Nat.add m n) 18446744073709551616))) (slowR .add x y K)) (slowR .add x y K))
noncomputable def subR (x y : V) (K : V → R) : R := on_n x (fun m => on_n y (fun n => ifR (Nat.ble n m) (ifR (Nat.blt m 9223372036854775808) (K (.i (.ofNat (Nat.sub m n)))) (slowR .sub x y K)) (slowR .sub x y K)) (slowR .sub x y K)) (on_w2 x (fun m => on_w2 y (fun n => ifR (Nat.ble n m) (ifR (Nat.blt m 18446744073709551616) (K (.w (Nat.sub m n))) (slowR .sub x y K)) (slowR .sub x y K)) (slowR .sub x y K)) (slowR .sub x y K))
noncomputable def mulR (x y : V) (K : V → R) : R := on_n x (fun m => on_n y (fun n => ifR (Nat.blt (Nat.mul m n) 9223372036854775808) (K (.i (.ofNat (Nat.mul m n)))) (slowR .mul x y K)) (slowR .mul x y K)) (on_w2 x (fun m => on_w2 y (fun n => K (.w (Nat.mod (Nat.mul m n) 18446744073709551616))) (slowR .mul x y K)) (slowR .mul x y K))
noncomputable def quoR (x y : V) (K : V → R) : R := on_n x (fun m => on_n y (fun n => ifR (Nat.beq n 0) .bad (ifR (Nat.blt m 9223372036854775808) (K (.i (.ofNat (Nat.div m n)))) (slowR .quo x y K))) (slowR .quo x y K)) (slowR .quo x y K)
noncomputable def remR (x y : V) (K : V → R) : R := on_n x (fun m => on_n y (fun n => ifR (Nat.beq n 0) .bad (K (.i (.ofNat (Nat.mod m n))))) (slowR .rem x y K)) (slowR .rem x y K)
noncomputable def cmpR (op : BinOp) (f : Nat → Nat → Bool) (x y : V) (K : V → R) : R := on_n x (fun m => on_n y (fun n => K (.b (f m n))) (slowR op x y K)) (on_w2 x (fun m => on_w2 y (fun n => K (.b (f m n))) (slowR op x y K)) (slowR op x y K))
noncomputable def wordR (op : BinOp) (f : Nat → Nat → Nat) (x y : V) (K : V → R) : R := on_w2 x (fun m => on_w2 y (fun n => ifR (Nat.blt m 18446744073709551616) (ifR (Nat.blt n 18446744073709551616) (K (.w (f m n))) (slowR op x y K)) (slowR op x y K)) (slowR op x y K)) (slowR op x y K)
/-- A word, moved by so many places. -/
noncomputable def shR (op : BinOp) (f : Nat → Nat → Nat) (x y : V) (K : V → R) : R := on_w2 x (fun m => on_n y (fun n => ifR (Nat.blt n 64) (K (.w (f m n))) (slowR op x y K)) (on_w2 y (fun n => ifR (Nat.blt n 64) (K (.w (f m n))) (slowR op x y K)) (slowR op x y K))) (slowR op x y K)

theorem blt_lt {m n : Nat} (h : Nat.blt m n = true) : m < n := by
  unfold Nat.blt at h; exact Nat.le_of_ble_eq_true h

theorem addR_ok : BinOK .add addR := by
  intro x y K v a t h
  rcases on_n_ok h with ⟨m, rfl, h⟩ | h
  · rcases on_n_ok h with ⟨n, rfl, h⟩ | h
    · rcases ifR_ok h with ⟨hb, h⟩ | ⟨_, h⟩
      · have := blt_lt hb
        refine ⟨_, _, ?_, .of _, h⟩
        show bin .add (.int .i64 (.ofNat m)) (.int .i64 (.ofNat n)) = some (.int .i64 (.ofNat (m + n)))
        simp only [bin, if_true]
        rw [wrap64 (by have h1 : m + n < 9223372036854775808 := this; constructor <;> simp <;> omega)]
        rfl
      · exact slowR_ok .add _ _ _ _ _ _ h
    · exact slowR_ok .add _ _ _ _ _ _ h
  · rcases on_w2_ok h with ⟨m, rfl, h⟩ | h
    · rcases on_w2_ok h with ⟨n, rfl, h⟩ | h
      · refine ⟨_, _, ?_, .of _, h⟩
        show bin .add (.int .u64 (m : Int)) (.int .u64 (n : Int)) = some (.int .u64 ((m + n) % 18446744073709551616 : Nat))
        simp only [bin, if_true]
        rw [wrapU_mod]
        simp
      · exact slowR_ok .add _ _ _ _ _ _ h
    · exact slowR_ok .add _ _ _ _ _ _ h
theorem subR_ok : BinOK .sub subR := by
  intro x y K v a t h
  rcases on_n_ok h with ⟨m, rfl, h⟩ | h
  · rcases on_n_ok h with ⟨n, rfl, h⟩ | h
    · rcases ifR_ok h with ⟨hb, h⟩ | ⟨_, h⟩
      · rcases ifR_ok h with ⟨hb2, h⟩ | ⟨_, h⟩
        · have h1 := Nat.le_of_ble_eq_true hb
          have h2 := blt_lt hb2
          refine ⟨_, _, ?_, .of _, h⟩
          show bin .sub (.int .i64 (.ofNat m)) (.int .i64 (.ofNat n)) = some (.int .i64 (.ofNat (m - n)))
          simp only [bin, if_true]
          rw [wrap64 (by constructor <;> simp <;> omega)]
          congr 2; simp; omega
        · exact slowR_ok .sub _ _ _ _ _ _ h
      · exact slowR_ok .sub _ _ _ _ _ _ h
    · exact slowR_ok .sub _ _ _ _ _ _ h
  · rcases on_w2_ok h with ⟨m, rfl, h⟩ | h
    · rcases on_w2_ok h with ⟨n, rfl, h⟩ | h
      · rcases ifR_ok h with ⟨hb, h⟩ | ⟨_, h⟩
        · rcases ifR_ok h with ⟨hb2, h⟩ | ⟨_, h⟩
          · have h1 := Nat.le_of_ble_eq_true hb
            have h2 := blt_lt hb2
            refine ⟨_, _, ?_, .of _, h⟩
            show bin .sub (.int .u64 (m : Int)) (.int .u64 (n : Int)) = some (.int .u64 ((m - n : Nat) : Int))
            simp only [bin, if_true]
            rw [wrapU (by omega)]
            congr 2; omega
          · exact slowR_ok .sub _ _ _ _ _ _ h
        · exact slowR_ok .sub _ _ _ _ _ _ h
      · exact slowR_ok .sub _ _ _ _ _ _ h
    · exact slowR_ok .sub _ _ _ _ _ _ h
theorem mulR_ok : BinOK .mul mulR := by
  intro x y K v a t h
  rcases on_n_ok h with ⟨m, rfl, h⟩ | h
  · rcases on_n_ok h with ⟨n, rfl, h⟩ | h
    · rcases ifR_ok h with ⟨hb, h⟩ | ⟨_, h⟩
      · have h1 : m * n < 9223372036854775808 := blt_lt hb
        refine ⟨_, _, ?_, .of _, h⟩
        show bin .mul (.int .i64 (.ofNat m)) (.int .i64 (.ofNat n)) = some (.int .i64 (.ofNat (m * n)))
        simp only [bin, if_true]
        have h2 : (Int.ofNat m * Int.ofNat n) = ((m * n : Nat) : Int) := by simp
        rw [h2, wrap64 (by omega)]
        rfl
      · exact slowR_ok .mul _ _ _ _ _ _ h
    · exact slowR_ok .mul _ _ _ _ _ _ h
  · rcases on_w2_ok h with ⟨m, rfl, h⟩ | h
    · rcases on_w2_ok h with ⟨n, rfl, h⟩ | h
      · refine ⟨_, _, ?_, .of _, h⟩
        show bin .mul (.int .u64 (m : Int)) (.int .u64 (n : Int)) = some (.int .u64 ((m * n) % 18446744073709551616 : Nat))
        simp only [bin, if_true]
        rw [wrapU_mod]
        simp
      · exact slowR_ok .mul _ _ _ _ _ _ h
    · exact slowR_ok .mul _ _ _ _ _ _ h
theorem quoR_ok : BinOK .quo quoR := by
  intro x y K v a t h
  rcases on_n_ok h with ⟨m, rfl, h⟩ | h
  · rcases on_n_ok h with ⟨n, rfl, h⟩ | h
    · rcases ifR_ok h with ⟨_, h⟩ | ⟨hb, h⟩
      · cases h
      · rcases ifR_ok h with ⟨hb2, h⟩ | ⟨_, h⟩
        · have h0 : n ≠ 0 := Nat.ne_of_beq_eq_false hb
          have h2 := blt_lt hb2
          refine ⟨_, _, ?_, .of _, h⟩
          show bin .quo (.int .i64 (.ofNat m)) (.int .i64 (.ofNat n)) = some (.int .i64 (.ofNat (m / n)))
          have h3 : ¬ ((Int.ofNat n) = 0) := by simp; exact h0
          simp only [bin, if_true, if_neg h3]
          have h4 : (Int.ofNat m).tdiv (Int.ofNat n) = ((m / n : Nat) : Int) := rfl
          have h5 : m / n < 9223372036854775808 := Nat.lt_of_le_of_lt (Nat.div_le_self m n) h2
          rw [h4]
          generalize m / n = q at h5
          rw [wrap64 (by omega)]
          rfl
        · exact slowR_ok .quo _ _ _ _ _ _ h
    · exact slowR_ok .quo _ _ _ _ _ _ h
  · exact slowR_ok .quo _ _ _ _ _ _ h
theorem remR_ok : BinOK .rem remR := by
  intro x y K v a t h
  rcases on_n_ok h with ⟨m, rfl, h⟩ | h
  · rcases on_n_ok h with ⟨n, rfl, h⟩ | h
    · rcases ifR_ok h with ⟨_, h⟩ | ⟨hb, h⟩
      · cases h
      · have h0 : n ≠ 0 := Nat.ne_of_beq_eq_false hb
        refine ⟨_, _, ?_, .of _, h⟩
        show bin .rem (.int .i64 (.ofNat m)) (.int .i64 (.ofNat n)) = some (.int .i64 (.ofNat (m % n)))
        have h3 : ¬ ((Int.ofNat n) = 0) := by simp; exact h0
        simp only [bin, if_true, if_neg h3]
        rfl
    · exact slowR_ok .rem _ _ _ _ _ _ h
  · exact slowR_ok .rem _ _ _ _ _ _ h

theorem cmpR_ok {op : BinOp} {f : Nat → Nat → Bool} (hf : ∀ (k : IntKind) (m n : Nat), bin op (.int k m) (.int k n) = some (.bool (f m n))) : BinOK op (cmpR op f) := by
  intro x y K v a t h
  rcases on_n_ok h with ⟨m, rfl, h⟩ | h
  · rcases on_n_ok h with ⟨n, rfl, h⟩ | h
    · exact ⟨_, _, hf .i64 m n, .of _, h⟩
    · exact slowR_ok op _ _ _ _ _ _ h
  · rcases on_w2_ok h with ⟨m, rfl, h⟩ | h
    · rcases on_w2_ok h with ⟨n, rfl, h⟩ | h
      · exact ⟨_, _, hf .u64 m n, .of _, h⟩
      · exact slowR_ok op _ _ _ _ _ _ h
    · exact slowR_ok op _ _ _ _ _ _ h
theorem wordR_ok {op : BinOp} {f : Nat → Nat → Nat} (hf : ∀ m n : Nat, m < 18446744073709551616 → n < 18446744073709551616 → bin op (.int .u64 m) (.int .u64 n) = some (.int .u64 (f m n : Nat))) : BinOK op (wordR op f) := by
  intro x y K v a t h
  rcases on_w2_ok h with ⟨m, rfl, h⟩ | h
  · rcases on_w2_ok h with ⟨n, rfl, h⟩ | h
    · rcases ifR_ok h with ⟨hb, h⟩ | ⟨_, h⟩
      · rcases ifR_ok h with ⟨hb2, h⟩ | ⟨_, h⟩
        · exact ⟨_, _, hf m n (blt_lt hb) (blt_lt hb2), .of _, h⟩
        · exact slowR_ok op _ _ _ _ _ _ h
      · exact slowR_ok op _ _ _ _ _ _ h
    · exact slowR_ok op _ _ _ _ _ _ h
  · exact slowR_ok op _ _ _ _ _ _ h
theorem shR_ok {op : BinOp} {f : Nat → Nat → Nat} (hf : ∀ (k : IntKind) (m n : Nat), n < 64 → bin op (.int .u64 m) (.int k n) = some (.int .u64 (f m n : Nat))) : BinOK op (shR op f) := by
  intro x y K v a t h
  rcases on_w2_ok h with ⟨m, rfl, h⟩ | h
  · rcases on_n_ok h with ⟨n, rfl, h⟩ | h
    · rcases ifR_ok h with ⟨hb, h⟩ | ⟨_, h⟩
      · exact ⟨_, _, hf .i64 m n (blt_lt hb), .of _, h⟩
      · exact slowR_ok op _ _ _ _ _ _ h
    · rcases on_w2_ok h with ⟨n, rfl, h⟩ | h
      · rcases ifR_ok h with ⟨hb, h⟩ | ⟨_, h⟩
        · exact ⟨_, _, hf .u64 m n (blt_lt hb), .of _, h⟩
        · exact slowR_ok op _ _ _ _ _ _ h
      · exact slowR_ok op _ _ _ _ _ _ h
  · exact slowR_ok op _ _ _ _ _ _ h

noncomputable def lssR : V → V → (V → R) → R := cmpR .lss Nat.blt
noncomputable def leqR : V → V → (V → R) → R := cmpR .leq Nat.ble
noncomputable def gtrR : V → V → (V → R) → R := cmpR .gtr fun m n => Nat.blt n m
noncomputable def geqR : V → V → (V → R) → R := cmpR .geq fun m n => Nat.ble n m
noncomputable def eqlR : V → V → (V → R) → R := cmpR .eql Nat.beq
noncomputable def neqR : V → V → (V → R) → R := cmpR .neq fun m n => @Bool.rec (fun _ => Bool) true false (Nat.beq m n)
noncomputable def andR : V → V → (V → R) → R := wordR .and Nat.land
noncomputable def orR : V → V → (V → R) → R := wordR .or Nat.lor
noncomputable def andNotR : V → V → (V → R) → R := wordR .andNot fun m n => Nat.land m (Nat.sub 18446744073709551615 n)
noncomputable def shlR : V → V → (V → R) → R := shR .shl fun m n => Nat.mod (Nat.mul m (Nat.pow 2 n)) 18446744073709551616
noncomputable def shrR : V → V → (V → R) → R := shR .shr fun m n => Nat.div m (Nat.pow 2 n)

theorem bool_ext {a b : Bool} (h : a = true ↔ b = true) : a = b := by cases a <;> cases b <;> simp_all
theorem blt_dec (m n : Nat) : Nat.blt m n = decide ((m : Int) < (n : Int)) := bool_ext ⟨fun h => by have := blt_lt h; simp; exact this, fun h => by simp at h; unfold Nat.blt; exact Nat.ble_eq_true_of_le h⟩
theorem ble_dec (m n : Nat) : Nat.ble m n = decide ((m : Int) ≤ (n : Int)) := bool_ext ⟨fun h => by have := Nat.le_of_ble_eq_true h; simp; exact this, fun h => by simp at h; exact Nat.ble_eq_true_of_le h⟩
theorem beq_dec (m n : Nat) : Nat.beq m n = ((m : Int) == (n : Int)) := bool_ext ⟨fun h => by have := Nat.eq_of_beq_eq_true h; subst this; simp, fun h => by simp at h; have h2 : m = n := Int.ofNat_inj.1 h; subst h2; exact Nat.beq_refl _⟩
theorem lssR_ok : BinOK .lss lssR := cmpR_ok fun k m n => by simp [bin, blt_dec]
theorem leqR_ok : BinOK .leq leqR := cmpR_ok fun k m n => by simp [bin, ble_dec]
theorem gtrR_ok : BinOK .gtr gtrR := cmpR_ok fun k m n => by simp [bin, blt_dec]
theorem geqR_ok : BinOK .geq geqR := cmpR_ok fun k m n => by simp [bin, ble_dec]
theorem eqlR_ok : BinOK .eql eqlR := cmpR_ok fun k m n => by simp only [bin, if_true]; rw [beq_dec]
theorem neqR_ok : BinOK .neq neqR := cmpR_ok fun k m n => by
  simp only [bin, if_true, bne]
  rw [← beq_dec]
  cases Nat.beq m n <;> rfl
theorem of_bnd {op : BinOp} {x y v : Value} (h : bnd (opBin op x y) (fun v => ret v) = ret v) : bin op x y = some v := by
  unfold opBin at h
  cases e : bin op x y with
  | none =>
    rw [e] at h
    have h1 := congrArg (fun m : M Value => m.run 0 .leaf) h
    simp [Fw.fail, Fw.ret, bnd] at h1
  | some w =>
    rw [e] at h
    have h1 := congrArg (fun m : M Value => m.run 0 .leaf) h
    simp [Fw.ret, bnd] at h1
    rw [h1]
theorem andR_ok : BinOK .and andR := wordR_ok fun m n hm hn => of_bnd (st_andU (k := fun v => ret v) hm hn)
theorem orR_ok : BinOK .or orR := wordR_ok fun m n hm hn => of_bnd (st_orU (k := fun v => ret v) hm hn)
theorem andNotR_ok : BinOK .andNot andNotR := wordR_ok fun m n hm hn => of_bnd (st_andNotU (k := fun v => ret v) hm hn)
theorem shrR_ok : BinOK .shr shrR := shR_ok fun k m n hn => of_bnd (st_shrU (k := fun v => ret v) (by omega))
theorem shlR_ok : BinOK .shl shlR := shR_ok fun k m n hn => by
  show (if (n : Int) < 0 then none else some (Value.int .u64 (IntKind.u64.wrap ((m : Int) * 2 ^ (min (n : Int).toNat 64))))) = _
  rw [if_neg (by omega), Int.toNat_natCast, Nat.min_eq_left (by omega), wrapU_mod]
  have h2 : ((2 : Int) ^ n) = ((2 ^ n : Nat) : Int) := by simp
  rw [h2]
  show some (Value.int .u64 _) = some (Value.int .u64 ((m * 2 ^ n % 18446744073709551616 : Nat) : Int))
  simp

theorem bin_ref {op : BinOp} {f : V → V → (V → R) → R} (hf : BinOK op f) {x y : V} {x' y' : Value} (hx : VRel x x') (hy : VRel y y') {K : V → St} {K' : Value → M Value} (hK : KR K K') :
    Ref (fun a t => f x y fun v => K v a t) (bnd (opBin op x' y') K') := by
  refine Ref.val hK fun a t v a' t' e => ?_
  obtain ⟨z, w, e1, e2, e3⟩ := hf _ _ _ _ _ _ e
  have hxu : x ≠ .u := by rintro rfl; simp [cv, bin, undef] at e1
  have hyu : y ≠ .u := by
    rintro rfl
    cases hq : cv x <;> rw [hq] at e1 <;> simp [cv, bin, undef] at e1
  refine ⟨z, w, ?_, e2, e3⟩
  rw [hx.got hxu, hy.got hyu]
  unfold opBin
  rw [e1]

noncomputable def kAdd (x y : V) (K : V → St) : St := fun a t => addR x y fun v => K v a t
noncomputable def kSub (x y : V) (K : V → St) : St := fun a t => subR x y fun v => K v a t
noncomputable def kMul (x y : V) (K : V → St) : St := fun a t => mulR x y fun v => K v a t
noncomputable def kQuo (x y : V) (K : V → St) : St := fun a t => quoR x y fun v => K v a t
noncomputable def kRem (x y : V) (K : V → St) : St := fun a t => remR x y fun v => K v a t
noncomputable def kLss (x y : V) (K : V → St) : St := fun a t => lssR x y fun v => K v a t
noncomputable def kLeq (x y : V) (K : V → St) : St := fun a t => leqR x y fun v => K v a t
noncomputable def kGtr (x y : V) (K : V → St) : St := fun a t => gtrR x y fun v => K v a t
noncomputable def kGeq (x y : V) (K : V → St) : St := fun a t => geqR x y fun v => K v a t
noncomputable def kEql (x y : V) (K : V → St) : St := fun a t => eqlR x y fun v => K v a t
noncomputable def kNeq (x y : V) (K : V → St) : St := fun a t => neqR x y fun v => K v a t
noncomputable def kAnd (x y : V) (K : V → St) : St := fun a t => andR x y fun v => K v a t
noncomputable def kOr (x y : V) (K : V → St) : St := fun a t => orR x y fun v => K v a t
noncomputable def kAndNot (x y : V) (K : V → St) : St := fun a t => andNotR x y fun v => K v a t
noncomputable def kShl (x y : V) (K : V → St) : St := fun a t => shlR x y fun v => K v a t
noncomputable def kShr (x y : V) (K : V → St) : St := fun a t => shrR x y fun v => K v a t
noncomputable def kXor (x y : V) (K : V → St) : St := fun a t => slowR .xor x y fun v => K v a t

noncomputable def kBin : BinOp → V → V → (V → St) → St
  | .add => kAdd | .sub => kSub | .mul => kMul | .quo => kQuo | .rem => kRem | .and => kAnd | .or => kOr | .xor => kXor | .shl => kShl | .shr => kShr | .andNot => kAndNot
  | .eql => kEql | .neq => kNeq | .lss => kLss | .leq => kLeq | .gtr => kGtr | .geq => kGeq
theorem kBin_ref (op : BinOp) {x y : V} {x' y' : Value} (hx : VRel x x') (hy : VRel y y') {K : V → St} {K' : Value → M Value} (hK : KR K K') : Ref (kBin op x y K) (bnd (opBin op x' y') K') := by
  cases op with
  | add => exact bin_ref addR_ok hx hy hK
  | sub => exact bin_ref subR_ok hx hy hK
  | mul => exact bin_ref mulR_ok hx hy hK
  | quo => exact bin_ref quoR_ok hx hy hK
  | rem => exact bin_ref remR_ok hx hy hK
  | and => exact bin_ref andR_ok hx hy hK
  | or => exact bin_ref orR_ok hx hy hK
  | xor => exact bin_ref (slowR_ok .xor) hx hy hK
  | shl => exact bin_ref shlR_ok hx hy hK
  | shr => exact bin_ref shrR_ok hx hy hK
  | andNot => exact bin_ref andNotR_ok hx hy hK
  | eql => exact bin_ref eqlR_ok hx hy hK
  | neq => exact bin_ref neqR_ok hx hy hK
  | lss => exact bin_ref lssR_ok hx hy hK
  | leq => exact bin_ref leqR_ok hx hy hK
  | gtr => exact bin_ref gtrR_ok hx hy hK
  | geq => exact bin_ref geqR_ok hx hy hK

end Go.Fk
end
