/-
  Maps whose keys are numbers, or structs of numbers: what is made, looked up, written.
-/
import Derived.Test.YtdomcfoabnhlfaaFwI
import Derived.Maps.Keyed
import Derived.DeepKeys4
namespace Go.Fw

/-! ### Keys -/

theorem wf64_inv {v : Value} (h : wf64 v = true) : ∃ z, v = .int .i64 z ∧ (Lit.int .i64 z).wf = true := by
  unfold wf64 at h
  split at h
  · exact ⟨_, rfl, h⟩
  · cases h

theorem ikey_succ {n : Nat} {v : Value} (h : ikey (n + 1) v = true) : ∃ cs : Array Value, v = .agg cs ∧ cs.size = n + 1 ∧ cs.toList.all wf64 = true := by
  unfold ikey at h
  split at h
  · rename_i e; cases e
  · rename_i cs e
    cases e
    rw [Bool.and_eq_true, decide_eq_true_eq] at h
    exact ⟨_, rfl, h.1, h.2⟩
  · cases h

theorem VR.wf64 {ρ : Map} {v v' : Value} (h : VR ρ v v') (hk : Fw.wf64 v = true) : v' = v := by
  obtain ⟨z, rfl, _⟩ := wf64_inv hk
  cases h; rfl

theorem VR.ikey {ρ : Map} {n : Nat} {v v' : Value} (h : VR ρ v v') (hk : Fw.ikey n v = true) : v' = v := by
  cases n with
  | zero => exact h.wf64 hk
  | succ n =>
    obtain ⟨cs, rfl, _, hc⟩ := ikey_succ hk
    cases h with
    | agg cs cs' hs hi =>
      congr 1
      refine Array.ext hs.symm fun i h1 h2 => ?_
      refine (hi i cs[i] cs'[i] (by simp [h2]) (by simp [h1])).wf64 ?_
      exact List.all_eq_true.1 hc _ (by simp)

theorem VW.ikey {ρ : Map} {n : Nat} {v v' : Value} (h : VW ρ v v') (hk : Fw.ikey n v = true) : v' = v := by
  rcases h with (rfl | ⟨rfl, _⟩) | h
  · cases n <;> simp [undef, Fw.ikey, Fw.wf64] at hk
  · cases n <;> simp [skipV, Fw.ikey, Fw.wf64] at hk
  · exact h.ikey hk

theorem keq1_iff {a b : Value} (ha : Fw.wf64 a = true) (hb : Fw.wf64 b = true) : keq1 a b = true ↔ a = b := by
  obtain ⟨y, rfl, _⟩ := wf64_inv ha
  obtain ⟨z, rfl, _⟩ := wf64_inv hb
  simp [keq1]
theorem keqL_iff : ∀ {a b : List Value}, a.all Fw.wf64 = true → b.all Fw.wf64 = true → (keqL a b = true ↔ a = b)
  | [], [], _, _ => by simp [keqL]
  | [], _ :: _, _, _ => by simp [keqL]
  | _ :: _, [], _, _ => by simp [keqL]
  | a :: r, b :: s, ha, hb => by
    rw [List.all_cons, Bool.and_eq_true] at ha hb
    simp only [keqL, Bool.and_eq_true, List.cons.injEq]
    rw [keq1_iff ha.1 hb.1, keqL_iff ha.2 hb.2]
theorem keq_iff {n : Nat} {a b : Value} (ha : Fw.ikey n a = true) (hb : Fw.ikey n b = true) : keq a b = true ↔ a = b := by
  cases n with
  | zero =>
    have e := keq1_iff (a := a) (b := b) ha hb
    obtain ⟨y, rfl, hy⟩ := wf64_inv ha
    obtain ⟨z, rfl, hz⟩ := wf64_inv hb
    exact e
  | succ n =>
    obtain ⟨as, rfl, _, hc⟩ := ikey_succ ha
    obtain ⟨bs, rfl, _, hd⟩ := ikey_succ hb
    simp only [keq]
    rw [keqL_iff hc hd, Array.toList_inj, Value.agg.injEq]

theorem isI64_eq {P : Program} {t : TypeId} (h : isI64 P t = true) : P.underlying t = some (.int .i64) := by
  unfold isI64 at h
  split at h
  · assumption
  · cases h

theorem keyLits_i64 {P : Program} {t : TypeId} (h : P.underlying t = some (.int .i64)) (d : Nat) {v : Value} (hv : Fw.wf64 v = true) : ∃ l, P.keyLits (d + 1) t [v] = some l := by
  obtain ⟨z, rfl, hz⟩ := wf64_inv hv
  refine ⟨[.int .i64 z], ?_⟩
  unfold Program.keyLits
  simp only [h]
  rw [if_pos ⟨trivial, hz⟩]

theorem mapM_isSome {α β : Type} {f : α → Option β} : ∀ {l : List α}, (∀ x, x ∈ l → ∃ y, f x = some y) → ∃ ys, l.mapM f = some ys
  | [], _ => ⟨[], rfl⟩
  | x :: l, h => by
    obtain ⟨y, hy⟩ := h x (by simp)
    obtain ⟨ys, hys⟩ := mapM_isSome (l := l) (f := f) fun z hz => h z (by simp [hz])
    exact ⟨y :: ys, by rw [List.mapM_cons, hy, hys]; rfl⟩

/-- WHAT IS KNOWN OF A KEY'S TYPE. -/
structure KeyT (P : Program) (k : TypeId) (n : Nat) : Prop where
  law : Maps.Keyed P k
  of : ∀ {v : Value}, ikey n v = true → ∃ l, keyOf P k v = some l

theorem keyN_law {P : Program} {k : TypeId} {n : Nat} (h : keyN P k = some n) : KeyT P k n := by
  unfold keyN at h
  split at h
  · rename_i hu
    cases h
    refine ⟨Maps.int_keyed hu, fun {v} hv => ?_⟩
    obtain ⟨z, rfl, hz⟩ := wf64_inv hv
    exact ⟨.int .i64 z, by unfold keyOf mapKey; simp only [hu]; rw [if_pos ⟨trivial, hz⟩]⟩
  · rename_i fs hu
    split at h
    case isFalse => cases h
    rename_i hc
    cases h
    simp only [Bool.and_eq_true, decide_eq_true_eq] at hc
    obtain ⟨⟨⟨⟨⟨⟨h1, h2⟩, h3⟩, h4⟩, h5⟩, h6⟩, h7⟩ := hc
    have hf : ∀ i (hi : i < fs.size), fs[i].offset = i ∧ (fs[i].name != "_") = true ∧ P.cellsOf fs[i].type = 1 ∧ P.underlying fs[i].type = some (.int .i64) := fun i hi => by
      have := List.all_eq_true.1 h7 i (List.mem_range.2 hi)
      rw [Array.getElem?_eq_getElem hi] at this
      simp only [Bool.and_eq_true, decide_eq_true_eq] at this
      exact ⟨this.1.1.1, this.1.1.2, this.1.2, isI64_eq this.2⟩
    refine ⟨Maps.Keyed.of_law (deep_law_laid h1 (m := 2) (by decide) h2 h3 (by simp [hu])), fun {v} hv => ?_⟩
    obtain ⟨m, hm⟩ : ∃ m, fs.size = m + 1 := ⟨fs.size - 1, by omega⟩
    rw [hm] at hv
    obtain ⟨cs, rfl, hs, hall⟩ := ikey_succ hv
    have hform : Value.formed P k (.agg cs) = true := by
      unfold Value.formed
      simp only [hu]
      rw [beq_iff_eq]; omega
    have hlits : ∃ ls, P.keyLits (P.types.size + 1) k cs.toList = some ls := by
      obtain ⟨ys, hys⟩ := mapM_isSome (l := fs.toList) (f := fun f => P.keyLits P.types.size f.type ((cs.toList.drop f.offset).take (P.cellsOf f.type))) fun f hf' => by
        obtain ⟨i, hi, rfl⟩ := List.getElem_of_mem hf'
        have hi' : i < fs.size := by simpa using hi
        obtain ⟨g1, g2, g3, g4⟩ := hf i hi'
        have hsz : 0 < P.types.size := Nat.lt_of_le_of_lt (Nat.zero_le _) h2
        obtain ⟨d, hd⟩ : ∃ d, P.types.size = d + 1 := ⟨P.types.size - 1, by omega⟩
        have hic : i < cs.toList.length := by rw [Array.length_toList]; omega
        have e : (cs.toList.drop i).take 1 = [cs.toList[i]] := by
          rw [List.drop_eq_getElem_cons hic]; rfl
        simp only [Array.getElem_toList, g1, g3, hd]
        rw [e]
        exact keyLits_i64 g4 d (List.all_eq_true.1 hall _ (List.getElem_mem hic))
      refine ⟨ys.flatten, ?_⟩
      unfold Program.keyLits
      simp only [hu]
      rw [if_pos ⟨by rw [Array.length_toList]; omega, by
        rw [Array.all_eq_true]
        intro i hi
        exact (hf i hi).2.1⟩, hys]
      rfl
    obtain ⟨ls, hls⟩ := hlits
    refine ⟨.string (keyBytes ls), ?_⟩
    unfold keyOf
    simp only [hu]
    rw [if_pos (by rw [h4, hform]; rfl)]
    show (P.keyLits (P.types.size + 1) k cs.toList).map _ = _
    rw [hls]
    rfl
  · cases h

/-! ### Entries -/

theorem flatE_inj : ∀ {E E' : List (Value × Value)}, flatE E = flatE E' → E = E'
  | [], [], _ => rfl
  | [], (_, _) :: _, h => by cases h
  | (_, _) :: _, [], h => by cases h
  | (a, b) :: r, (c, d) :: s, h => by
    simp only [flatE, List.cons.injEq] at h
    obtain ⟨rfl, rfl, h⟩ := h
    rw [flatE_inj h]

theorem entFind_some {n : Nat} {key : Value} (hk : ikey n key = true) : ∀ {E : List (Value × Value)} {v : Value}, (∀ p, p ∈ E → ikey n p.1 = true) → entFind key (flatE E) = some v → ∃ i : Nat, E[i]? = some (key, v)
  | [], v, _, h => by cases h
  | (a, b) :: r, v, hE, h => by
    simp only [flatE, entFind] at h
    split at h
    · rename_i q
      rw [(keq_iff hk (hE (a, b) (by simp)))] at q
      cases h
      exact ⟨0, by rw [q]; rfl⟩
    · obtain ⟨i, hi⟩ := entFind_some hk (fun p hp => hE p (by simp [hp])) h
      exact ⟨i + 1, by simpa using hi⟩
theorem entFind_none {n : Nat} {key : Value} (hk : ikey n key = true) : ∀ {E : List (Value × Value)}, (∀ p, p ∈ E → ikey n p.1 = true) → entFind key (flatE E) = none → ∀ p, p ∈ E → p.1 ≠ key
  | [], _, _, p, hp => by cases hp
  | (a, b) :: r, hE, h, p, hp => by
    simp only [flatE, entFind] at h
    split at h
    · cases h
    · rename_i q
      rw [(keq_iff hk (hE (a, b) (by simp)))] at q
      rcases List.mem_cons.1 hp with rfl | hp
      · exact fun e => q e.symm
      · exact entFind_none hk (fun p hp => hE p (by simp [hp])) h p hp

theorem entPut_new {n : Nat} {key v : Value} (hk : ikey n key = true) : ∀ {E : List (Value × Value)}, (∀ p, p ∈ E → ikey n p.1 = true) → (∀ p, p ∈ E → p.1 ≠ key) → entPut key v (flatE E) = flatE (E ++ [(key, v)])
  | [], _, _ => rfl
  | (a, b) :: r, hE, h => by
    have hne : ¬ keq key a = true := fun q => h (a, b) (by simp) ((keq_iff hk (hE (a, b) (by simp))).1 q).symm
    simp only [flatE, entPut, List.cons_append]
    rw [if_neg hne, entPut_new hk (fun p hp => hE p (by simp [hp])) fun p hp => h p (by simp [hp])]

theorem entPut_old {n : Nat} {key v : Value} (hk : ikey n key = true) : ∀ {E : List (Value × Value)} {j : Nat} {u : Value}, (∀ p, p ∈ E → ikey n p.1 = true) → E.Pairwise (fun p q => p.1 ≠ q.1) → E[j]? = some (key, u) → entPut key v (flatE E) = flatE (E.set j (key, v))
  | [], j, _, _, _, h => by simp at h
  | (a, b) :: r, 0, u, hE, _, h => by
    simp only [List.getElem?_cons_zero, Option.some.injEq, Prod.mk.injEq] at h
    obtain ⟨rfl, rfl⟩ := h
    simp only [flatE, entPut, List.set_cons_zero]
    rw [if_pos ((keq_iff hk hk).2 rfl)]
  | (a, b) :: r, j + 1, u, hE, hd, h => by
    rw [List.getElem?_cons_succ] at h
    have hm := List.mem_of_getElem? h
    have hne : ¬ keq key a = true := fun q => (List.pairwise_cons.1 hd).1 _ hm ((keq_iff hk (hE (a, b) (by simp))).1 q).symm
    simp only [flatE, entPut, List.set_cons_succ]
    rw [if_neg hne, entPut_old hk (fun p hp => hE p (by simp [hp])) (List.pairwise_cons.1 hd).2 h]

section
variable {P : Program} {G : Nat} {ρ : Map} {h : H} {w : World} {N : Nat} {Γ : List (Nat × Value)} {a : Act} {E : Env} {n n' : Nat} {h' : H} {v : Value} {o : Oper}

theorem VW.map_inv {b : Nat} {v' : Value} (h : VW ρ (.map (some b)) v') : ∃ L, ρ b = some L ∧ v' = .map (some L.blk) := by
  rcases h with (h | ⟨h, _⟩) | h
  · cases h
  · cases h
  · cases h with | map b L hb => exact ⟨L, hb, rfl⟩

/-- A map's block of the world is written. -/
theorem R.setMap (r : R G ρ h w) {b sz : Nat} {E E' : List (Value × Value)} {L : Loc} {es es' : Array MapEntry} {clock clock' : Nat} (hb : h.get b = some (mapB sz E)) (hL : ρ b = some L) (ho : w.heap[L.blk]? = some (.map es clock))
    (hs : E'.length = es'.size) (hk : ∀ p, p ∈ E' → ikey sz p.1 = true) (hd : E'.Pairwise (fun p q => p.1 ≠ q.1)) (hv : ∀ (i : Nat) p e, E'[i]? = some p → es'[i]? = some e → p.1 = e.key ∧ VR ρ p.2 e.val) :
    R G ρ (h.set b (mapB sz E')) { w with heap := w.heap.setIfInBounds L.blk (.map es' clock') } ∧ Ext ρ h w ρ (h.set b (mapB sz E')) { w with heap := w.heap.setIfInBounds L.blk (.map es' clock') } := by
  have hlt : L.blk < w.heap.size := (Array.getElem?_eq_some_iff.1 ho).1
  have hset : ∀ k, (w.heap.setIfInBounds L.blk (.map es' clock'))[k]? = if k = L.blk then some (.map es' clock') else w.heap[k]? := fun k => by
    rw [Array.getElem?_setIfInBounds]
    by_cases e : L.blk = k
    · subst e; rw [if_pos rfl, if_pos rfl, if_pos hlt]
    · rw [if_neg e, if_neg (fun q => e q.symm)]
  have hmap := isMap_mapB sz E
  refine ⟨⟨fun c => ?_, r.glob, fun c C N hc hl hN => ?_, fun c d C D N O hne hc hd' hl hm hN hO => ?_, fun c C N hc hm hN => ?_, fun c d C D N O hne hc hd' hm1 hm2 hN hO => ?_⟩, ⟨Le.refl _, rfl, rfl, rfl, by simp, fun k hk' hn => ?_, fun k hk' hn => ?_⟩⟩
  · rw [H.get_set]
    split
    · rename_i e; subst e; rw [← r.dom, hb]; rfl
    · exact r.dom c
  · rw [H.get_set] at hc
    split at hc
    · cases hc; exact absurd hl (not_live_mapB _ _)
    · obtain ⟨⟨arr, elem, fz, h1, h2, h3, h4⟩, h5, h6⟩ := r.blk c C N hc hl hN
      refine ⟨⟨arr, elem, fz, ?_, h2, h3, h4⟩, h5, h6⟩
      show (w.heap.setIfInBounds L.blk _)[N.blk]? = _
      rw [hset, if_neg (fun q => by rw [q, ho] at h1; cases h1)]
      exact h1
  · rw [H.get_set] at hc hd'
    split at hc
    · cases hc; exact absurd hl (not_live_mapB _ _)
    · split at hd'
      · cases hd'; exact absurd hm (not_mine_mapB _ _)
      · exact r.apart c d C D N O hne hc hd' hl hm hN hO
  · rw [H.get_set] at hc
    split at hc
    · rename_i e
      subst e
      cases hc
      rw [hL] at hN
      cases hN
      exact ⟨sz, E', es', clock', rfl, by show (w.heap.setIfInBounds L.blk _)[L.blk]? = _; rw [hset, if_pos rfl], hs, hk, hd, hv⟩
    · rename_i e
      obtain ⟨sz2, E2, es2, clock2, g1, g2, g3⟩ := (r.maps c C N hc hm hN).obj
      have hne := r.lone c b C _ N L e hc hb hm hmap hN hL
      exact ⟨sz2, E2, es2, clock2, g1, by show (w.heap.setIfInBounds L.blk _)[N.blk]? = _; rw [hset, if_neg hne]; exact g2, g3⟩
  · rw [H.get_set] at hc hd'
    split at hc
    · rename_i e
      subst e
      rw [if_neg (fun q => hne q.symm)] at hd'
      exact r.lone c d _ D N O hne hb hd' hmap hm2 hN hO
    · split at hd'
      · rename_i e
        subst e
        exact r.lone c d C _ N O hne hc hb hm1 hmap hN hO
      · exact r.lone c d C D N O hne hc hd' hm1 hm2 hN hO
  · show (w.heap.setIfInBounds L.blk _)[k]? = _
    rw [hset, if_neg (fun e => hn ⟨b, _, L, hb, .inr hmap, hL, e.symm⟩)]
  · obtain ⟨c, C, N, hc, hm, hN, hkk⟩ := hn
    rw [H.get_set] at hc
    split at hc
    · rename_i e; subst e; exact ⟨c, _, N, hb, .inr hmap, hN, hkk⟩
    · exact ⟨c, C, N, hc, hm, hN, hkk⟩

/-- A new map. -/
theorem R.newMap (r : R G ρ h w) {sz b : Nat} (e : Fw.new [.nilFunc, .int .u64 sz] .dead n h = some (b, n', h')) :
    R G (ρ.add b ⟨w.heap.size, 0, 0⟩) h' (w.alloc (.map #[] 0)) ∧ Ext ρ h w (ρ.add b ⟨w.heap.size, 0, 0⟩) h' (w.alloc (.map #[] 0)) := by
  obtain ⟨rfl, rfl, hn, rfl, h1⟩ := new_some e
  have hle := Map.add_le ⟨w.heap.size, 0, 0⟩ (r.fresh hn)
  have r1 := r.alloc (.map #[] 0)
  have hB : (⟨[.nilFunc, .int .u64 sz], .dead⟩ : Blk) = mapB sz [] := rfl
  rw [hB]
  have lt : ∀ c C N, h.get c = some C → C.isMap → ρ c = some N → N.blk < w.heap.size := fun c C N hc hm hN => by
    obtain ⟨_, _, _, _, _, g2, _⟩ := (r.maps c C N hc hm hN).obj
    exact (Array.getElem?_eq_some_iff.1 g2).1
  refine ⟨⟨fun c => ?_, fun g hg => ?_, fun c C N hc hl hN => ?_, fun c d C D N O hne hc hd hl hm hN hO => ?_, fun c C N hc hm hN => ?_, fun c d C D N O hne hc hd hm1 hm2 hN hO => ?_⟩, ⟨hle, rfl, rfl, rfl, by simp, fun k hk _ => Go.RowKit.Below.heap_alloc _ _ _ hk, fun k hk ho => ?_⟩⟩
  · rw [H.get_set]
    unfold Map.add
    split
    · rfl
    · exact r.dom c
  · obtain ⟨lim, hl⟩ := r.glob g hg
    exact ⟨lim, hle _ _ hl⟩
  · rw [H.get_set] at hc
    unfold Map.add at hN
    split at hc
    · cases hc; exact absurd hl (not_live_mapB _ _)
    · rename_i e
      rw [if_neg e] at hN
      obtain ⟨⟨arr, elem, fz, h1, h2, h3, h4⟩, h5, h6⟩ := r1.blk c C N hc hl hN
      exact ⟨⟨arr, elem, fz, h1, h2, h3, fun i v hv => let ⟨v', k1, k2⟩ := h4 i v hv; ⟨v', k1, k2.mono hle⟩⟩, h5, h6⟩
  · rw [H.get_set] at hc hd
    unfold Map.add at hN hO
    split at hc
    · cases hc; exact absurd hl (not_live_mapB _ _)
    · rename_i e
      rw [if_neg e] at hN
      split at hd
      · cases hd; exact absurd hm (not_mine_mapB _ _)
      · rename_i e2
        rw [if_neg e2] at hO
        exact r1.apart c d C D N O hne hc hd hl hm hN hO
  · rw [H.get_set] at hc
    unfold Map.add at hN
    split at hc
    · rename_i e
      cases hc
      rw [if_pos e] at hN
      cases hN
      exact ⟨sz, [], #[], 0, rfl, heap_alloc_new w _, rfl, (fun p (hp : p ∈ ([] : List (Value × Value))) => by cases hp), List.Pairwise.nil, (fun (i : Nat) p e (hp : ([] : List (Value × Value))[i]? = some p) => by simp at hp)⟩
    · rename_i e
      rw [if_neg e] at hN
      obtain ⟨sz2, E2, es2, clock2, g1, g2, g3, g4, g5, g6⟩ := (r1.maps c C N hc hm hN).obj
      exact ⟨sz2, E2, es2, clock2, g1, g2, g3, g4, g5, fun i p x hp hx => ⟨(g6 i p x hp hx).1, (g6 i p x hp hx).2.mono hle⟩⟩
  · rw [H.get_set] at hc hd
    unfold Map.add at hN hO
    split at hc
    · rename_i e
      rw [if_pos e] at hN
      cases hN
      split at hd
      · rename_i e2; exact absurd (e.trans e2.symm) hne
      · rename_i e2
        rw [if_neg e2] at hO
        have := lt d D O hd hm2 hO
        show w.heap.size ≠ O.blk
        omega
    · rename_i e
      rw [if_neg e] at hN
      split at hd
      · rename_i e2
        rw [if_pos e2] at hO
        cases hO
        have := lt c C N hc hm1 hN
        show N.blk ≠ w.heap.size
        omega
      · rename_i e2
        rw [if_neg e2] at hO
        exact r.lone c d C D N O hne hc hd hm1 hm2 hN hO
  · obtain ⟨c, C, N, hc, hm, hN, hk'⟩ := ho
    rw [H.get_set] at hc
    unfold Map.add at hN
    split at hc
    · rename_i e
      rw [if_pos e] at hN
      cases hN
      simp at hk'
      omega
    · rename_i e
      rw [if_neg e] at hN
      exact ⟨c, C, N, hc, hm, hN, hk'⟩

theorem mapN_some {t : TypeId} {sz : Nat} {z : Value} (hm : mapN P t = some (sz, z)) : ∃ k e i, P.underlying t = some (.map k e) ∧ keyN P k = some sz ∧ P.info? e = some i ∧ i.zero = some z ∧ okC0 z = true := by
  unfold mapN at hm
  split at hm
  · rename_i k e hu
    cases hi : P.info? e with
    | none => simp [hi] at hm
    | some i =>
      cases hz : i.zero with
      | none => simp [hi, hz] at hm
      | some z' =>
        cases hk : keyN P k with
        | none => simp [hk] at hm
        | some n' =>
          simp only [hk, hi, hz, Option.bind_some] at hm
          split at hm
          · rename_i h0
            cases hm
            exact ⟨k, e, i, hu, hk, hi, hz, h0⟩
          · cases hm
  · cases hm

theorem sim_makeMap (r : R G ρ h w) {t : TypeId} (ho : o.op = .makeMap t none) (e : aop P G E Γ o.op n h = some (v, n', h')) : Does P G o a w ρ h v h' := by
  rw [ho] at e
  simp only [aop] at e
  cases hm : mapN P t with
  | none => simp only [hm] at e; cases e
  | some q =>
    obtain ⟨sz, z⟩ := q
    simp only [hm] at e
    obtain ⟨b, n1, h1, e1, e2⟩ := bnd_some e
    obtain ⟨rfl, rfl, rfl⟩ := ret_some e2
    obtain ⟨hr, hx⟩ := r.newMap e1
    refine ⟨.map (some w.heap.size), _, _, .inl ?_, VR.weak (.map b ⟨w.heap.size, 0, 0⟩ (Map.add_same _ _ _)), hr, hx⟩
    simp [execOp, ho, Instr.makeMap]

theorem mapEnts_some {sz : Nat} {key : Value} {cs es : List Value} (h : mapEnts sz key cs = some es) : cs = .int .u64 sz :: es ∧ ikey sz key = true := by
  unfold mapEnts at h
  split at h
  · split at h
    · rename_i c es' q
      cases h
      obtain ⟨rfl, hk⟩ := q
      exact ⟨rfl, hk⟩
    · cases h
  · cases h

/-- A map that is looked into. -/
theorem R.ents (r : R G ρ h w) {b : Nat} {sz : Nat} {es : List Value} (hb : h.get b = some ⟨.nilFunc :: .int .u64 sz :: es, .dead⟩) {L : Loc} (hL : ρ b = some L) :
    ∃ E ws clock, es = flatE E ∧ h.get b = some (mapB sz E) ∧ w.heap[L.blk]? = some (.map ws clock) ∧ E.length = ws.size ∧ (∀ p, p ∈ E → ikey sz p.1 = true) ∧ E.Pairwise (fun p q => p.1 ≠ q.1) ∧ ∀ (i : Nat) p e, E[i]? = some p → ws[i]? = some e → p.1 = e.key ∧ VR ρ p.2 e.val := by
  obtain ⟨sz2, E, ws, clock, g1, g2, g3, g4, g5, g6⟩ := (r.maps b _ L hb ⟨rfl, rfl⟩ hL).obj
  unfold mapB at g1
  simp only [Blk.mk.injEq, List.cons.injEq, Value.int.injEq, true_and, and_true] at g1
  obtain ⟨hz, he⟩ := g1
  have hz' : sz = sz2 := by omega
  subst hz'
  subst he
  exact ⟨E, ws, clock, rfl, hb, g2, g3, g4, g5, g6⟩

theorem key_find {k : TypeId} {sz : Nat} (K : KeyT P k sz) {key : Value} (hk : ikey sz key = true) {E : List (Value × Value)} {ws : Array MapEntry} (hs : E.length = ws.size) (hE : ∀ p, p ∈ E → ikey sz p.1 = true) (hv : ∀ (i : Nat) p e, E[i]? = some p → ws[i]? = some e → p.1 = e.key ∧ VR ρ p.2 e.val) :
    ((Instr.findKey k key ws.toList).run P w = .ok none w ∧ ∀ p, p ∈ E → p.1 ≠ key) ∨ ∃ (j : Nat) (p : Value × Value) (e : MapEntry), (Instr.findKey k key ws.toList).run P w = .ok (some (j, e.val)) w ∧ E[j]? = some p ∧ ws[j]? = some e ∧ p.1 = key ∧ e.key = key := by
  obtain ⟨lx, hlx⟩ := K.of hk
  have at_ : ∀ (i : Nat) e, ws[i]? = some e → ∃ p, E[i]? = some p ∧ p.1 = e.key := fun i e he => by
    have hi : i < E.length := by rw [hs]; exact (Array.getElem?_eq_some_iff.1 he).1
    exact ⟨E[i], List.getElem?_eq_getElem hi, (hv i _ e (List.getElem?_eq_getElem hi) he).1⟩
  rcases K.law.find w hlx ws.toList (fun e he => by
    obtain ⟨i, hi⟩ := List.mem_iff_getElem?.1 he
    obtain ⟨p, hp, hpe⟩ := at_ i e (by simpa using hi)
    obtain ⟨l, hl⟩ := K.of (hE p (List.mem_of_getElem? hp))
    exact ⟨l, by rw [← hpe]; exact hl⟩) with ⟨h1, h2⟩ | ⟨j, e, h1, h2, h3⟩
  · refine .inl ⟨h1, fun p hp q => ?_⟩
    obtain ⟨i, hi⟩ := List.mem_iff_getElem?.1 hp
    have hi' : i < ws.size := by rw [← hs]; exact (List.getElem?_eq_some_iff.1 hi).1
    have := (hv i p _ hi (Array.getElem?_eq_getElem hi')).1
    exact h2 ws[i] (by simp) (by rw [← this]; exact q)
  · have h2' : ws[j]? = some e := by simpa using h2
    obtain ⟨p, hp, hpe⟩ := at_ j e h2'
    exact .inr ⟨j, p, e, h1, hp, h2', by rw [hpe, h3], h3⟩

theorem pair_uniq {E : List (Value × Value)} (hd : E.Pairwise (fun p q => p.1 ≠ q.1)) {i j : Nat} {p q : Value × Value} (hp : E[i]? = some p) (hq : E[j]? = some q) (e : p.1 = q.1) : i = j := by
  obtain ⟨hi, rfl⟩ := List.getElem?_eq_some_iff.1 hp
  obtain ⟨hj, rfl⟩ := List.getElem?_eq_some_iff.1 hq
  rcases Nat.lt_trichotomy i j with g | g | g
  · exact absurd e (List.pairwise_iff_getElem.1 hd i j hi hj g)
  · exact g
  · exact absurd e.symm (List.pairwise_iff_getElem.1 hd j i hj hi g)

theorem sim_lookup (r : R G ρ h w) (l : Live ρ N Γ a) {t : TypeId} {x y : Operand} {ok : Bool} (ho : o.op = .lookup t x y ok) (e : aop P G E Γ o.op n h = some (v, n', h')) : Does P G o a w ρ h v h' := by
  rw [ho] at e
  simp only [aop] at e
  cases hm : mapN P t with
  | none => simp only [hm] at e; cases e
  | some q =>
    obtain ⟨sz, z⟩ := q
    simp only [hm] at e
    obtain ⟨k, el, zi, hu, hkn, hzi, hzu, hz0⟩ := mapN_some hm
    have K := keyN_law hkn
    have hx := ev_sim r l x
    have hy := ev_sim r l y
    unfold opLookup at e
    split at e
    case h_2 => cases e
    rename_i b hxe
    rw [hxe] at hx
    obtain ⟨L, hL, hx'⟩ := hx.map_inv
    obtain ⟨cs, n1, h1, e1, e2⟩ := bnd_some e
    obtain ⟨rfl, rfl, hb⟩ := mpGet_some e1
    cases hme : mapEnts sz (ev G Γ y) cs with
    | none => simp only [hme] at e2; cases e2
    | some es =>
      simp only [hme] at e2
      obtain ⟨rfl, hk⟩ := mapEnts_some hme
      have hy' := hy.ikey hk
      obtain ⟨E, ws, clock, rfl, hbE, hw, hs, hE, hd, hv⟩ := r.ents hb hL
      obtain ⟨lk, hlk⟩ := K.of hk
      -- the zero value
      have hzr : (zeroValue el).run P w = .ok z w := by simp [zeroValue, typeInfo, hzi, hzu]
      have hchk := K.law.check w (ws.isEmpty) hlk
      have hzVR : VR ρ z z := VR.of_okC0 hz0
      have hrun : ∀ (fv : Option (Nat × Value)), (Instr.findKey k (ev G Γ y) ws.toList).run P w = .ok fv w →
          (execOp a.eval o).run P w = .ok (.value (match fv with
            | some (_, u) => if ok then .tuple #[u, .bool true] else u
            | none => if ok then .tuple #[z, .bool false] else z)) w := by
        intro fv hf
        cases fv with
        | none => cases ok <;> simp [execOp, ho, Instr.lookup, run_underlying hu, hx', hy', Go.MapKept.run_getObj_map hw, hchk, hf, hzr]
        | some u => obtain ⟨j, u⟩ := u; cases ok <;> simp [execOp, ho, Instr.lookup, run_underlying hu, hx', hy', Go.MapKept.run_getObj_map hw, hchk, hf]
      have tup : ∀ (u u' : Value) (c : Bool), VR ρ u u' → VR ρ (if ok then .tuple #[u, .bool c] else u) (if ok then .tuple #[u', .bool c] else u') := by
        intro u u' c hu
        cases ok with
        | false => exact hu
        | true =>
          refine .tuple _ _ rfl fun i p q hp hq => ?_
          match i, hp, hq with
          | 0, hp, hq => cases hp; cases hq; exact hu
          | 1, hp, hq => cases hp; cases hq; exact .bool _
          | i + 2, hp, hq => simp at hp
      rcases key_find (w := w) K hk hs hE hv with ⟨hf, hno⟩ | ⟨j, p, e', hf, hp, he, hpk, _⟩
      · cases hef : entFind (ev G Γ y) (flatE E) with
        | some u =>
          obtain ⟨i, hi⟩ := entFind_some hk hE hef
          exact absurd rfl (hno _ (List.mem_of_getElem? hi))
        | none =>
          simp only [hef] at e2
          obtain ⟨rfl, rfl, rfl⟩ := ret_some e2
          exact Does.same r (hrun none hf) (tup z z false hzVR).weak
      · cases hef : entFind (ev G Γ y) (flatE E) with
        | none => exact absurd hpk (entFind_none hk hE hef p (List.mem_of_getElem? hp))
        | some u =>
          obtain ⟨i, hi⟩ := entFind_some hk hE hef
          have : i = j := pair_uniq hd hi hp hpk.symm
          subst this
          rw [hi] at hp
          cases hp
          simp only [hef] at e2
          obtain ⟨rfl, rfl, rfl⟩ := ret_some e2
          exact Does.same r (hrun _ hf) (tup u e'.val true (hv i _ e' hi he).2).weak

theorem sim_insert (r : R G ρ h w) (l : Live ρ N Γ a) {t : TypeId} {x y u : Operand} (ho : o.op = .insert t x y u ∨ o.op = .mapUpdate t x y u) (e : aop P G E Γ o.op n h = some (v, n', h')) : Does P G o a w ρ h v h' := by
  have e : (match mapN P t with | some (n, _) => opInsert n (ev G Γ x) (ev G Γ y) (ev G Γ u) | none => fail) n h = some (v, n', h') := by
    rcases ho with ho | ho <;> (rw [ho] at e; exact e)
  cases hm : mapN P t with
  | none => simp only [hm] at e; cases e
  | some q =>
    obtain ⟨sz, z⟩ := q
    simp only [hm] at e
    obtain ⟨k, el, zi, hut, hkn, hzi, hzu, hz0⟩ := mapN_some hm
    have K := keyN_law hkn
    have hx := ev_sim r l x
    have hy := ev_sim r l y
    have huv := ev_sim r l u
    unfold opInsert at e
    split at e
    case h_2 => cases e
    rename_i b hxe
    rw [hxe] at hx
    obtain ⟨L, hL, hx'⟩ := hx.map_inv
    obtain ⟨cs, n1, h1, e1, e2⟩ := bnd_some e
    obtain ⟨rfl, rfl, hb⟩ := mpGet_some e1
    cases hme : mapEnts sz (ev G Γ y) cs with
    | none => simp only [hme] at e2; cases e2
    | some es =>
      simp only [hme] at e2
      obtain ⟨rfl, hk⟩ := mapEnts_some hme
      have hy' := hy.ikey hk
      obtain ⟨E, ws, clock, rfl, hbE, hw, hs, hE, hd, hv⟩ := r.ents hb hL
      obtain ⟨lk, hlk⟩ := K.of hk
      by_cases h1v : one (ev G Γ u) = true
      case neg => simp only [h1v, if_false] at e2; cases e2
      simp only [h1v, if_true] at e2
      have huR := huv.strict h1v
      obtain ⟨_, n2, h2, e3, e4⟩ := bnd_some e2
      obtain ⟨rfl, rfl, rfl⟩ := ret_some e4
      obtain ⟨rfl, rfl⟩ := mpSet_some e3
      have hchk := K.law.check w false hlk
      have hstay := K.law.stays w hlk
      rcases key_find (w := w) K hk hs hE hv with ⟨hf, hno⟩ | ⟨j, p, e', hf, hp, he, hpk, hek⟩
      · rw [entPut_new hk hE hno]
        obtain ⟨hr, hxt⟩ := r.setMap (E' := E ++ [(ev G Γ y, ev G Γ u)]) (es' := ws.push { key := ev G Γ y, val := a.eval u, born := clock }) (clock' := clock + 1) hbE hL hw (by simp [hs]) (fun q hq => by
            rcases List.mem_append.1 hq with hq | hq
            · exact hE q hq
            · rw [List.mem_singleton] at hq; subst hq; exact hk) (List.pairwise_append.2 ⟨hd, List.pairwise_singleton _ _, fun q hq q' hq' => by
              rw [List.mem_singleton] at hq'; subst hq'; exact hno q hq⟩) (fun i q f hq hf' => by
            by_cases hi : i < E.length
            · rw [List.getElem?_append_left hi] at hq
              rw [Array.getElem?_push, if_neg (by omega)] at hf'
              exact hv i q f hq hf'
            · have hi2 : i = E.length := by
                have := (List.getElem?_eq_some_iff.1 hq).1
                simp at this; omega
              subst hi2
              rw [hs, Array.getElem?_push, if_pos rfl] at hf'
              cases hf'
              simp at hq
              subst hq
              exact ⟨rfl, huR⟩)
        refine ⟨undef, ρ, _, .inr ⟨?_, rfl⟩, .inl (.inl rfl), hr, hxt⟩
        rcases ho with ho | ho <;> simp [execOp, ho, Instr.mapUpdate, run_underlying hut, hx', hy', Go.MapKept.run_getObj_map hw, hchk, hf, Go.MapKept.run_setObj_map _ hw]
      · have hp' : E[j]? = some (ev G Γ y, p.2) := by rw [hp, ← hpk]
        rw [entPut_old hk hE hd hp']
        have hj : j < ws.size := (Array.getElem?_eq_some_iff.1 he).1
        obtain ⟨hr, hxt⟩ := r.setMap (E' := E.set j (ev G Γ y, ev G Γ u)) (es' := ws.modify j fun e => { e with key := ev G Γ y, val := a.eval u }) (clock' := clock) hbE hL hw (by simp [hs]) (fun q hq => by
            rcases List.mem_or_eq_of_mem_set hq with hq | hq
            · exact hE q hq
            · subst hq; exact hk) (by
            rw [List.pairwise_iff_getElem] at hd ⊢
            intro i m hi hm' him
            simp only [List.length_set] at hi hm'
            have ek : ∀ (i : Nat) (hi : i < E.length), ((E.set j (ev G Γ y, ev G Γ u))[i]'(by simpa using hi)).1 = E[i].1 := fun i hi => by
              rw [List.getElem_set]
              split
              · rename_i q; subst q
                obtain ⟨_, q⟩ := List.getElem?_eq_some_iff.1 hp'
                rw [q]
              · rfl
            rw [ek i hi, ek m hm']
            exact hd i m hi hm' him) (fun i q f hq hf' => by
            rw [Array.getElem?_modify] at hf'
            by_cases hi : j = i
            · subst hi
              rw [if_pos rfl, he] at hf'
              cases hf'
              rw [List.getElem?_set, if_pos rfl, if_pos (by omega)] at hq
              cases hq
              exact ⟨rfl, huR⟩
            · rw [if_neg hi] at hf'
              rw [List.getElem?_set, if_neg hi] at hq
              exact hv i q f hq hf')
        have hkey : ((ws[j]?).map (·.key)).getD (ev G Γ y) = ev G Γ y := by rw [he]; exact hek
        refine ⟨undef, ρ, _, .inr ⟨?_, rfl⟩, .inl (.inl rfl), hr, hxt⟩
        rcases ho with ho | ho <;> simp [execOp, ho, Instr.mapUpdate, run_underlying hut, hx', hy', Go.MapKept.run_getObj_map hw, hchk, hf, hkey, hstay, Go.MapKept.run_setObj_map _ hw]
end
end Go.Fw
