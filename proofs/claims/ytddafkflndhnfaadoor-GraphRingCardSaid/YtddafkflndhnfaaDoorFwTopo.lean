/-
  The parts of a graph in their order, in plain numbers: always the one with the least node of those that no other one that is left leads to.
-/
import Derived.Test.YtddafkflndhnfaaDoorFwTar
namespace Go.Fw

section
variable {adj : Nat → List Nat} {N : Nat}

/-- Nobody that is left reaches it, but who is reached by it. -/
def Free (adj : Nat → List Nat) (N : Nat) (D : Nat → Prop) (i : Nat) : Prop := ∀ k, k < N → ¬ D k → Rch adj k i → Rch adj i k
structure IsNext (adj : Nat → List Nat) (N : Nat) (D : Nat → Prop) (i : Nat) : Prop where
  lt : i < N
  left : ¬ D i
  free : Free adj N D i
  least : ∀ j, j < i → ¬ D j → ¬ Free adj N D j

def Same2 (adj : Nat → List Nat) (i k : Nat) : Prop := Rch adj i k ∧ Rch adj k i

inductive Topo (adj : Nat → List Nat) (N : Nat) : (Nat → Prop) → List (List Nat) → Prop
  | nil {D : Nat → Prop} : (∀ v, v < N → D v) → Topo adj N D []
  | cons {D : Nat → Prop} {i : Nat} {L : List (List Nat)} : IsNext adj N D i → Topo adj N (fun v => D v ∨ Same2 adj i v) L → Topo adj N D (sccOf adj N i :: L)

theorem IsNext.one {D : Nat → Prop} {i j : Nat} (x : IsNext adj N D i) (y : IsNext adj N D j) : i = j := by
  rcases Nat.lt_trichotomy i j with h | h | h
  · exact absurd x.free (y.least i h x.left)
  · exact h
  · exact absurd y.free (x.least j h y.left)

theorem Topo.one {D : Nat → Prop} {L L' : List (List Nat)} (x : Topo adj N D L) (y : Topo adj N D L') : L = L' := by
  induction x generalizing L' with
  | nil h =>
    cases y with
    | nil _ => rfl
    | cons h2 _ => exact absurd (h _ h2.lt) h2.left
  | cons h1 _ ih =>
    cases y with
    | nil h => exact absurd (h _ h1.lt) h1.left
    | cons h2 t2 =>
      have := h1.one h2
      subst this
      rw [ih t2]

theorem IsNext.congr {D D' : Nat → Prop} (e : ∀ v, v < N → (D v ↔ D' v)) {i : Nat} (x : IsNext adj N D i) : IsNext adj N D' i :=
  ⟨x.lt, fun h => x.left ((e i x.lt).2 h), fun k hk hD hr => x.free k hk (fun h => hD ((e k hk).1 h)) hr, fun j hj hD hf => x.least j hj (fun h => hD ((e j (Nat.lt_trans hj x.lt)).1 h)) fun k hk hDk hr => hf k hk (fun h => hDk ((e k hk).2 h)) hr⟩
theorem Topo.congr {D D' : Nat → Prop} {L : List (List Nat)} (x : Topo adj N D L) (e : ∀ v, v < N → (D v ↔ D' v)) : Topo adj N D' L := by
  induction x generalizing D' with
  | nil h => exact .nil fun v hv => (e v hv).1 (h v hv)
  | cons h1 _ ih => exact .cons (h1.congr e) (ih fun v hv => or_congr (e v hv) Iff.rfl)

theorem scc_mem {i v : Nat} : v ∈ sccOf adj N i ↔ v < N ∧ Same2 adj i v := by
  unfold sccOf
  simp only [List.mem_filter, List.mem_range, decide_eq_true_eq]
  exact Iff.rfl
theorem Same2.refl {i : Nat} : Same2 adj i i := ⟨.refl, .refl⟩
theorem Same2.symm {i j : Nat} (h : Same2 adj i j) : Same2 adj j i := ⟨h.2, h.1⟩
theorem Same2.trans {i j k : Nat} (h : Same2 adj i j) (g : Same2 adj j k) : Same2 adj i k := ⟨h.1.trans g.1, g.2.trans h.2⟩
theorem scc_eq {i j : Nat} (h : Same2 adj i j) : sccOf adj N i = sccOf adj N j := by
  unfold sccOf
  refine List.filter_congr fun v _ => ?_
  rw [decide_eq_decide]
  exact ⟨fun q => ⟨h.2.trans q.1, q.2.trans h.1⟩, fun q => ⟨h.1.trans q.1, q.2.trans h.2⟩⟩

/-- As long as one is left, one of those is free. -/
theorem exists_free {D : Nat → Prop} : ∀ (c v : Nat), v < N → ¬ D v → (∃ S : List Nat, S.Nodup ∧ S.length ≤ c ∧ ∀ u, u < N → ¬ D u → Rch adj u v → u ∈ S) → ∃ i, i < N ∧ ¬ D i ∧ Free adj N D i
  | 0, v, hv, hD, ⟨S, _, hS, hm⟩ => by
    have : S = [] := List.eq_nil_of_length_eq_zero (by omega)
    subst this
    exact absurd (hm v hv hD .refl) (by simp)
  | c + 1, v, hv, hD, ⟨S, hn, hS, hm⟩ => by
    by_cases hf : Free adj N D v
    · exact ⟨v, hv, hD, hf⟩
    · have : ∃ u, u < N ∧ ¬ D u ∧ Rch adj u v ∧ ¬ Rch adj v u := by
        refine Classical.byContradiction fun h => hf fun k hk hDk hr => ?_
        exact Classical.byContradiction fun q => h ⟨k, hk, hDk, hr, q⟩
      obtain ⟨u, hu, hDu, hr, hnr⟩ := this
      have hvS : v ∈ S := hm v hv hD .refl
      refine exists_free c u hu hDu ⟨S.erase v, hn.sublist List.erase_sublist, by rw [List.length_erase_of_mem hvS]; omega, fun w hw hDw hrw => ?_⟩
      have hwS := hm w hw hDw (hrw.trans hr)
      have hwv : w ≠ v := fun e => hnr (by rw [← e]; exact hrw)
      exact (List.mem_erase_of_ne hwv).2 hwS

theorem exists_next {D : Nat → Prop} {v : Nat} (hv : v < N) (hD : ¬ D v) : ∃ i, IsNext adj N D i := by
  obtain ⟨i, h1, h2, h3⟩ := exists_free (adj := adj) (D := D) N v hv hD ⟨List.range N, List.nodup_range, by simp, fun u hu _ _ => List.mem_range.2 hu⟩
  have : ∃ n, n ≤ i ∧ ¬ D n ∧ Free adj N D n ∧ ∀ j, j < n → ¬ D j → ¬ Free adj N D j := by
    induction i using Nat.strongRecOn with
    | _ i ih =>
      by_cases h : ∃ j, j < i ∧ ¬ D j ∧ Free adj N D j
      · obtain ⟨j, hj, q1, q2⟩ := h
        obtain ⟨n, e1, e2⟩ := ih j hj (by omega) q1 q2
        exact ⟨n, by omega, e2⟩
      · exact ⟨i, Nat.le_refl _, h2, h3, fun j hj q1 q2 => h ⟨j, hj, q1, q2⟩⟩
  obtain ⟨n, e1, e2, e3, e4⟩ := this
  exact ⟨n, by omega, e2, e3, e4⟩

/-- Whoever reaches one that is done is done. -/
def Up (adj : Nat → List Nat) (N : Nat) (D : Nat → Prop) : Prop := ∀ u v, u < N → Rch adj u v → D v → D u
theorem Up.next {D : Nat → Prop} {i : Nat} (x : Up adj N D) (h : IsNext adj N D i) : Up adj N fun v => D v ∨ Same2 adj i v := fun u v hu hr hd => by
  by_cases hD : D u
  · exact .inl hD
  · rcases hd with hd | hd
    · exact .inl (x u v hu hr hd)
    · have := hr.trans hd.2
      exact .inr ⟨h.free u hu hD this, this⟩

/-- Free is what no edge leads into from another part that is left. -/
theorem free_edges {D : Nat → Prop} (hlt : ∀ a, a < N → ∀ b, b ∈ adj a → b < N) (x : Up adj N D) {i : Nat} (hi : i < N) : Free adj N D i ↔ ∀ a, a < N → ¬ D a → ∀ b, b ∈ adj a → Same2 adj i b → Same2 adj i a := by
  constructor
  · intro h a ha hD b hb hs
    have : Rch adj a i := (Rch.step .refl hb).trans hs.2
    exact ⟨h a ha hD this, this⟩
  · intro h k hk hD hr
    have key : ∀ w, Rch adj k w → Same2 adj i w → Same2 adj i k := by
      intro w hw
      induction hw with
      | refl => exact id
      | @step b c h1 h2 ih =>
        intro hs
        have hb : b < N ∧ ¬ D b := by
          have hbr : ∀ w, Rch adj k w → w < N := fun w hw => by
            induction hw with
            | refl => exact hk
            | step _ q ih => exact hlt _ ih _ q
          exact ⟨hbr b h1, fun q => hD (x k b hk h1 q)⟩
        exact ih (h b hb.1 hb.2 c h2 hs)
    exact (key i hr .refl).1

theorem free_same {D : Nat → Prop} {i j : Nat} (h : Same2 adj i j) (f : Free adj N D i) : Free adj N D j := fun k hk hD hr => h.2.trans (f k hk hD (hr.trans h.2))

end

/-! ## The parts by number -/

abbrev hd (P : List Nat) : Nat := P.headD 0
theorem hd_mem {P : List Nat} (h : P ≠ []) : hd P ∈ P := by
  match P, h with
  | a :: _, _ => exact List.mem_cons_self

structure QOk (adj : Nat → List Nat) (N : Nat) (Q : List (List Nat)) : Prop where
  scc : ∀ P, P ∈ Q → P ≠ [] ∧ ∀ a, a ∈ P → P = sccOf adj N a
  all : ∀ v, v < N → ∃ P, P ∈ Q ∧ v ∈ P
  inc : Q.Pairwise fun P P' => hd P < hd P'

def At (u : Nat → Nat) (Q : List (List Nat)) : Prop := ∀ (k : Nat) (P : List Nat), Q[k]? = some P → ∀ a, a ∈ P → u a = k

/-- The edges of a node that lead to other parts: where. -/
def outK (adj : Nat → List Nat) (u : Nat → Nat) (a : Nat) : List Nat := ((adj a).map u).filter fun k => decide (k ≠ u a)

/-- How many edges lead into each part from others that are left; -1: it is done. -/
def ahd (adj : Nat → List Nat) (N : Nat) (u : Nat → Nat) (dn : Nat → Bool) (j : Nat) : Int :=
  if dn j = true then -1 else ((((List.range N).filter fun a => !dn (u a)).flatMap (outK adj u)).count j : Nat)

section
variable {adj : Nat → List Nat} {N : Nat} {Q : List (List Nat)} {u : Nat → Nat}

theorem scc_least {a : Nat} (ha : a < N) : ∀ v, v ∈ sccOf adj N a → hd (sccOf adj N a) ≤ v := by
  have : (sccOf adj N a).Pairwise (· < ·) := List.Pairwise.filter _ List.pairwise_lt_range
  intro v hv
  generalize sccOf adj N a = P at this hv
  match P with
  | [] => cases hv
  | b :: r =>
    rw [List.pairwise_cons] at this
    rcases List.mem_cons.1 hv with rfl | h
    · exact Nat.le_refl _
    · exact Nat.le_of_lt (this.1 v h)

theorem QOk.lt (q : QOk adj N Q) {P : List Nat} (hP : P ∈ Q) {v : Nat} (hv : v ∈ P) : v < N := by
  have := (q.scc P hP).2 v hv
  rw [this] at hv
  exact (scc_mem.1 hv).1
theorem QOk.at_ (q : QOk adj N Q) (t : At u Q) {v : Nat} (hv : v < N) : ∃ P, Q[u v]? = some P ∧ v ∈ P := by
  obtain ⟨P, hP, hm⟩ := q.all v hv
  obtain ⟨k, hk⟩ := List.mem_iff_getElem?.1 hP
  have := t k P hk v hm
  exact ⟨P, by rw [this]; exact hk, hm⟩
theorem QOk.lt_len (q : QOk adj N Q) (t : At u Q) {v : Nat} (hv : v < N) : u v < Q.length := by
  obtain ⟨P, hP, _⟩ := q.at_ t hv
  exact (List.getElem?_eq_some_iff.1 hP).1
theorem QOk.same (q : QOk adj N Q) (t : At u Q) {a b : Nat} (ha : a < N) (hb : b < N) : u a = u b ↔ Same2 adj a b := by
  obtain ⟨P, hP, hm⟩ := q.at_ t ha
  have hPQ := List.mem_of_getElem? hP
  constructor
  · intro e
    obtain ⟨P', hP', hm'⟩ := q.at_ t hb
    rw [← e, hP] at hP'
    simp only [Option.some.injEq] at hP'
    subst hP'
    rw [(q.scc P hPQ).2 a hm] at hm'
    exact (scc_mem.1 hm').2
  · intro s
    have : b ∈ P := by rw [(q.scc P hPQ).2 a hm]; exact scc_mem.2 ⟨hb, s⟩
    exact (t _ P hP b this).symm
theorem QOk.memP (q : QOk adj N Q) (t : At u Q) {k : Nat} {P : List Nat} (hP : Q[k]? = some P) {a : Nat} : a ∈ P ↔ a < N ∧ u a = k := by
  have hPQ := List.mem_of_getElem? hP
  constructor
  · intro h; exact ⟨q.lt hPQ h, t k P hP a h⟩
  · intro ⟨h1, h2⟩
    obtain ⟨P', hP', hm⟩ := q.at_ t h1
    rw [h2, hP] at hP'
    simp only [Option.some.injEq] at hP'
    subst hP'
    exact hm

theorem count_zero_of {l : List Nat} {j : Nat} (h : j ∉ l) : l.count j = 0 := List.count_eq_zero.2 h

theorem outK_mem {a j : Nat} : j ∈ outK adj u a ↔ j ≠ u a ∧ ∃ b, b ∈ adj a ∧ u b = j := by
  unfold outK
  rw [List.mem_filter, List.mem_map, decide_eq_true_eq]
  exact ⟨fun ⟨h1, h2⟩ => ⟨h2, h1⟩, fun ⟨h1, h2⟩ => ⟨h2, h1⟩⟩

/-- None is ahead of a part just if its nodes are free. -/
theorem ahd_zero (hlt : ∀ a, a < N → ∀ b, b ∈ adj a → b < N) (q : QOk adj N Q) (t : At u Q) {dn : Nat → Bool} (up : Up adj N fun v => dn (u v) = true) {i : Nat} (hi : i < N) (h0d : dn (u i) = false) :
    ahd adj N u dn (u i) = 0 ↔ Free adj N (fun v => dn (u v) = true) i := by
  unfold ahd
  rw [if_neg (by rw [h0d]; decide), free_edges hlt up hi]
  constructor
  · intro h a ha hD b hb hs
    have h : (((List.range N).filter fun a => !dn (u a)).flatMap (outK adj u)).count (u i) = 0 := by omega
    rw [List.count_eq_zero] at h
    have hbN := hlt a ha b hb
    refine (q.same t hi ha).1 (Classical.byContradiction fun hne => h (List.mem_flatMap.2 ⟨a, List.mem_filter.2 ⟨List.mem_range.2 ha, ?_⟩, outK_mem.2 ⟨hne, b, hb, ((q.same t hi hbN).2 hs).symm⟩⟩))
    cases hx : dn (u a) with
    | false => rfl
    | true => exact absurd hx hD
  · intro h
    have : u i ∉ ((List.range N).filter fun a => !dn (u a)).flatMap (outK adj u) := fun hm => by
      obtain ⟨a, ha, hk⟩ := List.mem_flatMap.1 hm
      rw [List.mem_filter, List.mem_range] at ha
      obtain ⟨h1, b, hb, h2⟩ := outK_mem.1 hk
      have hbN := hlt a ha.1 b hb
      have := h a ha.1 (fun e => by rw [e] at ha; exact absurd ha.2 (by decide)) b hb ((q.same t hi hbN).1 h2.symm)
      exact h1 ((q.same t hi ha.1).2 this)
    rw [count_zero_of this]; rfl

/-- The next part is the first one that none is ahead of. -/
theorem next_part (hlt : ∀ a, a < N → ∀ b, b ∈ adj a → b < N) (q : QOk adj N Q) (t : At u Q) {dn : Nat → Bool} (up : Up adj N fun v => dn (u v) = true) {v : Nat} (hv : v < N) (h0d : dn (u v) = false) :
    ∃ k P, Q[k]? = some P ∧ dn k = false ∧ ahd adj N u dn k = 0 ∧ (∀ j, j < k → ahd adj N u dn j ≠ 0) ∧ IsNext adj N (fun v => dn (u v) = true) (hd P) := by
  obtain ⟨i, hi⟩ := exists_next (adj := adj) (D := fun v => dn (u v) = true) hv (by rw [h0d]; decide)
  have hdi : dn (u i) = false := by
    cases hx : dn (u i) with
    | false => rfl
    | true => exact absurd hx hi.left
  obtain ⟨P, hP, hm⟩ := q.at_ t hi.lt
  have hPQ := List.mem_of_getElem? hP
  have hh : hd P = i := by
    have hne := (q.scc P hPQ).1
    have h1 : hd P ∈ P := hd_mem hne
    have e := (q.scc P hPQ).2 i hm
    have hle : hd P ≤ i := by
      rw [e]; exact scc_least hi.lt i (by rw [← e]; exact hm)
    rcases Nat.lt_or_eq_of_le hle with h | h
    · rw [e] at h1
      have hs := scc_mem.1 h1
      rw [← e] at hs
      have h2 : u (hd P) = u i := (q.same t hs.1 hi.lt).2 hs.2.symm
      exact absurd (free_same hs.2 hi.free) (hi.least _ h (by rw [h2, hdi]; decide))
    · exact h
  refine ⟨u i, P, hP, hdi, (ahd_zero hlt q t up hi.lt hdi).2 hi.free, fun j hj hz => ?_, by rw [hh]; exact hi⟩
  have hjl : j < Q.length := Nat.lt_trans hj (List.getElem?_eq_some_iff.1 hP).1
  have hPj := List.getElem?_eq_getElem hjl
  have hjQ : Q[j] ∈ Q := List.getElem_mem hjl
  have hjm : hd Q[j] ∈ Q[j] := hd_mem (q.scc _ hjQ).1
  have hjN := q.lt hjQ hjm
  have huj := t j _ hPj _ hjm
  have hdj : dn (u (hd Q[j])) = false := by
    rw [huj]
    cases hx : dn j with
    | false => rfl
    | true => unfold ahd at hz; rw [if_pos hx] at hz; cases hz
  have hfree := (ahd_zero hlt q t up hjN hdj).1 (by rw [huj]; exact hz)
  have hinc : hd Q[j] < hd P := by
    have hiL := (List.getElem?_eq_some_iff.1 hP).1
    have := List.pairwise_iff_getElem.1 q.inc j (u i) hjl hiL hj
    rw [(List.getElem?_eq_some_iff.1 hP).2] at this
    exact this
  rw [hh] at hinc
  exact hi.least _ hinc (by rw [hdj]; decide) hfree

/-- One part more is done. -/
theorem ahd_next (hlt : ∀ a, a < N → ∀ b, b ∈ adj a → b < N) (q : QOk adj N Q) (t : At u Q) {dn : Nat → Bool} (up : Up adj N fun v => dn (u v) = true) {k : Nat} {P : List Nat} (hP : Q[k]? = some P) (h0d : dn k = false) (j : Nat) :
    (if j = k then -1 else ahd adj N u dn j) - ((P.flatMap (outK adj u)).count j : Nat) = ahd adj N u (fun i => dn i || decide (i = k)) j := by
  have hPQ := List.mem_of_getElem? hP
  by_cases hjk : j = k
  · subst hjk
    rw [if_pos rfl]
    have : j ∉ P.flatMap (outK adj u) := fun hm => by
      obtain ⟨a, ha, hk⟩ := List.mem_flatMap.1 hm
      exact (outK_mem.1 hk).1 (t j P hP a ha).symm
    rw [count_zero_of this]
    unfold ahd
    rw [if_pos (by simp)]
    rfl
  · rw [if_neg hjk]
    unfold ahd
    by_cases hdj : dn j = true
    · rw [if_pos hdj, if_pos (show (dn j || decide (j = k)) = true by rw [hdj]; rfl)]
      have : j ∉ P.flatMap (outK adj u) := fun hm => by
        obtain ⟨a, ha, hk⟩ := List.mem_flatMap.1 hm
        obtain ⟨h1, b, hb, h2⟩ := outK_mem.1 hk
        have haN := q.lt hPQ ha
        have := up a b haN (.step .refl hb) (by show dn (u b) = true; rw [h2]; exact hdj)
        have e := t k P hP a ha
        simp only [e, h0d] at this
        cases this
      rw [count_zero_of this]
      rfl
    · rw [if_neg hdj, if_neg (show ¬ (dn j || decide (j = k)) = true by simp [hdj, hjk])]
      have hp : ((List.range N).filter fun a => !dn (u a)).Perm (P ++ (List.range N).filter fun a => !(dn (u a) || decide (u a = k))) := by
        have hPn : P.Nodup := by
          rw [(q.scc P hPQ).2 _ (hd_mem (q.scc P hPQ).1)]
          exact List.nodup_range.filter _
        refine (List.perm_ext_iff_of_nodup (List.nodup_range.filter _) (List.nodup_append.2 ⟨hPn, List.nodup_range.filter _, fun x hx y hy e => ?_⟩)).2 fun x => ?_
        · subst e
          rw [List.mem_filter] at hy
          have := t k P hP x hx
          rw [this] at hy
          simp at hy
        · rw [List.mem_append, List.mem_filter, List.mem_filter, q.memP t hP, List.mem_range]
          constructor
          · intro ⟨h1, h2⟩
            by_cases e : u x = k
            · exact .inl ⟨h1, e⟩
            · refine .inr ⟨h1, ?_⟩
              rw [decide_eq_false e, Bool.or_false]; exact h2
          · rintro (⟨h1, h2⟩ | ⟨h1, h2⟩)
            · exact ⟨h1, by rw [h2, h0d]; rfl⟩
            · refine ⟨h1, ?_⟩
              cases hx : dn (u x) with
              | false => rfl
              | true => rw [hx] at h2; cases h2
      have := (hp.flatMap_right (outK adj u)).count_eq j
      rw [List.flatMap_append, List.count_append] at this
      dsimp only
      omega

end

/-- Sorted by their first ones, the parts are the parts. -/
theorem QOk.of_scc {adj : Nat → List Nat} {N : Nat} {ps Q : List (List Nat)} (x : Scc adj N ps) (hp : Q.Perm ps) (hs : Q.Pairwise fun P P' => hd P ≤ hd P') : QOk adj N Q := by
  refine ⟨fun P hP => x.scc P (hp.mem_iff.1 hP), fun v hv => ?_, ?_⟩
  · obtain ⟨P, hP, hm⟩ := List.mem_flatten.1 ((x.all v).2 hv)
    exact ⟨P, hp.mem_iff.2 hP, hm⟩
  · have hd' : Q.Pairwise fun P P' => ∀ v, v ∈ P → v ∉ P' := (hp.symm.pairwise_iff (fun {P P'} h v h1 h2 => h v h2 h1)).1 x.dis
    refine (hs.and hd').imp_of_mem fun {P P'} hP hP' h => ?_
    have h1 : hd P ∈ P := hd_mem (x.scc P (hp.mem_iff.1 hP)).1
    have h2 : hd P' ∈ P' := hd_mem (x.scc P' (hp.mem_iff.1 hP')).1
    rcases Nat.lt_or_eq_of_le h.1 with q | q
    · exact q
    · exact absurd (by rw [← q] at h2; exact h2) (h.2 _ h1)

end Go.Fw
