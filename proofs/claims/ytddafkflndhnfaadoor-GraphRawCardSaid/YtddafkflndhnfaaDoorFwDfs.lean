/-
  A search in depth, in plain numbers: what it meets, and in which order it leaves.
-/
namespace Go.Fw

/-- A set with a number more. -/
def putM (s : Nat → Bool) (a : Nat) (m : Nat) : Bool := s m || decide (m = a)

/-- Who is not met yet, of N. -/
def cnt (N : Nat) (s : Nat → Bool) : Nat := ((List.range N).filter fun m => !s m).length

theorem cnt_mono {s t : Nat → Bool} (h : ∀ m, s m = true → t m = true) : ∀ N, cnt N t ≤ cnt N s
  | 0 => Nat.le_refl _
  | N + 1 => by
    have ih := cnt_mono h N
    unfold cnt at *
    rw [List.range_succ, List.filter_append, List.filter_append, List.length_append, List.length_append]
    cases ht : t N with
    | true =>
      rw [List.filter_cons_of_neg (by rw [ht]; decide)]
      simp only [List.filter_nil, List.length_nil]
      omega
    | false =>
      have hs : s N = false := by
        cases hq : s N with
        | false => rfl
        | true => rw [h N hq] at ht; cases ht
      rw [List.filter_cons_of_pos (by rw [ht]; decide), List.filter_cons_of_pos (by rw [hs]; decide)]
      simp only [List.filter_nil, List.length_singleton]
      omega
theorem cnt_put {s : Nat → Bool} {a : Nat} (ha : s a = false) : ∀ N, cnt N (putM s a) + (if a < N then 1 else 0) = cnt N s
  | 0 => rfl
  | N + 1 => by
    have ih := cnt_put ha N
    unfold cnt at *
    rw [List.range_succ, List.filter_append, List.filter_append, List.length_append, List.length_append]
    by_cases e : N = a
    · subst e
      rw [List.filter_cons_of_neg (by unfold putM; simp), List.filter_cons_of_pos (by rw [ha]; decide), if_pos (by omega)]
      rw [if_neg (by omega)] at ih
      simp only [List.filter_nil, List.length_nil, List.length_singleton]
      omega
    · have e2 : putM s a N = s N := by unfold putM; rw [decide_eq_false e, Bool.or_false]
      have e3 : (if a < N + 1 then 1 else 0) = if a < N then 1 else 0 := by
        by_cases h : a < N
        · rw [if_pos h, if_pos (by omega)]
        · rw [if_neg h, if_neg (by omega)]
      rw [e3]
      cases hs : s N with
      | true =>
        rw [List.filter_cons_of_neg (by rw [e2, hs]; decide), List.filter_cons_of_neg (by rw [hs]; decide)]
        simp only [List.filter_nil, List.length_nil]
        omega
      | false =>
        rw [List.filter_cons_of_pos (by rw [e2, hs]; decide), List.filter_cons_of_pos (by rw [hs]; decide)]
        simp only [List.filter_nil, List.length_singleton]
        omega

/-- Who is reached. -/
inductive Rch (adj : Nat → List Nat) (a : Nat) : Nat → Prop
  | refl : Rch adj a a
  | step {b c : Nat} : Rch adj a b → c ∈ adj b → Rch adj a c
theorem Rch.head {adj : Nat → List Nat} {a b c : Nat} (h : b ∈ adj a) (r : Rch adj b c) : Rch adj a c := by
  induction r with
  | refl => exact .step .refl h
  | step _ h2 ih => exact .step ih h2
theorem Rch.trans {adj : Nat → List Nat} {a b c : Nat} (r1 : Rch adj a b) (r : Rch adj b c) : Rch adj a c := by
  induction r with
  | refl => exact r1
  | step _ h2 ih => exact .step ih h2

abbrev DSt := (Nat → Bool) × List Nat

/-- From s to t a search in depth from some came. -/
structure Went (adj : Nat → List Nat) (cs : List Nat) (s t : DSt) (w : List Nat) : Prop where
  out : t.2 = s.2 ++ w
  met : ∀ m, t.1 m = true ↔ (s.1 m = true ∨ m ∈ w)
  new : ∀ m, m ∈ w → s.1 m = false
  nodup : w.Nodup
  par : ∀ w1 x w2, w = w1 ++ x :: w2 → (∃ y, y ∈ w2 ∧ x ∈ adj y) ∨ x ∈ cs
  reach : ∀ m, m ∈ w → ∃ c, c ∈ cs ∧ Rch adj c m

theorem Went.nil {adj : Nat → List Nat} {cs : List Nat} {s : DSt} : Went adj cs s s [] :=
  ⟨by simp, fun m => by simp, fun m h => by simp at h, List.nodup_nil, fun w1 x w2 h => by simp at h, fun m h => by simp at h⟩

theorem Went.mono {adj : Nat → List Nat} {cs cs' : List Nat} {s t : DSt} {w : List Nat} (h : Went adj cs s t w) (hc : ∀ c, c ∈ cs → c ∈ cs') : Went adj cs' s t w :=
  ⟨h.out, h.met, h.new, h.nodup, fun w1 x w2 e => (h.par w1 x w2 e).imp id (hc x), fun m hm => by
    obtain ⟨c, h1, h2⟩ := h.reach m hm
    exact ⟨c, hc c h1, h2⟩⟩

theorem Went.trans {adj : Nat → List Nat} {cs : List Nat} {s t u : DSt} {w v : List Nat} (h : Went adj cs s t w) (g : Went adj cs t u v) : Went adj cs s u (w ++ v) := by
  refine ⟨by rw [g.out, h.out, List.append_assoc], fun m => ?_, fun m hm => ?_, ?_, fun w1 x w2 e => ?_, fun m hm => ?_⟩
  · rw [g.met, h.met, List.mem_append, or_assoc]
  · rcases List.mem_append.1 hm with hm | hm
    · exact h.new m hm
    · cases hq : s.1 m with
      | false => rfl
      | true =>
        have := g.new m hm
        rw [(h.met m).2 (.inl hq)] at this; cases this
  · rw [List.nodup_append]
    refine ⟨h.nodup, g.nodup, fun a ha b hb e => ?_⟩
    subst e
    have := g.new a hb
    rw [(h.met a).2 (.inr ha)] at this; cases this
  · rcases List.append_eq_append_iff.1 e with ⟨q, e1, e2⟩ | ⟨q, e1, e2⟩
    · exact g.par q x w2 e2
    · match q with
      | [] => exact g.par [] x w2 (by simpa using e2.symm)
      | q0 :: q =>
        rw [List.cons_append, List.cons.injEq] at e2
        obtain ⟨rfl, e2⟩ := e2
        rcases h.par w1 x q e1 with ⟨y, h1, h2⟩ | h1
        · exact .inl ⟨y, by rw [e2]; exact List.mem_append_left _ h1, h2⟩
        · exact .inr h1
  · rcases List.mem_append.1 hm with hm | hm
    · exact h.reach m hm
    · exact g.reach m hm

/-- With enough to go on with, all that is met leads to what is met. -/
structure Full (adj : Nat → List Nat) (N : Nat) (cs : List Nat) (s t : DSt) : Prop where
  start : ∀ c, c ∈ cs → t.1 c = true
  closed : ∀ m, t.1 m = true → s.1 m = false → ∀ b, b ∈ adj m → t.1 b = true
  mono : ∀ m, s.1 m = true → t.1 m = true
  size : t.2.length + cnt N t.1 ≤ s.2.length + cnt N s.1

/-- What a search in depth from a root comes to: all that is reached, as it is left. -/
structure Ord (adj : Nat → List Nat) (N root : Nat) (o : List Nat) : Prop where
  mem : ∀ m, m ∈ o ↔ Rch adj root m
  nodup : o.Nodup
  first : ∃ o', o = root :: o'
  par : ∀ o1 x o2, o = o1 ++ x :: o2 → x ≠ root → ∃ y, y ∈ o1 ∧ x ∈ adj y
  lt : ∀ m, m ∈ o → m < N

end Go.Fw
