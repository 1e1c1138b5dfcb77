/-
  How far it is, in plain numbers: a search in breadth, and the least of the shortest ways.
-/
import Derived.Test.YtddafkflndhnfaaDoorFwBfs
import Derived.Test.YtddafkflndhnfaaDoorFwDom
set_option maxRecDepth 20000
namespace Go.Fw

/-- A way of so many edges to t. -/
inductive Wk (adj : Nat → List Nat) (t : Nat) : Nat → Nat → Prop
  | zero : Wk adj t t 0
  | succ {a b k : Nat} : b ∈ adj a → Wk adj t b k → Wk adj t a (k + 1)

/-- How far it is. -/
def Dst (adj : Nat → List Nat) (t a k : Nat) : Prop := Wk adj t a k ∧ ∀ l, Wk adj t a l → k ≤ l

theorem Dst.uniq {adj : Nat → List Nat} {t a k l : Nat} (h1 : Dst adj t a k) (h2 : Dst adj t a l) : k = l := by
  have := h1.2 l h2.1
  have := h2.2 k h1.1
  omega
theorem Dst.of {adj : Nat → List Nat} {t a : Nat} : ∀ {k : Nat}, Wk adj t a k → ∃ l, l ≤ k ∧ Dst adj t a l := by
  intro k
  induction k using Nat.strongRecOn with
  | _ k ih =>
    intro h
    by_cases hc : ∀ l, Wk adj t a l → k ≤ l
    · exact ⟨k, Nat.le_refl _, h, hc⟩
    · obtain ⟨l, hl⟩ := Classical.not_forall.1 hc
      have hw : Wk adj t a l := Classical.byContradiction fun q => hl fun q2 => absurd q2 q
      have hlt : l < k := by
        rcases Nat.lt_or_ge l k with h1 | h1
        · exact h1
        · exact absurd (fun _ => h1) hl
      obtain ⟨l', h1, h2⟩ := ih l hlt hw
      exact ⟨l', by omega, h2⟩
theorem Dst.next {adj : Nat → List Nat} {t a k : Nat} (h : Dst adj t a (k + 1)) : ∃ b, b ∈ adj a ∧ Dst adj t b k := by
  obtain ⟨h1, h2⟩ := h
  cases h1 with
  | @succ _ b _ e w =>
    refine ⟨b, e, w, fun l hl => ?_⟩
    have := h2 (l + 1) (.succ e hl)
    omega
theorem Dst.zero {adj : Nat → List Nat} {t : Nat} : Dst adj t t 0 := ⟨.zero, fun _ _ => Nat.zero_le _⟩
theorem Dst.eq_zero {adj : Nat → List Nat} {t a : Nat} (h : Dst adj t a 0) : a = t := by
  cases h.1; rfl
theorem wk_rch {adj : Nat → List Nat} {t a : Nat} : (∃ k, Wk adj t a k) ↔ Rch adj a t := by
  constructor
  · rintro ⟨k, h⟩
    induction h with
    | zero => exact .refl
    | succ e _ ih => exact .head e ih
  · intro r
    have key : ∀ b, Rch adj a b → ∀ k, Wk adj t b k → ∃ k, Wk adj t a k := by
      intro b r
      induction r with
      | refl => exact fun k h => ⟨k, h⟩
      | step _ h2 ih => exact fun k h => ih (k + 1) (.succ h2 h)
    exact key t r 0 .zero

/-! ## The search -/

/-- The state: how far, and one; who waits, of two distances; ex: who is being looked at. -/
structure Bw (adj : Nat → List Nat) (N t : Nat) (far : Nat → Nat) (Q0 Q1 : List Nat) (D : Nat) (ex : Nat → Prop) : Prop where
  exact_ : ∀ a k, far a = k + 1 → Dst adj t a k ∧ a < N
  compl : ∀ a k, a < N → Wk adj t a k → k ≤ D → far a ≠ 0
  cl : ∀ b, far b ≠ 0 → b ∈ Q0 ++ Q1 ∨ ex b ∨ ∀ a, a < N → b ∈ adj a → far a ≠ 0
  q0 : ∀ b, b ∈ Q0 → far b = D + 1
  q1 : ∀ b, b ∈ Q1 → far b = D + 2

theorem Bw.shift {adj : Nat → List Nat} {N t D : Nat} {far : Nat → Nat} {Q1 : List Nat} (hlt : ∀ a, a < N → ∀ b, b ∈ adj a → b < N) (x : Bw adj N t far [] Q1 D (fun _ => False)) : Bw adj N t far Q1 [] (D + 1) (fun _ => False) := by
  refine ⟨x.exact_, fun a k ha hw hk => ?_, fun b hb => ?_, x.q1, fun b hb => by cases hb⟩
  · by_cases h : k ≤ D
    · exact x.compl a k ha hw h
    · cases hw with
      | zero => omega
      | @succ _ b k' e w =>
        have hbN := hlt a ha b e
        have hb := x.compl b k' hbN w (by omega)
        rcases x.cl b hb with h1 | h1 | h1
        · rw [List.nil_append] at h1
          have h2 := x.q1 b h1
          have h3 := (x.exact_ b (D + 1) h2).1.2 k' w
          omega
        · exact h1.elim
        · exact h1 a ha e
  · rcases x.cl b hb with h1 | h1 | h1
    · exact .inl (by simpa using h1)
    · exact h1.elim
    · exact .inr (.inr h1)

theorem Bw.mark {adj : Nat → List Nat} {N t D b a : Nat} {far : Nat → Nat} {Q0 Q1 : List Nat} {ex : Nat → Prop} (x : Bw adj N t far Q0 Q1 D ex) (hb : far b = D + 1) (ha : a < N) (he : b ∈ adj a) (h0 : far a = 0) : Bw adj N t (upd far a (D + 2)) Q0 (Q1 ++ [a]) D ex := by
  have hd := (x.exact_ b D hb).1
  have hs : ∀ c, far c ≠ 0 → upd far a (D + 2) c = far c := fun c hc => upd_ne (by rintro rfl; exact hc h0)
  have hnz : ∀ c, far c ≠ 0 → upd far a (D + 2) c ≠ 0 := fun c hc => by rw [hs c hc]; exact hc
  refine ⟨fun c k hc => ?_, fun c k hcN hw hk => hnz c (x.compl c k hcN hw hk), fun c hc => ?_, fun c hc => ?_, fun c hc => ?_⟩
  · by_cases e : c = a
    · subst e
      rw [upd_same] at hc
      have : k = D + 1 := by omega
      subst this
      refine ⟨⟨.succ he hd.1, fun l hl => ?_⟩, ha⟩
      rcases Nat.lt_or_ge D l with h1 | h1
      · exact h1
      · exact absurd h0 (x.compl c l ha hl h1)
    · rw [upd_ne e] at hc
      exact x.exact_ c k hc
  · by_cases e : c = a
    · subst e; exact .inl (by simp)
    · rw [upd_ne e] at hc
      rcases x.cl c hc with h1 | h1 | h1
      · left
        rw [List.mem_append] at h1 ⊢
        exact h1.imp id fun q => List.mem_append_left _ q
      · exact .inr (.inl h1)
      · exact .inr (.inr fun q hq hqe => hnz q (h1 q hq hqe))
  · rw [hs c (by rw [x.q0 c hc]; omega)]; exact x.q0 c hc
  · rw [List.mem_append, List.mem_singleton] at hc
    rcases hc with hc | rfl
    · rw [hs c (by rw [x.q1 c hc]; omega)]; exact x.q1 c hc
    · exact upd_same

/-- When nobody waits, it is known how far it is. -/
theorem Bw.done {adj : Nat → List Nat} {N t D : Nat} {far : Nat → Nat} (hlt : ∀ a, a < N → ∀ b, b ∈ adj a → b < N) (ht : far t ≠ 0) (x : Bw adj N t far [] [] D (fun _ => False)) {a : Nat} (ha : a < N) : (∀ k, far a = k + 1 ↔ Dst adj t a k) := by
  have all : ∀ k a, a < N → Wk adj t a k → far a ≠ 0 := by
    intro k
    induction k with
    | zero => intro a _ h; cases h; exact ht
    | succ k ih =>
      intro a ha h
      cases h with
      | @succ _ b _ e w =>
        rcases x.cl b (ih b (hlt a ha b e) w) with h1 | h1 | h1
        · simp at h1
        · exact h1.elim
        · exact h1 a ha e
  intro k
  constructor
  · exact fun h => (x.exact_ a k h).1
  · intro h
    obtain ⟨j, hj⟩ : ∃ j, far a = j + 1 := ⟨far a - 1, by have := all k a ha h.1; omega⟩
    rw [hj, (x.exact_ a j hj).1.uniq h]

/-! ## The way -/

/-- The least next one. -/
def IsNxt (adj : Nat → List Nat) (t a b : Nat) : Prop := ∃ k, Dst adj t a (k + 1) ∧ b ∈ adj a ∧ Dst adj t b k ∧ ∀ c, c ∈ adj a → Dst adj t c k → b ≤ c

theorem IsNxt.uniq {adj : Nat → List Nat} {t a b c : Nat} (h1 : IsNxt adj t a b) (h2 : IsNxt adj t a c) : b = c := by
  obtain ⟨k, d1, e1, f1, g1⟩ := h1
  obtain ⟨l, d2, e2, f2, g2⟩ := h2
  have := d1.uniq d2
  have : k = l := by omega
  subst this
  have := g1 c e2 f2
  have := g2 b e1 f1
  omega

/-- The least of the shortest ways. -/
inductive PW (adj : Nat → List Nat) (t : Nat) : Nat → List Nat → Prop
  | stop : PW adj t t [t]
  | go {a b : Nat} {l : List Nat} : a ≠ t → IsNxt adj t a b → PW adj t b l → PW adj t a (a :: l)

theorem PW.uniq {adj : Nat → List Nat} {t a : Nat} {l l' : List Nat} (h1 : PW adj t a l) (h2 : PW adj t a l') : l = l' := by
  induction h1 generalizing l' with
  | stop =>
    cases h2 with
    | stop => rfl
    | go h _ _ => exact absurd rfl h
  | go h1 n1 _ ih =>
    cases h2 with
    | stop => exact absurd rfl h1
    | go _ n2 p2 =>
      have := n1.uniq n2
      subst this
      rw [ih p2]
theorem PW.head {adj : Nat → List Nat} {t a : Nat} {l : List Nat} (h : PW adj t a l) : ∃ l', l = a :: l' := by
  cases h with
  | stop => exact ⟨[], rfl⟩
  | go _ _ _ => exact ⟨_, rfl⟩
theorem PW.len {adj : Nat → List Nat} {t a : Nat} {l : List Nat} (h : PW adj t a l) : ∃ k, Dst adj t a k ∧ l.length = k + 1 := by
  induction h with
  | stop => exact ⟨0, .zero, rfl⟩
  | go _ n _ ih =>
    obtain ⟨k, d1, _, f1, _⟩ := n
    obtain ⟨j, h1, h2⟩ := ih
    have := h1.uniq f1
    subst this
    exact ⟨j + 1, d1, by rw [List.length_cons, h2]⟩
/-- Who is not on the way is not needed for it. -/
theorem PW.avoid {adj : Nat → List Nat} {t x root d : Nat} {l : List Nat} (h : PW adj t x l) (hd : d ∉ l) (hx : RchW adj root d x) : RchW adj root d t := by
  induction h with
  | stop => exact hx
  | go _ n p ih =>
    obtain ⟨_, _, e, _, _⟩ := n
    obtain ⟨l', rfl⟩ := p.head
    exact ih (fun q => hd (List.mem_cons_of_mem _ q)) (.step hx e fun q => hd (by rw [← q]; simp))

end Go.Fw
