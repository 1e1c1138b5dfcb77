/-
  A search in depth, in plain numbers: what it meets, and in which order it leaves.
-/
namespace Go.Fw

/-- A set with a number more. -/
def putM (s : Nat → Bool) (a : Nat) (m : Nat) : Bool := s m || decide (m = a)

/-- Who is not met yet, of N. -/
def cnt (N : Nat) (s : Nat → Bool) : Nat := ((List.range N).filter fun m => !s m).length

theorem cnt_mono {s t : Nat → Bool} (h : ∀ m, s m = true → t m = true) : ∀ N, cnt N t ≤ cnt N s
  | 0 => Nat.le_refl _
  | N + 1 => by
    have ih := cnt_mono h N
    unfold cnt at *
    rw [List.range_succ, List.filter_append, List.filter_append, List.length_append, List.length_append]
    cases ht : t N with
    | true =>
      rw [List.filter_cons_of_neg (by rw [ht]; decide)]
      simp only [List.filter_nil, List.length_nil]
      omega
    | false =>
      have hs : s N = false := by
        cases hq : s N with
        | false => rfl
        | true => rw [h N hq] at ht; cases ht
      rw [List.filter_cons_of_pos (by rw [ht]; decide), List.filter_cons_of_pos (by rw [hs]; decide)]
      simp only [List.filter_nil, List.length_singleton]
      omega
theorem cnt_put {s : Nat → Bool} {a : Nat} (ha : s a = false) : ∀ N, cnt N (putM s a) + (if a < N then 1 else 0) = cnt N s
  | 0 => rfl
  | N + 1 => by
    have ih := cnt_put ha N
    unfold cnt at *
    rw [List.range_succ, List.filter_append, List.filter_append, List.length_append, List.length_append]
    by_cases e : N = a
    · subst e
      rw [List.filter_cons_of_neg (by unfold putM; simp), List.filter_cons_of_pos (by rw [ha]; decide), if_pos (by omega)]
      rw [if_neg (by omega)] at ih
      simp only [List.filter_nil, List.length_nil, List.length_singleton]
      omega
    · have e2 : putM s a N = s N := by unfold putM; rw [decide_eq_false e, Bool.or_false]
      have e3 : (if a < N + 1 then 1 else 0) = if a < N then 1 else 0 := by
        by_cases h : a < N
        · rw [if_pos h, if_pos (by omega)]
        · rw [if_neg h, if_neg (by omega)]
      rw [e3]
      cases hs : s N with
      | true =>
        rw [List.filter_cons_of_neg (by rw [e2, hs]; decide), List.filter_cons_of_neg (by rw [hs]; decide)]
        simp only [List.filter_nil, List.length_nil]
        omega
      | false =>
        rw [List.filter_cons_of_pos (by rw [e2, hs]; decide), List.filter_cons_of_pos (by rw [hs]; decide)]
        simp only [List.filter_nil, List.length_singleton]
        omega

/-- Who is reached. -/
inductive Rch (adj : Nat → List Nat) (a : Nat) : Nat → Prop
  | refl : Rch adj a a
  | step {b c : Nat} : Rch adj a b → c ∈ adj b → Rch adj a c
theorem Rch.head {adj : Nat → List Nat} {a b c : Nat} (h : b ∈ adj a) (r : Rch adj b c) : Rch adj a c := by
  induction r with
  | refl => exact .step .refl h
  | step _ h2 ih => exact .step ih h2
theorem Rch.trans {adj : Nat → List Nat} {a b c : Nat} (r1 : Rch adj a b) (r : Rch adj b c) : Rch adj a c := by
  induction r with
  | refl => exact r1
  | step _ h2 ih => exact .step ih h2

abbrev DSt := (Nat → Bool) × List Nat

def beh (adj : Nat → List Nat) : Nat → Nat → DSt → DSt
  | 0, _, s => s
  | k + 1, a, s => if s.1 a = true then s else
    let t := (adj a).foldl (fun s b => beh adj k b s) (putM s.1 a, s.2)
    (t.1, t.2 ++ [a])

/-- From s to t a search in depth from some came. -/
structure Went (adj : Nat → List Nat) (cs : List Nat) (s t : DSt) (w : List Nat) : Prop where
  out : t.2 = s.2 ++ w
  met : ∀ m, t.1 m = true ↔ (s.1 m = true ∨ m ∈ w)
  new : ∀ m, m ∈ w → s.1 m = false
  nodup : w.Nodup
  par : ∀ w1 x w2, w = w1 ++ x :: w2 → (∃ y, y ∈ w2 ∧ x ∈ adj y) ∨ x ∈ cs
  reach : ∀ m, m ∈ w → ∃ c, c ∈ cs ∧ Rch adj c m

theorem Went.nil {adj : Nat → List Nat} {cs : List Nat} {s : DSt} : Went adj cs s s [] :=
  ⟨by simp, fun m => by simp, fun m h => by simp at h, List.nodup_nil, fun w1 x w2 h => by simp at h, fun m h => by simp at h⟩

theorem Went.mono {adj : Nat → List Nat} {cs cs' : List Nat} {s t : DSt} {w : List Nat} (h : Went adj cs s t w) (hc : ∀ c, c ∈ cs → c ∈ cs') : Went adj cs' s t w :=
  ⟨h.out, h.met, h.new, h.nodup, fun w1 x w2 e => (h.par w1 x w2 e).imp id (hc x), fun m hm => by
    obtain ⟨c, h1, h2⟩ := h.reach m hm
    exact ⟨c, hc c h1, h2⟩⟩

theorem Went.trans {adj : Nat → List Nat} {cs : List Nat} {s t u : DSt} {w v : List Nat} (h : Went adj cs s t w) (g : Went adj cs t u v) : Went adj cs s u (w ++ v) := by
  refine ⟨by rw [g.out, h.out, List.append_assoc], fun m => ?_, fun m hm => ?_, ?_, fun w1 x w2 e => ?_, fun m hm => ?_⟩
  · rw [g.met, h.met, List.mem_append, or_assoc]
  · rcases List.mem_append.1 hm with hm | hm
    · exact h.new m hm
    · cases hq : s.1 m with
      | false => rfl
      | true =>
        have := g.new m hm
        rw [(h.met m).2 (.inl hq)] at this; cases this
  · rw [List.nodup_append]
    refine ⟨h.nodup, g.nodup, fun a ha b hb e => ?_⟩
    subst e
    have := g.new a hb
    rw [(h.met a).2 (.inr ha)] at this; cases this
  · rcases List.append_eq_append_iff.1 e with ⟨q, e1, e2⟩ | ⟨q, e1, e2⟩
    · exact g.par q x w2 e2
    · match q with
      | [] => exact g.par [] x w2 (by simpa using e2.symm)
      | q0 :: q =>
        rw [List.cons_append, List.cons.injEq] at e2
        obtain ⟨rfl, e2⟩ := e2
        rcases h.par w1 x q e1 with ⟨y, h1, h2⟩ | h1
        · exact .inl ⟨y, by rw [e2]; exact List.mem_append_left _ h1, h2⟩
        · exact .inr h1
  · rcases List.mem_append.1 hm with hm | hm
    · exact h.reach m hm
    · exact g.reach m hm

theorem fold_went {adj : Nat → List Nat} {f : DSt → Nat → DSt} (hf : ∀ s b, ∃ w, Went adj [b] s (f s b) w) : ∀ (cs : List Nat) (s : DSt), ∃ w, Went adj cs s (cs.foldl f s) w
  | [], s => ⟨[], Went.nil⟩
  | b :: cs, s => by
    obtain ⟨w1, h1⟩ := hf s b
    obtain ⟨w2, h2⟩ := fold_went hf cs (f s b)
    exact ⟨w1 ++ w2, (h1.mono fun c hc => by rw [List.mem_singleton] at hc; subst hc; exact List.mem_cons_self).trans (h2.mono fun c hc => List.mem_cons_of_mem _ hc)⟩

theorem beh_went {adj : Nat → List Nat} : ∀ k a s, ∃ w, Went adj [a] s (beh adj k a s) w
  | 0, a, s => ⟨[], Went.nil⟩
  | k + 1, a, s => by
    unfold beh
    by_cases hs : s.1 a = true
    · rw [if_pos hs]; exact ⟨[], Went.nil⟩
    · rw [if_neg hs]
      have hs' : s.1 a = false := by simpa using hs
      obtain ⟨w, h⟩ := fold_went (f := fun s b => beh adj k b s) (fun s b => beh_went k b s) (adj a) (putM s.1 a, s.2)
      have hput : ∀ m, putM s.1 a m = true ↔ (s.1 m = true ∨ m = a) := fun m => by unfold putM; simp
      refine ⟨w ++ [a], ?_, fun m => ?_, fun m hm => ?_, ?_, fun w1 x w2 e => ?_, fun m hm => ?_⟩
      · show _ ++ [a] = _
        rw [h.out, List.append_assoc]
      · show ((adj a).foldl (fun s b => beh adj k b s) (putM s.1 a, s.2)).1 m = true ↔ _
        rw [h.met, hput, List.mem_append, List.mem_singleton]
        constructor
        · rintro ((h | h) | h)
          · exact .inl h
          · exact .inr (.inr h)
          · exact .inr (.inl h)
        · rintro (h | h | h)
          · exact .inl (.inl h)
          · exact .inr h
          · exact .inl (.inr h)
      · rw [List.mem_append, List.mem_singleton] at hm
        rcases hm with hm | rfl
        · have : putM s.1 a m = false := h.new m hm
          cases hq : s.1 m with
          | false => rfl
          | true => rw [(hput m).2 (.inl hq)] at this; cases this
        · exact hs'
      · rw [List.nodup_append]
        refine ⟨h.nodup, by simp, fun x hx y hy e => ?_⟩
        rw [List.mem_singleton] at hy
        subst hy; subst e
        have : putM s.1 x x = false := h.new x hx
        rw [(hput x).2 (.inr rfl)] at this; cases this
      · rcases List.append_eq_append_iff.1 e with ⟨q, e1, e2⟩ | ⟨q, e1, e2⟩
        · -- x is in [a]
          match q with
          | [] =>
            simp only [List.nil_append, List.cons.injEq] at e2
            exact .inr (by rw [← e2.1]; simp)
          | q0 :: q => simp at e2
        · match q with
          | [] =>
            simp only [List.nil_append, List.cons.injEq] at e2
            exact .inr (by rw [e2.1]; simp)
          | q0 :: q =>
            rw [List.cons_append, List.cons.injEq] at e2
            obtain ⟨rfl, e2⟩ := e2
            rcases h.par w1 x q e1 with ⟨y, h1, h2⟩ | h1
            · exact .inl ⟨y, by rw [e2]; exact List.mem_append_left _ h1, h2⟩
            · exact .inl ⟨a, by rw [e2]; simp, h1⟩
      · rw [List.mem_append, List.mem_singleton] at hm
        rcases hm with hm | rfl
        · obtain ⟨c, h1, h2⟩ := h.reach m hm
          exact ⟨a, by simp, Rch.head h1 h2⟩
        · exact ⟨m, by simp, .refl⟩

theorem beh_mono {adj : Nat → List Nat} {k a : Nat} {s : DSt} {m : Nat} (h : s.1 m = true) : (beh adj k a s).1 m = true := by
  obtain ⟨w, hw⟩ := beh_went (adj := adj) k a s
  exact (hw.met m).2 (.inl h)

/-- With enough to go on with, all that is met leads to what is met. -/
structure Full (adj : Nat → List Nat) (N : Nat) (cs : List Nat) (s t : DSt) : Prop where
  start : ∀ c, c ∈ cs → t.1 c = true
  closed : ∀ m, t.1 m = true → s.1 m = false → ∀ b, b ∈ adj m → t.1 b = true
  mono : ∀ m, s.1 m = true → t.1 m = true
  size : t.2.length + cnt N t.1 ≤ s.2.length + cnt N s.1

theorem fold_full {adj : Nat → List Nat} {N k : Nat} {f : DSt → Nat → DSt} (hf : ∀ s b, b < N → cnt N s.1 < k → Full adj N [b] s (f s b)) : ∀ (cs : List Nat) (s : DSt), (∀ c, c ∈ cs → c < N) → cnt N s.1 < k → Full adj N cs s (cs.foldl f s)
  | [], s, _, _ => ⟨fun c h => by simp at h, fun m h1 h2 => (by rw [show ([] : List Nat).foldl f s = s from rfl, h2] at h1; cases h1), fun m h => h, Nat.le_refl _⟩
  | b :: cs, s, hc, hk => by
    have h1 := hf s b (hc b List.mem_cons_self) hk
    have h2 := fold_full hf cs (f s b) (fun c h => hc c (List.mem_cons_of_mem _ h)) (Nat.lt_of_le_of_lt (cnt_mono h1.mono N) hk)
    refine ⟨fun c h => ?_, fun m hm hs b' hb' => ?_, fun m h => h2.mono m (h1.mono m h), Nat.le_trans h2.size h1.size⟩
    · rcases List.mem_cons.1 h with rfl | h
      · exact h2.mono _ (h1.start _ (by simp))
      · exact h2.start c h
    · cases hq : (f s b).1 m with
      | true => exact h2.mono _ (h1.closed m hq hs b' hb')
      | false => exact h2.closed m hm hq b' hb'

theorem beh_full {adj : Nat → List Nat} {N : Nat} (hlt : ∀ a, a < N → ∀ b, b ∈ adj a → b < N) : ∀ k a (s : DSt), a < N → cnt N s.1 < k → Full adj N [a] s (beh adj k a s)
  | 0, a, s, _, h => absurd h (Nat.not_lt_zero _)
  | k + 1, a, s, ha, hk => by
    unfold beh
    by_cases hs : s.1 a = true
    · rw [if_pos hs]
      exact ⟨fun c h => by rw [List.mem_singleton] at h; subst h; exact hs, fun m h1 h2 => (by rw [h2] at h1; cases h1), fun m h => h, Nat.le_refl _⟩
    · rw [if_neg hs]
      have hs' : s.1 a = false := by simpa using hs
      have hc := cnt_put hs' N
      rw [if_pos ha] at hc
      have h := fold_full (f := fun s b => beh adj k b s) (k := k) (fun s b hb hk => beh_full hlt k b s hb hk) (adj a) (putM s.1 a, s.2) (hlt a ha) (by show cnt N (putM s.1 a) < k; omega)
      have hput : ∀ m, putM s.1 a m = true ↔ (s.1 m = true ∨ m = a) := fun m => by unfold putM; simp
      refine ⟨fun c hc => ?_, fun m hm hs b hb => ?_, fun m hm => h.mono m ((hput m).2 (.inl hm)), ?_⟩
      · rw [List.mem_singleton] at hc; subst hc
        exact h.mono c ((hput c).2 (.inr rfl))
      · by_cases e : m = a
        · subst e; exact h.start b hb
        · refine h.closed m hm ?_ b hb
          show putM s.1 a m = false
          unfold putM; rw [hs, decide_eq_false e]; rfl
      · show (_ ++ [a]).length + _ ≤ _
        have := h.size
        rw [List.length_append, List.length_singleton]
        simp only at this ⊢
        omega

/-- What a search in depth from a root comes to: all that is reached, as it is left. -/
structure Ord (adj : Nat → List Nat) (N root : Nat) (o : List Nat) : Prop where
  mem : ∀ m, m ∈ o ↔ Rch adj root m
  nodup : o.Nodup
  first : ∃ o', o = root :: o'
  par : ∀ o1 x o2, o = o1 ++ x :: o2 → x ≠ root → ∃ y, y ∈ o1 ∧ x ∈ adj y
  lt : ∀ m, m ∈ o → m < N

theorem beh_last {adj : Nat → List Nat} {k a : Nat} {s : DSt} (h : s.1 a = false) : ∃ w, (beh adj (k + 1) a s).2 = w ++ [a] := by
  unfold beh
  rw [if_neg (by rw [h]; decide)]
  exact ⟨_, rfl⟩

theorem ord_beh {adj : Nat → List Nat} {N k root : Nat} (hlt : ∀ a, a < N → ∀ b, b ∈ adj a → b < N) (hr : root < N) (hk : N < k) : Ord adj N root (beh adj k root (fun _ => false, [])).2.reverse := by
  have hc : cnt N (fun _ => false) ≤ N := by
    unfold cnt
    have := List.length_filter_le (fun m : Nat => !(fun _ => false) m) (List.range N)
    rwa [List.length_range] at this
  have hf := beh_full hlt k root (fun _ => false, []) hr (by show cnt N (fun _ => false) < k; omega)
  obtain ⟨w, hw⟩ := beh_went (adj := adj) k root (fun _ => false, [])
  have ho : (beh adj k root (fun _ => false, [])).2 = w := by rw [hw.out]; rfl
  have hmet : ∀ m, (beh adj k root (fun _ => false, [])).1 m = true ↔ m ∈ w := fun m => by
    rw [hw.met]; simp
  have hrch : ∀ m, Rch adj root m → m ∈ w := fun m r => by
    induction r with
    | refl => exact (hmet _).1 (hf.start _ (by simp))
    | step _ h2 ih => exact (hmet _).1 (hf.closed _ ((hmet _).2 ih) rfl _ h2)
  have hrch2 : ∀ m, m ∈ w → Rch adj root m := fun m hm => by
    obtain ⟨c, h1, h2⟩ := hw.reach m hm
    rw [List.mem_singleton] at h1; subst h1; exact h2
  rw [ho]
  refine ⟨fun m => by rw [List.mem_reverse]; exact ⟨hrch2 m, hrch m⟩, List.pairwise_reverse.2 (hw.nodup.imp fun h => Ne.symm h), ?_, fun o1 x o2 e hx => ?_, fun m hm => ?_⟩
  · obtain ⟨k, rfl⟩ : ∃ j, k = j + 1 := ⟨k - 1, by omega⟩
    obtain ⟨w', e⟩ := beh_last (adj := adj) (k := k) (a := root) (s := (fun _ => false, [])) rfl
    rw [ho] at e
    exact ⟨w'.reverse, by rw [e]; simp⟩
  · have e' : w = o2.reverse ++ x :: o1.reverse := by
      have := congrArg List.reverse e
      rw [List.reverse_reverse] at this
      rw [this]; simp
    rcases hw.par _ _ _ e' with ⟨y, h1, h2⟩ | h1
    · exact ⟨y, by simpa using h1, h2⟩
    · rw [List.mem_singleton] at h1; exact absurd h1 hx
  · rw [List.mem_reverse] at hm
    have hr := hrch2 m hm
    clear hm
    induction hr with
    | refl => exact hr
    | step _ h2 ih => exact hlt _ ih _ h2

end Go.Fw
