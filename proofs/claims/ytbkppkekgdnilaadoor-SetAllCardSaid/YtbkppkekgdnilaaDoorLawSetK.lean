/-
  SetAll: the operations, one by one.
-/
import Derived.Test.YtbkppkekgdnilaaDoorLawSetJ
set_option maxRecDepth 20000
set_option linter.unusedVariables false
namespace Go.Fw

/-- A set and a list, in blocks that Q speaks of. -/
def LS (h : H) (Q : Nat → Prop) (p : Nat) (v : Value) (s : Nat → Bool) (L : List Int) : Prop :=
  ∃ O b, BS h p O s ∧ GlI h v b L ∧ (∀ c, O c → Q c) ∧ (L ≠ [] → Q b ∧ ¬ O b)
/-- The set and the list of whom it holds. -/
abbrev MS (h : H) (Q : Nat → Prop) (p : Nat) (v : Value) (s : Nat → Bool) : Prop := LS h Q p v s (ints (setL s))

theorem LS.small {h : H} {Q : Nat → Prop} {p : Nat} {v : Value} {s : Nat → Bool} {L : List Int} (x : LS h Q p v s L) : ∀ m, s m = true → m < 5000 := by
  obtain ⟨O, b, x, _⟩ := x
  exact fun m hm => x.small hm
theorem LS.rd {h : H} {Q : Nat → Prop} {p : Nat} {v : Value} {s : Nat → Bool} {L : List Int} (x : LS h Q p v s L) : RdI h v L := by
  obtain ⟨O, b, _, g, _⟩ := x
  exact Gl.rd g
theorem LS.congr {h : H} {Q : Nat → Prop} {p : Nat} {v : Value} {s s' : Nat → Bool} {L L' : List Int} (x : LS h Q p v s L) (e : s = s') (e' : L = L') : LS h Q p v s' L' := by subst e; subst e'; exact x
theorem LS.mono {h : H} {Q Q' : Nat → Prop} {p : Nat} {v : Value} {s : Nat → Bool} {L : List Int} (x : LS h Q p v s L) (hq : ∀ c, Q c → Q' c) : LS h Q' p v s L := by
  obtain ⟨O, b, x, g, h1, h2⟩ := x
  exact ⟨O, b, x, g, fun c hc => hq c (h1 c hc), fun h0 => ⟨hq b (h2 h0).1, (h2 h0).2⟩⟩
theorem imapI_ne {L : List Int} : L.map i64 ≠ [] ↔ L ≠ [] := by cases L <;> simp
theorem intsL_len {s : Nat → Bool} : (ints (setL s)).length ≤ 5120 := by
  have := upTo_len (s := s) (k := 80)
  unfold ints; rw [List.length_map]; unfold setL; omega

theorem isIn_list {s : Nat → Bool} (x : ∀ m, s m = true → m < 5000) (a : Int) : isIn s a = decide (a ∈ ints (setL s)) := by
  rw [Bool.eq_iff_iff, decide_eq_true_eq, ints_mem x]
  unfold isIn
  rw [Bool.and_eq_true, decide_eq_true_eq]
  constructor
  · rintro ⟨h1, h2⟩; exact ⟨h1.1, h2⟩
  · rintro ⟨h1, h2⟩; exact ⟨⟨h1, by have := x _ h2; omega⟩, h2⟩

theorem canAdd_list {s : Nat → Bool} (x : ∀ m, s m = true → m < 5000) (a : Int) : canAdd s a = (decide (0 ≤ a ∧ a < 5000) && !decide (a ∈ ints (setL s))) := by
  unfold canAdd
  by_cases h : 0 ≤ a ∧ a < 5000
  · rw [decide_eq_true h, Bool.true_and, Bool.true_and]
    congr 1
    rw [Bool.eq_iff_iff, decide_eq_true_eq, ints_mem x]
    exact ⟨fun q => ⟨h.1, q⟩, fun q => q.2⟩
  · rw [decide_eq_false h, Bool.false_and, Bool.false_and]

theorem ints_put {s : Nat → Bool} (x : ∀ m, s m = true → m < 5000) {a : Int} (h0 : 0 ≤ a ∧ a < 5000) : ints (setL (putS s a.toNat)) = putI (ints (setL s)) a := by
  have x' : ∀ m, putS s a.toNat m = true → m < 5000 := fun m hm => by
    unfold putS at hm
    rw [Bool.or_eq_true, decide_eq_true_eq] at hm
    rcases hm with h | h
    · exact x m h
    · omega
  refine sorted_extI ints_sorted (putI_sorted ints_sorted) fun y => ?_
  rw [putI_mem, ints_mem x', ints_mem x]
  unfold putS
  rw [Bool.or_eq_true, decide_eq_true_eq]
  constructor
  · rintro ⟨h1, h2 | h2⟩
    · exact .inr ⟨h1, h2⟩
    · exact .inl (by omega)
  · rintro (h | ⟨h1, h2⟩)
    · subst h; exact ⟨h0.1, .inr rfl⟩
    · exact ⟨h1, .inl h2⟩

theorem ints_del {s : Nat → Bool} (x : ∀ m, s m = true → m < 5000) {a : Int} : ints (setL fun m => s m && !decide ((m : Int) = a)) = (ints (setL s)).filter (fun z => z ∉ [a]) := by
  refine sorted_extI ints_sorted (List.Pairwise.filter _ ints_sorted) fun y => ?_
  rw [List.mem_filter, ints_mem x, ints_mem (s := fun m => s m && !decide ((m : Int) = a)) (fun m hm => by rw [Bool.and_eq_true] at hm; exact x m hm.1), Bool.and_eq_true]
  simp only [List.mem_singleton, Bool.not_eq_true', decide_eq_false_iff_not, decide_not, Bool.not_eq_eq_eq_not, Bool.not_true]
  constructor
  · rintro ⟨h1, h2, h3⟩; exact ⟨⟨h1, h2⟩, fun q => h3 (by omega)⟩
  · rintro ⟨⟨h1, h2⟩, h3⟩; exact ⟨h1, h2, fun q => h3 (by omega)⟩

theorem filter_two {α : Type} (s t : α → Bool) : ∀ l : List α, (l.filter fun m => s m || t m).length = (l.filter s).length + (l.filter fun m => t m && !s m).length
  | [] => rfl
  | a :: l => by
    have ih := filter_two s t l
    rw [List.filter_cons, List.filter_cons, List.filter_cons]
    cases hs : s a <;> cases ht : t a <;> simp [ih] <;> omega

theorem join_more {s t : Nat → Bool} (xt : ∀ m, t m = true → m < 5000) : newS s t = decide ((ints (setL s)).length < (ints (setL fun m => s m || t m)).length) := by
  have e := filter_two s t (List.range (64 * 80))
  have e1 : (ints (setL s)).length = ((List.range (64 * 80)).filter s).length := by unfold ints; rw [List.length_map]; rfl
  have e2 : (ints (setL fun m => s m || t m)).length = ((List.range (64 * 80)).filter fun m => s m || t m).length := by unfold ints; rw [List.length_map]; rfl
  unfold newS
  rw [Bool.eq_iff_iff, @decide_eq_true_eq _ (Classical.propDecidable _), decide_eq_true_eq, e1, e2, e]
  constructor
  · rintro ⟨m, h1, h2⟩
    have : m ∈ (List.range (64 * 80)).filter fun m => t m && !s m := by
      rw [List.mem_filter, List.mem_range]
      exact ⟨by have := xt m h1; omega, by rw [h1, h2]; rfl⟩
    have := List.length_pos_of_mem this
    omega
  · intro h
    obtain ⟨m, hm⟩ := List.exists_mem_of_length_pos (show 0 < ((List.range (64 * 80)).filter fun m => t m && !s m).length by omega)
    rw [List.mem_filter, Bool.and_eq_true] at hm
    exact ⟨m, hm.2.1, by simpa using hm.2.2⟩

/-- What is told as the first from somewhere on. -/
def FirstOf (zs : List Int) (a r : Int) : Prop := (r = -1 ∧ ∀ z, z ∈ zs → z < a) ∨ (r ∈ zs ∧ a ≤ r ∧ ∀ z, z ∈ zs → a ≤ z → r ≤ z)

theorem first_list {s : Nat → Bool} (x : ∀ m, s m = true → m < 5000) {a r r' : Int} (h : IsFirst s a.toNat r) (h' : FirstOf (ints (setL s)) a r') : r = r' := by
  have ge : ∀ z, z ∈ ints (setL s) → (a ≤ z ↔ a.toNat ≤ z.toNat) ∧ 0 ≤ z ∧ s z.toNat = true := fun z hz => by
    obtain ⟨h1, h2⟩ := (ints_mem x).1 hz
    exact ⟨by omega, h1, h2⟩
  have into : ∀ m, s m = true → (m : Int) ∈ ints (setL s) := fun m hm => (ints_mem x).2 ⟨by omega, by rw [Int.toNat_natCast]; exact hm⟩
  rcases h with ⟨rfl, h1⟩ | ⟨m, rfl, h1, h2, h3⟩
  · rcases h' with ⟨rfl, _⟩ | ⟨g1, g2, _⟩
    · rfl
    · obtain ⟨q1, q2, q3⟩ := ge _ g1
      rw [h1 _ (q1.1 g2)] at q3; cases q3
  · have hm := into m h2
    obtain ⟨q1, q2, q3⟩ := ge _ hm
    rcases h' with ⟨_, g1⟩ | ⟨g1, g2, g3⟩
    · have := g1 _ hm
      rw [Int.toNat_natCast] at q1
      omega
    · have p1 := g3 _ hm (by rw [Int.toNat_natCast] at q1; exact q1.2 h1)
      obtain ⟨w1, w2, w3⟩ := ge _ g1
      rcases Nat.lt_or_ge r'.toNat m with h4 | h4
      · have := h3 _ (w1.1 g2) h4
        rw [this] at w3; cases w3
      · omega

section
variable {F n p : Nat} {Q : Nat → Prop} {s : Nat → Bool} {L : List Int} {v : Value} {h : H}

theorem LS.ev {n' : Nat} {h' : H} (x : LS h Q p v s L) (f : Fr n h) (e : Ev No n h n' h') : LS h' Q p v s L := by
  obtain ⟨O, b, x, g, h1, h2⟩ := x
  exact ⟨O, b, x.keep fun c hc => e.no (x.lt f c hc), g.keep fun h0 => e.no (g.lt f h0), h1, h2⟩

/-- What is new is not among theirs. -/
theorem LS.off (x : LS h Q p v s L) (f : Fr n h) : LS h (fun c => Q c ∧ c ≠ n) p v s L := by
  obtain ⟨O, b, x, g, h1, h2⟩ := x
  refine ⟨O, b, x, g, fun c hc => ⟨h1 c hc, by have := x.lt f c hc; omega⟩, fun h0 => ⟨⟨(h2 h0).1, ?_⟩, (h2 h0).2⟩⟩
  have := g.lt f (imapI_ne.2 h0); omega

/-- Another list. -/
theorem LS.list {n' m : Nat} {h' : H} {v' : Value} {L' : List Int} (x : LS h Q p v s L) (f : Fr n h) (hm : n ≤ m) (e : Ev No n h n' h') (g : NewI h' m v' L') (hQ : ∀ c, n ≤ c → Q c) : LS h' Q p v' s L' := by
  obtain ⟨O, b, x, _, h1, _⟩ := x
  obtain ⟨b2, g2, hb2⟩ := g
  exact ⟨O, b2, x.keep fun c hc => e.no (x.lt f c hc), g2, h1, fun h0 => ⟨hQ b2 (by have := hb2 h0; omega), fun q => by have := hb2 h0; have := x.lt f b2 q; omega⟩⟩

theorem LS.put (hF : L.length < F) (hl : L.length < 1099511627776) (x : LS h Q p v s L) (f : Fr n h) (hQ : ∀ c, n ≤ c → Q c) (z : Int) :
    ∃ n' h' v', (R1_Put F v (i64 z)).run n h = some (v', n', h') ∧ LS h' Q p v' s (putI L z) ∧ Ev No n h n' h' := by
  obtain ⟨O, b, x0, g, h1, h2⟩ := x
  obtain ⟨n', h', v', e, r, ev⟩ := rput_or (F := F) g f hF hl z
  refine ⟨n', h', v', e, ?_, ev⟩
  rcases r with ⟨rfl, rfl, q⟩ | r
  · rw [q]; exact ⟨O, b, x0, g, h1, h2⟩
  · exact LS.list (⟨O, b, x0, g, h1, h2⟩ : LS h Q p v s L) f (Nat.le_refl _) ev r hQ

/-- One more in the set. -/
theorem LS.add (hF : 100 < F) (x : LS h Q p v s L) (f : Fr n h) (hQ : ∀ c, n ≤ c → Q c) (a : Int) :
    ∃ n1 h1, (bitset_Set_Add F (pt p 0) (i64 a)).run n h = some (bo (canAdd s a), n1, h1) ∧ LS h1 Q p v (if canAdd s a = true then putS s a.toNat else s) L ∧ Ev Q n h n1 h1 := by
  obtain ⟨O, b, x, g, hO, hb⟩ := x
  obtain ⟨n1, h1, O', e1, x1, f1, l1, k1, o1⟩ := add_spec (F := F) x f a hF
  refine ⟨n1, h1, e1, ⟨O', b, x1, g.keep fun q => k1 b (g.lt f q) (hb (imapI_ne.1 q)).2, fun c hc => ?_, fun h3 => ⟨(hb h3).1, fun w => ?_⟩⟩, f1, l1, fun c hc q => k1 c hc fun w => q (hO c w)⟩
  · rcases o1 c hc with q | q
    · exact hO c q
    · exact hQ c q
  · rcases o1 b w with q | q
    · exact (hb h3).2 q
    · have := g.lt f (imapI_ne.2 h3); omega

/-- One out of the set. -/
theorem LS.rem (x : LS h Q p v s L) (f : Fr n h) (a : Int) :
    ∃ h1, (bitset_Set_Remove F (pt p 0) (i64 a)).run n h = some (bo (isIn s a), n, h1) ∧ LS h1 Q p v (fun m => s m && !decide ((m : Int) = a)) L ∧ Ev Q n h n h1 := by
  obtain ⟨O, b, x, g, hO, hb⟩ := x
  obtain ⟨h1, e, x1, ev⟩ := rem_spec (F := F) x f a
  exact ⟨h1, e, ⟨O, b, x1, g.keep fun q => ev.keep b (g.lt f q) (hb (imapI_ne.1 q)).2, hO, hb⟩, ev.mono fun c _ hc => hO c hc⟩

/-- Another set, made of numbers, joined. -/
theorem LS.ofJoin {cv : Value} {zs : List Int} (hF : 100 < F) (x : LS h Q p v s L) (f : Fr n h) (hQ : ∀ c, n ≤ c → Q c) (hl : zs.length < F) (hl2 : zs.length < 9223372036854775000) (rd : RdI h cv zs) :
    ∃ n1 h1 n2 h2, (bitset_Of F cv).run n h = some (pt n 0, n1, h1) ∧ (bitset_Set_Join F (pt p 0) (pt n 0)).run n1 h1 = some (bo (newS s (setOf zs)), n2, h2) ∧ LS h2 Q p v (fun m => s m || setOf zs m) L ∧ Ev Q n h n2 h2 := by
  obtain ⟨O, b, x, g, hO, hb⟩ := x
  obtain ⟨n1, h1, e1, ⟨O', x', q'⟩, ev1⟩ := ofR_spec (F := F) hF hl hl2 rd f
  have l1 := ev1.le
  have x1 : BS h1 p O s := x.keep fun c hc => ev1.no (x.lt f c hc)
  have g1 : GlI h1 v b L := g.keep fun w => ev1.no (g.lt f w)
  obtain ⟨n2, h2, Q1, ch, e, hch, y1, ev, o1⟩ := join_spec (F := F) hF x1 x' (fun c h1 h2 => by have := x.lt f c h1; have := (q' c h2).1; omega) ev1.f
  have ec : ch = newS s (setOf zs) := by
    unfold newS
    rw [Bool.eq_iff_iff, hch, @decide_eq_true_eq _ (Classical.propDecidable _)]
  rw [ec] at e
  refine ⟨n1, h1, n2, h2, e1, e, ⟨Q1, b, y1, g1.keep fun w => ev.keep b (by have := g.lt f w; omega) (hb (imapI_ne.1 w)).2, fun c hc => ?_, fun h3 => ⟨(hb h3).1, fun w => ?_⟩⟩, (ev1.mono fun _ _ h => h.elim).trans ev fun c _ hc => hO c hc⟩
  · rcases o1 c hc with w | w
    · exact hO c w
    · exact hQ c (by omega)
  · rcases o1 b w with w | w
    · exact (hb h3).2 w
    · have := g.lt f (imapI_ne.2 h3); omega
end

end Go.Fw
