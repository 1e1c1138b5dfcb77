/-
  Who stands above whom, in plain numbers: that meeting again and again finds it.
-/
import Derived.Test.YtddafkflndhnfaaDoorFwDfs
namespace Go.Fw

/-- Who is reached without going through one. -/
inductive RchW (adj : Nat → List Nat) (root d : Nat) : Nat → Prop
  | start : root ≠ d → RchW adj root d root
  | step {b c : Nat} : RchW adj root d b → c ∈ adj b → c ≠ d → RchW adj root d c

theorem RchW.rch {adj : Nat → List Nat} {root d a : Nat} (r : RchW adj root d a) : Rch adj root a := by
  induction r with
  | start _ => exact .refl
  | step _ h _ ih => exact .step ih h
theorem RchW.ne {adj : Nat → List Nat} {root d a : Nat} (r : RchW adj root d a) : a ≠ d := by
  cases r with
  | start h => exact h
  | step _ _ h => exact h
theorem rchW_of {adj : Nat → List Nat} {root d a : Nat} (r : Rch adj root a) (hd : ¬ Rch adj root d) : RchW adj root d a := by
  induction r with
  | refl => exact .start fun e => hd (e ▸ .refl)
  | step h1 h2 ih => exact .step ih h2 fun e => hd (e ▸ .step h1 h2)

/-- d stands above a: each way to a goes through d. -/
def Dom (adj : Nat → List Nat) (root d a : Nat) : Prop := Rch adj root a ∧ ¬ RchW adj root d a

section
variable {adj : Nat → List Nat} {root : Nat}
theorem Dom.rch {d a : Nat} (h : Dom adj root d a) : Rch adj root d := Classical.byContradiction fun hd => h.2 (rchW_of h.1 hd)
theorem Dom.self {a : Nat} (h : Rch adj root a) : Dom adj root a a := ⟨h, fun r => r.ne rfl⟩
theorem Dom.top {a : Nat} (h : Rch adj root a) : Dom adj root root a := ⟨h, fun r => by
  clear h
  induction r with
  | start h => exact h rfl
  | step _ _ _ ih => exact ih⟩
theorem Dom.of_root {d : Nat} (h : Dom adj root d root) : d = root := Classical.byContradiction fun e => h.2 (.start fun q => e q.symm)
theorem Dom.pred {d a b : Nat} (h : Dom adj root d a) (hd : d ≠ a) (hb : Rch adj root b) (e : a ∈ adj b) : Dom adj root d b := ⟨hb, fun r => h.2 (.step r e fun q => hd q.symm)⟩
/-- A way that avoids d goes through a, or avoids a. -/
theorem RchW.split {a d c : Nat} (r : RchW adj root d c) : RchW adj root a c ∨ RchW adj root d a := by
  induction r with
  | start h =>
    by_cases e : root = a
    · exact .inr (e ▸ .start h)
    · exact .inl (.start e)
  | @step b c h1 h2 h3 ih =>
    rcases ih with ih | ih
    · by_cases e : c = a
      · exact .inr (e ▸ .step h1 h2 h3)
      · exact .inl (.step ih h2 e)
    · exact .inr ih
theorem Dom.trans {a b c : Nat} (h1 : Dom adj root a b) (h2 : Dom adj root b c) : Dom adj root a c := ⟨h2.1, fun r => by
  rcases r.split (a := b) with q | q
  · exact h2.2 q
  · exact h1.2 q⟩
end

/-! ## Ways with few edges back -/

/-- A way that avoids d with less than k edges that lead back. -/
inductive RW (adj : Nat → List Nat) (place : Nat → Nat) (root d : Nat) : Nat → Nat → Prop
  | start {k : Nat} : root ≠ d → RW adj place root d (k + 1) root
  | fwd {k b c : Nat} : RW adj place root d (k + 1) b → c ∈ adj b → c ≠ d → place b < place c → RW adj place root d (k + 1) c
  | bck {k b c : Nat} : RW adj place root d k b → c ∈ adj b → c ≠ d → RW adj place root d (k + 1) c

section
variable {adj : Nat → List Nat} {place : Nat → Nat} {root : Nat}
theorem RW.none {d a : Nat} (h : RW adj place root d 0 a) : False := by cases h
theorem RW.ne {d k a : Nat} (h : RW adj place root d k a) : a ≠ d := by
  cases h with
  | start h => exact h
  | fwd _ _ h _ => exact h
  | bck _ _ h => exact h
theorem RW.up {d k a : Nat} (h : RW adj place root d k a) : RW adj place root d (k + 1) a := by
  induction h with
  | start h => exact .start h
  | fwd _ h2 h3 h4 ih => exact .fwd ih h2 h3 h4
  | bck _ h2 h3 ih => exact .bck ih h2 h3
theorem RW.le {d k l a : Nat} (h : RW adj place root d k a) (hl : k ≤ l) : RW adj place root d l a := by
  induction hl with
  | refl => exact h
  | step _ ih => exact ih.up
theorem RW.w {d k a : Nat} (h : RW adj place root d k a) : RchW adj root d a := by
  induction h with
  | start h => exact .start h
  | fwd _ h2 h3 _ ih => exact .step ih h2 h3
  | bck _ h2 h3 ih => exact .step ih h2 h3
theorem RchW.rw {d a : Nat} (h : RchW adj root d a) : ∃ k, RW adj place root d k a := by
  induction h with
  | start h => exact ⟨1, .start h⟩
  | step _ h2 h3 ih =>
    obtain ⟨k, ih⟩ := ih
    exact ⟨k + 1, .bck ih h2 h3⟩
theorem RW.split {d a L c : Nat} (h : RW adj place root d L c) : RW adj place root a L c ∨ RW adj place root d L a := by
  induction h with
  | start h =>
    by_cases e : root = a
    · exact .inr (e ▸ .start h)
    · exact .inl (.start e)
  | @fwd k b c h1 h2 h3 h4 ih =>
    rcases ih with ih | ih
    · by_cases e : c = a
      · exact .inr (e ▸ .fwd h1 h2 h3 h4)
      · exact .inl (.fwd ih h2 e h4)
    · exact .inr ih
  | @bck k b c h1 h2 h3 ih =>
    rcases ih with ih | ih
    · by_cases e : c = a
      · exact .inr (e ▸ .bck h1 h2 h3)
      · exact .inl (.bck ih h2 e)
    · exact .inr ih.up

/-- As many rounds as nodes are enough. -/
theorem RW.enough {N d a : Nat} (hlt : ∀ b, RchW adj root d b → b < N) (h : RchW adj root d a) : RW adj place root d (N + 1) a := by
  classical
  have hstab : ∃ k, k ≤ N ∧ ∀ b, RW adj place root d (k + 1) b → RW adj place root d k b := by
    apply Classical.byContradiction
    intro hc
    have hgrow : ∀ k, k ≤ N → ∃ b, RW adj place root d (k + 1) b ∧ ¬ RW adj place root d k b := fun k hk => by
      apply Classical.byContradiction
      intro q
      exact hc ⟨k, hk, fun b hb => Classical.byContradiction fun hn => q ⟨b, hb, hn⟩⟩
    have hsz : ∀ k, k ≤ N + 1 → cnt N (fun b => decide (RW adj place root d k b)) + k ≤ N := by
      intro k
      induction k with
      | zero =>
        intro _
        unfold cnt
        have := List.length_filter_le (fun m : Nat => !(fun b => decide (RW adj place root d 0 b)) m) (List.range N)
        rw [List.length_range] at this; exact this
      | succ k ih =>
        intro hk
        obtain ⟨b, h1, h2⟩ := hgrow k (by omega)
        have h3 := ih (by omega)
        have hb := hlt b h1.w
        have h4 := cnt_put (s := fun b => decide (RW adj place root d k b)) (a := b) (by simpa using h2) N
        rw [if_pos hb] at h4
        have h5 : cnt N (fun b => decide (RW adj place root d (k + 1) b)) ≤ cnt N (putM (fun b => decide (RW adj place root d k b)) b) := by
          apply cnt_mono
          intro m hm
          unfold putM at hm
          rw [Bool.or_eq_true, decide_eq_true_eq, decide_eq_true_eq] at hm
          rw [decide_eq_true_eq]
          rcases hm with hm | rfl
          · exact hm.up
          · exact h1
        omega
    have := hsz (N + 1) (Nat.le_refl _)
    omega
  obtain ⟨k, hk, hs⟩ := hstab
  have hall : ∀ b, RchW adj root d b → RW adj place root d k b := fun b hb => by
    induction hb with
    | start h => exact hs _ (.start h)
    | step _ h2 h3 ih => exact hs _ (.bck ih h2 h3)
  exact (hall a h).le (by omega)
end

/-! ## Chains -/

/-- d is met on the way up from c. -/
inductive Anc (up : Nat → Int) (c : Nat) : Nat → Prop
  | refl : Anc up c c
  | step {e d : Nat} : Anc up c e → up e = (d : Int) → Anc up c d

theorem Anc.trans {up : Nat → Int} {a b c : Nat} (h1 : Anc up a b) (h2 : Anc up b c) : Anc up a c := by
  induction h2 with
  | refl => exact h1
  | step _ h ih => exact .step ih h
theorem Anc.head {up : Nat → Int} {a b c : Nat} (h : up a = (b : Int)) (h2 : Anc up b c) : Anc up a c := (Anc.step .refl h).trans h2
theorem Anc.cases_head {up : Nat → Int} {a c : Nat} (h : Anc up a c) : c = a ∨ ∃ b : Nat, up a = (b : Int) ∧ Anc up b c := by
  induction h with
  | refl => exact .inl rfl
  | step _ h ih =>
    rcases ih with rfl | ⟨b, h1, h2⟩
    · exact .inr ⟨_, h, .refl⟩
    · exact .inr ⟨b, h1, .step h2 h⟩

/-- One place of what is known of who stands next above turned. -/
abbrev updI (up : Nat → Int) (a : Nat) (v : Int) : Nat → Int := fun i => if i = a then v else up i

theorem Anc.updI {up : Nat → Int} {a m c d : Nat} (h : Anc (updI up a m) c d) : Anc up c d ∨ (Anc up c a ∧ Anc up m d) := by
  induction h with
  | refl => exact .inl .refl
  | @step e d _ h ih =>
    by_cases he : e = a
    · subst he
      simp only [if_pos] at h
      have hm : d = m := by omega
      subst hm
      rcases ih with ih | ih
      · exact .inr ⟨ih, .refl⟩
      · exact .inr ⟨ih.1, .refl⟩
    · simp only [if_neg he] at h
      rcases ih with ih | ih
      · exact .inl (.step ih h)
      · exact .inr ⟨ih.1, .step ih.2 h⟩
theorem Anc.updI_self {up : Nat → Int} {a m d : Nat} (h : Anc (Fw.updI up a m) a d) : d = a ∨ Anc up m d := by
  induction h with
  | refl => exact .inl rfl
  | @step e d _ h ih =>
    by_cases he : e = a
    · subst he
      simp only [if_pos] at h
      have hm : d = m := by omega
      subst hm
      exact .inr .refl
    · simp only [if_neg he] at h
      rcases ih with ih | ih
      · exact absurd ih he
      · exact .inr (.step ih h)

/-! ## What stays true -/

/-- The order, and where each one stands in it. -/
structure Pl (adj : Nat → List Nat) (N root : Nat) (o : List Nat) (place : Nat → Nat) : Prop where
  ord : Ord adj N root o
  pl : ∀ k (h : k < o.length), place o[k] = k

section
variable {adj : Nat → List Nat} {N root : Nat} {o : List Nat} {place : Nat → Nat}

theorem Pl.at_ (P : Pl adj N root o place) {a : Nat} (ha : a ∈ o) : ∃ h : place a < o.length, o[place a] = a := by
  obtain ⟨k, hk, e⟩ := List.getElem_of_mem ha
  have := P.pl k hk
  rw [e] at this
  subst this
  exact ⟨hk, e⟩
theorem Pl.inj (P : Pl adj N root o place) {a b : Nat} (ha : a ∈ o) (hb : b ∈ o) (e : place a = place b) : a = b := by
  obtain ⟨h1, e1⟩ := P.at_ ha
  obtain ⟨h2, e2⟩ := P.at_ hb
  rw [← e1, ← e2]
  simp only [e]
theorem Pl.mem_root (P : Pl adj N root o place) : root ∈ o := (P.ord.mem root).2 .refl
theorem Pl.zero (P : Pl adj N root o place) : place root = 0 := by
  obtain ⟨o', e⟩ := P.ord.first
  have := P.pl 0 (by rw [e]; simp)
  simp only [e, List.getElem_cons_zero] at this
  exact this
theorem Pl.pos (P : Pl adj N root o place) {a : Nat} (ha : a ∈ o) (h : a ≠ root) : 0 < place a := by
  rcases Nat.eq_zero_or_pos (place a) with h0 | h0
  · exact absurd (P.inj ha P.mem_root (by rw [h0, P.zero])) h
  · exact h0
theorem Pl.par (P : Pl adj N root o place) {a : Nat} (ha : a ∈ o) (h : a ≠ root) : ∃ y, y ∈ o ∧ place y < place a ∧ a ∈ adj y := by
  obtain ⟨h1, e1⟩ := P.at_ ha
  have hsplit : o = o.take (place a) ++ a :: o.drop (place a + 1) := by
    conv => lhs; rw [← List.take_append_drop (place a) o]
    rw [List.drop_eq_getElem_cons h1, e1]
  obtain ⟨y, h2, h3⟩ := P.ord.par _ _ _ hsplit h
  obtain ⟨k, hk, e⟩ := List.getElem_of_mem h2
  rw [List.length_take] at hk
  rw [List.getElem_take] at e
  have := P.pl k (by omega)
  rw [e] at this
  exact ⟨y, List.mem_of_mem_take h2, by omega, h3⟩

/-- What holds of who stands next above, as far as it is known. -/
structure Inv (adj : Nat → List Nat) (root : Nat) (o : List Nat) (place : Nat → Nat) (up : Nat → Int) : Prop where
  rt : up root = (root : Int)
  dom : ∀ a, up a = -1 ∨ (a ∈ o ∧ ∃ b : Nat, up a = (b : Int))
  dec : ∀ (a b : Nat), a ≠ root → up a = (b : Int) → up b ≠ -1 ∧ place b < place a
  snd : ∀ (a b : Nat), a ≠ root → up a = (b : Int) → ∀ d, Dom adj root d a → d ≠ a → Dom adj root d b

theorem Inv.mem {up : Nat → Int} (I : Inv adj root o place up) {a : Nat} (h : up a ≠ -1) : a ∈ o := ((I.dom a).resolve_left h).1
theorem Inv.nat {up : Nat → Int} (I : Inv adj root o place up) {a : Nat} (h : up a ≠ -1) : ∃ b : Nat, up a = (b : Int) := ((I.dom a).resolve_left h).2

theorem Inv.anc_root {up : Nat → Int} (I : Inv adj root o place up) {d : Nat} (h : Anc up root d) : d = root := by
  induction h with
  | refl => rfl
  | step _ h ih => subst ih; rw [I.rt] at h; omega
theorem Inv.anc_set {up : Nat → Int} (I : Inv adj root o place up) {a d : Nat} (h : Anc up a d) (ha : up a ≠ -1) : up d ≠ -1 ∧ place d ≤ place a := by
  induction h with
  | refl => exact ⟨ha, Nat.le_refl _⟩
  | @step e d h1 h ih =>
    by_cases e0 : e = root
    · subst e0
      rw [I.rt] at h
      have : d = e := by omega
      subst this; exact ih
    · have := I.dec e d e0 h
      exact ⟨this.1, by omega⟩
/-- Who stands above is met on the way up. -/
theorem Inv.anc_of_dom {up : Nat → Int} (I : Inv adj root o place up) : ∀ (n a d : Nat), place a ≤ n → up a ≠ -1 → Dom adj root d a → Anc up a d
  | n, a, d, hn, ha, h => by
    by_cases e : d = a
    · subst e; exact .refl
    · have hr : a ≠ root := by
        rintro rfl; exact e h.of_root
      obtain ⟨b, hb⟩ := I.nat ha
      have h1 := I.dec a b hr hb
      match n with
      | 0 => omega
      | n + 1 => exact Anc.head hb (I.anc_of_dom n b d (by omega) h1.1 (I.snd a b hr hb d h e))
theorem Inv.dom_le {up : Nat → Int} (I : Inv adj root o place up) {a d : Nat} (ha : up a ≠ -1) (h : Dom adj root d a) : place d ≤ place a := (I.anc_set (I.anc_of_dom (place a) a d (Nat.le_refl _) ha h) ha).2

/-- As far as ways with less than k edges back go, only who stands above is met. -/
def CK (adj : Nat → List Nat) (place : Nat → Nat) (root : Nat) (up : Nat → Int) (k : Nat) : Prop := ∀ a d, up a ≠ -1 → Anc up a d → ¬ RW adj place root d k a

/-- What meeting comes to. -/
structure Best (adj : Nat → List Nat) (root : Nat) (up : Nat → Int) (a m : Nat) : Prop where
  anc : ∀ b, Rch adj root b → a ∈ adj b → up b ≠ -1 → Anc up b m
  dom : ∀ d, (∀ b, Rch adj root b → a ∈ adj b → up b ≠ -1 → Dom adj root d b) → Dom adj root d m

/-- One node looked at again. -/
theorem Inv.next {up : Nat → Int} (P : Pl adj N root o place) (I : Inv adj root o place up) {a m : Nat} (ha : a ∈ o) (hr : a ≠ root) (hset : ∀ y, y ∈ o → place y < place a → up y ≠ -1) (B : Best adj root up a m) :
    Inv adj root o place (updI up a m) ∧ up m ≠ -1 ∧ place m < place a := by
  obtain ⟨y, y1, y2, y3⟩ := P.par ha hr
  have hy := hset y y1 y2
  have hm := I.anc_set (B.anc y ((P.ord.mem y).1 y1) y3 hy) hy
  have hma : m ≠ a := by rintro rfl; omega
  refine ⟨⟨(show (if root = a then (m : Int) else up root) = (root : Int) by rw [if_neg (Ne.symm hr)]; exact I.rt), fun c => ?_, fun c b hc hb => ?_, fun c b hc hb d hd hdc => ?_⟩, hm.1, by omega⟩
  · show (if c = a then (m : Int) else up c) = -1 ∨ (c ∈ o ∧ ∃ b : Nat, (if c = a then (m : Int) else up c) = b)
    by_cases e : c = a
    · subst e; exact .inr ⟨ha, m, if_pos rfl⟩
    · rw [if_neg e]; exact I.dom c
  · have hb' : (if c = a then (m : Int) else up c) = (b : Int) := hb
    by_cases e : c = a
    · subst e
      rw [if_pos rfl] at hb'
      have : b = m := by omega
      subst this
      exact ⟨by show (if b = c then _ else _) ≠ _; rw [if_neg hma]; exact hm.1, by omega⟩
    · rw [if_neg e] at hb'
      have := I.dec c b hc hb'
      refine ⟨?_, this.2⟩
      show (if b = a then (m : Int) else up b) ≠ -1
      split
      · omega
      · exact this.1
  · have hb' : (if c = a then (m : Int) else up c) = (b : Int) := hb
    by_cases e : c = a
    · subst e
      rw [if_pos rfl] at hb'
      have : b = m := by omega
      subst this
      exact B.dom d fun q h1 h2 _ => hd.pred hdc h1 h2
    · rw [if_neg e] at hb'
      exact I.snd c b hc hb' d hd hdc

theorem CK.next {up : Nat → Int} {k : Nat} (P : Pl adj N root o place) (I : Inv adj root o place up) {a m : Nat} (ha : a ∈ o) (hr : a ≠ root) (hset : ∀ y, y ∈ o → place y < place a → up y ≠ -1) (hall : k = 0 ∨ ∀ y, y ∈ o → up y ≠ -1) (B : Best adj root up a m)
    (c1 : CK adj place root up k) (c2 : ∀ c d, c ∈ o → place c < place a → Anc up c d → ¬ RW adj place root d (k + 1) c) :
    CK adj place root (updI up a m) k ∧ (∀ c d, c ∈ o → place c < place a + 1 → Anc (updI up a m) c d → ¬ RW adj place root d (k + 1) c) := by
  -- what comes of a
  have step1 : ∀ d, Anc up m d → ¬ RW adj place root d (k + 1) a := fun d hd h => by
    cases h with
    | start h => exact hr rfl
    | @fwd _ b _ h1 h2 h3 h4 =>
      have hb := h1.w.rch
      have hbo := (P.ord.mem b).2 hb
      exact c2 b d hbo h4 ((B.anc b hb h2 (hset b hbo h4)).trans hd) h1
    | @bck _ b _ h1 h2 h3 =>
      rcases hall with rfl | hall
      · exact h1.none
      · have hb := h1.w.rch
        have hbs := hall b ((P.ord.mem b).2 hb)
        exact c1 b d hbs ((B.anc b hb h2 hbs).trans hd) h1
  have other : ∀ L c d, L ≤ k + 1 → (∀ d, Anc up c d → ¬ RW adj place root d L c) → Anc (updI up a m) c d → ¬ RW adj place root d L c := fun L c d hL hc h hw => by
    rcases h.updI with h | ⟨h1, h2⟩
    · exact hc d h hw
    · rcases hw.split (a := a) with q | q
      · exact hc a h1 q
      · exact step1 d h2 (q.le hL)
  refine ⟨fun c d hc h hw => ?_, fun c d hc hp h hw => ?_⟩
  · by_cases e : c = a
    · subst e
      rcases h.updI_self with rfl | h
      · exact hw.ne rfl
      · exact step1 d h (hw.le (by omega))
    · have hc' : up c ≠ -1 := by
        have q : (if c = a then (m : Int) else up c) ≠ -1 := hc
        rwa [if_neg e] at q
      exact other k c d (by omega) (fun d hd => c1 c d hc' hd) h hw
  · by_cases e : c = a
    · subst e
      rcases h.updI_self with rfl | h
      · exact hw.ne rfl
      · exact step1 d h hw
    · have hlt : place c < place a := by
        rcases Nat.lt_or_ge (place c) (place a) with h1 | h1
        · exact h1
        · exact absurd (P.inj hc ha (by omega)) e
      exact other (k + 1) c d (Nat.le_refl _) (fun d hd => c2 c d hc hlt hd) h hw

/-- When each one's chain is just who stands above. -/
structure DomT (adj : Nat → List Nat) (root : Nat) (o : List Nat) (place : Nat → Nat) (up : Nat → Int) : Prop where
  inv : Inv adj root o place up
  all : ∀ y, y ∈ o → up y ≠ -1
  iff : ∀ a d, a ∈ o → (Anc up a d ↔ Dom adj root d a)

theorem DomT.of {up : Nat → Int} (P : Pl adj N root o place) (I : Inv adj root o place up) (hall : ∀ y, y ∈ o → up y ≠ -1) (c : ∀ k, CK adj place root up k) : DomT adj root o place up :=
  ⟨I, hall, fun a d ha => ⟨fun h => ⟨(P.ord.mem a).1 ha, fun hw => by
    obtain ⟨k, hk⟩ := RchW.rw (place := place) hw
    exact c k a d (hall a ha) h hk⟩, fun h => I.anc_of_dom (place a) a d (Nat.le_refl _) (hall a ha) h⟩⟩

/-- After as many rounds as there are nodes nothing more turns. -/
theorem CK.stable {up : Nat → Int} {k : Nat} (P : Pl adj N root o place) (I : Inv adj root o place up) (hk : N + 1 ≤ k) (hall : ∀ y, y ∈ o → up y ≠ -1) {a m : Nat} (ha : a ∈ o) (hr : a ≠ root) (B : Best adj root up a m) (c1 : CK adj place root up k) : up a = (m : Int) := by
  have hlt : ∀ d b, RchW adj root d b → b < N := fun d b hb => P.ord.lt b ((P.ord.mem b).2 hb.rch)
  have hiff : ∀ up', Inv adj root o place up' → (∀ y, y ∈ o → up' y ≠ -1) → CK adj place root up' k → ∀ c d, c ∈ o → (Anc up' c d ↔ Dom adj root d c) := fun up' I' hall' c' c d hc =>
    ⟨fun h => ⟨(P.ord.mem c).1 hc, fun hw => c' c d (hall' c hc) h ((RW.enough (place := place) (hlt d) hw).le hk)⟩, fun h => I'.anc_of_dom (place c) c d (Nat.le_refl _) (hall' c hc) h⟩
  obtain ⟨x, hx⟩ := I.nat (hall a ha)
  obtain ⟨hn, hm1, hm2⟩ := I.next P ha hr (fun y hy _ => hall y hy) B
  have hx1 := I.dec a x hr hx
  -- x stands above a, and so does m; who stands above a but a stands above both
  have dx : Dom adj root x a := (hiff up I hall c1 a x ha).1 (.step .refl hx)
  have hmo := I.mem hm1
  have dm : Dom adj root m a := by
    refine ⟨(P.ord.mem a).1 ha, fun hw => ?_⟩
    cases hw with
    | start h => exact hr rfl
    | @step b _ h1 h2 h3 =>
      have hb := h1.rch
      have hbs := hall b ((P.ord.mem b).2 hb)
      exact ((hiff up I hall c1 b m ((P.ord.mem b).2 hb)).1 (B.anc b hb h2 hbs)).2 h1
  have hma : m ≠ a := by rintro rfl; omega
  have hxa : x ≠ a := by rintro rfl; omega
  have l1 : place m ≤ place x := I.dom_le hx1.1 (I.snd a x hr hx m dm hma)
  have l2 : place x ≤ place m := I.dom_le hm1 (B.dom x fun b h1 h2 _ => dx.pred hxa h1 h2)
  rw [hx, P.inj (I.mem hx1.1) hmo (by omega)]

/-- Nobody else stands next above. -/
theorem DomT.next {up : Nat → Int} (P : Pl adj N root o place) (D : DomT adj root o place up) {a x : Nat} (ha : a ∈ o) (hr : a ≠ root) (hx : up a = (x : Int)) : Dom adj root x a ∧ x ≠ a ∧ ∀ d, Dom adj root d a → d ≠ a → Dom adj root d x := by
  have h1 := D.inv.dec a x hr hx
  exact ⟨(D.iff a x ha).1 (.step .refl hx), by rintro rfl; omega, fun d hd hda => D.inv.snd a x hr hx d hd hda⟩
theorem DomT.uniq {up : Nat → Int} (P : Pl adj N root o place) (D : DomT adj root o place up) {a x y : Nat} (ha : a ∈ o) (hr : a ≠ root) (hx : up a = (x : Int)) (h1 : Dom adj root y a) (h2 : y ≠ a) (h3 : ∀ d, Dom adj root d a → d ≠ a → Dom adj root d y) : y = x := by
  obtain ⟨q1, q2, q3⟩ := D.next P ha hr hx
  have m1 := (P.ord.mem x).2 q1.rch
  have m2 := (P.ord.mem y).2 h1.rch
  have l1 := D.inv.dom_le (D.all x m1) (q3 y h1 h2)
  have l2 := D.inv.dom_le (D.all y m2) (h3 x q1 q2)
  exact P.inj m2 m1 (by omega)
theorem DomT.antisymm {up : Nat → Int} (P : Pl adj N root o place) (D : DomT adj root o place up) {a b : Nat} (h1 : Dom adj root a b) (h2 : Dom adj root b a) : a = b := by
  have ma := (P.ord.mem a).2 h2.1
  have mb := (P.ord.mem b).2 h1.1
  have l1 := D.inv.dom_le (D.all b mb) h1
  have l2 := D.inv.dom_le (D.all a ma) h2
  exact P.inj ma mb (by omega)
theorem Anc.linear {up : Nat → Int} {c a b : Nat} (h1 : Anc up c a) (h2 : Anc up c b) : Anc up a b ∨ Anc up b a := by
  induction h1 with
  | refl => exact .inl h2
  | @step e d _ h ih =>
    rcases ih with ih | ih
    · rcases ih.cases_head with rfl | ⟨q, e1, e2⟩
      · exact .inr (.step .refl h)
      · have : q = d := by omega
        subst this; exact .inl e2
    · exact .inr (.step ih h)
theorem DomT.linear {up : Nat → Int} (P : Pl adj N root o place) (D : DomT adj root o place up) {a b c : Nat} (h1 : Dom adj root a c) (h2 : Dom adj root b c) : Dom adj root a b ∨ Dom adj root b a := by
  have mc := (P.ord.mem c).2 h1.1
  have ma := (P.ord.mem a).2 h1.rch
  have mb := (P.ord.mem b).2 h2.rch
  rcases ((D.iff c a mc).2 h1).linear ((D.iff c b mc).2 h2) with q | q
  · exact .inr ((D.iff a b ma).1 q)
  · exact .inl ((D.iff b a mb).1 q)
/-- Where nothing turns any more, it is done. -/
theorem DomT.fix {up : Nat → Int} (P : Pl adj N root o place) (I : Inv adj root o place up) (hall : ∀ y, y ∈ o → up y ≠ -1) (hf : ∀ a, a ∈ o → a ≠ root → ∃ m : Nat, up a = (m : Int) ∧ Best adj root up a m) : DomT adj root o place up := by
  have key : ∀ d a, RchW adj root d a → ¬ Anc up a d := fun d a r => by
    induction r with
    | start h => exact fun q => h (I.anc_root q).symm
    | @step b c h1 h2 h3 ih =>
      intro q
      rcases q.cases_head with e | ⟨x, e1, e2⟩
      · exact h3 e.symm
      · have hc : c ∈ o := (P.ord.mem c).2 (.step h1.rch h2)
        by_cases hr : c = root
        · subst hr
          rw [I.rt] at e1
          have : x = c := by omega
          subst this
          exact h3 (I.anc_root e2).symm
        · obtain ⟨m, e3, B⟩ := hf c hc hr
          have : x = m := by omega
          subst this
          exact ih ((B.anc b h1.rch h2 (hall b ((P.ord.mem b).2 h1.rch))).trans e2)
  exact ⟨I, hall, fun a d ha => ⟨fun h => ⟨(P.ord.mem a).1 ha, fun hw => key d a hw h⟩, fun h => I.anc_of_dom (place a) a d (Nat.le_refl _) (hall a ha) h⟩⟩
end

end Go.Fw
