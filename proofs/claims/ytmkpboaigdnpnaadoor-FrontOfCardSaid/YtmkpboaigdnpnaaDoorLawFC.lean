/-
  front.Of, said of the abstract machine.
-/
import Derived.Test.YtmkpboaigdnpnaaDoorLawFB
set_option maxRecDepth 20000
set_option linter.unusedVariables false
namespace Go.Fw

/-- A table of sets, each with blocks of its own, at lo or later. -/
def FS (h : H) (lo bt N : Nat) (S : Nat → Nat → Bool) : Prop :=
  lo ≤ bt ∧ ∃ (ps : Nat → Nat) (O : Nat → Nat → Prop), TV h bt N (fun a => pt (ps a) 0) ∧ (∀ a, a < N → BS h (ps a) (O a) (S a)) ∧ (∀ a, a < N → ∀ c, O a c → lo ≤ c ∧ c ≠ bt) ∧ ∀ a b, a < N → b < N → a ≠ b → ∀ c, O a c → ¬ O b c

theorem FS.kept {h h' : H} {lo bt N m : Nat} {S : Nat → Nat → Bool} (x : FS h lo bt N S) (f : Fr m h) (hk : ∀ c, c < m → lo ≤ c → h'.get c = h.get c) : FS h' lo bt N S := by
  obtain ⟨hl, ps, O, t, b, o, d⟩ := x
  exact ⟨hl, ps, O, t.keep (hk bt (t.lt f) hl), fun a ha => (b a ha).keep fun c hc => hk c ((b a ha).lt f c hc) (o a ha c hc).1, o, d⟩
theorem FS.congr {h : H} {lo bt N : Nat} {S S' : Nat → Nat → Bool} (x : FS h lo bt N S) (e : ∀ a, a < N → ∀ m, S a m = S' a m) : FS h lo bt N S' := by
  obtain ⟨hl, ps, O, t, b, o, d⟩ := x
  exact ⟨hl, ps, O, t, fun a ha => by rw [← show S a = S' a from funext (e a ha)]; exact b a ha, o, d⟩

/-- The set of one of them. -/
theorem FS.get {β : Type} {n a : Nat} {h : H} {lo bt N : Nat} {S : Nat → Nat → Bool} (x : FS h lo bt N S) (ha : a < N) : ∃ p O, (∀ k : Value → M β, (bnd (opIndexAddr 1 (sl bt 0 N N) (i64 a)) fun q => bnd (opLoad q) k).run n h = (k (pt p 0)).run n h) ∧ BS h p O (S a) ∧ ∀ c, O c → lo ≤ c := by
  obtain ⟨hl, ps, O, t, b, o, d⟩ := x
  exact ⟨ps a, O a, fun k => t.get ha (Nat.le_refl _), b a ha, fun c hc => (o a ha c hc).1⟩

theorem FS.add {F n a m : Nat} {h : H} {lo bt N : Nat} {S : Nat → Nat → Bool} (hF : 100 < F) (x : FS h lo bt N S) (f : Fr n h) (hlo : lo ≤ n) (ha : a < N) (hm : m < 5000) :
    ∃ n' h' bb, (∀ k : Value → M Value, (bnd (opIndexAddr 1 (sl bt 0 N N) (i64 a)) fun q => bnd (opLoad q) fun s => bnd (bitset_Set_Add F s (i64 (m : Int))) k).run n h = (k bb).run n' h') ∧ FS h' lo bt N (fun q i => S q i || (decide (q = a) && decide (i = m))) ∧ Ev (fun c => lo ≤ c) n h n' h' := by
  obtain ⟨hl, ps, O, t, b, o, d⟩ := x
  have hbt := t.lt f
  obtain ⟨n', h', O', e, x', f', l, k, oo⟩ := add_spec (F := F) (b a ha) f (m : Int) hF
  have hnO : ∀ q, q < N → q ≠ a → ∀ c, O q c → h'.get c = h.get c := fun q hq hqa c hc => k c ((b q hq).lt f c hc) fun hac => d a q ha hq (Ne.symm hqa) c hac hc
  refine ⟨n', h', _, fun K => by rw [t.get ha (Nat.le_refl _), run_bnd e], ⟨hl, ps, fun q => if q = a then O' else O q, t.keep (k bt hbt fun hc => (o a ha bt hc).2 rfl), fun q hq => ?_, fun q hq c hc => ?_, fun p q hp hq hpq c hc hc2 => ?_⟩, f', l, fun c hc hn => k c hc fun hac => hn (o a ha c hac).1⟩
  · dsimp only
    by_cases e2 : q = a
    · subst e2
      rw [if_pos rfl]
      have es : (fun i => S q i || (decide (q = q) && decide (i = m))) = if canAdd (S q) (m : Int) = true then putS (S q) ((m : Int)).toNat else S q := by
        have h0 : decide ((0 : Int) ≤ (m : Int) ∧ (m : Int) < 5000) = true := decide_eq_true ⟨by omega, by omega⟩
        have hc : canAdd (S q) (m : Int) = !S q m := by unfold canAdd; rw [h0, Bool.true_and]; rfl
        rw [hc]
        funext i
        rw [decide_eq_true (rfl : q = q), Bool.true_and]
        cases hs : S q m with
        | false => rw [Bool.not_false, if_pos rfl]; rfl
        | true =>
          rw [Bool.not_true, if_neg (by decide)]
          by_cases e3 : i = m
          · subst e3; rw [hs]; rfl
          · rw [decide_eq_false e3, Bool.or_false]
      rw [es]; exact x'
    · rw [if_neg e2]
      have es : (fun i => S q i || (decide (q = a) && decide (i = m))) = S q := by
        funext i; rw [decide_eq_false e2]; simp
      rw [es]
      exact (b q hq).keep (hnO q hq e2)
  · dsimp only at hc
    by_cases e2 : q = a
    · subst e2
      rw [if_pos rfl] at hc
      rcases oo c hc with h1 | h1
      · exact o q hq c h1
      · exact ⟨by omega, by omega⟩
    · rw [if_neg e2] at hc
      exact o q hq c hc
  · dsimp only at hc hc2
    by_cases e1 : p = a
    · subst e1
      rw [if_pos rfl] at hc
      rw [if_neg (Ne.symm hpq)] at hc2
      rcases oo c hc with h1 | h1
      · exact d p q hp hq hpq c h1 hc2
      · have := (b q hq).lt f c hc2; omega
    · rw [if_neg e1] at hc
      by_cases e2 : q = a
      · rw [if_pos e2] at hc2
        rcases oo c hc2 with h1 | h1
        · exact d p a hp ha e1 c hc h1
        · have := (b p hp).lt f c hc; omega
      · rw [if_neg e2] at hc2
        exact d p q hp hq hpq c hc hc2

section
variable {adj : Nat → List Nat} {N root : Nat} {o : List Nat} {place : Nat → Nat} {up : Nat → Int}

/-- b is in c's frontier. -/
def Frt (adj : Nat → List Nat) (root c b : Nat) : Prop := ∃ a, Rch adj root a ∧ b ∈ adj a ∧ Dom adj root c a ∧ (c = b ∨ ¬ Dom adj root c b)

theorem of_c {F bu bt lo mB : Nat} {hB : H} {b : Nat} {x8 x33 x34 x35 x45 x46 x47 : Value} (hF : 1000000 ≤ F) (hN : N ≤ 600) (P : Pl adj N root o place) (D : DomT adj root o place up) (hb : b < N) (tB : TI hB bu N up) (hbu : bu < lo) {E : Value → Value → Value → Value → Value → Value → Value → Value → Value → M Value} {A : Value → Value → Value → Value → Value → Value → Value → Value → Value → Value → Value → M Value} {c n : Nat} {h : H} {S : Nat → Nat → Bool} (hc : c ∈ o) (hkB : ∀ q, q < lo → h.get q = hB.get q) (x : FS h lo bt N S) (hn : lo ≤ n) (f : Fr n h) :
    ∃ n' h' S', (front_Of_b5 F E A (sl bu 0 N N) (sl bt 0 N N) x8 (i64 (b : Int)) (i64 (c : Int)) x33 x34 x35 x45 x46 x47).run n h = (front_Of_k6 F E A (sl bu 0 N N) (sl bt 0 N N) x8 (i64 (b : Int)) (i64 (c : Int)) x33 x34 x35 x45 x46 x47).run n' h' ∧ FS h' lo bt N S' ∧ (∀ q m, S' q m = true ↔ S q m = true ∨ (m = b ∧ q = c ∧ (q = b ∨ ¬ Dom adj root q b))) ∧ (∀ q, q < lo → h'.get q = hB.get q) ∧ Ev (fun c => lo ≤ c) n h n' h' := by
  have hcN := P.ord.lt c hc
  have tu : TI h bu N up := tB.keep (hkB bu hbu)
  have add : (c = b ∨ ¬ Dom adj root c b) → ∃ n' h' S', (front_Of_r20 F (sl bu 0 N N) (sl bt 0 N N) x8 (i64 (b : Int)) (i64 (c : Int)) x33 x34 x35 x45 x46 x47 fun x5 x6 x8 x11 x12 x33 x34 x35 x45 x46 x47 => front_Of_k6 F E A x5 x6 x8 x11 x12 x33 x34 x35 x45 x46 x47).run n h = (front_Of_k6 F E A (sl bu 0 N N) (sl bt 0 N N) x8 (i64 (b : Int)) (i64 (c : Int)) x33 x34 x35 x45 x46 x47).run n' h' ∧ FS h' lo bt N S' ∧ (∀ q m, S' q m = true ↔ S q m = true ∨ (m = b ∧ q = c ∧ (q = b ∨ ¬ Dom adj root q b))) ∧ (∀ q, q < lo → h'.get q = hB.get q) ∧ Ev (fun c => lo ≤ c) n h n' h' := fun hcond => by
    unfold front_Of_r20
    try dsimp only
    obtain ⟨n1, h1, bb, e1, x1, ev1⟩ := x.add (F := F) (m := b) (by omega) f hn hcN (by omega)
    rw [e1]
    refine ⟨n1, h1, _, rfl, x1, fun q m => ?_, fun q hq => by rw [ev1.keep q (by omega) (by omega)]; exact hkB q hq, ev1⟩
    rw [Bool.or_eq_true, Bool.and_eq_true, decide_eq_true_eq, decide_eq_true_eq]
    constructor
    · rintro (h1 | ⟨rfl, rfl⟩)
      · exact .inl h1
      · exact .inr ⟨rfl, rfl, hcond⟩
    · rintro (h1 | ⟨rfl, rfl, _⟩)
      · exact .inl h1
      · exact .inr ⟨rfl, rfl⟩
  unfold front_Of_b5 front_Of_r19
  try dsimp only
  rw [st_eql]
  simp only [onB_ite, run_ite, beq_iff_eq]
  by_cases e : c = b
  · rw [if_pos (by omega), if_pos trivial]
    exact add (.inl e)
  · rw [if_neg (by omega), run_bnd (above_nat hF P D tu hN c b), st_not, onB_ite, run_ite]
    cases hd : domB adj root c b with
    | false =>
      rw [if_pos (by decide)]
      exact add (.inr fun q => by rw [domB_iff.2 q] at hd; cases hd)
    | true =>
      rw [if_neg (by decide)]
      refine ⟨n, h, S, rfl, x, fun q m => ?_, hkB, Ev.refl f⟩
      constructor
      · exact .inl
      · rintro (h1 | ⟨_, rfl, h2 | h2⟩)
        · exact h1
        · exact absurd h2 e
        · exact absurd (domB_iff.1 hd) h2

theorem of_l5 {F bu bt lo : Nat} {hB : H} {b : Nat} {x8 x33 x34 x35 x45 x46 x47 : Value} (hF : 1000000 ≤ F) (hN : N ≤ 600) (P : Pl adj N root o place) (D : DomT adj root o place up) (hb : b < N) (tB : TI hB bu N up) (hbu : bu < lo) {E : Value → Value → Value → Value → Value → Value → Value → Value → Value → M Value} : ∀ j k c n (h : H) (S : Nat → Nat → Bool), place c ≤ j → j < k → c ∈ o → (∀ q, q < lo → h.get q = hB.get q) → FS h lo bt N S → lo ≤ n → Fr n h →
    ∃ n' h' S', (front_Of_l5 F E k (sl bu 0 N N) (sl bt 0 N N) x8 (i64 (b : Int)) (i64 (c : Int)) x33 x34 x35 x45 x46 x47).run n h = (E (sl bu 0 N N) (sl bt 0 N N) x8 x33 x34 x35 x45 x46 x47).run n' h' ∧ FS h' lo bt N S' ∧ (∀ q m, S' q m = true ↔ S q m = true ∨ (m = b ∧ Anc up c q ∧ (q = b ∨ ¬ Dom adj root q b))) ∧ (∀ q, q < lo → h'.get q = hB.get q) ∧ Ev (fun c => lo ≤ c) n h n' h' := by
  have atroot : ∀ k n (h : H) (S : Nat → Nat → Bool), (∀ q, q < lo → h.get q = hB.get q) → FS h lo bt N S → lo ≤ n → Fr n h →
      ∃ n' h' S', (front_Of_l5 F E (k + 1) (sl bu 0 N N) (sl bt 0 N N) x8 (i64 (b : Int)) (i64 (root : Int)) x33 x34 x35 x45 x46 x47).run n h = (E (sl bu 0 N N) (sl bt 0 N N) x8 x33 x34 x35 x45 x46 x47).run n' h' ∧ FS h' lo bt N S' ∧ (∀ q m, S' q m = true ↔ S q m = true ∨ (m = b ∧ Anc up root q ∧ (q = b ∨ ¬ Dom adj root q b))) ∧ (∀ q, q < lo → h'.get q = hB.get q) ∧ Ev (fun c => lo ≤ c) n h n' h' := by
    intro k n h S hkB x hn f
    obtain ⟨n1, h1, S1, e1, x1, s1, kB1, ev1⟩ := of_c (F := F) (mB := 0) (x8 := x8) (x33 := x33) (x34 := x34) (x35 := x35) (x45 := x45) (x46 := x46) (x47 := x47) (E := E) (A := front_Of_l5 F E k) hF hN P D hb tB hbu P.mem_root hkB x hn f
    have hrN := P.ord.lt root P.mem_root
    rw [front_Of_l5_s, e1]
    unfold front_Of_k6 front_Of_r21
    try dsimp only
    rw [TI.get (tB.keep (kB1 bu hbu)) hrN, D.inv.rt, st_eql, onB_ite, run_ite, if_pos (by simp)]
    refine ⟨n1, h1, S1, rfl, x1, fun q m => ?_, kB1, ev1⟩
    rw [s1]
    constructor
    · rintro (h2 | ⟨rfl, rfl, h2⟩)
      · exact .inl h2
      · exact .inr ⟨rfl, .refl, h2⟩
    · rintro (h2 | ⟨h3, h4, h2⟩)
      · exact .inl h2
      · exact .inr ⟨h3, D.inv.anc_root h4, h2⟩
  intro j
  induction j with
  | zero =>
    intro k c n h S hj hk hc hkB x hn f
    obtain ⟨k, rfl⟩ : ∃ j, k = j + 1 := ⟨k - 1, by omega⟩
    have e : c = root := P.inj hc P.mem_root (by rw [P.zero]; omega)
    subst e
    exact atroot k n h S hkB x hn f
  | succ j ih =>
    intro k c n h S hj hk hc hkB x hn f
    obtain ⟨k, rfl⟩ : ∃ j, k = j + 1 := ⟨k - 1, by omega⟩
    by_cases hr : c = root
    · subst hr; exact atroot k n h S hkB x hn f
    · have hcN := P.ord.lt c hc
      obtain ⟨y, hy⟩ := D.inv.nat (D.all c hc)
      have hd := D.inv.dec c y hr hy
      obtain ⟨n1, h1, S1, e1, x1, s1, kB1, ev1⟩ := of_c (F := F) (mB := 0) (x8 := x8) (x33 := x33) (x34 := x34) (x35 := x35) (x45 := x45) (x46 := x46) (x47 := x47) (E := E) (A := front_Of_l5 F E k) hF hN P D hb tB hbu hc hkB x hn f
      rw [front_Of_l5_s, e1]
      unfold front_Of_k6 front_Of_r21
      try dsimp only
      have tu1 : TI h1 bu N up := tB.keep (kB1 bu hbu)
      have hyc : y ≠ c := by rintro rfl; omega
      rw [TI.get tu1 hcN, hy, st_eql, onB_ite, run_ite, if_neg (by rw [beq_iff_eq]; omega)]
      unfold front_Of_r18
      try dsimp only
      rw [TI.get tu1 hcN, hy]
      obtain ⟨n', h', S', q1, q2, q3, q4, q5⟩ := ih k y n1 h1 S1 (by omega) (by omega) (D.inv.mem hd.1) kB1 x1 (by have := ev1.le; omega) ev1.f
      refine ⟨n', h', S', q1, q2, fun q m => ?_, q4, ev1.trans q5 fun _ _ h => h⟩
      rw [q3, s1]
      constructor
      · rintro ((h2 | ⟨rfl, rfl, h2⟩) | ⟨rfl, h3, h2⟩)
        · exact .inl h2
        · exact .inr ⟨rfl, .refl, h2⟩
        · exact .inr ⟨rfl, Anc.head hy h3, h2⟩
      · rintro (h2 | ⟨rfl, h3, h2⟩)
        · exact .inl (.inl h2)
        · rcases h3.cases_head with e | ⟨z, e1, e2⟩
          · exact .inl (.inr ⟨rfl, e, h2⟩)
          · have : z = y := by omega
            subst this
            exact .inr ⟨rfl, e2, h2⟩

theorem of_l3 {F bu bt lo m a : Nat} {hB : H} {x33 x34 rv : Value} (hF : 1000000 ≤ F) (ok : GOk N adj) (P : Pl adj N root o place) (D : DomT adj root o place up) (ha : a ∈ o) (tB : TI hB bu N up) (hbu : bu < lo) (hrB : ∀ h' : H, (∀ q, q < lo → h'.get q = hB.get q) → RdI h' rv (nats (adj a))) {E : Value → Value → Value → Value → Value → M Value} : ∀ j i k n (h : H) (S : Nat → Nat → Bool), i + j = (adj a).length → j < k → (∀ q, q < lo → h.get q = hB.get q) → FS h lo bt N S → lo ≤ n → Fr n h →
    ∃ n' h' S', (front_Of_l3 F E k (sl bu 0 N N) (sl bt 0 N N) (i64 (a : Int)) x33 x34 (i64 (a : Int)) rv (i64 (adj a).length) (i64 (i : Nat))).run n h = (E (sl bu 0 N N) (sl bt 0 N N) x33 x34 (i64 (a : Int))).run n' h' ∧ FS h' lo bt N S' ∧ (∀ q m, S' q m = true ↔ S q m = true ∨ (m ∈ (adj a).drop i ∧ Dom adj root q a ∧ (q = m ∨ ¬ Dom adj root q m))) ∧ (∀ q, q < lo → h'.get q = hB.get q) ∧ Ev (fun c => lo ≤ c) n h n' h' := by
  have hN := ok.few
  have haN := P.ord.lt a ha
  have hs := ok.short a haN
  intro j
  induction j with
  | zero =>
    intro i k n h S hij hk hkB x hn f
    obtain ⟨k, rfl⟩ : ∃ j, k = j + 1 := ⟨k - 1, by omega⟩
    rw [front_Of_l3_s]
    unfold front_Of_b3 front_Of_r15
    try dsimp only
    rw [st_lss]
    simp only [onB_ite, run_ite, decide_eq_true_eq]
    rw [if_neg (by omega)]
    refine ⟨n, h, S, rfl, x, fun q m => ?_, hkB, Ev.refl f⟩
    rw [List.drop_of_length_le (by omega)]
    simp
  | succ j ih =>
    intro i k n h S hij hk hkB x hn f
    obtain ⟨k, rfl⟩ : ∃ j, k = j + 1 := ⟨k - 1, by omega⟩
    have hi : i < (adj a).length := by omega
    rw [front_Of_l3_s]
    unfold front_Of_b3 front_Of_r15
    try dsimp only
    rw [st_lss]
    simp only [onB_ite, run_ite, decide_eq_true_eq]
    rw [if_pos (by omega)]
    unfold front_Of_r16
    try dsimp only
    have hr := hrB h hkB
    have hil : i < (nats (adj a)).length := by unfold nats; rw [List.length_map]; exact hi
    rw [hr.getI hil]
    have e : (nats (adj a))[i]'hil = (((adj a)[i] : Nat) : Int) := by simp [nats]
    rw [e]
    have hbN := ok.lt a haN (adj a)[i] (List.getElem_mem hi)
    unfold front_Of_r17
    try dsimp only
    obtain ⟨p1, _⟩ := P.at_ ha
    have hol := nodup_len P.ord.nodup P.ord.lt
    obtain ⟨n1, h1, S1, e1, x1, s1, kB1, ev1⟩ := of_l5 (F := F) (b := (adj a)[i]) (x8 := i64 (a : Int)) (x33 := x33) (x34 := x34) (x35 := i64 (a : Int)) (x45 := rv) (x46 := i64 (adj a).length) (x47 := i64 (i : Nat)) hF hN P D hbN tB hbu (E := fun x5 x6 x8 x33 x34 x35 x45 x46 x47 => front_Of_k4 F (front_Of_l3 F E k) x5 x6 x8 x33 x34 x35 x45 x46 x47) (place a) F a n h S (Nat.le_refl _) (by omega) ha hkB x hn f
    rw [e1]
    unfold front_Of_k4 front_Of_r22
    try dsimp only
    rw [sx_add (by omega)]
    obtain ⟨n', h', S', q1, q2, q3, q4, q5⟩ := ih (i + 1) k n1 h1 S1 (by omega) (by omega) kB1 x1 (by have := ev1.le; omega) ev1.f
    refine ⟨n', h', S', q1, q2, fun q m => ?_, q4, ev1.trans q5 fun _ _ h => h⟩
    rw [q3, s1, List.drop_eq_getElem_cons hi, List.mem_cons]
    constructor
    · rintro ((h2 | ⟨h3, h4, h2⟩) | ⟨h3, h4, h2⟩)
      · exact .inl h2
      · exact .inr ⟨.inl h3, (D.iff a q ha).1 h4, by rw [h3]; exact h2⟩
      · exact .inr ⟨.inr h3, h4, h2⟩
    · rintro (h2 | ⟨h3 | h3, h4, h2⟩)
      · exact .inl (.inl h2)
      · exact .inl (.inr ⟨h3, (D.iff a q ha).2 h4, by rw [← h3]; exact h2⟩)
      · exact .inr ⟨h3, h4, h2⟩

theorem frt_l1 {F bu bt lo m : Nat} {hB : H} {tv : Value} (hF : 1000000 ≤ F) (ok : GOk N adj) (P : Pl adj N root o place) (D : DomT adj root o place up) (tB : TI hB bu N up) (hbu : bu < lo) (grB : Gr hB m tv N adj) (hml : m ≤ lo) {E : Value → M Value} : ∀ j a k n (h : H) (S : Nat → Nat → Bool), a + j = N → j < k → (∀ q, q < lo → h.get q = hB.get q) → FS h lo bt N S → (∀ q i, S q i = true ↔ ∃ p, p < a ∧ p ∈ o ∧ i ∈ adj p ∧ Dom adj root q p ∧ (q = i ∨ ¬ Dom adj root q i)) → lo ≤ n → Fr n h →
    ∃ n' h' S', (front_Of_l1 F E k (sl bu 0 N N) (sl bt 0 N N) tv (i64 N) (i64 (a : Nat))).run n h = (E (sl bt 0 N N)).run n' h' ∧ FS h' lo bt N S' ∧ (∀ q i, S' q i = true ↔ Frt adj root q i) ∧ (∀ q, q < lo → h'.get q = hB.get q) ∧ Ev (fun c => lo ≤ c) n h n' h' := by
  have hN := ok.few
  intro j
  induction j with
  | zero =>
    intro a k n h S hij hk hkB x hS hn f
    obtain ⟨k, rfl⟩ : ∃ j, k = j + 1 := ⟨k - 1, by omega⟩
    rw [front_Of_l1_s]
    unfold front_Of_b1 front_Of_r11
    try dsimp only
    rw [st_lss]
    simp only [onB_ite, run_ite, decide_eq_true_eq]
    rw [if_neg (by omega)]
    refine ⟨n, h, S, rfl, x, fun q i => ?_, hkB, Ev.refl f⟩
    rw [hS]
    constructor
    · rintro ⟨p, _, h2, h3, h4, h5⟩
      exact ⟨p, (P.ord.mem p).1 h2, h3, h4, h5⟩
    · rintro ⟨p, h2, h3, h4, h5⟩
      have hp := (P.ord.mem p).2 h2
      exact ⟨p, by have := P.ord.lt p hp; omega, hp, h3, h4, h5⟩
  | succ j ih =>
    intro a k n h S hij hk hkB x hS hn f
    obtain ⟨k, rfl⟩ : ∃ j, k = j + 1 := ⟨k - 1, by omega⟩
    have haN : a < N := by omega
    rw [front_Of_l1_s]
    unfold front_Of_b1 front_Of_r11
    try dsimp only
    rw [st_lss]
    simp only [onB_ite, run_ite, decide_eq_true_eq]
    rw [if_pos (by omega)]
    unfold front_Of_r12
    try dsimp only
    have gr := grB.kept (h' := h) fun c hc => hkB c (by omega)
    have tu : TI h bu N up := tB.keep (hkB bu hbu)
    obtain ⟨rv, e1, h0, f0, k0, hr⟩ := gr.row (β := Value) (n := n) haN
    rw [e1]
    unfold front_Of_r13
    try dsimp only
    rw [TI.get tu haN, st_lss]
    simp only [onB_ite, run_ite, decide_eq_true_eq]
    have next : ∀ n1 (h1 : H) (S1 : Nat → Nat → Bool), (∀ q, q < lo → h1.get q = hB.get q) → FS h1 lo bt N S1 → (∀ q i, S1 q i = true ↔ ∃ p, p < a + 1 ∧ p ∈ o ∧ i ∈ adj p ∧ Dom adj root q p ∧ (q = i ∨ ¬ Dom adj root q i)) → lo ≤ n1 → Ev (fun c => lo ≤ c) n h n1 h1 → ∃ n' h' S', (front_Of_k2 F (front_Of_l1 F E k) (sl bu 0 N N) (sl bt 0 N N) tv (i64 N) (i64 (a : Nat))).run n1 h1 = (E (sl bt 0 N N)).run n' h' ∧ FS h' lo bt N S' ∧ (∀ q i, S' q i = true ↔ Frt adj root q i) ∧ (∀ q, q < lo → h'.get q = hB.get q) ∧ Ev (fun c => lo ≤ c) n h n' h' := fun n1 h1 S1 k1 x1 s1 l1 ev1 => by
      unfold front_Of_k2 front_Of_r23
      try dsimp only
      rw [sx_add (by omega)]
      obtain ⟨n', h', S', q1, q2, q3, q4, q5⟩ := ih (a + 1) k n1 h1 S1 (by omega) (by omega) k1 x1 s1 l1 ev1.f
      exact ⟨n', h', S', q1, q2, q3, q4, ev1.trans q5 fun _ _ h => h⟩
    by_cases hao : a ∈ o
    · obtain ⟨y, hy⟩ := D.inv.nat (D.all a hao)
      rw [if_neg (by omega)]
      unfold front_Of_r14
      try dsimp only
      have hr' : RdI h rv (nats (adj a)) := hr.kept f0 k0
      rw [hr'.lenI, show (nats (adj a)).length = (adj a).length by unfold nats; rw [List.length_map]]
      have hs := ok.short a haN
      obtain ⟨n1, h1, S1, e2, x1, s1, kB1, ev1⟩ := of_l3 (F := F) (m := m) (x33 := tv) (x34 := i64 N) hF ok P D hao tB hbu (rv := rv) (fun h' hk' => hr.kept f0 fun c hc => by rw [hk' c (by omega), ← hkB c (by omega)]; exact k0 c hc) (E := fun x5 x6 x33 x34 x35 => front_Of_k2 F (front_Of_l1 F E k) x5 x6 x33 x34 x35) (adj a).length 0 F n h S (by omega) (by omega) hkB x hn f
      rw [show (Value.int .i64 0) = i64 ((0 : Nat) : Int) from rfl, e2]
      refine next n1 h1 S1 kB1 x1 (fun q i => ?_) (by have := ev1.le; omega) ev1
      rw [s1, hS, List.drop_zero]
      constructor
      · rintro (⟨p, h2, h3⟩ | ⟨h2, h3, h4⟩)
        · exact ⟨p, by omega, h3⟩
        · exact ⟨a, by omega, hao, h2, h3, h4⟩
      · rintro ⟨p, h2, h3, h4, h5, h6⟩
        by_cases e : p = a
        · subst e; exact .inr ⟨h4, h5, h6⟩
        · exact .inl ⟨p, by omega, h3, h4, h5, h6⟩
    · have hu := (D.inv.dom a).resolve_right fun q => hao q.1
      rw [if_pos (by omega)]
      refine next n h S hkB x (fun q i => ?_) hn (Ev.refl f)
      rw [hS]
      constructor
      · rintro ⟨p, h2, h3⟩; exact ⟨p, by omega, h3⟩
      · rintro ⟨p, h2, h3, h4⟩
        refine ⟨p, ?_, h3, h4⟩
        rcases Nat.lt_or_ge p a with h5 | h5
        · exact h5
        · have : p = a := by omega
          subst this; exact absurd h3 hao

theorem of_l8 {F bt lo : Nat} {x2 x5 : Value} (hN : N ≤ 600) {E : Value → Value → Value → M Value} : ∀ j i k n (h : H) (ps : Nat → Nat) (v0 : Nat → Value), i + j = N → j < k → TV h bt N v0 → (∀ a, a < i → v0 a = pt (ps a) 0 ∧ h.get (ps a) = some ⟨[nsl], .own⟩ ∧ lo ≤ ps a ∧ ps a ≠ bt) → (∀ a b, a < i → b < i → a ≠ b → ps a ≠ ps b) → lo ≤ bt → lo ≤ n → Fr n h →
    ∃ n' h', (front_Of_l8 F E k x2 x5 (sl bt 0 N N) (i64 N) (i64 (i : Nat))).run n h = (E x2 x5 (sl bt 0 N N)).run n' h' ∧ FS h' lo bt N (fun _ _ => false) ∧ Ev (fun c => lo ≤ c) n h n' h' := by
  intro j
  induction j with
  | zero =>
    intro i k n h ps v0 hij hk t hv hd hl hn f
    obtain ⟨k, rfl⟩ : ∃ j, k = j + 1 := ⟨k - 1, by omega⟩
    rw [front_Of_l8_s]
    unfold front_Of_b8 front_Of_r6
    try dsimp only
    rw [st_lss]
    simp only [onB_ite, run_ite, decide_eq_true_eq]
    rw [if_neg (by omega)]
    refine ⟨n, h, rfl, ⟨hl, ps, fun a c => c = ps a, ?_, fun a ha => ?_, fun a ha c hc => ?_, fun a b ha hb hab c hc hc2 => ?_⟩, Ev.refl f⟩
    · have e : tab N v0 = tab N fun a => pt (ps a) 0 := tab_ext fun a ha => (hv a (by omega)).1
      unfold TV at t ⊢
      rw [t, e]
    · exact ⟨0, 0, fun _ => 0, ⟨(hv a (by omega)).2.1, fun h => absurd rfl h, fun h => absurd rfl h, fun _ => by decide, fun _ _ => rfl, by decide, by decide⟩, fun m => by simp, fun c => by simp⟩
    · rw [hc]; exact (hv a (by omega)).2.2
    · exact hd a b (by omega) (by omega) hab (hc ▸ hc2)
  | succ j ih =>
    intro i k n h ps v0 hij hk t hv hd hl hn f
    obtain ⟨k, rfl⟩ : ∃ j, k = j + 1 := ⟨k - 1, by omega⟩
    rw [front_Of_l8_s]
    unfold front_Of_b8 front_Of_r6
    try dsimp only
    rw [st_lss]
    simp only [onB_ite, run_ite, decide_eq_true_eq]
    rw [if_pos (by omega)]
    unfold front_Of_r7 front_Of_r8
    try dsimp only
    obtain ⟨e1, _, _⟩ := new_set f (k := fun v29 => bnd (opIndexAddr 1 (sl bt 0 N N) (i64 (i : Nat))) fun v30 => bnd (opStore v30 v29) fun _ => front_Of_r9 F x2 x5 (sl bt 0 N N) (i64 N) (i64 (i : Nat)) fun x2 x5 x6 x22 x23 => front_Of_l8 F E k x2 x5 x6 x22 x23)
    rw [show (Value.slice none 0 0) = nsl from rfl, e1]
    have ev1 := Ev.new f ⟨[nsl], .own⟩
    have hbt := t.lt f
    obtain ⟨h2, e2, t2, ev2⟩ := TV.set (β := Value) (t.ev ev1 hbt (fun h => h)) ev1.f (show i < N by omega) (c := N) (v := pt n 0) rfl
    rw [e2]
    unfold front_Of_r9
    try dsimp only
    rw [sx_add (by omega)]
    have ev02 : Ev (fun c => c = bt) n h (n + 1) h2 := (ev1.mono fun _ _ h => h.elim).trans ev2 fun _ _ h => h
    obtain ⟨n', h', q1, q2, q3⟩ := ih (i + 1) k (n + 1) h2 (upd ps i n) _ (by omega) (by omega) t2 (fun a ha => by
      by_cases e : a = i
      · subst e
        rw [upd_same, upd_same]
        exact ⟨rfl, by rw [ev2.keep n (by omega) (by omega), H.get_set_same], hn, by omega⟩
      · rw [upd_ne e, upd_ne e]
        obtain ⟨r1, r2, r3, r4⟩ := hv a (by omega)
        exact ⟨r1, by rw [ev02.keep _ (f.lt r2) r4]; exact r2, r3, r4⟩) (fun a b ha hb hab => by
      by_cases e : a = i
      · subst e
        rw [upd_same, upd_ne (Ne.symm hab)]
        have := f.lt (hv b (by omega)).2.1
        omega
      · rw [upd_ne e]
        by_cases e2 : b = i
        · subst e2
          rw [upd_same]
          have := f.lt (hv a (by omega)).2.1
          omega
        · rw [upd_ne e2]; exact hd a b (by omega) (by omega) hab) hl (by omega) ev02.f
    exact ⟨n', h', q1, q2, (ev02.mono fun c _ hc => by omega).trans q3 fun _ _ h => h⟩
end

theorem frt_in {F n m N root : Nat} {tv : Value} {adj : Nat → List Nat} {h : H} (hF : 1000000 ≤ F) (gr : Gr h m tv N adj) (hm : m ≤ n) (ok : GOk N adj) (hr : root < N) (f : Fr n h) :
    ∃ n' h' bt S, (front_Of F (gv N tv) (i64 (root : Int))).run n h = some (sl bt 0 N N, n', h') ∧ FS h' n bt N S ∧ (∀ q i, S q i = true ↔ Frt adj root q i) ∧ Ev No n h n' h' := by
  have hN := ok.few
  unfold front_Of front_Of_r0
  try dsimp only
  obtain ⟨h1, e1, g1, ev1⟩ := GB.box (β := Value) (N := N) f gr.1
  rw [e1]
  have gr1 := gr.no ev1 hm
  unfold front_Of_r1
  try dsimp only
  obtain ⟨n2, h2, bu, up, o, place, e2, t2, P, D, lb2, ev2⟩ := up_in (F := F) (root := root) hF gr1 (by omega) ok hr ev1.f
  have l2 := ev2.le
  have hbu := TV.lt t2 ev2.f
  rw [g1.all, run_bnd e2]
  have g2 := g1.ev ev2 (by omega) (fun h => h)
  have gr2 := gr1.no ev2 (by omega)
  unfold front_Of_r2
  try dsimp only
  rw [st_eqS1, onB_ite, run_ite, if_neg (by decide)]
  unfold front_Of_r4
  try dsimp only
  obtain ⟨h3, e3, t3, ev3⟩ := TV.make (β := Value) (bytes := 8) (v := .pointer none) ev2.f (show N ≤ 100000 by omega) (by decide) rfl
  rw [g2.nn, e3]
  unfold front_Of_r5
  try dsimp only
  rw [st_len]
  obtain ⟨n4, h4, e4, x4, ev4⟩ := of_l8 (F := F) (lo := n2) (x2 := pt n 0) (x5 := sl bu 0 N N) hN (E := fun x2 x5 x6 => front_Of_k7 F x2 x5 x6) N 0 F (n2 + 1) h3 (fun _ => 0) _ (by omega) (by omega) t3 (fun a ha => by omega) (fun a b ha => by omega) (Nat.le_refl _) (by omega) ev3.f
  rw [show (Value.int .i64 0) = i64 ((0 : Nat) : Int) from rfl, e4]
  have ev24 : Ev No n2 h2 n4 h4 := ev3.trans ev4 fun c hc q => by omega
  have g4 := g2.ev ev24 (by omega) (fun h => h)
  have gr4 := gr2.no ev24 (by omega)
  unfold front_Of_k7 front_Of_r10
  try dsimp only
  rw [g4.t, gr4.len]
  obtain ⟨n5, h5, S, e5, x5, s5, k5, ev5⟩ := frt_l1 (F := F) (lo := n2) (hB := h2) hF ok P D t2 hbu gr2 (by omega) (E := fun x6 => front_Of_k0 F x6) N 0 F n4 h4 (fun _ _ => false) (by omega) (by omega) (fun q hq => ev24.no hq) x4 (fun q i => ⟨(fun h => by cases h), (fun ⟨p, hp, _⟩ => by omega)⟩) (by have := ev24.le; omega) ev4.f
  rw [show (Value.int .i64 0) = i64 ((0 : Nat) : Int) from rfl, e5]
  obtain ⟨hl, ps, O, t, b, oo, d⟩ := x5
  refine ⟨n5, h5, n2, S, rfl, ⟨by omega, ps, O, t, b, fun a ha c hc => ⟨by have := (oo a ha c hc).1; omega, (oo a ha c hc).2⟩, d⟩, s5, ev5.f, by have := ev5.le; have := ev24.le; omega, fun c hc _ => ?_⟩
  rw [k5 c (by omega), ev2.no (by omega), ev1.no hc]

theorem frt_out {F n m N : Nat} {z : Int} {tv : Value} {adj : Nat → List Nat} {h : H} (hF : 1000000 ≤ F) (gr : Gr h m tv N adj) (hm : m ≤ n) (ok : GOk N adj) (hr : z < 0 ∨ (N : Int) ≤ z) (f : Fr n h) :
    ∃ n' h', (front_Of F (gv N tv) (i64 z)).run n h = some (nsl, n', h') ∧ Ev No n h n' h' := by
  unfold front_Of front_Of_r0
  try dsimp only
  obtain ⟨h1, e1, g1, ev1⟩ := GB.box (β := Value) (N := N) f gr.1
  rw [e1]
  have gr1 := gr.no ev1 hm
  unfold front_Of_r1
  try dsimp only
  obtain ⟨n2, h2, e2, ev2⟩ := up_out (F := F) hF gr1 (by omega) ok hr ev1.f
  rw [g1.all, run_bnd e2]
  unfold front_Of_r2
  try dsimp only
  rw [st_eqS0, onB_ite, run_ite, if_pos (by decide)]
  exact ⟨n2, h2, rfl, ev1.trans ev2 fun _ _ h => h⟩

end Go.Fw
