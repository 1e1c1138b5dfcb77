/-
  haruspexref1.Up, said of the abstract machine: who stands next above, found by looking at all.
-/
import Derived.Test.YtmkpboaigdnpnaaLawDomC
set_option maxRecDepth 20000
namespace Go.Fw

/-- Who stands above whom, row by row. -/
def AB (h : H) (lo : Nat) (v : Value) (N i : Nat) (B : Nat → Nat → Bool) : Prop :=
  ∃ (b : Nat) (rbs : Nat → Nat), Gl h v b (tab i fun a => sl (rbs a) 0 N N) ∧ (i ≠ 0 → lo ≤ b) ∧ ∀ a, a < i → TB h (rbs a) N (B a) ∧ lo ≤ rbs a ∧ rbs a ≠ b

theorem AB.nil {h : H} {lo N : Nat} {B : Nat → Nat → Bool} : AB h lo nsl N 0 B := ⟨0, fun _ => 0, .inl ⟨rfl, rfl⟩, fun h => absurd rfl h, fun a ha => by omega⟩
theorem AB.kept {h h' : H} {lo N i m : Nat} {v : Value} {B : Nat → Nat → Bool} (x : AB h lo v N i B) (f : Fr m h) (hk : ∀ c, c < m → lo ≤ c → h'.get c = h.get c) : AB h' lo v N i B := by
  obtain ⟨b, rbs, g, hlo, r⟩ := x
  exact ⟨b, rbs, g.keep fun h0 => hk b (g.lt f h0) (hlo (tab_ne.1 h0)), hlo, fun a ha => ⟨TV.keep (r a ha).1 (hk _ (TV.lt (r a ha).1 f) (r a ha).2.1), (r a ha).2⟩⟩
theorem AB.get {β : Type} {n : Nat} {h : H} {lo N i a q : Nat} {v : Value} {B : Nat → Nat → Bool} (x : AB h lo v N i B) (ha : a < i) (hq : q < N) {k : Value → M β} :
    (bnd (opIndexAddr 1 v (i64 a)) fun p => bnd (opLoad p) fun r => bnd (opIndexAddr 1 r (i64 q)) fun p => bnd (opLoad p) k).run n h = (k (bo (B a q))).run n h := by
  obtain ⟨b, rbs, g, hlo, r⟩ := x
  rw [g.rd.get (tab_get ha), TB.get (r a ha).1 hq]
theorem AB.push {n : Nat} {h : H} {lo N i rb : Nat} {v : Value} {B : Nat → Nat → Bool} (x : AB h lo v N i B) (f : Fr n h) (hlo : lo ≤ n) (hi : i < 1000) (t : TB h rb N (B i)) (hr : lo ≤ rb) (hd : ∀ b, (h.get b).isSome = true → i ≠ 0 → v = sl b 0 i (U + 1) → rb ≠ b) :
    ∃ h' v', (∀ k : Value → M Value, (bnd (opBuildSlice 1 (rep 1 [nsl]) [(0, 1, false, sl rb 0 N N)]) fun t => bnd (opAppend 1 24 v t) k).run n h = (k v').run (n + 2) h') ∧ AB h' lo v' N (i + 1) B ∧ Ev (fun c => lo ≤ c) n h (n + 2) h' := by
  obtain ⟨b, rbs, g, hb, r⟩ := x
  have hne : tab i (fun a => sl (rbs a) 0 N N) ≠ [] → b ≠ n := fun h0 => by have := g.lt f h0; omega
  have g1 : Gl (h.set n ⟨[sl rb 0 N N], .own⟩) v b (tab i fun a => sl (rbs a) 0 N N) := g.keep fun h0 => H.get_set_ne _ _ (hne h0)
  obtain ⟨h2, e2, g2, f2, k2⟩ := run_append (β := Value) (bytes := 24) (x := sl rb 0 N N) g1 (f.new _) (H.get_set_same _ _ _) (by decide) rfl (tab_one fun _ _ => rfl) hne (by rw [tab_len]; omega)
  have hrb := TV.lt t f
  have hrbb : i ≠ 0 → rb ≠ b := fun h0 => by
    rcases g with ⟨g0, _⟩ | ⟨_, gv, gb⟩
    · exact absurd (tab_ne.2 h0) (by rw [g0]; simp)
    · rw [tab_len] at gv
      exact hd b (by rw [gb]; rfl) h0 gv
  have keep : ∀ c, c < n → (i ≠ 0 → c ≠ b) → h2.get c = h.get c := fun c hc hcb => by
    rw [k2 c (by omega) fun h0 => hcb (tab_ne.1 h0), H.get_set_ne _ _ (by omega)]
  refine ⟨h2, _, fun k => by rw [run_single f rfl]; exact e2 k, ⟨n + 1, fun a => if a = i then rb else rbs a, ?_, fun _ => by omega, fun a ha => ?_⟩, f2, by omega, fun c hc hn => keep c hc fun h0 => by have := hb h0; omega⟩
  · rw [tab_succ]
    dsimp only
    rw [if_pos rfl]
    have e : tab i (fun a => sl (if a = i then rb else rbs a) 0 N N) = tab i fun a => sl (rbs a) 0 N N := tab_ext fun a ha => by rw [if_neg (by omega)]
    rw [e]; exact g2
  · dsimp only
    by_cases e : a = i
    · subst e
      rw [if_pos rfl]
      exact ⟨TV.keep t (keep rb hrb hrbb), hr, by omega⟩
    · rw [if_neg e]
      have ra := r a (by omega)
      have hl := TV.lt ra.1 f
      exact ⟨TV.keep ra.1 (keep _ hl fun _ => ra.2.2), ra.2.1, by omega⟩

section
variable {adj : Nat → List Nat} {N root : Nat} {o : List Nat} {place : Nat → Nat} {up : Nat → Int}

theorem rup_l11 {F ba bw br a : Nat} {x0 x1 x7 : Value} {all wo : Nat → Bool} (hN : N ≤ 600) (ha : a < N) (h1 : br ≠ ba) (h2 : br ≠ bw) {E : Value → Value → Value → Value → Value → Value → Value → M Value} : ∀ j i k n (h : H) r, i + j = N → j < k → TB h ba N all → TB h bw N wo → TB h br N r → (∀ q, q < i → r q = (all a && all q && (decide (a = q) || !wo q))) → Fr n h →
    ∃ h' r', (R1_Up_l11 F E k x0 x1 (i64 N) (sl ba 0 N N) x7 (i64 a) (sl bw 0 N N) (sl br 0 N N) (i64 (i : Nat))).run n h = (E x0 x1 (i64 N) (sl ba 0 N N) x7 (i64 a) (sl br 0 N N)).run n h' ∧ TB h' br N r' ∧ (∀ q, q < N → r' q = (all a && all q && (decide (a = q) || !wo q))) ∧ Ev (fun c => c = br) n h n h' := by
  intro j
  induction j with
  | zero =>
    intro i k n h r hij hk ta tw tr hr f
    obtain ⟨k, rfl⟩ : ∃ j, k = j + 1 := ⟨k - 1, by omega⟩
    rw [R1_Up_l11_s]
    unfold R1_Up_b11 R1_Up_r10
    try dsimp only
    rw [st_lss]
    simp only [onB_ite, run_ite, decide_eq_true_eq]
    rw [if_neg (by omega)]
    exact ⟨h, r, rfl, tr, fun q hq => hr q (by omega), Ev.refl f⟩
  | succ j ih =>
    intro i k n h r hij hk ta tw tr hr f
    obtain ⟨k, rfl⟩ : ∃ j, k = j + 1 := ⟨k - 1, by omega⟩
    have hi : i < N := by omega
    rw [R1_Up_l11_s]
    unfold R1_Up_b11 R1_Up_r10
    try dsimp only
    rw [st_lss]
    simp only [onB_ite, run_ite, decide_eq_true_eq]
    rw [if_pos (by omega)]
    unfold R1_Up_r12
    try dsimp only
    have fin : ∀ b : Bool, b = (all a && all i && (decide (a = i) || !wo i)) → ∃ h' r', (bnd (opIndexAddr 1 (sl br 0 N N) (i64 (i : Nat))) fun v64 => bnd (opStore v64 (bo b)) fun _ => R1_Up_r11 F x0 x1 (i64 N) (sl ba 0 N N) x7 (i64 a) (sl bw 0 N N) (sl br 0 N N) (i64 (i : Nat)) fun x0 x1 x5 x6 x7 x8 x9 x10 x11 => R1_Up_l11 F E k x0 x1 x5 x6 x7 x8 x9 x10 x11).run n h = (E x0 x1 (i64 N) (sl ba 0 N N) x7 (i64 a) (sl br 0 N N)).run n h' ∧ TB h' br N r' ∧ (∀ q, q < N → r' q = (all a && all q && (decide (a = q) || !wo q))) ∧ Ev (fun c => c = br) n h n h' := fun b hb => by
      obtain ⟨h3, e3, t3, ev3⟩ := TB.set (β := Value) tr f hi (z := b)
      have hba := TV.lt ta f
      have hbw := TV.lt tw f
      rw [e3]
      unfold R1_Up_r11
      try dsimp only
      rw [sx_add (by omega)]
      obtain ⟨h', r', q1, q2, q3, q4⟩ := ih (i + 1) k n h3 (upd r i b) (by omega) (by omega) (ta.ev ev3 hba (by omega)) (tw.ev ev3 hbw (by omega)) t3 (fun q hq => by
        by_cases e : q = i
        · subst e; rw [upd_same, hb]
        · rw [upd_ne e]; exact hr q (by omega)) ev3.f
      exact ⟨h', r', q1, q2, q3, ev3.trans q4 fun _ _ h => h⟩
    rw [ta.get ha]
    simp only [onB_ite, run_ite]
    by_cases haa : all a = true
    · rw [if_pos haa, ta.get hi]
      simp only [onB_ite, run_ite]
      by_cases hai : all i = true
      · rw [if_pos hai, st_eql]
        simp only [onB_ite, run_ite, beq_iff_eq]
        by_cases e : a = i
        · rw [if_pos (by omega)]
          exact fin true (by rw [haa, hai, decide_eq_true e]; rfl)
        · rw [if_neg (by omega), tw.get hi, st_not]
          exact fin (!wo i) (by rw [haa, hai, decide_eq_false e]; simp)
      · rw [if_neg hai]
        exact fin false (by rw [show all i = false by simpa using hai]; simp)
    · rw [if_neg haa]
      exact fin false (by rw [show all a = false by simpa using haa]; rfl)

theorem rup_l8 {F m lo ba : Nat} {tv : Value} {all : Nat → Bool} (hF : 1000000 ≤ F) (ok : GOk N adj) (hr : root < N) (hm : m ≤ lo) (hall : ∀ q, all q = true ↔ Rch adj root q) (hba : m ≤ ba ∧ ba < lo) {E : Value → Value → Value → Value → M Value} : ∀ j i k n (h : H) v, i + j = N → j < k → Gr h m tv N adj → TB h ba N all → AB h lo v N i (domB adj root) → lo ≤ n → Fr n h →
    ∃ n' h' v', (R1_Up_l8 F E k tv (i64 (root : Int)) (i64 N) (sl ba 0 N N) v (i64 (i : Nat))).run n h = (E (i64 (root : Int)) (i64 N) (sl ba 0 N N) v').run n' h' ∧ AB h' lo v' N N (domB adj root) ∧ Ev (fun c => lo ≤ c) n h n' h' := by
  have hN := ok.few
  intro j
  induction j with
  | zero =>
    intro i k n h v hij hk gr ta x hn f
    obtain ⟨k, rfl⟩ : ∃ j, k = j + 1 := ⟨k - 1, by omega⟩
    rw [R1_Up_l8_s]
    unfold R1_Up_b8 R1_Up_r5
    try dsimp only
    rw [st_lss]
    simp only [onB_ite, run_ite, decide_eq_true_eq]
    rw [if_neg (by omega)]
    rw [show i = N by omega] at x
    exact ⟨n, h, v, rfl, x, Ev.refl f⟩
  | succ j ih =>
    intro i k n h v hij hk gr ta x hn f
    obtain ⟨k, rfl⟩ : ∃ j, k = j + 1 := ⟨k - 1, by omega⟩
    have hi : i < N := by omega
    rw [R1_Up_l8_s]
    unfold R1_Up_b8 R1_Up_r5
    try dsimp only
    rw [st_lss]
    simp only [onB_ite, run_ite, decide_eq_true_eq]
    rw [if_pos (by omega)]
    unfold R1_Up_r7
    try dsimp only
    obtain ⟨n1, h1, bw, wo, e1, tw, qw, lbw, ev1⟩ := reach_one (F := F) (root := root) (w := (i : Int)) hF gr (by omega) ok f
    have l1 := ev1.le
    rw [show (Value.int .i64 0) = i64 0 from rfl, e1]
    unfold R1_Up_r8
    try dsimp only
    obtain ⟨h2, e2, t2, ev2⟩ := TB.make (β := Value) (bytes := 1) (N := N) (z := false) ev1.f (by omega) (by decide)
    rw [show (Value.bool false) = bo false from rfl, e2]
    have ev02 : Ev No n h (n1 + 1) h2 := ev1.trans ev2 fun _ _ h => h
    have tw2 := tw.ev ev2 (TV.lt tw ev1.f) (fun h => h)
    have ta2 := ta.ev ev02 (by omega) (fun h => h)
    unfold R1_Up_r9
    try dsimp only
    obtain ⟨h3, r, e3, t3, q3, ev3⟩ := rup_l11 (F := F) (x0 := tv) (x1 := i64 (root : Int)) (x7 := v) hN hi (show n1 ≠ ba by omega) (show n1 ≠ bw by have := TV.lt tw ev1.f; omega) (E := fun x0 x1 x5 x6 x7 x8 x10 => R1_Up_k10 F (R1_Up_l8 F E k) x0 x1 x5 x6 x7 x8 x10) N 0 F (n1 + 1) h2 (fun _ => false) (by omega) (by omega) ta2 tw2 t2 (fun q hq => by omega) ev2.f
    rw [show (Value.int .i64 0) = i64 ((0 : Nat) : Int) from rfl, e3]
    have ev03 : Ev No n h (n1 + 1) h3 := ev02.trans ev3 fun c hc q => by omega
    have hrow : TB h3 n1 N (domB adj root i) := by
      have e : tab N (fun q => bo (r q)) = tab N fun q => bo (domB adj root i q) := tab_ext fun q hq => by
        rw [q3 q hq]
        have e2 : (all i && all q && (decide (i = q) || !wo q)) = domB adj root i q := by
          rw [Bool.eq_iff_iff, domB_iff, Bool.and_eq_true, Bool.and_eq_true, Bool.or_eq_true, hall, hall, decide_eq_true_eq]
          constructor
          · rintro ⟨⟨h1, h2⟩, rfl | h3⟩
            · exact Dom.self h1
            · refine ⟨h2, fun hw => ?_⟩
              rw [(qw q).2 ((rchS_rchW hr).2 hw)] at h3; cases h3
          · intro hd
            refine ⟨⟨hd.rch, hd.1⟩, ?_⟩
            by_cases e : i = q
            · exact .inl e
            · right
              cases hs : wo q with
              | false => rfl
              | true => exact absurd ((rchS_rchW hr).1 ((qw q).1 hs)) hd.2
        rw [e2]
      unfold TB TV at t3 ⊢
      rw [t3, e]
    have x3 := x.kept f fun c hc _ => ev03.no hc
    have gr3 := gr.no ev03 (by omega)
    have ta3 := ta.ev ev03 (by omega) (fun h => h)
    unfold R1_Up_k10 R1_Up_r13
    try dsimp only
    obtain ⟨h4, v4, e4, x4, ev4⟩ := x3.push ev3.f (by omega) (by omega) hrow (by omega) (fun b _ h0 hv => by
      rintro rfl
      obtain ⟨b', rbs, g, _, _⟩ := x
      rcases g with ⟨g0, _⟩ | ⟨_, gv, gb⟩
      · exact absurd (tab_ne.2 h0) (by rw [g0]; simp)
      · rw [tab_len] at gv
        rw [gv] at hv
        have : b' = n1 := by injection hv with q1 q2 q3; injection q1 with q1; injection q1
        subst this
        have := f.lt gb
        omega)
    rw [show (Value.slice none 0 0) = nsl from rfl, e4]
    unfold R1_Up_k9 R1_Up_r6
    try dsimp only
    rw [sx_add (by omega)]
    obtain ⟨n', h', v', q1, q2, q4⟩ := ih (i + 1) k (n1 + 1 + 2) h4 v4 (by omega) (by omega) (gr3.ev ev4 (by omega) fun c hc => by omega) (ta3.ev ev4 (by omega) (by omega)) x4 (by omega) ev4.f
    exact ⟨n', h', v', q1, q2, ((ev03.mono fun _ _ h => h.elim).trans ev4 fun _ _ h => h).trans q4 fun _ _ h => h⟩

theorem rup_l6 {F lo n : Nat} {h : H} {v x6 x12 : Value} (hN : N ≤ 600) (x : AB h lo v N N (domB adj root)) {b a : Nat} (hb : b < N) (ha : a < N) {E : Value → Value → Value → Value → Value → Value → Value → Value → M Value} : ∀ j i k (fl : Bool), i + j = N → j < k → (fl = true ↔ ∀ c, c < i → c = b ∨ ¬ Dom adj root c b ∨ Dom adj root c a) →
    ∃ fl' : Bool, (R1_Up_l6 F E k (i64 (root : Int)) (i64 N) x6 v x12 (i64 (b : Nat)) (i64 (a : Nat)) (bo fl) (i64 (i : Nat))).run n h = (E (i64 (root : Int)) (i64 N) x6 v x12 (i64 (b : Nat)) (i64 (a : Nat)) (bo fl')).run n h ∧ (fl' = true ↔ ∀ c, c < N → c = b ∨ ¬ Dom adj root c b ∨ Dom adj root c a) := by
  intro j
  induction j with
  | zero =>
    intro i k fl hij hk hfl
    obtain ⟨k, rfl⟩ : ∃ j, k = j + 1 := ⟨k - 1, by omega⟩
    rw [R1_Up_l6_s]
    unfold R1_Up_b6 R1_Up_r28
    try dsimp only
    rw [st_lss]
    simp only [onB_ite, run_ite, decide_eq_true_eq]
    rw [if_neg (by omega)]
    rw [show i = N by omega] at hfl
    exact ⟨fl, rfl, hfl⟩
  | succ j ih =>
    intro i k fl hij hk hfl
    obtain ⟨k, rfl⟩ : ∃ j, k = j + 1 := ⟨k - 1, by omega⟩
    have hi : i < N := by omega
    rw [R1_Up_l6_s]
    unfold R1_Up_b6 R1_Up_r28
    try dsimp only
    rw [st_lss]
    simp only [onB_ite, run_ite, decide_eq_true_eq]
    rw [if_pos (by omega)]
    have fin : ∀ fl2 : Bool, (fl2 = true ↔ fl = true ∧ (i = b ∨ ¬ Dom adj root i b ∨ Dom adj root i a)) → ∃ fl' : Bool, (R1_Up_r29 F (i64 (root : Int)) (i64 N) x6 v x12 (i64 (b : Nat)) (i64 (a : Nat)) (bo fl2) (i64 (i : Nat)) fun x1 x5 x6 x7 x12 x13 x14 x15 x16 => R1_Up_l6 F E k x1 x5 x6 x7 x12 x13 x14 x15 x16).run n h = (E (i64 (root : Int)) (i64 N) x6 v x12 (i64 (b : Nat)) (i64 (a : Nat)) (bo fl')).run n h ∧ (fl' = true ↔ ∀ c, c < N → c = b ∨ ¬ Dom adj root c b ∨ Dom adj root c a) := fun fl2 h2 => by
      unfold R1_Up_r29
      try dsimp only
      rw [sx_add (by omega)]
      refine ih (i + 1) k fl2 (by omega) (by omega) ?_
      rw [h2, hfl]
      constructor
      · rintro ⟨q1, q2⟩ c hc
        by_cases e : c = i
        · subst e; exact q2
        · exact q1 c (by omega)
      · intro q
        exact ⟨fun c hc => q c (by omega), q i (by omega)⟩
    unfold R1_Up_r30
    simp only [onB_ite, run_ite]
    cases fl with
    | false =>
      rw [if_neg (by decide)]
      exact fin false ⟨(fun h => by cases h), (fun h => by cases h.1)⟩
    | true =>
      rw [if_pos rfl, st_eql]
      simp only [onB_ite, run_ite, beq_iff_eq]
      by_cases e : i = b
      · rw [if_pos (by omega)]
        exact fin true ⟨fun _ => ⟨rfl, .inl e⟩, fun _ => rfl⟩
      · rw [if_neg (by omega), x.get hi hb, st_not]
        simp only [onB_ite, run_ite]
        cases hd : domB adj root i b with
        | false =>
          rw [if_pos (by decide)]
          exact fin true ⟨fun _ => ⟨rfl, .inr (.inl fun q => by rw [domB_iff.2 q] at hd; cases hd)⟩, fun _ => rfl⟩
        | true =>
          rw [if_neg (by decide), x.get hi ha]
          refine fin (domB adj root i a) ?_
          rw [domB_iff]
          constructor
          · exact fun q => ⟨rfl, .inr (.inr q)⟩
          · rintro ⟨_, q | q | q⟩
            · exact absurd q e
            · exact absurd (domB_iff.1 hd) q
            · exact q

theorem rup_l3 {F lo mA bo' : Nat} {hA : H} {v x6 : Value} (hF : 1000000 ≤ F) (hN : N ≤ 600) (P : Pl adj N root o place) (D : DomT adj root o place up) (fA : Fr mA hA) (xA : AB hA lo v N N (domB adj root)) (hbo : mA ≤ bo') {b x : Nat} (hb : b ∈ o) (hbr : b ≠ root) (hx : up b = (x : Int)) {E : Value → Value → Value → Value → Value → Value → M Value} : ∀ j i k n (h : H) u, i + j = N → j < k → (∀ c, c < mA → h.get c = hA.get c) → TI h bo' N u → u b = (if x < i then (x : Int) else -1) → Fr n h →
    ∃ h' u', (R1_Up_l3 F E k (i64 (root : Int)) (i64 N) x6 v (sl bo' 0 N N) (i64 (b : Nat)) (i64 (i : Nat))).run n h = (E (i64 (root : Int)) (i64 N) x6 v (sl bo' 0 N N) (i64 (b : Nat))).run n h' ∧ TI h' bo' N u' ∧ u' b = (x : Int) ∧ (∀ q, q ≠ b → u' q = u q) ∧ Ev (fun c => c = bo') n h n h' := by
  have hbN := P.ord.lt b hb
  obtain ⟨d1, d2, d3⟩ := D.next P hb hbr hx
  have hxo : x ∈ o := (P.ord.mem x).2 d1.rch
  have hxN := P.ord.lt x hxo
  intro j
  induction j with
  | zero =>
    intro i k n h u hij hk hkA tu hu f
    obtain ⟨k, rfl⟩ : ∃ j, k = j + 1 := ⟨k - 1, by omega⟩
    rw [R1_Up_l3_s]
    unfold R1_Up_b3 R1_Up_r23
    try dsimp only
    rw [st_lss]
    simp only [onB_ite, run_ite, decide_eq_true_eq]
    rw [if_neg (by omega)]
    rw [if_pos (by omega)] at hu
    exact ⟨h, u, rfl, tu, hu, fun _ _ => rfl, Ev.refl f⟩
  | succ j ih =>
    intro i k n h u hij hk hkA tu hu f
    obtain ⟨k, rfl⟩ : ∃ j, k = j + 1 := ⟨k - 1, by omega⟩
    have hi : i < N := by omega
    have xh : AB h lo v N N (domB adj root) := xA.kept fA fun c hc _ => hkA c hc
    rw [R1_Up_l3_s]
    unfold R1_Up_b3 R1_Up_r23
    try dsimp only
    rw [st_lss]
    simp only [onB_ite, run_ite, decide_eq_true_eq]
    rw [if_pos (by omega)]
    have skip : i ≠ x → ∃ h' u', (R1_Up_k4 F (R1_Up_l3 F E k) (i64 (root : Int)) (i64 N) x6 v (sl bo' 0 N N) (i64 (b : Nat)) (i64 (i : Nat))).run n h = (E (i64 (root : Int)) (i64 N) x6 v (sl bo' 0 N N) (i64 (b : Nat))).run n h' ∧ TI h' bo' N u' ∧ u' b = (x : Int) ∧ (∀ q, q ≠ b → u' q = u q) ∧ Ev (fun c => c = bo') n h n h' := fun hix => by
      unfold R1_Up_k4 R1_Up_r24
      try dsimp only
      rw [sx_add (by omega)]
      refine ih (i + 1) k n h u (by omega) (by omega) hkA tu ?_ f
      rw [hu]
      by_cases h1 : x < i
      · rw [if_pos h1, if_pos (by omega)]
      · rw [if_neg h1, if_neg (by omega)]
    unfold R1_Up_r25
    try dsimp only
    rw [st_eql]
    simp only [onB_ite, run_ite, beq_iff_eq]
    by_cases e : i = b
    · rw [if_pos (by omega), if_pos trivial]
      exact skip (by omega)
    · rw [if_neg (by omega), xh.get hi hbN, st_not]
      simp only [onB_ite, run_ite]
      cases hd : domB adj root i b with
      | false =>
        rw [if_pos (by decide)]
        exact skip fun q => by
          subst q; rw [domB_iff.2 d1] at hd; cases hd
      | true =>
        rw [if_neg (by decide)]
        unfold R1_Up_r26 R1_Up_r27
        try dsimp only
        obtain ⟨fl, e1, hfl⟩ := rup_l6 (F := F) (n := n) (x6 := x6) (x12 := sl bo' 0 N N) hN xh hbN hi (E := fun x1 x5 x6 x7 x12 x13 x14 x15 => R1_Up_k5 F (R1_Up_l3 F E k) x1 x5 x6 x7 x12 x13 x14 x15) N 0 F true (by omega) (by omega) ⟨fun _ c hc => by omega, fun _ => rfl⟩
        rw [show (Value.bool true) = bo true from rfl, show (Value.int .i64 0) = i64 ((0 : Nat) : Int) from rfl, e1]
        have hiff : fl = true ↔ i = x := by
          rw [hfl]
          constructor
          · intro q
            exact D.uniq P hb hbr hx (domB_iff.1 hd) e fun d hd2 hdb => ((q d (P.ord.lt d ((P.ord.mem d).2 hd2.rch))).resolve_left hdb).resolve_left fun q => q hd2
          · rintro rfl c _
            by_cases h1 : c = b
            · exact .inl h1
            · by_cases h2 : Dom adj root c b
              · exact .inr (.inr (d3 c h2 h1))
              · exact .inr (.inl h2)
        unfold R1_Up_k5 R1_Up_r31
        simp only [onB_ite, run_ite]
        by_cases hix : i = x
        · rw [if_pos (hiff.2 hix)]
          unfold R1_Up_r32
          try dsimp only
          obtain ⟨h3, e3, t3, ev3⟩ := TI.set (β := Value) tu f hbN (z := (i : Int))
          have hbl := TV.lt tu f
          rw [e3]
          unfold R1_Up_k4 R1_Up_r24
          try dsimp only
          rw [sx_add (by omega)]
          obtain ⟨h', u', q1, q2, q3, q4, q5⟩ := ih (i + 1) k n h3 (upd u b (i : Int)) (by omega) (by omega) (fun c hc => by rw [ev3.keep c (by omega) (by omega)]; exact hkA c hc) t3 (by rw [upd_same, if_pos (by omega), hix]) ev3.f
          exact ⟨h', u', q1, q2, q3, fun q hq => by rw [q4 q hq, upd_ne hq], ev3.trans q5 fun _ _ h => h⟩
        · rw [if_neg fun q => hix (hiff.1 q)]
          exact skip hix

theorem rup_l1 {F lo mA ba bo' : Nat} {hA : H} {v : Value} {all : Nat → Bool} (hF : 1000000 ≤ F) (hN : N ≤ 600) (P : Pl adj N root o place) (D : DomT adj root o place up) (fA : Fr mA hA) (xA : AB hA lo v N N (domB adj root)) (tA : TB hA ba N all) (hall : ∀ q, all q = true ↔ Rch adj root q) (hbo : mA ≤ bo') {E : Value → M Value} : ∀ j i k n (h : H) u, i + j = N → j < k → (∀ c, c < mA → h.get c = hA.get c) → TI h bo' N u → (∀ q, q < i → u q = up q) → Fr n h →
    ∃ h' u', (R1_Up_l1 F E k (i64 (root : Int)) (i64 N) (sl ba 0 N N) v (sl bo' 0 N N) (i64 (i : Nat))).run n h = (E (sl bo' 0 N N)).run n h' ∧ TI h' bo' N u' ∧ (∀ q, q < N → u' q = up q) ∧ Ev (fun c => c = bo') n h n h' := by
  have hbaA := TV.lt tA fA
  intro j
  induction j with
  | zero =>
    intro i k n h u hij hk hkA tu hu f
    obtain ⟨k, rfl⟩ : ∃ j, k = j + 1 := ⟨k - 1, by omega⟩
    rw [R1_Up_l1_s]
    unfold R1_Up_b1 R1_Up_r16
    try dsimp only
    rw [st_lss]
    simp only [onB_ite, run_ite, decide_eq_true_eq]
    rw [if_neg (by omega)]
    exact ⟨h, u, rfl, tu, fun q hq => hu q (by omega), Ev.refl f⟩
  | succ j ih =>
    intro i k n h u hij hk hkA tu hu f
    obtain ⟨k, rfl⟩ : ∃ j, k = j + 1 := ⟨k - 1, by omega⟩
    have hi : i < N := by omega
    have hbl := TV.lt tu f
    rw [R1_Up_l1_s]
    unfold R1_Up_b1 R1_Up_r16
    try dsimp only
    rw [st_lss]
    simp only [onB_ite, run_ite, decide_eq_true_eq]
    rw [if_pos (by omega)]
    unfold R1_Up_r18
    try dsimp only
    obtain ⟨h1, e1, t1, ev1⟩ := TI.set (β := Value) tu f hi (z := -1)
    rw [show (Value.int .i64 (-1)) = i64 (-1) from rfl, e1]
    have hk1 : ∀ c, c < mA → h1.get c = hA.get c := fun c hc => by rw [ev1.keep c (by omega) (by omega)]; exact hkA c hc
    have ta1 : TB h1 ba N all := tA.keep (hk1 ba hbaA)
    have next : ∀ (h2 : H) (u2 : Nat → Int), (∀ c, c < mA → h2.get c = hA.get c) → TI h2 bo' N u2 → (∀ q, q < i + 1 → u2 q = up q) → Ev (fun c => c = bo') n h n h2 → ∃ h' u', (R1_Up_k2 F (R1_Up_l1 F E k) (i64 (root : Int)) (i64 N) (sl ba 0 N N) v (sl bo' 0 N N) (i64 (i : Nat))).run n h2 = (E (sl bo' 0 N N)).run n h' ∧ TI h' bo' N u' ∧ (∀ q, q < N → u' q = up q) ∧ Ev (fun c => c = bo') n h n h' := fun h2 u2 hk2 t2 hu2 ev2 => by
      unfold R1_Up_k2 R1_Up_r17
      try dsimp only
      rw [sx_add (by omega)]
      obtain ⟨h', u', q1, q2, q3, q4⟩ := ih (i + 1) k n h2 u2 (by omega) (by omega) hk2 t2 hu2 ev2.f
      exact ⟨h', u', q1, q2, q3, ev2.trans q4 fun _ _ h => h⟩
    unfold R1_Up_r19
    try dsimp only
    rw [ta1.get hi, st_not]
    simp only [onB_ite, run_ite]
    by_cases hio : i ∈ o
    · rw [(hall i).2 ((P.ord.mem i).1 hio), if_neg (by decide)]
      unfold R1_Up_r20
      try dsimp only
      rw [st_eql]
      simp only [onB_ite, run_ite, beq_iff_eq]
      by_cases hr : i = root
      · rw [if_pos (by omega)]
        unfold R1_Up_r21
        try dsimp only
        obtain ⟨h2, e2, t2, ev2⟩ := TI.set (β := Value) t1 ev1.f hi (z := (root : Int))
        rw [e2]
        refine next h2 _ (fun c hc => by rw [ev2.keep c (by omega) (by omega)]; exact hk1 c hc) t2 (fun q hq => ?_) (ev1.trans ev2 fun _ _ h => h)
        by_cases e : q = i
        · subst e; rw [upd_same, hr, D.inv.rt]
        · rw [upd_ne e, upd_ne e]; exact hu q (by omega)
      · rw [if_neg (by omega)]
        obtain ⟨x, hx⟩ := D.inv.nat (D.all i hio)
        unfold R1_Up_r22
        try dsimp only
        obtain ⟨h2, u2, e2, t2, q2, o2, ev2⟩ := rup_l3 (F := F) (x6 := sl ba 0 N N) hF hN P D fA xA hbo hio hr hx (E := fun x1 x5 x6 x7 x12 x13 => R1_Up_k2 F (R1_Up_l1 F E k) x1 x5 x6 x7 x12 x13) N 0 F n h1 (upd u i (-1)) (by omega) (by omega) hk1 t1 (by rw [upd_same, if_neg (by omega)]) ev1.f
        rw [show (Value.int .i64 0) = i64 ((0 : Nat) : Int) from rfl, e2]
        refine next h2 u2 (fun c hc => by rw [ev2.keep c (by omega) (by omega)]; exact hk1 c hc) t2 (fun q hq => ?_) (ev1.trans ev2 fun _ _ h => h)
        by_cases e : q = i
        · subst e; rw [q2, hx]
        · rw [o2 q e, upd_ne e]; exact hu q (by omega)
    · have hal : all i = false := by
        cases hs : all i with
        | false => rfl
        | true => exact absurd ((P.ord.mem i).2 ((hall i).1 hs)) hio
      rw [hal, if_pos (by decide)]
      refine next h1 _ hk1 t1 (fun q hq => ?_) ev1
      by_cases e : q = i
      · subst e; rw [upd_same]; exact ((D.inv.dom q).resolve_right fun q => hio q.1).symm
      · rw [upd_ne e]; exact hu q (by omega)

theorem rup_spec {F n m : Nat} {tv : Value} {h : H} (hF : 1000000 ≤ F) (gr : Gr h m tv N adj) (hm : m ≤ n) (ok : GOk N adj) (P : Pl adj N root o place) (D : DomT adj root o place up) (f : Fr n h) :
    ∃ n' h' b u, (R1_Up F tv (i64 (root : Int))).run n h = some (sl b 0 N N, n', h') ∧ TI h' b N u ∧ (∀ q, q < N → u q = up q) ∧ n ≤ b ∧ Ev No n h n' h' := by
  have hN := ok.few
  have hr : root < N := P.ord.lt root P.mem_root
  unfold R1_Up R1_Up_r0 R1_Up_r1
  try dsimp only
  rw [gr.len]
  unfold R1_Up_r2
  try dsimp only
  obtain ⟨n1, h1, ba, all, e1, t1, q1, lb1, ev1⟩ := reach_one (F := F) (root := root) (w := -1) hF gr hm ok f
  have l1 := ev1.le
  have hall : ∀ q, all q = true ↔ Rch adj root q := fun q => (q1 q).trans (rchS_rch hr)
  rw [show (Value.int .i64 0) = i64 0 from rfl, show (Value.int .i64 (-1)) = i64 (-1) from rfl, e1]
  have hba := TV.lt t1 ev1.f
  unfold R1_Up_r3 R1_Up_r4
  try dsimp only
  obtain ⟨n2, h2, v2, e2, x2, ev2⟩ := rup_l8 (F := F) (lo := n1) (ba := ba) hF ok hr (by omega) hall ⟨by omega, hba⟩ (E := fun x1 x5 x6 x7 => R1_Up_k7 F x1 x5 x6 x7) N 0 F n1 h1 nsl (by omega) (by omega) (gr.no ev1 hm) t1 AB.nil (Nat.le_refl _) ev1.f
  rw [show (Value.slice none 0 0) = nsl from rfl, show (Value.int .i64 0) = i64 ((0 : Nat) : Int) from rfl, e2]
  have l2 := ev2.le
  have t2 := t1.ev ev2 hba (by omega)
  unfold R1_Up_k7 R1_Up_r14
  try dsimp only
  obtain ⟨h3, e3, t3, ev3⟩ := TI.make (β := Value) (bytes := 8) (N := N) (z := 0) ev2.f (by omega) (by decide)
  rw [show (Value.int .i64 0) = i64 0 from rfl, e3]
  unfold R1_Up_r15
  try dsimp only
  obtain ⟨h4, u, e4, t4, q4, ev4⟩ := rup_l1 (F := F) (mA := n2) (hA := h2) (bo' := n2) hF hN P D ev2.f x2 t2 hall (Nat.le_refl _) (E := fun x12 => R1_Up_k0 F x12) N 0 F (n2 + 1) h3 (fun _ => 0) (by omega) (by omega) (fun c hc => ev3.no hc) t3 (fun q hq => by omega) ev3.f
  rw [show (Value.int .i64 0) = i64 ((0 : Nat) : Int) from rfl, e4]
  refine ⟨n2 + 1, h4, n2, u, rfl, t4, q4, by omega, ev4.f, by omega, fun c hc _ => ?_⟩
  rw [ev4.keep c (by omega) (by omega), ev3.no (by omega), ev2.keep c (by omega) (by omega), ev1.no hc]
end

end Go.Fw
