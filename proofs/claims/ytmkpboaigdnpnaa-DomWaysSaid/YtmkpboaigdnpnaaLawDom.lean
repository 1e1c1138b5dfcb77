/-
  dom.meet and dom.Up, said of the abstract machine.
-/
import Derived.Test.YtmkpboaigdnpnaaLawOrdB
import Derived.Test.YtmkpboaigdnpnaaFwDom
set_option maxRecDepth 20000
namespace Go.Fw

section
variable {adj : Nat → List Nat} {N root : Nat} {o : List Nat} {place : Nat → Nat}

theorem dmeet_l1 {F bu bp n : Nat} {h : H} {up : Nat → Int} (P : Pl adj N root o place) (I : Inv adj root o place up) (tu : TI h bu N up) (tp : TI h bp N fun i => (place i : Int)) {E : Value → M Value} : ∀ j k a b, place a + place b ≤ j → j < k → up a ≠ -1 → up b ≠ -1 →
    ∃ m : Nat, (dom_meet_l1 F E k (sl bu 0 N N) (sl bp 0 N N) (i64 a) (i64 b)).run n h = (E (i64 m)).run n h ∧ up m ≠ -1 ∧ Anc up a m ∧ Anc up b m ∧ ∀ d, Dom adj root d a → Dom adj root d b → Dom adj root d m := by
  have stop : ∀ k a, up a ≠ -1 → ∃ m : Nat, (dom_meet_l1 F E (k + 1) (sl bu 0 N N) (sl bp 0 N N) (i64 a) (i64 a)).run n h = (E (i64 m)).run n h ∧ up m ≠ -1 ∧ Anc up a m ∧ Anc up a m ∧ ∀ d, Dom adj root d a → Dom adj root d a → Dom adj root d m := by
    intro k a ha
    rw [dom_meet_l1_s]
    unfold dom_meet_b1 dom_meet_r3
    simp only [st_neq, onB_ite, run_ite]
    rw [if_neg (by simp)]
    exact ⟨a, rfl, ha, .refl, .refl, fun d h _ => h⟩
  intro j
  induction j with
  | zero =>
    intro k a b hj hk ha hb
    obtain ⟨k, rfl⟩ : ∃ j, k = j + 1 := ⟨k - 1, by omega⟩
    have e : a = b := P.inj (I.mem ha) (I.mem hb) (by omega)
    subst e
    exact stop k a ha
  | succ j ih =>
    intro k a b hj hk ha hb
    obtain ⟨k, rfl⟩ : ∃ j, k = j + 1 := ⟨k - 1, by omega⟩
    by_cases e : a = b
    · subst e; exact stop k a ha
    have hao := I.mem ha
    have hbo := I.mem hb
    have haN := P.ord.lt a hao
    have hbN := P.ord.lt b hbo
    have hpl : place a ≠ place b := fun q => e (P.inj hao hbo q)
    rw [dom_meet_l1_s]
    unfold dom_meet_b1 dom_meet_r3
    simp only [st_neq, onB_ite, run_ite]
    rw [if_pos (by rw [bne_iff_ne]; omega)]
    unfold dom_meet_r4
    try dsimp only
    rw [tp.get haN, tp.get hbN, st_gtr]
    simp only [onB_ite, run_ite, decide_eq_true_eq]
    by_cases hlt : place b < place a
    · rw [if_pos (by omega)]
      have har : a ≠ root := by rintro rfl; rw [P.zero] at hlt; omega
      obtain ⟨x, hx⟩ := I.nat ha
      have hd := I.dec a x har hx
      unfold dom_meet_r5
      try dsimp only
      rw [tu.get haN, hx]
      obtain ⟨m, q1, q2, q3, q4, q5⟩ := ih k x b (by omega) (by omega) hd.1 hb
      exact ⟨m, q1, q2, Anc.head hx q3, q4, fun d h1 h2 => q5 d (I.snd a x har hx d h1 (by
        rintro rfl
        have := I.dom_le hb h2
        omega)) h2⟩
    · rw [if_neg (by omega)]
      have hbr : b ≠ root := by
        rintro rfl
        rw [P.zero] at hlt hpl
        omega
      obtain ⟨x, hx⟩ := I.nat hb
      have hd := I.dec b x hbr hx
      unfold dom_meet_r6
      try dsimp only
      rw [tu.get hbN, hx]
      obtain ⟨m, q1, q2, q3, q4, q5⟩ := ih k a x (by omega) (by omega) ha hd.1
      exact ⟨m, q1, q2, q3, Anc.head hx q4, fun d h1 h2 => q5 d h1 (I.snd b x hbr hx d h2 (by
        rintro rfl
        have := I.dom_le ha h1
        omega))⟩

theorem dmeet_spec {F bu bp n : Nat} {h : H} {up : Nat → Int} (hF : 1000000 ≤ F) (hN : N ≤ 600) (P : Pl adj N root o place) (I : Inv adj root o place up) (tu : TI h bu N up) (tp : TI h bp N fun i => (place i : Int)) {a b : Nat} (ha : up a ≠ -1) (hb : up b ≠ -1) :
    ∃ m : Nat, (dom_meet F (sl bu 0 N N) (sl bp 0 N N) (i64 a) (i64 b)).run n h = some (i64 m, n, h) ∧ up m ≠ -1 ∧ Anc up a m ∧ Anc up b m ∧ ∀ d, Dom adj root d a → Dom adj root d b → Dom adj root d m := by
  have hl := nodup_len P.ord.nodup P.ord.lt
  obtain ⟨p1, _⟩ := P.at_ (I.mem ha)
  obtain ⟨p2, _⟩ := P.at_ (I.mem hb)
  obtain ⟨m, q1, q2⟩ := dmeet_l1 (F := F) (n := n) P I tu tp (E := fun x2 => dom_meet_k0 F x2) (place a + place b) F a b (Nat.le_refl _) (by omega) ha hb
  refine ⟨m, ?_, q2⟩
  unfold dom_meet dom_meet_r0 dom_meet_r1
  simp only [st_lss, onB_ite, run_ite, decide_eq_true_eq]
  rw [if_neg (by omega), q1]
  rfl

/-- What the meeting of the first i of those that lead to one comes to. -/
def Acc (adj : Nat → List Nat) (root : Nat) (up : Nat → Int) (row : List Nat) (acc : Int) : Prop :=
  (acc = -1 ∧ ∀ b, b ∈ row → up b = -1) ∨ ∃ m : Nat, acc = (m : Int) ∧ up m ≠ -1 ∧ (∀ b, b ∈ row → up b ≠ -1 → Anc up b m) ∧ ∀ d, (∀ b, b ∈ row → up b ≠ -1 → Dom adj root d b) → Dom adj root d m

theorem up_l5 {F bu bp n : Nat} {h h0 : H} {m : Nat} {up : Nat → Int} {rv x5 x11 x12 x14 x59 x60 x61 : Value} {row : List Nat} (hF : 1000000 ≤ F) (hN : N ≤ 600) (P : Pl adj N root o place) (I : Inv adj root o place up) (tu : TI h bu N up) (tp : TI h bp N fun i => (place i : Int)) (f0 : Fr m h0) (k0 : ∀ c, c < m → h.get c = h0.get c) (hr : RdI h0 rv (nats row)) (hrow : ∀ b, b ∈ row → b < N) (hs : row.length ≤ 700000) {E : Value → Value → Value → Value → Value → Value → Value → Value → Value → Value → M Value} : ∀ j i k acc, i + j = row.length → j < k → Acc adj root up (row.take i) acc →
    ∃ acc', (dom_Up_l5 F E k x5 (sl bu 0 N N) (sl bp 0 N N) x11 x12 x14 (i64 acc) x59 x60 x61 rv (i64 row.length) (i64 i)).run n h = (E x5 (sl bu 0 N N) (sl bp 0 N N) x11 x12 x14 (i64 acc') x59 x60 x61).run n h ∧ Acc adj root up row acc' := by
  have hr : RdI h rv (nats row) := hr.kept f0 k0
  intro j
  induction j with
  | zero =>
    intro i k acc hij hk hacc
    obtain ⟨k, rfl⟩ : ∃ j, k = j + 1 := ⟨k - 1, by omega⟩
    rw [dom_Up_l5_s]
    unfold dom_Up_b5 dom_Up_r25
    simp only [st_lss, onB_ite, run_ite, decide_eq_true_eq]
    rw [if_neg (by omega)]
    rw [List.take_of_length_le (by omega)] at hacc
    exact ⟨acc, rfl, hacc⟩
  | succ j ih =>
    intro i k acc hij hk hacc
    obtain ⟨k, rfl⟩ : ∃ j, k = j + 1 := ⟨k - 1, by omega⟩
    have hi : i < row.length := by omega
    rw [dom_Up_l5_s]
    unfold dom_Up_b5 dom_Up_r25
    simp only [st_lss, onB_ite, run_ite, decide_eq_true_eq]
    rw [if_pos (by omega)]
    unfold dom_Up_r26
    try dsimp only
    rw [hr.getI (show i < (nats row).length by unfold nats; rw [List.length_map]; exact hi)]
    have e : (nats row)[i]'(by unfold nats; rw [List.length_map]; exact hi) = ((row[i] : Nat) : Int) := by simp [nats]
    rw [e]
    have hbN := hrow row[i] (List.getElem_mem hi)
    unfold dom_Up_r27
    try dsimp only
    rw [tu.get hbN, st_geq]
    simp only [onB_ite, run_ite, decide_eq_true_eq]
    have etake : row.take (i + 1) = row.take i ++ [row[i]] := List.take_succ_eq_append_getElem hi
    by_cases hb : up row[i] = -1
    · rw [if_neg (by omega)]
      unfold dom_Up_k6 dom_Up_r29
      try dsimp only
      rw [sx_add (by omega)]
      refine ih (i + 1) k acc (by omega) (by omega) ?_
      rw [etake]
      rcases hacc with ⟨h1, h2⟩ | ⟨m, h1, h2, h3, h4⟩
      · refine .inl ⟨h1, fun b hb' => ?_⟩
        rw [List.mem_append, List.mem_singleton] at hb'
        rcases hb' with hb' | rfl
        · exact h2 b hb'
        · exact hb
      · refine .inr ⟨m, h1, h2, fun b hb' hs => ?_, fun d hd => h4 d fun b hb' => hd b (List.mem_append_left _ hb')⟩
        rw [List.mem_append, List.mem_singleton] at hb'
        rcases hb' with hb' | rfl
        · exact h3 b hb' hs
        · exact absurd hb hs
    · obtain ⟨y, hy⟩ := I.nat hb
      rw [if_pos (by omega)]
      unfold dom_Up_r28
      try dsimp only
      rcases hacc with ⟨h1, h2⟩ | ⟨m, h1, h2, h3, h4⟩
      · subst h1
        have e2 : (dom_meet F (sl bu 0 N N) (sl bp 0 N N) (i64 (-1)) (i64 (row[i] : Nat))).run n h = some (i64 (row[i] : Nat), n, h) := by
          unfold dom_meet dom_meet_r0 dom_meet_r1
          simp only [st_lss, onB_ite, run_ite, decide_eq_true_eq]
          rw [if_pos (by decide)]
          rfl
        rw [run_bnd e2]
        unfold dom_Up_k6 dom_Up_r29
        try dsimp only
        rw [sx_add (by omega)]
        refine ih (i + 1) k _ (by omega) (by omega) ?_
        rw [etake]
        refine .inr ⟨row[i], rfl, hb, fun b hb' hs => ?_, fun d hd => hd _ (by rw [List.mem_append, List.mem_singleton]; exact .inr rfl) hb⟩
        rw [List.mem_append, List.mem_singleton] at hb'
        rcases hb' with hb' | rfl
        · exact absurd (h2 b hb') hs
        · exact .refl
      · subst h1
        obtain ⟨m', q1, q2, q3, q4, q5⟩ := dmeet_spec (F := F) (n := n) hF hN P I tu tp h2 hb
        rw [run_bnd q1]
        unfold dom_Up_k6 dom_Up_r29
        try dsimp only
        rw [sx_add (by omega)]
        refine ih (i + 1) k _ (by omega) (by omega) ?_
        rw [etake]
        refine .inr ⟨m', rfl, q2, fun b hb' hs => ?_, fun d hd => ?_⟩
        · rw [List.mem_append, List.mem_singleton] at hb'
          rcases hb' with hb' | rfl
          · exact (h3 b hb' hs).trans q3
          · exact q4
        · exact q5 d (h4 d fun b hb' hs => hd b (List.mem_append_left _ hb') hs) (hd _ (by rw [List.mem_append, List.mem_singleton]; exact .inr rfl) hb)

theorem Acc.best {up : Nat → Int} (P : Pl adj N root o place) (I : Inv adj root o place up) (ok : GOk N adj) {a : Nat} (ha : a ∈ o) (hr : a ≠ root) (hset : ∀ y, y ∈ o → place y < place a → up y ≠ -1) {acc : Int} (h : Acc adj root up (turnA N adj a) acc) : ∃ m : Nat, acc = (m : Int) ∧ Best adj root up a m := by
  obtain ⟨y, y1, y2, y3⟩ := P.par ha hr
  rcases h with ⟨_, h2⟩ | ⟨m, h1, h2, h3, h4⟩
  · exact absurd (h2 y (turnA_mem.2 ⟨P.ord.lt y y1, y3⟩)) (hset y y1 y2)
  · exact ⟨m, h1, fun b hb e hs => h3 b (turnA_mem.2 ⟨P.ord.lt b (I.mem hs), e⟩) hs, fun d hd => h4 d fun b hb hs => hd b ((P.ord.mem b).1 (I.mem hs)) (turnA_mem.1 hb).2 hs⟩

/-- The state on the way through a pass. -/
structure Pass (adj : Nat → List Nat) (N root : Nat) (o : List Nat) (place : Nat → Nat) (k : Nat) (up0 up : Nat → Int) (t : Nat) (ch : Bool) : Prop where
  inv : Inv adj root o place up
  ck : CK adj place root up k
  cp : ∀ c d, c ∈ o → place c < t → Anc up c d → ¬ RW adj place root d (k + 1) c
  set : ∀ y, y ∈ o → place y < t → up y ≠ -1
  all : k = 0 ∨ ∀ y, y ∈ o → up y ≠ -1
  same : ch = false → up = up0 ∧ ∀ a, a ∈ o → a ≠ root → place a < t → ∃ m : Nat, up a = (m : Int) ∧ Best adj root up a m
  late : N + 1 ≤ k → ch = false

theorem Pass.next {k : Nat} {up0 up : Nat → Int} {ch : Bool} {a m : Nat} (P : Pl adj N root o place) (p : Pass adj N root o place k up0 up (place a) ch) (ha : a ∈ o) (hr : a ≠ root) (B : Best adj root up a m) :
    Pass adj N root o place k up0 (updI up a m) (place a + 1) (ch || up a != (m : Int)) := by
  obtain ⟨i1, i2, i3⟩ := p.inv.next P ha hr p.set B
  obtain ⟨c1, c2⟩ := p.ck.next P p.inv ha hr p.set p.all B p.cp
  have hset : ∀ y, up y ≠ -1 → updI up a m y ≠ -1 := fun y hy => by
    show (if y = a then (m : Int) else up y) ≠ -1
    split
    · omega
    · exact hy
  have hsame : up a = (m : Int) → updI up a m = up := fun e => by
    funext y
    show (if y = a then (m : Int) else up y) = up y
    split
    · rename_i e2; rw [e2, e]
    · rfl
  refine ⟨i1, c1, c2, fun y hy hp => ?_, p.all.imp id fun q y hy => hset y (q y hy), fun hch => ?_, fun hk => ?_⟩
  · by_cases e : y = a
    · show (if y = a then (m : Int) else up y) ≠ -1
      rw [if_pos e]; omega
    · refine hset y (p.set y hy ?_)
      rcases Nat.lt_or_ge (place y) (place a) with h1 | h1
      · exact h1
      · exact absurd (P.inj hy ha (by omega)) e
  · rw [Bool.or_eq_false_iff] at hch
    have e : up a = (m : Int) := by simpa using hch.2
    obtain ⟨e1, e2⟩ := p.same hch.1
    rw [hsame e]
    refine ⟨e1, fun c hc hcr hcp => ?_⟩
    by_cases e3 : c = a
    · subst e3; exact ⟨m, e, B⟩
    · refine e2 c hc hcr ?_
      rcases Nat.lt_or_ge (place c) (place a) with h1 | h1
      · exact h1
      · exact absurd (P.inj hc ha (by omega)) e3
  · have hall : ∀ y, y ∈ o → up y ≠ -1 := p.all.resolve_left (by omega)
    have e := CK.stable P p.inv hk hall ha hr B p.ck
    rw [p.late hk, e]; simp

theorem up_l2 {F m bu bp g k0 ob : Nat} {x59 : Value} {O : Nat → Prop} {up0 : Nat → Int} (hF : 1000000 ≤ F) (ok : GOk N adj) (P : Pl adj N root o place) {x5 : Value} {hg0 : H} (fo : Fr m hg0) (ho : RdI hg0 x59 (nats o.tail)) {E : Value → Value → Value → Value → Value → M Value} : ∀ j i k n (h : H) up ch, i + j + 1 = o.length → j < k → (∀ c, c < m → h.get c = hg0.get c) → OL h ob N O (fun b => nats (turnA N adj b)) → GB h g N (sl ob 0 N N) → TI h bu N up → TI h bp N (fun i => (place i : Int)) → Pass adj N root o place k0 up0 up (i + 1) ch → m ≤ bu → ¬ O bu → g ≠ bu → bp ≠ bu → g < n → bp < n → Fr n h →
    ∃ h' up' ch', (dom_Up_l2 F E k x5 (sl bu 0 N N) (sl bp 0 N N) (pt g 0) (bo ch) x59 (i64 ((o.length : Int) - 1)) (i64 i)).run n h = (E x5 (sl bu 0 N N) (sl bp 0 N N) (pt g 0) (bo ch')).run n h' ∧ TI h' bu N up' ∧ Pass adj N root o place k0 up0 up' o.length ch' ∧ Ev (fun c => c = bu) n h n h' := by
  have hN := ok.few
  have hol := nodup_len P.ord.nodup P.ord.lt
  intro j
  induction j with
  | zero =>
    intro i k n h up ch hij hk hk0 gr hg tu tp p h1 h2 h3 h4 h5 h6 f
    obtain ⟨k, rfl⟩ : ∃ j, k = j + 1 := ⟨k - 1, by omega⟩
    rw [dom_Up_l2_s]
    unfold dom_Up_b2 dom_Up_r21
    simp only [st_lss, onB_ite, run_ite, decide_eq_true_eq]
    rw [if_neg (by omega)]
    rw [show i + 1 = o.length by omega] at p
    exact ⟨h, up, ch, rfl, tu, p, Ev.refl f⟩
  | succ j ih =>
    intro i k n h up ch hij hk hk0 gr hg tu tp p h1 h2 h3 h4 h5 h6 f
    obtain ⟨k, rfl⟩ : ∃ j, k = j + 1 := ⟨k - 1, by omega⟩
    have hi : i + 1 < o.length := by omega
    rw [dom_Up_l2_s]
    unfold dom_Up_b2 dom_Up_r21
    simp only [st_lss, onB_ite, run_ite, decide_eq_true_eq]
    rw [if_pos (by omega)]
    unfold dom_Up_r22
    try dsimp only
    have ho1 : RdI h x59 (nats o.tail) := ho.kept fo hk0
    have hil : i < (nats o.tail).length := by unfold nats; rw [List.length_map, List.length_tail]; omega
    rw [ho1.getI hil]
    have e : (nats o.tail)[i]'hil = ((o[i + 1] : Nat) : Int) := by simp [nats]
    rw [e]
    have ha : o[i + 1] ∈ o := List.getElem_mem hi
    have hpl : place o[i + 1] = i + 1 := P.pl (i + 1) hi
    generalize o[i + 1] = a at *
    have haN := P.ord.lt a ha
    have har : a ≠ root := by rintro rfl; rw [P.zero] at hpl; omega
    unfold dom_Up_r23 dom_Up_r24
    try dsimp only
    obtain ⟨rv, e1, hr'⟩ := gr.row (β := Value) (n := n) haN
    have hs : (turnA N adj a).length ≤ 700000 := by
      have := turnL_len (b := a) ok N 0 (Nat.le_refl _) (.inr rfl)
      unfold turnA; omega
    rw [hg.t, e1, hr'.lenI, show (nats (turnA N adj a)).length = (turnA N adj a).length by unfold nats; rw [List.length_map]]
    obtain ⟨acc, e2, hacc⟩ := up_l5 (F := F) (n := n) (x5 := x5) (x11 := pt g 0) (x12 := bo ch) (x14 := i64 a) (x59 := x59) (x60 := i64 ((o.length : Int) - 1)) (x61 := i64 i) hF hN P p.inv tu tp f (fun _ _ => rfl) hr' (fun b hb => (turnA_mem.1 hb).1) hs (E := fun x5 x6 x7 x11 x12 x14 x15 x59 x60 x61 => dom_Up_k4 F (dom_Up_l2 F E k) x5 x6 x7 x11 x12 x14 x15 x59 x60 x61) (turnA N adj a).length 0 F (-1) (by omega) (by omega) (.inl ⟨rfl, fun b hb => by rw [List.take_zero] at hb; cases hb⟩)
    rw [show (Value.int .i64 0) = i64 ((0 : Nat) : Int) from rfl, e2]
    rw [← hpl] at p
    obtain ⟨q, rfl, B⟩ := hacc.best P p.inv ok ha har p.set
    have pn := p.next P ha har B
    unfold dom_Up_k4 dom_Up_r30
    try dsimp only
    -- the store, whatever the flag
    have fin : ∃ h' up' ch', (dom_Up_r31 F x5 (sl bu 0 N N) (sl bp 0 N N) (pt g 0) (bo (ch || up a != (q : Int))) (i64 a) (i64 q) x59 (i64 ((o.length : Int) - 1)) (i64 i) fun x5 x6 x7 x11 x12 x59 x60 x61 => dom_Up_k3 F (dom_Up_l2 F E k) x5 x6 x7 x11 x12 x59 x60 x61).run n h = (E x5 (sl bu 0 N N) (sl bp 0 N N) (pt g 0) (bo ch')).run n h' ∧ TI h' bu N up' ∧ Pass adj N root o place k0 up0 up' o.length ch' ∧ Ev (fun c => c = bu) n h n h' := by
      unfold dom_Up_r31
      try dsimp only
      obtain ⟨h3', e3, t3, ev3⟩ := TI.set (β := Value) tu f haN (z := (q : Int))
      rw [e3]
      unfold dom_Up_k3 dom_Up_r32
      try dsimp only
      rw [sx_add (by omega)]
      rw [hpl] at pn
      obtain ⟨h', up', ch', r1, r2, r3, r4⟩ := ih (i + 1) k n h3' (updI up a q) (ch || up a != (q : Int)) (by omega) (by omega) (fun c hc => by rw [ev3.keep c (by have := TV.lt tu f; omega) (by omega)]; exact hk0 c hc) (gr.keep fun c hc => ev3.keep c (gr.lt f hc) fun e => h2 (e ▸ hc)) (hg.ev ev3 h5 h3) t3 (tp.ev ev3 h6 h4) pn h1 h2 h3 h4 h5 h6 ev3.f
      exact ⟨h', up', ch', r1, r2, r3, ev3.trans r4 fun _ _ h => h⟩
    simp only [onB_ite, run_ite]
    cases ch with
    | true => rw [if_pos rfl]; exact fin
    | false =>
      rw [if_neg (by decide), tu.get haN, st_neq]
      exact fin

theorem up_l1 {F m bu bp g ob gb : Nat} {O : Nat → Prop} (hF : 1000000 ≤ F) (ok : GOk N adj) (P : Pl adj N root o place) {hg0 : H} (fo : Fr m hg0) (ho : GlI hg0 (sl ob 0 o.length (U + 1)) ob (nats o)) {E : Value → M Value} : ∀ j k0 k n (h : H) up ch, N + 2 ≤ k0 + j → j < k → (∀ c, c < m → h.get c = hg0.get c) → OL h gb N O (fun b => nats (turnA N adj b)) → GB h g N (sl gb 0 N N) → TI h bu N up → TI h bp N (fun i => (place i : Int)) → Inv adj root o place up → CK adj place root up k0 → (k0 = 0 ∨ ∀ y, y ∈ o → up y ≠ -1) → (ch = false → DomT adj root o place up) → (N + 2 ≤ k0 → ch = false) → m ≤ bu → ¬ O bu → g ≠ bu → bp ≠ bu → g < n → bp < n → Fr n h →
    ∃ h' up', (dom_Up_l1 F E k (sl ob 0 o.length (U + 1)) (sl bu 0 N N) (sl bp 0 N N) (pt g 0) (bo ch)).run n h = (E (sl bu 0 N N)).run n h' ∧ TI h' bu N up' ∧ DomT adj root o place up' ∧ Ev (fun c => c = bu) n h n h' := by
  have hN := ok.few
  have hol := nodup_len P.ord.nodup P.ord.lt
  obtain ⟨o', eo⟩ := P.ord.first
  have hpos : 0 < o.length := by rw [eo]; simp
  intro j
  induction j with
  | zero =>
    intro k0 k n h up ch hj hk hk0 gr hg tu tp I c1 hall hd hlate h1 h2 h3 h4 h5 h6 f
    obtain ⟨k, rfl⟩ : ∃ j, k = j + 1 := ⟨k - 1, by omega⟩
    rw [dom_Up_l1_s]
    unfold dom_Up_b1 dom_Up_r18
    try dsimp only
    have := hlate (by omega)
    subst this
    simp only [onB_ite, run_ite]
    rw [if_neg (by decide)]
    exact ⟨h, up, rfl, tu, hd rfl, Ev.refl f⟩
  | succ j ih =>
    intro k0 k n h up ch hj hk hk0 gr hg tu tp I c1 hall hd hlate h1 h2 h3 h4 h5 h6 f
    obtain ⟨k, rfl⟩ : ∃ j, k = j + 1 := ⟨k - 1, by omega⟩
    rw [dom_Up_l1_s]
    unfold dom_Up_b1 dom_Up_r18
    simp only [onB_ite, run_ite]
    cases ch with
    | false =>
      rw [if_neg (by decide)]
      exact ⟨h, up, rfl, tu, hd rfl, Ev.refl f⟩
    | true =>
      rw [if_pos rfl]
      unfold dom_Up_r19 dom_Up_r20
      try dsimp only
      have es : opSlice 1 (sl ob 0 o.length (U + 1)) (some (.int .i64 1)) none none = ret (sl ob 1 (o.length - 1) (U + 1)) := by
        show (if (0 : Int) ≤ 1 ∧ (1 : Int) ≤ (o.length : Int) then (if (o.length : Int) ≤ (o.length : Int) then (if U + 1 = U + 1 then ret (sl ob (0 + (1 : Int).toNat * 1) ((o.length : Int) - 1).toNat (U + 1)) else _) else fail) else fail) = _
        rw [if_pos (by omega), if_pos (by omega), if_pos rfl, show ((o.length : Int) - 1).toNat = o.length - 1 by omega]
        rfl
      rw [es, ret_bnd, st_len, show ((o.length - 1 : Nat) : Int) = (o.length : Int) - 1 by omega]
      have hot : RdI hg0 (sl ob 1 (o.length - 1) (U + 1)) (nats o.tail) := by
        rcases ho with ⟨g0, _⟩ | ⟨_, _, g1⟩
        · rw [eo] at g0; simp [nats] at g0
        · refine .inr ⟨ob, 1, U + 1, .grow, by simp [nats], fun _ => ⟨_, g1, by decide, fun i hi => ?_⟩⟩
          have e : (nats o).map i64 = i64 (root : Int) :: (nats o.tail).map i64 := by rw [eo]; rfl
          rw [e, show 1 + i = i + 1 by omega, List.getElem?_cons_succ]
      have p0 : Pass adj N root o place k0 up up (0 + 1) false := by
        refine ⟨I, c1, fun c d hc hp h hw => ?_, fun y hy hp => ?_, hall, fun _ => ⟨rfl, fun a ha har hp => ?_⟩, fun _ => rfl⟩
        · have e : c = root := P.inj hc P.mem_root (by rw [P.zero]; omega)
          subst e
          have := I.anc_root h
          subst this
          exact hw.ne rfl
        · have e : y = root := P.inj hy P.mem_root (by rw [P.zero]; omega)
          subst e
          rw [I.rt]; omega
        · have := P.pos ha har
          omega
      obtain ⟨h', up', ch', r1, r2, r3, r4⟩ := up_l2 (F := F) (m := m) (x59 := sl ob 1 (o.length - 1) (U + 1)) (x5 := sl ob 0 o.length (U + 1)) hF ok P fo hot (E := fun x5 x6 x7 x11 x12 => dom_Up_l1 F E k x5 x6 x7 x11 x12) (o.length - 1) 0 F n h up false (by omega) (by omega) hk0 gr hg tu tp p0 h1 h2 h3 h4 h5 h6 f
      rw [show (Value.int .i64 0) = i64 ((0 : Nat) : Int) from rfl, show (Value.bool false) = bo false from rfl, r1]
      have plt : ∀ y, y ∈ o → place y < o.length := fun y hy => (P.at_ hy).1
      obtain ⟨h'', up'', s1, s2, s3, s4⟩ := ih (k0 + 1) k n h' up' ch' (by omega) (by omega) (fun c hc => by rw [r4.keep c (by have := TV.lt tu f; omega) (by omega)]; exact hk0 c hc) (gr.keep fun c hc => r4.keep c (gr.lt f hc) fun e => h2 (e ▸ hc)) (hg.ev r4 h5 h3) r2 (tp.ev r4 h6 h4) r3.inv (fun c d hc h => r3.cp c d (r3.inv.mem hc) (plt c (r3.inv.mem hc)) h) (.inr fun y hy => r3.set y hy (plt y hy)) (fun e => by
        obtain ⟨e1, e2⟩ := r3.same e
        exact DomT.fix P r3.inv (fun y hy => r3.set y hy (plt y hy)) fun a ha har => e2 a ha har (plt a ha)) (fun e => r3.late (by omega)) h1 h2 h3 h4 h5 h6 r4.f
      exact ⟨h'', up'', s1, s2, s3, r4.trans s4 fun _ _ h => h⟩
end

end Go.Fw
