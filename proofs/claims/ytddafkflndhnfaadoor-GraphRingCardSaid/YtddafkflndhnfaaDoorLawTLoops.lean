/-
  graph.Loops, said of the abstract machine.
-/
import Derived.Test.YtddafkflndhnfaaDoorLawTTopo
set_option maxRecDepth 20000
set_option linter.unusedVariables false
namespace Go.Fw

section
variable {adj : Nat → List Nat} {N : Nat}

theorem Topo.cover {D : Nat → Prop} {L : List (List Nat)} (x : Topo adj N D L) : ∀ v, v < N → ¬ D v → ∃ P, P ∈ L ∧ v ∈ P := by
  induction x with
  | nil h => exact fun v hv hD => absurd (h v hv) hD
  | @cons D i L hn _ ih =>
    intro v hv hD
    by_cases hs : Same2 adj i v
    · exact ⟨_, List.mem_cons_self, scc_mem.2 ⟨hv, hs⟩⟩
    · obtain ⟨P, hP, hm⟩ := ih v hv fun h => h.elim hD hs
      exact ⟨P, List.mem_cons_of_mem _ hP, hm⟩
theorem Topo.part {D : Nat → Prop} {L : List (List Nat)} (x : Topo adj N D L) : ∀ P, P ∈ L → P ≠ [] ∧ ∀ a, a ∈ P → a < N ∧ P = sccOf adj N a := by
  induction x with
  | nil h => exact fun P hP => (by cases hP)
  | @cons D i L hn _ ih =>
    intro P hP
    rcases List.mem_cons.1 hP with rfl | hP
    · refine ⟨List.ne_nil_of_mem (scc_mem.2 ⟨hn.lt, Same2.refl⟩), fun a ha => ?_⟩
      obtain ⟨h1, h2⟩ := scc_mem.1 ha
      exact ⟨h1, scc_eq h2⟩
    · exact ih P hP
theorem Topo.few {D : Nat → Prop} {L : List (List Nat)} (x : Topo adj N D L) : ∀ P, P ∈ L → P.length ≤ N := fun P hP => by
  obtain ⟨h1, h2⟩ := x.part P hP
  rw [(h2 _ (hd_mem h1)).2]
  unfold sccOf
  exact Nat.le_trans (List.length_filter_le _ _) (by simp)

/-- Does a node of a part reach itself? -/
def loopB (adj : Nat → List Nat) (P : List Nat) (a : Nat) : Bool := decide (1 < P.length) || decide (a ∈ adj a)

theorem loop_iff (hlt : ∀ a, a < N → ∀ b, b ∈ adj a → b < N) {a : Nat} (ha : a < N) : loopB adj (sccOf adj N a) a = true ↔ ∃ b, b ∈ adj a ∧ Rch adj b a := by
  unfold loopB
  rw [Bool.or_eq_true, decide_eq_true_eq, decide_eq_true_eq]
  have hn : (sccOf adj N a).Nodup := List.nodup_range.filter _
  have ham : a ∈ sccOf adj N a := scc_mem.2 ⟨ha, Same2.refl⟩
  constructor
  · rintro (h | h)
    · have : ∃ c, c ∈ sccOf adj N a ∧ c ≠ a := by
        generalize sccOf adj N a = P at h hn ham
        match P, h with
        | x :: y :: r, _ =>
          rw [List.nodup_cons] at hn
          by_cases e : x = a
          · exact ⟨y, by simp, fun e2 => hn.1 (by rw [e, ← e2]; exact List.mem_cons_self)⟩
          · exact ⟨x, by simp, e⟩
      obtain ⟨c, hc, hne⟩ := this
      obtain ⟨_, h1, h2⟩ := scc_mem.1 hc
      have hstep : ∀ c, Rch adj a c → c = a ∨ ∃ b, b ∈ adj a ∧ Rch adj b c := fun c hr => by
        induction hr with
        | refl => exact .inl rfl
        | @step b d _ hd ih =>
          rcases ih with rfl | ⟨e, he, hr⟩
          · exact .inr ⟨d, hd, .refl⟩
          · exact .inr ⟨e, he, .step hr hd⟩
      obtain ⟨b, hb, hr⟩ := (hstep c h1).resolve_left hne
      exact ⟨b, hb, hr.trans h2⟩
    · exact ⟨a, h, .refl⟩
  · rintro ⟨b, hb, hr⟩
    by_cases e : b = a
    · exact .inr (by rw [e] at hb; exact hb)
    · refine .inl ?_
      have hbm : b ∈ sccOf adj N a := scc_mem.2 ⟨hlt a ha b hb, .step .refl hb, hr⟩
      generalize sccOf adj N a = P at ham hbm
      match P with
      | [] => cases ham
      | [x] =>
        rw [List.mem_singleton] at ham hbm
        exact absurd (hbm.trans ham.symm) e
      | x :: y :: r => simp
end

section
variable {n : Nat} {h h' hb : H} {lo m N nb g p : Nat} {tv pv : Value} {adj : Nat → List Nat}

theorem addS {C : Nat → Bool} {a : Nat} (ha : a < 5000) : (if canAdd C (a : Int) = true then putS C (a : Int).toNat else C) = putM C a := by
  unfold canAdd
  rw [decide_eq_true (by omega), Bool.true_and, Int.toNat_natCast]
  cases hc : C a with
  | false => rfl
  | true =>
    simp only [Bool.not_true, Bool.false_eq_true, if_false]
    funext m
    unfold putM
    by_cases e : m = a
    · subst e; rw [hc]; rfl
    · rw [decide_eq_false e, Bool.or_false]

/-- The nodes of one part. -/
theorem gl_l3 {F : Nat} {x11 x12 x13 u : Value} {P : List Nat} (hF : 1000000 ≤ F) (ok : GOk N adj) (fb : Fr nb hb) (gb : GB hb g N tv) (hgp : g ≠ p) (grb : Gr hb m tv N adj) (hm : m ≤ p) (hpn : p < nb) (ru : RdI hb u (nats P)) (bu : P ≠ [] → blkOf u ≠ p ∧ blkOf u < nb) (hP : ∀ a, a ∈ P → a < N) (hs : P.length ≤ 1000) {E : Value → Value → Value → Value → Value → M Value} : ∀ j i k n (h : H) (C : Nat → Bool) (O : Nat → Prop), i + j = P.length → j < k → (∀ c, c < nb → c ≠ p → h.get c = hb.get c) → BS h p O C → (∀ c, O c → c = p ∨ nb ≤ c) → Fr n h → nb ≤ n →
    ∃ n' h' C' O', (graph_Loops_l3 F E k (pt g 0) (pt p 0) u x11 x12 x13 u (i64 P.length) (i64 i)).run n h = (E (pt g 0) (pt p 0) x11 x12 x13).run n' h' ∧ BS h' p O' C' ∧ (∀ c, O' c → c = p ∨ nb ≤ c) ∧ (∀ v, C' v = (C v || (decide (v ∈ P.drop i) && loopB adj P v))) ∧ (∀ c, c < nb → c ≠ p → h'.get c = hb.get c) ∧ Fr n' h' ∧ n ≤ n' := by
  have hN := ok.few
  intro j
  induction j with
  | zero =>
    intro i k n h C O hij hk hk0 x hO f hn
    obtain ⟨k, rfl⟩ : ∃ j, k = j + 1 := ⟨k - 1, by omega⟩
    rw [graph_Loops_l3_s]
    unfold graph_Loops_b3 graph_Loops_r6
    try dsimp only
    rw [st_lss]
    simp only [onB_ite, run_ite, decide_eq_true_eq]
    rw [if_neg (by omega)]
    exact ⟨n, h, C, O, rfl, x, hO, fun v => by rw [List.drop_of_length_le (by omega)]; simp, hk0, f, Nat.le_refl _⟩
  | succ j ih =>
    intro i k n h C O hij hk hk0 x hO f hn
    obtain ⟨k, rfl⟩ : ∃ j, k = j + 1 := ⟨k - 1, by omega⟩
    have hi : i < P.length := by omega
    have haN := hP P[i] (List.getElem_mem hi)
    have hPne : P ≠ [] := fun e => by rw [e] at hi; simp at hi
    have edrop : P.drop i = P[i] :: P.drop (i + 1) := List.drop_eq_getElem_cons hi
    have ru' : RdI h u (nats P) := ru.here fun _ => hk0 _ (bu hPne).2 (bu hPne).1
    have gbh : GB h g N tv := by unfold GB; rw [hk0 g (gb.lt fb) hgp]; exact gb
    have gr : Gr h m tv N adj := grb.kept fun c hc => hk0 c (by omega) (by omega)
    rw [graph_Loops_l3_s]
    unfold graph_Loops_b3 graph_Loops_r6
    try dsimp only
    rw [st_lss]
    simp only [onB_ite, run_ite, decide_eq_true_eq]
    rw [if_pos (by omega)]
    unfold graph_Loops_r7
    try dsimp only
    rw [RdI.getN ru' hi]
    unfold graph_Loops_r8
    try dsimp only
    rw [RdI.lenN ru', show (Value.int .i64 1) = i64 1 from rfl, st_gtr, onB_ite, run_ite]
    have skip : loopB adj P P[i] = false → ∃ n' h' C' O', (graph_Loops_k4 F (graph_Loops_l3 F E k) (pt g 0) (pt p 0) u x11 x12 x13 u (i64 P.length) (i64 i)).run n h = (E (pt g 0) (pt p 0) x11 x12 x13).run n' h' ∧ BS h' p O' C' ∧ (∀ c, O' c → c = p ∨ nb ≤ c) ∧ (∀ v, C' v = (C v || (decide (v ∈ P.drop i) && loopB adj P v))) ∧ (∀ c, c < nb → c ≠ p → h'.get c = hb.get c) ∧ Fr n' h' ∧ n ≤ n' := fun hf => by
      unfold graph_Loops_k4 graph_Loops_r10
      try dsimp only
      rw [show (Value.int .i64 1) = i64 1 from rfl, sx_add (by omega)]
      obtain ⟨n', h', C', O', r1, r2, r3, r4, r5⟩ := ih (i + 1) k n h C O (by omega) (by omega) hk0 x hO f hn
      refine ⟨n', h', C', O', r1, r2, r3, fun v => ?_, r5⟩
      rw [r4 v, edrop]
      by_cases e : v = P[i]
      · rw [e, hf, Bool.and_false, Bool.and_false]
      · simp only [List.mem_cons, e, false_or]
    have take_ : loopB adj P P[i] = true → ∃ n' h' C' O', (graph_Loops_r9 F (pt g 0) (pt p 0) u (i64 (P[i] : Nat)) x11 x12 x13 u (i64 P.length) (i64 i) fun x1 x3 x5 x11 x12 x13 x17 x18 x19 => graph_Loops_k4 F (graph_Loops_l3 F E k) x1 x3 x5 x11 x12 x13 x17 x18 x19).run n h = (E (pt g 0) (pt p 0) x11 x12 x13).run n' h' ∧ BS h' p O' C' ∧ (∀ c, O' c → c = p ∨ nb ≤ c) ∧ (∀ v, C' v = (C v || (decide (v ∈ P.drop i) && loopB adj P v))) ∧ (∀ c, c < nb → c ≠ p → h'.get c = hb.get c) ∧ Fr n' h' ∧ n ≤ n' := fun ht => by
      unfold graph_Loops_r9
      try dsimp only
      obtain ⟨n1, h1, O1, e1, x1, f1, l1, k1, o1⟩ := add_spec (F := F) x f ((P[i] : Nat) : Int) (by omega)
      rw [addS (by omega)] at x1
      rw [run_bnd e1]
      unfold graph_Loops_k4 graph_Loops_r10
      try dsimp only
      rw [show (Value.int .i64 1) = i64 1 from rfl, sx_add (by omega)]
      obtain ⟨n', h', C', O', r1, r2, r3, r4, r5, r6, r7⟩ := ih (i + 1) k n1 h1 _ O1 (by omega) (by omega) (fun c hc hcp => by rw [k1 c (by omega) fun q => (hO c q).elim hcp (by omega)]; exact hk0 c hc hcp) x1 (fun c hc => (o1 c hc).elim (hO c) fun q => .inr (by omega)) f1 (by omega)
      refine ⟨n', h', C', O', r1, r2, r3, fun v => ?_, r5, r6, by omega⟩
      rw [r4 v, edrop]
      unfold putM
      by_cases e : v = P[i]
      · rw [e, ht]
        simp only [List.mem_cons, true_or, decide_true, Bool.true_and, Bool.or_true, Bool.true_or]
      · simp only [List.mem_cons, e, false_or, decide_false, Bool.or_false]
    by_cases h1 : 1 < P.length
    · rw [if_pos (by rw [decide_eq_true_eq]; omega), onB_ite, run_ite, if_pos rfl]
      exact take_ (by unfold loopB; rw [decide_eq_true h1]; rfl)
    · rw [if_neg (by rw [decide_eq_true_eq]; omega)]
      obtain ⟨rv, er, hg', fg', kg', hr'⟩ := gr.row (β := Value) (n := n) haN
      rw [gbh.t, er, run_bnd (contains_spec (F := F) (x := ((P[i] : Nat) : Int)) (by rw [nats_len]; have := ok.short _ haN; omega) (by rw [nats_len]; have := ok.short _ haN; omega) (hr'.kept fg' kg')), onB_ite, run_ite]
      have em : decide (((P[i] : Nat) : Int) ∈ nats (adj P[i])) = decide (P[i] ∈ adj P[i]) := by rw [decide_eq_decide]; exact nats_mem
      rw [em]
      by_cases h2 : P[i] ∈ adj P[i]
      · rw [decide_eq_true h2, if_pos rfl]
        exact take_ (by unfold loopB; rw [decide_eq_true h2, Bool.or_true])
      · rw [decide_eq_false h2, if_neg (by decide)]
        exact skip (by unfold loopB; rw [decide_eq_false h2, decide_eq_false h1]; rfl)

/-- All parts. -/
theorem gl_l1 {F : Nat} {L : List (List Nat)} (hF : 1000000 ≤ F) (ok : GOk N adj) (fb : Fr nb hb) (gb : GB hb g N tv) (hgp : g ≠ p) (grb : Gr hb m tv N adj) (hm : m ≤ p) (hpn : p < nb) (rp : RdP lo hb pv L) (hlo : p < lo) (hL : L.length ≤ 1000) (hP : ∀ P, P ∈ L → P ≠ [] ∧ (∀ a, a ∈ P → a < N) ∧ P.length ≤ 1000) {E : Value → M Value} : ∀ j i k n (h : H) (C : Nat → Bool) (O : Nat → Prop), i + j = L.length → j < k → (∀ c, c < nb → c ≠ p → h.get c = hb.get c) → BS h p O C → (∀ c, O c → c = p ∨ nb ≤ c) → Fr n h → nb ≤ n →
    ∃ n' h' C' O', (graph_Loops_l1 F E k (pt g 0) (pt p 0) pv (i64 L.length) (i64 i)).run n h = (E (pt p 0)).run n' h' ∧ BS h' p O' C' ∧ (∀ c, O' c → c = p ∨ nb ≤ c) ∧ (∀ v, C' v = true ↔ (C v = true ∨ ∃ P, P ∈ L.drop i ∧ v ∈ P ∧ loopB adj P v = true)) ∧ (∀ c, c < nb → c ≠ p → h'.get c = hb.get c) ∧ Fr n' h' ∧ n ≤ n' := by
  intro j
  induction j with
  | zero =>
    intro i k n h C O hij hk hk0 x hO f hn
    obtain ⟨k, rfl⟩ : ∃ j, k = j + 1 := ⟨k - 1, by omega⟩
    rw [graph_Loops_l1_s]
    unfold graph_Loops_b1 graph_Loops_r3
    try dsimp only
    rw [st_lss]
    simp only [onB_ite, run_ite, decide_eq_true_eq]
    rw [if_neg (by omega)]
    exact ⟨n, h, C, O, rfl, x, hO, fun v => by rw [List.drop_of_length_le (by omega)]; simp, hk0, f, Nat.le_refl _⟩
  | succ j ih =>
    intro i k n h C O hij hk hk0 x hO f hn
    obtain ⟨k, rfl⟩ : ∃ j, k = j + 1 := ⟨k - 1, by omega⟩
    have hi : i < L.length := by omega
    have hPi := List.getElem?_eq_getElem hi
    have hPL : L[i] ∈ L := List.getElem_mem hi
    have edrop : L.drop i = L[i] :: L.drop (i + 1) := List.drop_eq_getElem_cons hi
    obtain ⟨hPne, hPN, hPs⟩ := hP _ hPL
    rw [graph_Loops_l1_s]
    unfold graph_Loops_b1 graph_Loops_r3
    try dsimp only
    rw [st_lss]
    simp only [onB_ite, run_ite, decide_eq_true_eq]
    rw [if_pos (by omega)]
    have rp' : RdP lo h pv L := rp.from_ fb fun c h1 h2 => hk0 c h2 (by omega)
    obtain ⟨iv, q1, q2, q4, q3⟩ := rp
    have hiv : iv[i]? = some (iv[i]'(by omega)) := List.getElem?_eq_getElem _
    obtain ⟨ru, bu⟩ := q3 i _ _ hiv hPi
    have hivne : iv ≠ [] := fun e => by rw [e] at q2; simp at q2; omega
    have ltn : ∀ {v : Value} {cs : List Value}, Rd hb v cs → cs ≠ [] → blkOf v < nb := fun {v cs} x h0 => by
      rcases Nat.lt_or_ge (blkOf v) nb with q | q
      · exact q
      · have := x.some h0
        rw [fb _ q] at this; cases this
    have q1' : Rd h pv iv := q1.here fun h0 => hk0 _ (ltn q1 h0) (by have := q4 h0; omega)
    unfold graph_Loops_r4
    try dsimp only
    rw [q1'.get hiv]
    generalize iv[i] = u at ru bu
    have bu' : L[i] ≠ [] → blkOf u ≠ p ∧ blkOf u < nb := fun h0 => ⟨by have := bu h0; omega, ltn ru (nats_ne.2 h0)⟩
    unfold graph_Loops_r5
    try dsimp only
    rw [RdI.lenN (ru.here (h' := h) fun _ => hk0 _ (bu' hPne).2 (bu' hPne).1)]
    obtain ⟨n1, h1, C1, O1, r1, x1, o1, c1, k1, f1, l1⟩ := gl_l3 (F := F) (x11 := pv) (x12 := i64 L.length) (x13 := i64 i) hF ok fb gb hgp grb hm hpn ru bu' hPN hPs (E := fun x1 x3 x11 x12 x13 => graph_Loops_k2 F (graph_Loops_l1 F E k) x1 x3 x11 x12 x13) L[i].length 0 F n h C O (by omega) (by omega) hk0 x hO f hn
    rw [show (Value.int .i64 0) = i64 ((0 : Nat) : Int) from rfl, r1]
    unfold graph_Loops_k2 graph_Loops_r11
    try dsimp only
    rw [show (Value.int .i64 1) = i64 1 from rfl, sx_add (by omega)]
    obtain ⟨n', h', C', O', s1, s2, s3, s4, s5, s6, s7⟩ := ih (i + 1) k n1 h1 C1 O1 (by omega) (by omega) k1 x1 o1 f1 (by omega)
    refine ⟨n', h', C', O', s1, s2, s3, fun v => ?_, s5, s6, by omega⟩
    rw [s4 v, c1 v, edrop, List.drop_zero, Bool.or_eq_true, Bool.and_eq_true, decide_eq_true_eq]
    constructor
    · rintro ((h | ⟨h1, h2⟩) | ⟨P, h1, h2⟩)
      · exact .inl h
      · exact .inr ⟨_, List.mem_cons_self, h1, h2⟩
      · exact .inr ⟨P, List.mem_cons_of_mem _ h1, h2⟩
    · rintro (h | ⟨P, h1, h2, h3⟩)
      · exact .inl (.inl h)
      · rcases List.mem_cons.1 h1 with rfl | h1
        · exact .inl (.inr ⟨h2, h3⟩)
        · exact .inr ⟨P, h1, h2, h3⟩

/-- graph.Loops tells who reaches itself. -/
theorem gloops_spec {F : Nat} (hF : 1000000 ≤ F) (ok : GOk N adj) (hN1 : 1 ≤ N) (gr : Gr h m tv N adj) (hm : m ≤ n) (f : Fr n h) :
    ∃ n' h' p C, (graph_Loops F (gv N tv)).run n h = some (pt p 0, n', h') ∧ SetAt h' p n n' C ∧ (∀ v, C v = true ↔ (v < N ∧ ∃ b, b ∈ adj v ∧ Rch adj b v)) ∧ Ev No n h n' h' := by
  have hN := ok.few
  unfold graph_Loops graph_Loops_r0
  try dsimp only
  obtain ⟨h1, e1, g1, ev1⟩ := GB.box (β := Value) (N := N) f gr.1
  rw [e1]
  have gr1 := gr.no ev1 hm
  unfold graph_Loops_r1
  try dsimp only
  obtain ⟨e2, x2, f2⟩ := new_set ev1.f (k := fun v9 => graph_Loops_r2 F (pt n 0) v9 fun x1 x3 x11 x12 x13 => graph_Loops_l1 F (fun x3 => graph_Loops_k0 F x3) F x1 x3 x11 x12 x13)
  rw [show (Value.slice none 0 0) = nsl from rfl, e2]
  have ev2 : Ev No (n + 1) h1 (n + 1 + 1) (h1.set (n + 1) ⟨[nsl], .own⟩) := Ev.new ev1.f _
  generalize h1.set (n + 1) ⟨[nsl], .own⟩ = h2 at ev2 x2 f2
  have g2 := g1.ev ev2 (by omega) (fun h => h)
  have gr2 := gr1.no ev2 (by omega)
  unfold graph_Loops_r2
  try dsimp only
  obtain ⟨n3, h3, v3, L, e3, rp, tp, _, ev3⟩ := parts_spec (F := F) hF ok hN1 gr2 (by omega) f2
  have l3 := ev3.le
  rw [g2.all, run_bnd e3, rp.len]
  have hLl : L.length ≤ N := tp.len
  obtain ⟨n4, h4, C4, O4, r4, x4, o4, c4, k4, f4, l4⟩ := gl_l1 (F := F) (p := n + 1) (nb := n3) (g := n) hF ok ev3.f (g2.ev ev3 (by omega) (fun h => h)) (by omega) (gr2.no ev3 (by omega)) (by omega) (by omega) rp (by omega) (by omega) (fun P hP => ⟨(tp.part P hP).1, fun a ha => ((tp.part P hP).2 a ha).1, by have := tp.few P hP; omega⟩) (E := fun x3 => graph_Loops_k0 F x3) L.length 0 F n3 h3 (fun _ => false) (fun c => c = n + 1) (by omega) (by omega) (fun c _ _ => rfl) (x2.keep fun c hc => ev3.no (by omega)) (fun c hc => .inl hc) ev3.f (Nat.le_refl _)
  rw [show (Value.int .i64 0) = i64 ((0 : Nat) : Int) from rfl, r4]
  unfold graph_Loops_k0 graph_Loops_r12
  try dsimp only
  refine ⟨n4, h4, n + 1, C4, rfl, ⟨O4, x4, fun c hc => ⟨(o4 c hc).elim (fun q => by omega) fun q => by omega, x4.lt f4 c hc⟩⟩, fun v => ?_, f4, by omega, fun c hc _ => by rw [k4 c (by omega) (by omega), ev3.no (by omega), ev2.no (by omega), ev1.no hc]⟩
  rw [c4 v, List.drop_zero]
  constructor
  · rintro (h | ⟨P, h1, h2, h3⟩)
    · cases h
    · obtain ⟨q1, q2⟩ := (tp.part P h1).2 v h2
      rw [q2] at h3
      exact ⟨q1, (loop_iff ok.lt q1).1 h3⟩
  · intro ⟨h1, h2⟩
    obtain ⟨P, hP, hm⟩ := tp.cover v h1 fun h => h
    refine .inr ⟨P, hP, hm, ?_⟩
    rw [((tp.part P hP).2 v hm).2]
    exact (loop_iff ok.lt h1).2 h2

end
end Go.Fw
