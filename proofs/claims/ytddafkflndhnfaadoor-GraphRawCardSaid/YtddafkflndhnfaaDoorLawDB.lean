/-
  Graphs: what the functions on these come to, said of the abstract machine.
-/
import Derived.Test.YtddafkflndhnfaaDoorLawDA
import Derived.Test.YtddafkflndhnfaaDoorFwZ
import Derived.Test.YtddafkflndhnfaaDoorFwDfs
import Derived.Test.YtddafkflndhnfaaDoorFwBfs
import Derived.Test.YtddafkflndhnfaaDoorFwPath
set_option maxRecDepth 20000
set_option linter.unusedVariables false
namespace Go.Fw


/-! ## Made -/

theorem Pairs.get {β : Type} {n : Nat} {h : H} {v : Value} {len : Nat} {Z : Nat → Int} (w : Pairs h v len Z) {i q : Nat} (hi : i < len) (hq : q < 2) {k : Value → M β} :
    (bnd (opIndexAddr 2 v (i64 i)) fun p => bnd (opIndexAddrA 2 1 p (i64 q)) fun r => bnd (opLoad r) k).run n h = (k (i64 (Z (2 * i + q)))).run n h := by
  rcases w with ⟨h0, _⟩ | ⟨b, cap, rfl, g1, g2, g3⟩
  · omega
  · rw [st_ix, if_pos (by omega), Int.toNat_natCast, st_ixA, if_pos (by omega), Int.toNat_natCast, Nat.mul_one, Nat.zero_add]
    rw [ld1 (g3 (by omega)).2 (by decide) (tab_get (show i * 2 + q < cap * 2 by omega)), Nat.mul_comm i 2]

theorem opBuild_gr {N : Nat} {tv : Value} (h1 : one tv = true) : opBuild [i64 0, nsl] [(0, 1, false, i64 N), (1, 1, false, tv)] = ret (gv N tv) := by
  have hN : one (i64 N) = true := rfl
  simp [opBuild, fillA, h1, hN]

theorem Ev.new {n : Nat} {h : H} (f : Fr n h) (B : Blk) : Ev No n h (n + 1) (h.set n B) := ⟨f.new _, by omega, fun c hc _ => H.get_set_ne _ _ (by omega)⟩

/-! ## May -/

/-- A graph that may be: few nodes, edges among them, rows that are not too long. -/
structure GOk (N : Nat) (adj : Nat → List Nat) : Prop where
  few : N ≤ 600
  lt : ∀ a, a < N → ∀ b, b ∈ adj a → b < N
  short : ∀ a, a < N → (adj a).length ≤ 1000

theorem may_l3 {F N m c : Nat} {tv x24 x25 x26 rv : Value} {l : List Nat} {h h0 : H} {n g : Nat} (hg : GB h g N tv) (f0 : Fr m h0) (k0 : ∀ c, c < m → h.get c = h0.get c) (hr : RdI h0 rv (nats l)) (hl : ∀ b, b ∈ l → b < N) (hs : l.length ≤ 1000) (hN : N ≤ 600) {E : Value → Value → Value → Value → M Value} : ∀ j i k, i + j = l.length → j < k →
    (graph_May_l3 F E k (pt g 0) x24 x25 x26 rv (i64 l.length) (i64 i)).run n h = (E (pt g 0) x24 x25 x26).run n h := by
  have hr : RdI h rv (nats l) := hr.kept f0 k0
  intro j
  induction j with
  | zero =>
    intro i k hij hk
    obtain ⟨k, rfl⟩ : ∃ j, k = j + 1 := ⟨k - 1, by omega⟩
    rw [graph_May_l3_s]
    unfold graph_May_b3 graph_May_r7
    simp only [st_lss, onB_ite, run_ite, decide_eq_true_eq]
    rw [if_neg (by omega)]
  | succ j ih =>
    intro i k hij hk
    obtain ⟨k, rfl⟩ : ∃ j, k = j + 1 := ⟨k - 1, by omega⟩
    have hi : i < l.length := by omega
    rw [graph_May_l3_s]
    unfold graph_May_b3 graph_May_r7
    simp only [st_lss, onB_ite, run_ite, decide_eq_true_eq]
    rw [if_pos (by omega)]
    unfold graph_May_r8
    try dsimp only
    rw [hr.getI (show i < (nats l).length by unfold nats; rw [List.length_map]; exact hi)]
    have e : (nats l)[i]'(by unfold nats; rw [List.length_map]; exact hi) = ((l[i] : Nat) : Int) := by simp [nats]
    rw [e]
    have hb := hl l[i] (List.getElem_mem hi)
    unfold graph_May_r9
    simp only [st_lss, onB_ite, run_ite, decide_eq_true_eq]
    rw [if_neg (by omega), hg.nn, st_geq]
    simp only [onB_ite, run_ite, decide_eq_true_eq]
    rw [if_neg (by omega)]
    unfold graph_May_r11
    try dsimp only
    rw [sx_add (by omega)]
    exact ih (i + 1) k (by omega) (by omega)

theorem may_l1 {F N m : Nat} {tv : Value} {adj : Nat → List Nat} {h : H} {n g : Nat} (hF : 1000 < F) (hg : GB h g N tv) (gr : Gr h m tv N adj) (ok : GOk N adj) {E : M Value} : ∀ j i k, i + j = N → j < k →
    (graph_May_l1 F E k (pt g 0) tv (i64 N) (i64 i)).run n h = E.run n h := by
  have hN := ok.few
  intro j
  induction j with
  | zero =>
    intro i k hij hk
    obtain ⟨k, rfl⟩ : ∃ j, k = j + 1 := ⟨k - 1, by omega⟩
    rw [graph_May_l1_s]
    unfold graph_May_b1 graph_May_r4
    simp only [st_lss, onB_ite, run_ite, decide_eq_true_eq]
    rw [if_neg (by omega)]
  | succ j ih =>
    intro i k hij hk
    obtain ⟨k, rfl⟩ : ∃ j, k = j + 1 := ⟨k - 1, by omega⟩
    have hi : i < N := by omega
    rw [graph_May_l1_s]
    unfold graph_May_b1 graph_May_r4
    simp only [st_lss, onB_ite, run_ite, decide_eq_true_eq]
    rw [if_pos (by omega)]
    unfold graph_May_r5
    try dsimp only
    obtain ⟨rv, e1, h0, f0, k0, hr⟩ := gr.row (β := Value) (n := n) hi
    rw [e1]
    unfold graph_May_r6
    try dsimp only
    have hr' : RdI h rv (nats (adj i)) := hr.kept f0 k0
    have hs := ok.short i hi
    rw [hr'.lenI, show (nats (adj i)).length = (adj i).length by unfold nats; rw [List.length_map], show (Value.int .i64 0) = i64 ((0 : Nat) : Int) from rfl, may_l3 (c := 0) hg f0 k0 hr (ok.lt i hi) hs hN (adj i).length 0 F (by omega) (by omega)]
    unfold graph_May_k2 graph_May_r12
    try dsimp only
    rw [sx_add (by omega)]
    exact ih (i + 1) k (by omega) (by omega)

theorem gmay_spec {F n m N : Nat} {tv : Value} {adj : Nat → List Nat} {h : H} (hF : 1000 < F) (gr : Gr h m tv N adj) (hm : m ≤ n) (ok : GOk N adj) (f : Fr n h) :
    ∃ n' h', (graph_May F (gv N tv)).run n h = some (bo true, n', h') ∧ Ev No n h n' h' := by
  have hN := ok.few
  obtain ⟨h1, e1, g1, ev1⟩ := GB.box (β := Value) (N := N) f gr.1
  have gr1 := gr.no ev1 hm
  refine ⟨n + 1, h1, ?_, ev1⟩
  unfold graph_May graph_May_r0
  try dsimp only
  rw [e1]
  unfold graph_May_r1
  try dsimp only
  rw [g1.nn, st_lss]
  simp only [onB_ite, run_ite, decide_eq_true_eq]
  rw [if_neg (by omega), g1.nn, st_gtr]
  simp only [onB_ite, run_ite, decide_eq_true_eq]
  rw [if_neg (by omega), g1.t, gr1.len, g1.nn, st_neq]
  simp only [onB_ite, run_ite]
  rw [if_neg (by simp)]
  unfold graph_May_r3
  try dsimp only
  rw [g1.t, gr1.len, show (Value.int .i64 0) = i64 ((0 : Nat) : Int) from rfl, may_l1 hF g1 gr1 ok N 0 F (by omega) (by omega)]
  rfl

/-! ## Turn -/

/-- Who leads to b, from the rows below a and from the first i of a's row. -/
def turnL (adj : Nat → List Nat) (a i b : Nat) : List Nat := ((List.range a).flatMap fun c => (adj c).filterMap fun d => if d = b then some c else none) ++ ((adj a).take i).filterMap fun d => if d = b then some a else none

theorem turnL_row {adj : Nat → List Nat} {a i b : Nat} (hi : (adj a).length ≤ i) : turnL adj a i b = turnL adj (a + 1) 0 b := by
  unfold turnL
  rw [List.take_of_length_le hi, List.range_succ, List.flatMap_append]
  simp
theorem turnL_next {adj : Nat → List Nat} {a i b : Nat} (hi : i < (adj a).length) : turnL adj a (i + 1) b = if b = (adj a)[i] then turnL adj a i b ++ [a] else turnL adj a i b := by
  unfold turnL
  rw [List.take_succ_eq_append_getElem hi, List.filterMap_append, ← List.append_assoc]
  by_cases h : b = (adj a)[i]
  · rw [if_pos h]; simp [h]
  · rw [if_neg h]; simp [Ne.symm h]
theorem turnL_len {N : Nat} {adj : Nat → List Nat} (ok : GOk N adj) {b : Nat} : ∀ a i, a ≤ N → (a < N ∨ i = 0) → (turnL adj a i b).length ≤ 1000 * a + 1000 := by
  intro a i ha hi
  unfold turnL
  rw [List.length_append]
  have h1 : ∀ a, a ≤ N → ((List.range a).flatMap fun c => (adj c).filterMap fun d => if d = b then some c else none).length ≤ 1000 * a := by
    intro a
    induction a with
    | zero => intro _; simp
    | succ a ih =>
      intro ha
      rw [List.range_succ, List.flatMap_append, List.length_append]
      have h1 := ih (by omega)
      have h2 := ok.short a (by omega)
      have h3 := List.length_filterMap_le (fun d => if d = b then some a else none) (adj a)
      simp only [List.flatMap_cons, List.flatMap_nil, List.append_nil]
      omega
  have h2 := h1 a ha
  have h3 := List.length_filterMap_le (fun d => if d = b then some a else none) ((adj a).take i)
  rw [List.length_take] at h3
  rcases hi with hi | hi
  · have := ok.short a hi; omega
  · subst hi; omega

/-- The graph with its edges the other way round. -/
def turnA (N : Nat) (adj : Nat → List Nat) (b : Nat) : List Nat := turnL adj N 0 b
theorem turnA_mem {N : Nat} {adj : Nat → List Nat} {a b : Nat} : a ∈ turnA N adj b ↔ a < N ∧ b ∈ adj a := by
  unfold turnA turnL
  simp only [List.take_zero, List.filterMap_nil, List.append_nil, List.mem_flatMap, List.mem_range, List.mem_filterMap]
  constructor
  · rintro ⟨c, hc, d, hd, h⟩
    split at h
    · cases h; rename_i e; subst e; exact ⟨hc, hd⟩
    · cases h
  · rintro ⟨h1, h2⟩
    exact ⟨a, h1, b, h2, by rw [if_pos rfl]⟩


theorem turn_l3 {F N m g ob a : Nat} {w2 x19 x20 x21 rv : Value} {adj : Nat → List Nat} (ok : GOk N adj) (ha : a < N) {h0 : H} (f0 : Fr m h0) (hr : RdI h0 rv (nats (adj a))) {E : Value → Value → Value → Value → Value → M Value} : ∀ j i k n (h : H) (O : Nat → Prop), i + j = (adj a).length → j < k → (∀ c, c < m → h.get c = h0.get c) → GB h g N (sl ob 0 N N) → OL h ob N O (fun b => nats (turnL adj a i b)) → ¬ O g → (∀ c, O c → m ≤ c) → g < n → m ≤ n → Fr n h →
    ∃ n' h' O', (graph_Turn_l3 F E k w2 (pt g 0) (i64 a) x19 x20 x21 rv (i64 (adj a).length) (i64 i)).run n h = (E w2 (pt g 0) x19 x20 x21).run n' h' ∧ GB h' g N (sl ob 0 N N) ∧ OL h' ob N O' (fun b => nats (turnL adj (a + 1) 0 b)) ∧ (∀ c, O' c → O c ∨ n ≤ c) ∧ Ev O n h n' h' := by
  have hN := ok.few
  have hs := ok.short a ha
  intro j
  induction j with
  | zero =>
    intro i k n h O hij hk hk0 hg hx hO hlO hgn hn f
    obtain ⟨k, rfl⟩ : ∃ j, k = j + 1 := ⟨k - 1, by omega⟩
    rw [graph_Turn_l3_s]
    unfold graph_Turn_b3 graph_Turn_r8
    simp only [st_lss, onB_ite, run_ite, decide_eq_true_eq]
    rw [if_neg (by omega)]
    have e : (fun b => nats (turnL adj a i b)) = fun b => nats (turnL adj (a + 1) 0 b) := by
      funext b; rw [turnL_row (by omega)]
    rw [e] at hx
    exact ⟨n, h, O, rfl, hg, hx, fun c hc => .inl hc, Ev.refl f⟩
  | succ j ih =>
    intro i k n h O hij hk hk0 hg hx hO hlO hgn hn f
    obtain ⟨k, rfl⟩ : ∃ j, k = j + 1 := ⟨k - 1, by omega⟩
    have hi : i < (adj a).length := by omega
    rw [graph_Turn_l3_s]
    unfold graph_Turn_b3 graph_Turn_r8
    simp only [st_lss, onB_ite, run_ite, decide_eq_true_eq]
    rw [if_pos (by omega)]
    unfold graph_Turn_r9
    try dsimp only
    have hr1 : RdI h rv (nats (adj a)) := hr.kept f0 hk0
    rw [hr1.getI (show i < (nats (adj a)).length by unfold nats; rw [List.length_map]; exact hi)]
    have e : (nats (adj a))[i]'(by unfold nats; rw [List.length_map]; exact hi) = (((adj a)[i] : Nat) : Int) := by simp [nats]
    rw [e]
    have hb := ok.lt a ha (adj a)[i] (List.getElem_mem hi)
    unfold graph_Turn_r10
    try dsimp only
    rw [st_field, Nat.zero_add, ld1 hg (by decide) rfl, hg.t]
    have hlen := turnL_len (b := (adj a)[i]) ok a i (by omega) (.inl ha)
    obtain ⟨h2, h3, q, e2, ev2, e3, x3, ev3⟩ := hx.app (J := (adj a)[i]) (y := 0) (z := (a : Int)) f hb (by unfold nats; rw [List.length_map]; omega)
    rw [show (Value.int .i64 0) = i64 0 from rfl, e2]
    have hg2 := hg.ev ev2 hgn hO
    rw [run_chk (cs := [i64 N, sl ob 0 N N]) hg2 (by decide) rfl (by simp [veq]), e3]
    unfold graph_Turn_r11
    try dsimp only
    rw [sx_add (by omega)]
    have el : (fun b => if b = (adj a)[i] then nats (turnL adj a i b) ++ [(a : Int)] else nats (turnL adj a i b)) = fun b => nats (turnL adj a (i + 1) b) := by
      funext b
      rw [turnL_next hi]
      split
      · unfold nats; rw [List.map_append]; rfl
      · rfl
    rw [el] at x3
    obtain ⟨n', h', O', q1, q2, q3, q4, q5⟩ := ih (i + 1) k (n + 2) h3 (fun c => O c ∨ c = n + 1) (by omega) (by omega) (fun c hc => by rw [ev3.keep c (by omega) fun hOc => by have := hlO c hOc; omega]; exact hk0 c hc) (hg.ev ev3 hgn hO) x3 (fun hq => hq.elim hO fun e => by omega) (fun c hc => hc.elim (hlO c) fun e => by omega) (by omega) (by omega) ev3.f
    refine ⟨n', h', O', q1, q2, q3, fun c hc => ?_, ev3.trans q5 fun c hc hq => hq.elim id fun e => by omega⟩
    rcases q4 c hc with (h1 | h1) | h1
    · exact .inl h1
    · exact .inr (by omega)
    · exact .inr (by omega)

theorem turn_l1 {F N m g ob : Nat} {w2 tv : Value} {adj : Nat → List Nat} (hF : 1000 < F) (ok : GOk N adj) {E : Value → Value → M Value} : ∀ j a k n (h : H) (O : Nat → Prop), a + j = N → j < k → Gr h m tv N adj → GB h g N (sl ob 0 N N) → OL h ob N O (fun b => nats (turnL adj a 0 b)) → ¬ O g → (∀ c, O c → m ≤ c) → g < n → m ≤ n → Fr n h →
    ∃ n' h' O', (graph_Turn_l1 F E k w2 (pt g 0) tv (i64 N) (i64 a)).run n h = (E w2 (pt g 0)).run n' h' ∧ GB h' g N (sl ob 0 N N) ∧ OL h' ob N O' (fun b => nats (turnL adj N 0 b)) ∧ (∀ c, O' c → O c ∨ n ≤ c) ∧ Ev O n h n' h' := by
  have hN := ok.few
  intro j
  induction j with
  | zero =>
    intro a k n h O hij hk gr hg hx hO hlO hgn hn f
    obtain ⟨k, rfl⟩ : ∃ j, k = j + 1 := ⟨k - 1, by omega⟩
    obtain rfl : a = N := by omega
    rw [graph_Turn_l1_s]
    unfold graph_Turn_b1 graph_Turn_r5
    simp only [st_lss, onB_ite, run_ite, decide_eq_true_eq]
    rw [if_neg (by omega)]
    exact ⟨n, h, O, rfl, hg, hx, fun c hc => .inl hc, Ev.refl f⟩
  | succ j ih =>
    intro a k n h O hij hk gr hg hx hO hlO hgn hn f
    obtain ⟨k, rfl⟩ : ∃ j, k = j + 1 := ⟨k - 1, by omega⟩
    have ha : a < N := by omega
    rw [graph_Turn_l1_s]
    unfold graph_Turn_b1 graph_Turn_r5
    simp only [st_lss, onB_ite, run_ite, decide_eq_true_eq]
    rw [if_pos (by omega)]
    unfold graph_Turn_r6
    try dsimp only
    obtain ⟨rv, e1, h0, f0, k0, hr⟩ := gr.row (β := Value) (n := n) ha
    rw [e1]
    unfold graph_Turn_r7
    try dsimp only
    have hr' : RdI h rv (nats (adj a)) := hr.kept f0 k0
    have hs := ok.short a ha
    obtain ⟨n1, h1, O1, e2, g1, x1, o1, ev1⟩ := turn_l3 (F := F) (w2 := w2) (x19 := tv) (x20 := i64 N) (x21 := i64 a) ok ha f0 hr (E := fun x2 x3 x19 x20 x21 => graph_Turn_k2 F (graph_Turn_l1 F E k) x2 x3 x19 x20 x21) (adj a).length 0 F n h O (by omega) (by omega) k0 hg hx hO hlO hgn hn f
    rw [hr'.lenI, show (nats (adj a)).length = (adj a).length by unfold nats; rw [List.length_map], show (Value.int .i64 0) = i64 ((0 : Nat) : Int) from rfl, e2]
    have l1 := ev1.le
    unfold graph_Turn_k2 graph_Turn_r12
    try dsimp only
    rw [sx_add (by omega)]
    have hlO1 : ∀ c, O1 c → m ≤ c := fun c hc => (o1 c hc).elim (hlO c) fun h => by omega
    obtain ⟨n', h', O', q1, q2, q3, q4, q5⟩ := ih (a + 1) k n1 h1 O1 (by omega) (by omega) (gr.ev ev1 hn hlO) g1 x1 (fun hq => (o1 g hq).elim hO fun h => by omega) hlO1 (by omega) (by omega) ev1.f
    refine ⟨n', h', O', q1, q2, q3, fun c hc => ?_, ev1.trans q5 fun c hc hq => (o1 c hq).elim id fun h => by omega⟩
    rcases q4 c hc with h3 | h3
    · exact o1 c h3
    · exact .inr (by omega)

theorem turn_spec {F n m N : Nat} {tv : Value} {adj : Nat → List Nat} {h : H} (hF : 1000 < F) (gr : Gr h m tv N adj) (hm : m ≤ n) (ok : GOk N adj) (f : Fr n h) :
    ∃ n' h' ob O, (graph_Turn F (gv N tv)).run n h = some (gv N (sl ob 0 N N), n', h') ∧ OL h' ob N O (fun b => nats (turnA N adj b)) ∧ (∀ c, O c → n ≤ c) ∧ Ev No n h n' h' := by
  have hN := ok.few
  unfold graph_Turn graph_Turn_r0
  try dsimp only
  obtain ⟨h1, e1, g1, ev1⟩ := GB.box (β := Value) (N := N) f gr.1
  rw [e1, run_ptr ev1.f (by rfl)]
  have ev2 := Ev.new ev1.f ⟨[i64 0, nsl], .own⟩
  have hret : (h1.set (n + 1) ⟨[i64 0, nsl], .own⟩).get (n + 1) = some ⟨[i64 0, nsl], .own⟩ := H.get_set_same _ _ _
  have g2 := g1.ev ev2 (by omega) (fun h => h)
  have gr2 := (gr.no ev1 hm).no ev2 (by omega)
  unfold graph_Turn_r1
  try dsimp only
  obtain ⟨n3, h3, e3, ev3⟩ := gmay_spec (F := F) hF gr2 (by omega) ok ev2.f
  have l3 := ev3.le
  rw [g2.all, run_bnd e3, st_not]
  simp only [onB_ite, run_ite]
  rw [if_neg (by decide)]
  have g3 := g2.ev ev3 (by omega) (fun h => h)
  have gr3 := gr2.no ev3 (by omega)
  have hret3 : h3.get (n + 1) = some ⟨[i64 0, nsl], .own⟩ := by rw [ev3.no (by omega)]; exact hret
  unfold graph_Turn_r3
  try dsimp only
  obtain ⟨h4, e4, x4, ev4⟩ := OL.make (β := Value) ev3.f (show N ≤ 100000 by omega)
  rw [g3.nn, g3.nn, e4, show (Value.int .i64 0) = i64 0 from rfl, opBuild_gr rfl, ret_bnd, run_ptr ev4.f (by rfl)]
  have ev5 := Ev.new ev4.f ⟨[i64 0, nsl], .own⟩
  obtain ⟨h6, e6, g6, ev6⟩ := GB.put (β := Value) (N := N) (tv := sl n3 0 N N) (H.get_set_same h4 (n3 + 1) ⟨[i64 0, nsl], .own⟩) rfl ev5.f rfl
  rw [e6]
  have ev36 : Ev No n3 h3 (n3 + 1 + 1) h6 := (ev4.trans ev5 fun _ _ h => h).trans ev6 fun c hc e => by omega
  have g36 := g3.ev ev36 (by omega) (fun h => h)
  have gr36 := gr3.no ev36 (by omega)
  have hret6 : h6.get (n + 1) = some ⟨[i64 0, nsl], .own⟩ := by rw [ev36.no (by omega)]; exact hret3
  have x6 : OL h6 n3 N (fun c => c = n3) (fun b => nats (turnL adj 0 0 b)) := by
    have e : (fun b => nats (turnL adj 0 0 b)) = fun _ => [] := by funext b; simp [turnL]
    rw [e]
    exact x4.keep fun c hc => by rw [ev6.keep c (by omega) (by omega), ev5.no (by omega)]
  unfold graph_Turn_r4
  try dsimp only
  obtain ⟨n7, h7, O7, e7, g7, x7, o7, ev7⟩ := turn_l1 (F := F) (w2 := pt (n + 1) 0) (tv := tv) hF ok (E := fun x2 x3 => graph_Turn_k0 F x2 x3) N 0 F (n3 + 1 + 1) h6 (fun c => c = n3) (by omega) (by omega) gr36 g6 x6 (by omega) (fun c hc => by omega) (by omega) (by omega) ev6.f
  rw [g36.t, gr36.len, show (Value.int .i64 0) = i64 ((0 : Nat) : Int) from rfl, e7]
  unfold graph_Turn_k0 graph_Turn_r13
  try dsimp only
  have l7 := ev7.le
  have hret7 : h7.get (n + 1) = some ⟨[i64 0, nsl], .own⟩ := by rw [ev7.keep _ (by omega) (by omega)]; exact hret6
  obtain ⟨h8, e8, g8, ev8⟩ := GB.put (β := Value) (N := N) (tv := sl n3 0 N N) hret7 rfl ev7.f rfl
  rw [g7.all, e8, g8.all]
  have o7' : ∀ c, O7 c → n3 ≤ c := fun c hc => (o7 c hc).elim (fun h => by omega) fun h => by omega
  have e : (fun b => nats (turnL adj N 0 b)) = fun b => nats (turnA N adj b) := rfl
  rw [e] at x7
  refine ⟨n7, h8, n3, O7, rfl, x7.keep fun c hc => ev8.keep c (x7.lt ev7.f hc) (by have := o7' c hc; omega), fun c hc => by have := o7' c hc; omega, ev8.f, by omega, fun c hc _ => ?_⟩
  rw [ev8.keep c (by omega) (by omega), ev7.keep c (by omega) (by omega), ev36.no (by omega), ev3.no (by omega), ev2.no (by omega), ev1.no hc]


/-- A search in depth on its way: the set of who is met, the list of who is left; O: their blocks. -/
def DS (h : H) (p : Nat) (v : Value) (O : Nat → Prop) (s : DSt) : Prop :=
  ∃ Os b, BS h p Os s.1 ∧ GlI h v b (nats s.2) ∧ (∀ c, Os c → O c) ∧ (s.2 ≠ [] → O b ∧ ¬ Os b)

theorem DS.keep {h h' : H} {p : Nat} {v : Value} {O : Nat → Prop} {s : DSt} (x : DS h p v O s) (hk : ∀ c, O c → h'.get c = h.get c) : DS h' p v O s := by
  obtain ⟨Os, b, x, g, h1, h2⟩ := x
  exact ⟨Os, b, x.keep fun c hc => hk c (h1 c hc), g.keep fun h0 => hk b (h2 (by rintro e; exact h0 (by rw [e]; rfl))).1, h1, h2⟩

theorem DS.add {F n p a : Nat} {h : H} {v : Value} {O : Nat → Prop} {s : DSt} (hF : 100 < F) (x : DS h p v O s) (hOn : ∀ c, O c → c < n) (f : Fr n h) (ha : a < 5000) :
    ∃ n' h' O', (bitset_Set_Add F (pt p 0) (i64 a)).run n h = some (bo (!s.1 a), n', h') ∧ DS h' p v O' (if s.1 a = true then s else (putM s.1 a, s.2)) ∧ (∀ c, O' c → (O c ∨ n ≤ c) ∧ c < n') ∧ Ev O n h n' h' := by
  obtain ⟨Os, b, x, g, h1, h2⟩ := x
  obtain ⟨n', h', Os', e, x', f', l, k, o⟩ := add_spec (F := F) x f (a : Int) hF
  have hc : canAdd s.1 (a : Int) = !s.1 a := by
    have h0 : decide ((0 : Int) ≤ (a : Int) ∧ (a : Int) < 5000) = true := decide_eq_true ⟨by omega, by omega⟩
    unfold canAdd; rw [h0, Bool.true_and]; rfl
  rw [hc] at e x'
  have hb : s.2 ≠ [] → b < n := fun h0 => g.lt f (by intro e; exact h0 (by simpa [nats] using e))
  refine ⟨n', h', fun c => O c ∨ Os' c, e, ⟨Os', b, ?_, ?_, fun c hc => .inr hc, ?_⟩, fun c hc => ⟨hc.elim .inl fun q => (o c q).imp (h1 c) id, hc.elim (fun q => by have := hOn c q; omega) fun q => x'.lt f' c q⟩, f', l, fun c hc hn => k c hc fun q => hn (h1 c q)⟩
  · cases hq : s.1 a with
    | true => rw [hq, Bool.not_true, if_neg (by decide)] at x'; rw [if_pos rfl]; exact x'
    | false => rw [hq, Bool.not_false, if_pos rfl] at x'; rw [if_neg (by decide)]; exact x'
  · have e2 : (if s.1 a = true then s else (putM s.1 a, s.2)).2 = s.2 := by split <;> rfl
    rw [e2]
    exact g.keep fun h0 => by
      have h0' : s.2 ≠ [] := by rintro e; exact h0 (by rw [e]; rfl)
      exact k b (hb h0') (h2 h0').2
  · intro h0
    have e2 : (if s.1 a = true then s else (putM s.1 a, s.2)).2 = s.2 := by split <;> rfl
    rw [e2] at h0
    refine ⟨.inl (h2 h0).1, fun q => ?_⟩
    rcases o b q with q | q
    · exact (h2 h0).2 q
    · have := hb h0; omega

theorem DS.push {n p a : Nat} {h : H} {v : Value} {O : Nat → Prop} {s : DSt} (x : DS h p v O s) (f : Fr n h) (hl : s.2.length < 100000) :
    ∃ h' v', (∀ k : Value → M Value, (bnd (opBuildSlice 1 (rep 1 [i64 0]) [(0, 1, false, i64 (a : Int))]) fun t => bnd (opAppend 1 8 v t) k).run n h = (k v').run (n + 2) h') ∧ DS h' p v' (fun c => O c ∨ c = n + 1) (s.1, s.2 ++ [a]) ∧ Ev O n h (n + 2) h' := by
  obtain ⟨Os, b, x, g, h1, h2⟩ := x
  obtain ⟨h', v', e, g', f', k⟩ := g.pushI (β := Value) (y := 0) (z := (a : Int)) f (by unfold nats; rw [List.length_map]; omega)
  have hk : ∀ c, c < n → ¬ (s.2 ≠ [] ∧ c = b) → h'.get c = h.get c := fun c hc hn => k c hc fun h0 e => hn ⟨by rintro q; exact h0 (by rw [q]; rfl), e⟩
  refine ⟨h', v', e, ⟨Os, n + 1, x.keep fun c hc => hk c (x.lt f c hc) fun q => (h2 q.1).2 (q.2 ▸ hc), by unfold nats; rw [List.map_append]; exact g', fun c hc => .inl (h1 c hc), fun _ => ⟨.inr rfl, fun q => by have := x.lt f _ q; omega⟩⟩, f', by omega, fun c hc hO => hk c hc fun q => hO (q.2 ▸ (h2 q.1).1)⟩

theorem nodup_len {N : Nat} : ∀ {l : List Nat}, l.Nodup → (∀ m, m ∈ l → m < N) → l.length ≤ N := by
  induction N with
  | zero =>
    intro l _ h
    match l with
    | [] => exact Nat.le_refl _
    | a :: l => exact absurd (h a List.mem_cons_self) (Nat.not_lt_zero _)
  | succ N ih =>
    intro l hn hl
    have h1 := ih (l := l.filter (· ≠ N)) (List.Pairwise.filter _ hn) fun m hm => by
      rw [List.mem_filter] at hm
      have := hl m hm.1
      have h2 : m ≠ N := by simpa using hm.2
      omega
    have h2 : l.length ≤ (l.filter (· ≠ N)).length + 1 := by
      clear h1 hl ih
      induction l with
      | nil => simp
      | cons a l ih2 =>
        rw [List.nodup_cons] at hn
        by_cases e : a = N
        · subst e
          rw [List.filter_cons_of_neg (by simp)]
          have : l.filter (fun x => decide (x ≠ a)) = l := by
            rw [List.filter_eq_self]
            intro x hx
            simp only [decide_eq_true_eq]
            rintro rfl; exact hn.1 hx
          rw [this]; simp
        · rw [List.filter_cons_of_pos (by simpa using e), List.length_cons, List.length_cons]
          have := ih2 hn.2; omega
    omega

section
variable {adj : Nat → List Nat} {N root : Nat} {o : List Nat} {place : Nat → Nat}

/-- What the meeting of the first i of those that lead to one comes to. -/
def Acc (adj : Nat → List Nat) (root : Nat) (up : Nat → Int) (row : List Nat) (acc : Int) : Prop :=
  (acc = -1 ∧ ∀ b, b ∈ row → up b = -1) ∨ ∃ m : Nat, acc = (m : Int) ∧ up m ≠ -1 ∧ (∀ b, b ∈ row → up b ≠ -1 → Anc up b m) ∧ ∀ d, (∀ b, b ∈ row → up b ≠ -1 → Dom adj root d b) → Dom adj root d m

theorem Acc.best {up : Nat → Int} (P : Pl adj N root o place) (I : Inv adj root o place up) (ok : GOk N adj) {a : Nat} (ha : a ∈ o) (hr : a ≠ root) (hset : ∀ y, y ∈ o → place y < place a → up y ≠ -1) {acc : Int} (h : Acc adj root up (turnA N adj a) acc) : ∃ m : Nat, acc = (m : Int) ∧ Best adj root up a m := by
  obtain ⟨y, y1, y2, y3⟩ := P.par ha hr
  rcases h with ⟨_, h2⟩ | ⟨m, h1, h2, h3, h4⟩
  · exact absurd (h2 y (turnA_mem.2 ⟨P.ord.lt y y1, y3⟩)) (hset y y1 y2)
  · exact ⟨m, h1, fun b hb e hs => h3 b (turnA_mem.2 ⟨P.ord.lt b (I.mem hs), e⟩) hs, fun d hd => h4 d fun b hb hs => hd b ((P.ord.mem b).1 (I.mem hs)) (turnA_mem.1 hb).2 hs⟩

/-- The state on the way through a pass. -/
structure Pass (adj : Nat → List Nat) (N root : Nat) (o : List Nat) (place : Nat → Nat) (k : Nat) (up0 up : Nat → Int) (t : Nat) (ch : Bool) : Prop where
  inv : Inv adj root o place up
  ck : CK adj place root up k
  cp : ∀ c d, c ∈ o → place c < t → Anc up c d → ¬ RW adj place root d (k + 1) c
  set : ∀ y, y ∈ o → place y < t → up y ≠ -1
  all : k = 0 ∨ ∀ y, y ∈ o → up y ≠ -1
  same : ch = false → up = up0 ∧ ∀ a, a ∈ o → a ≠ root → place a < t → ∃ m : Nat, up a = (m : Int) ∧ Best adj root up a m
  late : N + 1 ≤ k → ch = false

theorem Pass.next {k : Nat} {up0 up : Nat → Int} {ch : Bool} {a m : Nat} (P : Pl adj N root o place) (p : Pass adj N root o place k up0 up (place a) ch) (ha : a ∈ o) (hr : a ≠ root) (B : Best adj root up a m) :
    Pass adj N root o place k up0 (updI up a m) (place a + 1) (ch || up a != (m : Int)) := by
  obtain ⟨i1, i2, i3⟩ := p.inv.next P ha hr p.set B
  obtain ⟨c1, c2⟩ := p.ck.next P p.inv ha hr p.set p.all B p.cp
  have hset : ∀ y, up y ≠ -1 → updI up a m y ≠ -1 := fun y hy => by
    show (if y = a then (m : Int) else up y) ≠ -1
    split
    · omega
    · exact hy
  have hsame : up a = (m : Int) → updI up a m = up := fun e => by
    funext y
    show (if y = a then (m : Int) else up y) = up y
    split
    · rename_i e2; rw [e2, e]
    · rfl
  refine ⟨i1, c1, c2, fun y hy hp => ?_, p.all.imp id fun q y hy => hset y (q y hy), fun hch => ?_, fun hk => ?_⟩
  · by_cases e : y = a
    · show (if y = a then (m : Int) else up y) ≠ -1
      rw [if_pos e]; omega
    · refine hset y (p.set y hy ?_)
      rcases Nat.lt_or_ge (place y) (place a) with h1 | h1
      · exact h1
      · exact absurd (P.inj hy ha (by omega)) e
  · rw [Bool.or_eq_false_iff] at hch
    have e : up a = (m : Int) := by simpa using hch.2
    obtain ⟨e1, e2⟩ := p.same hch.1
    rw [hsame e]
    refine ⟨e1, fun c hc hcr hcp => ?_⟩
    by_cases e3 : c = a
    · subst e3; exact ⟨m, e, B⟩
    · refine e2 c hc hcr ?_
      rcases Nat.lt_or_ge (place c) (place a) with h1 | h1
      · exact h1
      · exact absurd (P.inj hc ha (by omega)) e3
  · have hall : ∀ y, y ∈ o → up y ≠ -1 := p.all.resolve_left (by omega)
    have e := CK.stable P p.inv hk hall ha hr B p.ck
    rw [p.late hk, e]; simp

end


section
variable {adj : Nat → List Nat} {N root : Nat} {o : List Nat}

end

abbrev GqI (h : H) (v : Value) (b : Nat) (l : List Nat) : Prop := Gq h v b ((nats l).map i64)

theorem allN {l : List Nat} : ((nats l).map i64).all one = true := allI

theorem Gq.pushN {n b a : Nat} {h : H} {v : Value} {y : Int} {l : List Nat} (g : GqI h v b l) (f : Fr n h) (hl : l.length < 100000000) :
    ∃ h' v', (∀ k : Value → M Value, (bnd (opBuildSlice 1 (rep 1 [i64 y]) [(0, 1, false, i64 (a : Int))]) fun t => bnd (opAppend 1 8 v t) k).run n h = (k v').run (n + 2) h') ∧ GqI h' v' (n + 1) (l ++ [a]) ∧ Fr (n + 2) h' ∧ ∀ c, c < n → (v ≠ nsl → c ≠ b) → h'.get c = h.get c := by
  obtain ⟨h', v', e, g', f', k⟩ := Gq.push (y := i64 y) (x := i64 (a : Int)) g f rfl allN (by simpa [nats] using hl)
  exact ⟨h', v', e, by unfold GqI nats; rw [List.map_append, List.map_append]; exact g', f', k⟩

/-- The state on the way: the table of who is seen, the list of who waits; lo: where the call's own blocks begin. -/
structure Rs (h : H) (lo bs N : Nat) (v : Value) (seen : Nat → Bool) (l : List Nat) : Prop where
  tab : TB h bs N seen
  low : lo ≤ bs
  que : ∃ b, GqI h v b l ∧ (v ≠ nsl → lo ≤ b ∧ b ≠ bs)

theorem Rs.len {β : Type} {h : H} {lo bs N : Nat} {v : Value} {seen : Nat → Bool} {l : List Nat} (x : Rs h lo bs N v seen l) {k : Value → M β} : bnd (opLen v) k = k (i64 l.length) := by
  obtain ⟨b, g, _⟩ := x.que
  have : RdI h v (nats l) := g.rd
  rw [this.lenI, show (nats l).length = l.length by unfold nats; rw [List.length_map]]

theorem Rs.mark {h : H} {n lo bs N a : Nat} {v : Value} {seen : Nat → Bool} {l : List Nat} (x : Rs h lo bs N v seen l) (f : Fr n h) (ha : a < N) (hlo : lo ≤ n) (hl : l.length < 100000) :
    ∃ h1 h2 v', (∀ k : Value → M Value, (bnd (opIndexAddr 1 (sl bs 0 N N) (i64 a)) fun p => bnd (opStore p (bo true)) k).run n h = (k undef).run n h1) ∧
      (∀ k : Value → M Value, (bnd (opBuildSlice 1 (rep 1 [i64 0]) [(0, 1, false, i64 (a : Int))]) fun t => bnd (opAppend 1 8 v t) k).run n h1 = (k v').run (n + 2) h2) ∧ Rs h2 lo bs N v' (upd seen a true) (l ++ [a]) ∧ Ev (fun c => lo ≤ c) n h (n + 2) h2 := by
  obtain ⟨b, g, hb⟩ := x.que
  obtain ⟨h1, e1, t1, ev1⟩ := TB.set (β := Value) x.tab f ha (z := true)
  have hbs := TV.lt x.tab f
  have g1 : GqI h1 v b l := by
    rcases g with g | g
    · exact .inl g
    · have hv : v ≠ nsl := by obtain ⟨o, xs, kd, c, rfl, _⟩ := g; intro e; cases e
      exact Gq.keep (.inr g) fun hs => ev1.keep b (by
        rcases Nat.lt_or_ge b n with h3 | h3
        · exact h3
        · rw [f b h3] at hs; cases hs) (hb hv).2
  obtain ⟨h2, v', e2, g2, f2, k2⟩ := g1.pushN (a := a) (y := 0) ev1.f (by omega)
  have low := x.low
  refine ⟨h1, h2, v', e1, e2, ⟨t1.keep (k2 bs hbs fun hv => (hb hv).2.symm), x.low, n + 1, g2, fun _ => ⟨by omega, by omega⟩⟩, f2, by omega, fun c hc hlo' => ?_⟩
  rw [k2 c hc fun hv => by have := (hb hv).1; omega, ev1.keep c hc (by omega)]

section
variable {adj : Nat → List Nat} {N root : Nat} {o : List Nat} {place : Nat → Nat} {up : Nat → Int}

/-! ## Depth -/

/-- So many steps up to the root. -/
inductive Stp (up : Nat → Int) (root : Nat) : Nat → Nat → Prop
  | zero : Stp up root root 0
  | succ {a b k : Nat} : a ≠ root → up a = (b : Int) → Stp up root b k → Stp up root a (k + 1)

theorem Stp.uniq {a k l : Nat} (h1 : Stp up root a k) (h2 : Stp up root a l) : k = l := by
  induction h1 generalizing l with
  | zero =>
    cases h2 with
    | zero => rfl
    | succ h _ _ => exact absurd rfl h
  | succ h1 e1 _ ih =>
    cases h2 with
    | zero => exact absurd rfl h1
    | succ _ e2 h3 =>
      rw [e1] at e2
      have := Int.ofNat.inj e2
      subst this
      rw [ih h3]

end

/-! ## haruspexref1.Above -/

/-- A graph that is made, put into a variable. -/
structure MadeAt (n0 n : Nat) (h : H) (g N : Nat) (tv : Value) (O : Nat → Prop) (ob : Nat) (adj : Nat → List Nat) : Prop where
  var : GB h g N tv
  tv : tv = sl ob 0 N N
  rows : OL h ob N O (fun a => nats (adj a))
  low : ∀ c, O c → n0 ≤ c
  off : ¬ O g
  glow : n0 ≤ g
  glt : g < n
  ok : GOk N adj
  pos : 1 ≤ N
  few : N ≤ 25
  short : ∀ a, (adj a).length ≤ 80

theorem MadeAt.gr {n0 n : Nat} {h : H} {g N : Nat} {tv : Value} {O : Nat → Prop} {ob : Nat} {adj : Nat → List Nat} (x : MadeAt n0 n h g N tv O ob adj) (f : Fr n h) : Gr h n tv N adj := by
  rw [x.tv]; exact x.rows.gr f fun _ _ => rfl

section
variable {adj : Nat → List Nat} {N : Nat} {o : List Nat} {place : Nat → Nat} {up : Nat → Int}

end


/-- The state on the way: how far, who waits. -/
structure Qs (h : H) (lo bf N : Nat) (v : Value) (far : Nat → Nat) (Q : List Nat) : Prop where
  tab : TI h bf N fun i => (far i : Int)
  que : ∃ b, GqI h v b Q ∧ (v ≠ nsl → lo ≤ b ∧ b ≠ bf)

theorem Qs.rd {h : H} {lo bf N : Nat} {v : Value} {far : Nat → Nat} {Q : List Nat} (x : Qs h lo bf N v far Q) : RdI h v (nats Q) := by
  obtain ⟨b, g, _⟩ := x.que; exact g.rd

theorem Qs.mark {h : H} {n lo bf N a c : Nat} {v : Value} {far : Nat → Nat} {Q : List Nat} (x : Qs h lo bf N v far Q) (f : Fr n h) (ha : a < N) (hlo : lo ≤ n) (hbf : bf < lo) (hl : Q.length < 100000) :
    ∃ h1 h2 v', (∀ k : Value → M Value, (bnd (opIndexAddr 1 (sl bf 0 N N) (i64 a)) fun p => bnd (opStore p (i64 (c : Int))) k).run n h = (k undef).run n h1) ∧
      (∀ k : Value → M Value, (bnd (opBuildSlice 1 (rep 1 [i64 0]) [(0, 1, false, i64 (a : Int))]) fun t => bnd (opAppend 1 8 v t) k).run n h1 = (k v').run (n + 2) h2) ∧ Qs h2 lo bf N v' (upd far a c) (Q ++ [a]) ∧ Ev (fun c => c = bf ∨ lo ≤ c) n h (n + 2) h2 := by
  obtain ⟨b, g, hb⟩ := x.que
  obtain ⟨h1, e1, t1, ev1⟩ := TI.set (β := Value) x.tab f ha (z := (c : Int))
  have g1 : GqI h1 v b Q := by
    rcases g with g | g
    · exact .inl g
    · have hv : v ≠ nsl := by obtain ⟨o, xs, kd, c, rfl, _⟩ := g; intro e; cases e
      exact Gq.keep (.inr g) fun hs => ev1.keep b (by
        rcases Nat.lt_or_ge b n with h3 | h3
        · exact h3
        · rw [f b h3] at hs; cases hs) (hb hv).2
  obtain ⟨h2, v', e2, g2, f2, k2⟩ := g1.pushN (a := a) (y := 0) ev1.f (by omega)
  have et : upd (fun i => (far i : Int)) a (c : Int) = fun i => ((upd far a c i : Nat) : Int) := by
    funext i; unfold upd; split <;> rfl
  rw [et] at t1
  refine ⟨h1, h2, v', e1, e2, ⟨t1.keep (k2 bf (by omega) fun hv => (hb hv).2.symm), n + 1, g2, fun _ => ⟨by omega, by omega⟩⟩, f2, by omega, fun c hc hn => ?_⟩
  rw [k2 c hc fun hv => by have := (hb hv).1; omega, ev1.keep c hc (by omega)]

section
variable {adj : Nat → List Nat} {N t : Nat}

theorem path_l8 {F bf lo b D : Nat} {x1 x2 x3 x8 rv : Value} {Q0 : List Nat} {O : Nat → Prop} {hB : H} (hN : N ≤ 600) (hb : b < N) (hbf : bf < lo) (hO : ∀ c, O c → c ≠ bf ∧ c < lo) (hr : ∀ h' : H, (∀ c, O c → h'.get c = hB.get c) → RdI h' rv (nats (turnA N adj b))) (hs : (turnA N adj b).length ≤ 700000) {E : Value → Value → Value → Value → Value → Value → M Value} : ∀ j i k n (h : H) v (far : Nat → Nat) Q1, i + j = (turnA N adj b).length → j < k → (∀ c, O c → h.get c = hB.get c) → Qs h lo bf N v far (b :: Q0 ++ Q1) → Bw adj N t far (b :: Q0) Q1 D (fun _ => False) → (b :: Q0 ++ Q1).length + cnt N (fun i => far i != 0) ≤ 2000 → (∀ a, a ∈ (turnA N adj b).take i → far a ≠ 0) → D + (if Q1 = [] then 0 else 1) + cnt N (fun i => far i != 0) + 1 ≤ N → (∀ q, far q ≤ D + 2) → lo ≤ n → Fr n h →
    ∃ n' h' v' far' Q1', (graph_Path_l8 F E k x1 x2 x3 (sl bf 0 N N) x8 v rv (i64 (turnA N adj b).length) (i64 (i : Nat))).run n h = (E x1 x2 x3 (sl bf 0 N N) x8 v').run n' h' ∧ Qs h' lo bf N v' far' (b :: Q0 ++ Q1') ∧ Bw adj N t far' (b :: Q0) Q1' D (fun _ => False) ∧ (b :: Q0 ++ Q1').length + cnt N (fun i => far' i != 0) ≤ (b :: Q0 ++ Q1).length + cnt N (fun i => far i != 0) ∧ (∀ a, a ∈ turnA N adj b → far' a ≠ 0) ∧ (∀ a, far a ≠ 0 → far' a ≠ 0) ∧ D + (if Q1' = [] then 0 else 1) + cnt N (fun i => far' i != 0) + 1 ≤ N ∧ (∀ q, far' q ≤ D + 2) ∧ Ev (fun c => c = bf ∨ lo ≤ c) n h n' h' := by
  intro j
  induction j with
  | zero =>
    intro i k n h v far Q1 hij hk hOB x B hsz hdone hD hbd hn f
    obtain ⟨k, rfl⟩ : ∃ j, k = j + 1 := ⟨k - 1, by omega⟩
    rw [graph_Path_l8_s]
    unfold graph_Path_b8 graph_Path_r10
    try dsimp only
    rw [st_lss]
    simp only [onB_ite, run_ite, decide_eq_true_eq]
    rw [if_neg (by omega)]
    rw [List.take_of_length_le (by omega)] at hdone
    exact ⟨n, h, v, far, Q1, rfl, x, B, Nat.le_refl _, hdone, fun _ h => h, hD, hbd, Ev.refl f⟩
  | succ j ih =>
    intro i k n h v far Q1 hij hk hOB x B hsz hdone hD hbd hn f
    obtain ⟨k, rfl⟩ : ∃ j, k = j + 1 := ⟨k - 1, by omega⟩
    have hi : i < (turnA N adj b).length := by omega
    rw [graph_Path_l8_s]
    unfold graph_Path_b8 graph_Path_r10
    try dsimp only
    rw [st_lss]
    simp only [onB_ite, run_ite, decide_eq_true_eq]
    rw [if_pos (by omega)]
    unfold graph_Path_r11
    try dsimp only
    have hr1 := hr h hOB
    have hil : i < (nats (turnA N adj b)).length := by unfold nats; rw [List.length_map]; exact hi
    rw [hr1.getI hil]
    have e : (nats (turnA N adj b))[i]'hil = (((turnA N adj b)[i] : Nat) : Int) := by simp [nats]
    rw [e]
    have hmem : (turnA N adj b)[i] ∈ turnA N adj b := List.getElem_mem hi
    have etake : (turnA N adj b).take (i + 1) = (turnA N adj b).take i ++ [(turnA N adj b)[i]] := List.take_succ_eq_append_getElem hi
    generalize (turnA N adj b)[i] = a at *
    obtain ⟨haN, hae⟩ := turnA_mem.1 hmem
    unfold graph_Path_r12
    try dsimp only
    rw [TI.get x.tab haN, st_eql]
    simp only [onB_ite, run_ite, beq_iff_eq]
    by_cases h0 : far a = 0
    · rw [if_pos (by omega)]
      have hfb := B.q0 b List.mem_cons_self
      have hbl := (B.exact_ b D hfb).2
      have rq := x.rd
      have r0 : 0 < (nats (b :: Q0 ++ Q1)).length := by simp [nats]
      have e0 : (nats (b :: Q0 ++ Q1))[0]'r0 = (b : Int) := rfl
      unfold graph_Path_r13
      try dsimp only
      rw [show (Value.int .i64 0) = i64 ((0 : Nat) : Int) from rfl, rq.getI r0, e0, TI.get x.tab hb, hfb, sx_add (by omega), show ((D + 1 : Nat) : Int) + 1 = ((D + 2 : Nat) : Int) by omega]
      have hlen : (b :: Q0 ++ Q1).length < 100000 := by omega
      obtain ⟨h1, h2, v2, q1, q2, x2', ev2⟩ := x.mark (c := D + 2) f haN hn hbf hlen
      rw [q1]
      unfold graph_Path_r14
      try dsimp only
      rw [show (Value.int .i64 0) = i64 0 from rfl, q2]
      unfold graph_Path_k9 graph_Path_r15
      try dsimp only
      rw [sx_add (by omega)]
      have B2 := B.mark hfb haN hae h0
      have hcnt : cnt N (fun i => upd far a (D + 2) i != 0) + 1 = cnt N (fun i => far i != 0) := by
        have h3 := cnt_put (s := fun i => far i != 0) (a := a) (by rw [h0]; rfl) N
        rw [if_pos haN] at h3
        have e3 : (fun i => upd far a (D + 2) i != 0) = putM (fun i => far i != 0) a := by
          funext q; unfold upd putM
          by_cases e4 : q = a
          · rw [if_pos e4, decide_eq_true e4, Bool.or_true]; rfl
          · rw [if_neg e4, decide_eq_false e4, Bool.or_false]
        rw [e3]; exact h3
      have hmono : ∀ q, far q ≠ 0 → upd far a (D + 2) q ≠ 0 := fun q hq => by
        unfold upd; split
        · omega
        · exact hq
      have el : b :: Q0 ++ Q1 ++ [a] = b :: Q0 ++ (Q1 ++ [a]) := List.append_assoc _ _ _
      rw [el] at x2'
      have hl2 : (b :: Q0 ++ (Q1 ++ [a])).length = (b :: Q0 ++ Q1).length + 1 := by rw [← el, List.length_append, List.length_singleton]
      obtain ⟨n', h', v', far', Q1', r1, r2, r3, r4, r5, r6, r7, r8, r9⟩ := ih (i + 1) k (n + 2) h2 v2 (upd far a (D + 2)) (Q1 ++ [a]) (by omega) (by omega) (fun c hc => by rw [ev2.keep c (by have := (hO c hc).2; omega) (by have := hO c hc; omega)]; exact hOB c hc) x2' B2 (by omega) (fun q hq => by
        rw [etake, List.mem_append, List.mem_singleton] at hq
        rcases hq with hq | rfl
        · exact hmono q (hdone q hq)
        · rw [upd_same]; omega) (by
        rw [if_neg (by simp)]
        have h5 : (if Q1 = [] then 0 else 1) ≤ 1 := by split <;> omega
        omega) (fun q => by
        unfold upd; split
        · omega
        · exact hbd q) (by omega) ev2.f
      exact ⟨n', h', v', far', Q1', r1, r2, r3, by omega, r5, fun q hq => r6 q (hmono q hq), r7, r8, ev2.trans r9 fun _ _ h => h⟩
    · rw [if_neg (by omega)]
      unfold graph_Path_k9 graph_Path_r15
      try dsimp only
      rw [sx_add (by omega)]
      refine ih (i + 1) k n h v far Q1 (by omega) (by omega) hOB x B hsz (fun q hq => ?_) hD hbd hn f
      rw [etake, List.mem_append, List.mem_singleton] at hq
      rcases hq with hq | rfl
      · exact hdone q hq
      · exact h0

theorem path_l6 {F bf lo g2 ob : Nat} {x1 x2 x3 : Value} {O : Nat → Prop} {hB : H} (hF : 1000000 ≤ F) (ok : GOk N adj) (hbf : bf < lo) (hO : ∀ c, O c → c ≠ bf ∧ c < lo) (hg2 : g2 ≠ bf ∧ g2 < lo) (gB : GB hB g2 N (sl ob 0 N N)) (xB : OL hB ob N O (fun b => nats (turnA N adj b))) {E : Value → Value → Value → Value → M Value} : ∀ j k n (h : H) v (far : Nat → Nat) Q0 Q1 D, (Q0 ++ Q1).length + cnt N (fun i => far i != 0) ≤ j → j < k → j ≤ 2000 → (∀ c, O c → h.get c = hB.get c) → h.get g2 = hB.get g2 → Qs h lo bf N v far (Q0 ++ Q1) → Bw adj N t far Q0 Q1 D (fun _ => False) → far t ≠ 0 → D + (if Q1 = [] then 0 else 1) + cnt N (fun i => far i != 0) + 1 ≤ N → (∀ q, far q ≤ D + 2) → lo ≤ n → Fr n h →
    ∃ n' h' far', (graph_Path_l6 F E k x1 x2 x3 (sl bf 0 N N) (pt g2 0) v).run n h = (E x1 x2 x3 (sl bf 0 N N)).run n' h' ∧ TI h' bf N (fun i => ((far' : Nat → Nat) i : Int)) ∧ (∀ a, a < N → ∀ k, far' a = k + 1 ↔ Dst adj t a k) ∧ (∀ q, far' q ≤ N + 2) ∧ Ev (fun c => c = bf ∨ lo ≤ c) n h n' h' := by
  have hN := ok.few
  intro j
  induction j with
  | zero =>
    intro k n h v far Q0 Q1 D hj hk hj2 hOB hgB x B ht hD hbd hn f
    obtain ⟨k, rfl⟩ : ∃ j, k = j + 1 := ⟨k - 1, by omega⟩
    have hq : Q0 ++ Q1 = [] := List.eq_nil_of_length_eq_zero (by omega)
    obtain ⟨rfl, rfl⟩ := List.append_eq_nil_iff.1 hq
    rw [graph_Path_l6_s]
    unfold graph_Path_b6 graph_Path_r7
    try dsimp only
    rw [x.rd.lenI, st_gtr]
    simp only [onB_ite, run_ite, decide_eq_true_eq]
    rw [if_neg (by decide)]
    exact ⟨n, h, far, rfl, x.tab, fun a ha k => B.done ok.lt ht ha k, fun q => by have := hbd q; omega, Ev.refl f⟩
  | succ j ih =>
    -- one who waits in front
    have main : ∀ k n (h : H) v (far : Nat → Nat) b Q0 Q1 D, (b :: Q0 ++ Q1).length + cnt N (fun i => far i != 0) ≤ j + 1 → j < k → j + 1 ≤ 2000 → (∀ c, O c → h.get c = hB.get c) → h.get g2 = hB.get g2 → Qs h lo bf N v far (b :: Q0 ++ Q1) → Bw adj N t far (b :: Q0) Q1 D (fun _ => False) → far t ≠ 0 → D + (if Q1 = [] then 0 else 1) + cnt N (fun i => far i != 0) + 1 ≤ N → (∀ q, far q ≤ D + 2) → lo ≤ n → Fr n h →
        ∃ n' h' far', (graph_Path_l6 F E (k + 1) x1 x2 x3 (sl bf 0 N N) (pt g2 0) v).run n h = (E x1 x2 x3 (sl bf 0 N N)).run n' h' ∧ TI h' bf N (fun i => ((far' : Nat → Nat) i : Int)) ∧ (∀ a, a < N → ∀ k, far' a = k + 1 ↔ Dst adj t a k) ∧ (∀ q, far' q ≤ N + 2) ∧ Ev (fun c => c = bf ∨ lo ≤ c) n h n' h' := by
      intro k n h v far b Q0 Q1 D hj hk hj2 hOB hgB x B ht hD hbd hn f
      have hfb := B.q0 b List.mem_cons_self
      have hbN := (B.exact_ b D hfb).2
      have hlen : (nats (b :: Q0 ++ Q1)).length = (b :: Q0 ++ Q1).length := by unfold nats; rw [List.length_map]
      have hpos : 0 < (b :: Q0 ++ Q1).length := by simp
      rw [graph_Path_l6_s]
      unfold graph_Path_b6 graph_Path_r7
      try dsimp only
      rw [x.rd.lenI, st_gtr]
      simp only [onB_ite, run_ite, decide_eq_true_eq]
      rw [if_pos (by omega)]
      unfold graph_Path_r9
      try dsimp only
      have gh : GB h g2 N (sl ob 0 N N) := by unfold GB; rw [hgB]; exact gB
      have xh := xB.keep hOB
      obtain ⟨rv, e1, hr⟩ := xh.row' (β := Value) (n := n) hbN
      have r0 : 0 < (nats (b :: Q0 ++ Q1)).length := by omega
      have e0 : (nats (b :: Q0 ++ Q1))[0]'r0 = (b : Int) := rfl
      have hs : (turnA N adj b).length ≤ 700000 := by
        have := turnL_len (b := b) ok N 0 (Nat.le_refl _) (.inr rfl)
        unfold turnA; omega
      have hrh := hr h fun _ _ => rfl
      rw [gh.t, show (Value.int .i64 0) = i64 ((0 : Nat) : Int) from rfl, x.rd.getI r0, e0, e1, hrh.lenI, show (nats (turnA N adj b)).length = (turnA N adj b).length by unfold nats; rw [List.length_map]]
      obtain ⟨n2, h2, v2, far2, Q12, q1, q2, q3, q4, q5, q6, q7, q9, q8⟩ := path_l8 (F := F) (t := t) (x1 := x1) (x2 := x2) (x3 := x3) (x8 := pt g2 0) (Q0 := Q0) (D := D) hN hbN hbf hO hr hs (E := fun x1 x2 x3 x7 x8 x9 => graph_Path_k7 F (graph_Path_l6 F E k) x1 x2 x3 x7 x8 x9) (turnA N adj b).length 0 F n h v far Q1 (by omega) (by omega) (fun _ _ => rfl) x B (by omega) (fun a ha => by rw [List.take_zero] at ha; cases ha) hD hbd hn f
      rw [q1]
      unfold graph_Path_k7 graph_Path_r8
      try dsimp only
      obtain ⟨bq, g, hbq⟩ := q2.que
      have g' : Gq h2 v2 bq (i64 (b : Int) :: (nats (Q0 ++ Q12)).map i64) := g
      obtain ⟨v3, e3, g3⟩ := g'.tail (β := Value)
      rw [e3]
      have hv2 : v2 ≠ nsl := by
        rintro rfl
        rcases g' with ⟨q, _⟩ | ⟨_, _, _, _, q, _⟩ <;> cases q
      have x3' : Qs h2 lo bf N v3 far2 (Q0 ++ Q12) := ⟨q2.tab, bq, g3, fun _ => hbq hv2⟩
      have B3 : Bw adj N t far2 Q0 Q12 D (fun _ => False) := ⟨q3.exact_, q3.compl, fun c hc => by
        rcases q3.cl c hc with h1 | h1 | h1
        · rw [List.cons_append, List.mem_cons] at h1
          rcases h1 with rfl | h1
          · exact .inr (.inr fun a ha he => q5 a (turnA_mem.2 ⟨ha, he⟩))
          · exact .inl h1
        · exact h1.elim
        · exact .inr (.inr h1), fun c hc => q3.q0 c (List.mem_cons_of_mem _ hc), q3.q1⟩
      have hO2 : ∀ c, O c → h2.get c = hB.get c := fun c hc => by
        rw [q8.keep c (by have := (hO c hc).2; omega) (by have := hO c hc; omega)]; exact hOB c hc
      have hg2' : h2.get g2 = hB.get g2 := by rw [q8.keep g2 (by omega) (by omega)]; exact hgB
      rw [List.cons_append, List.length_cons] at q4 hj
      obtain ⟨n', h', far', r1, r2, r3, r5, r4⟩ := ih k n2 h2 v3 far2 Q0 Q12 D (by rw [List.cons_append, List.length_cons] at q4; omega) hk (by omega) hO2 hg2' x3' B3 (q6 t ht) q7 q9 (by have := q8.le; omega) q8.f
      exact ⟨n', h', far', r1, r2, r3, r5, q8.trans r4 fun _ _ h => h⟩
    intro k n h v far Q0 Q1 D hj hk hj2 hOB hgB x B ht hD hbd hn f
    obtain ⟨k, rfl⟩ : ∃ j, k = j + 1 := ⟨k - 1, by omega⟩
    match Q0, Q1 with
    | b :: Q0, Q1 => exact main k n h v far b Q0 Q1 D hj (by omega) hj2 hOB hgB x B ht hD hbd hn f
    | [], b :: Q1 =>
      have Bs := B.shift ok.lt
      rw [if_neg (by simp)] at hD
      exact main k n h v far b Q1 [] (D + 1) (by simpa using hj) (by omega) hj2 hOB hgB (by simpa using x) Bs ht (by rw [if_pos rfl]; omega) (fun q => by have := hbd q; omega) hn f
    | [], [] =>
      rw [graph_Path_l6_s]
      unfold graph_Path_b6 graph_Path_r7
      try dsimp only
      rw [x.rd.lenI, st_gtr]
      simp only [onB_ite, run_ite, decide_eq_true_eq]
      rw [if_neg (by decide)]
      exact ⟨n, h, far, rfl, x.tab, fun a ha k => B.done ok.lt ht ha k, fun q => by have := hbd q; omega, Ev.refl f⟩
end


section
variable {adj : Nat → List Nat} {N t : Nat}

/-- far is how far it is, and one; nought: no way leads there. -/
def FarOf (adj : Nat → List Nat) (N t : Nat) (far : Nat → Nat) : Prop := ∀ a, a < N → ∀ k, far a = k + 1 ↔ Dst adj t a k

/-- The least one so far of those that are nearer. -/
def Lst (far : Nat → Nat) (row : List Nat) (a : Nat) (best : Int) : Prop :=
  (best = -1 ∧ ∀ c, c ∈ row → ¬ (far c + 1 = far a ∧ far c ≠ 0)) ∨ ∃ b : Nat, best = (b : Int) ∧ b ∈ row ∧ far b + 1 = far a ∧ far b ≠ 0 ∧ ∀ c, c ∈ row → far c + 1 = far a → far c ≠ 0 → b ≤ c

theorem path_l3 {F bf n a : Nat} {x2 x3 x12 rv : Value} {h : H} {far : Nat → Nat} {row : List Nat} (tf : TI h bf N fun i => (far i : Int)) (ha : a < N) (hr : RdI h rv (nats row)) (hrow : ∀ c, c ∈ row → c < N) (hs : row.length ≤ 1000) (hfar : ∀ c, c < N → far c ≤ 100000) {E : Value → Value → Value → Value → Value → M Value} : ∀ j i k best, i + j = row.length → j < k → Lst far (row.take i) a best →
    ∃ best', (graph_Path_l3 F E k x2 x3 (sl bf 0 N N) x12 (i64 (a : Nat)) (i64 best) rv (i64 row.length) (i64 (i : Nat))).run n h = (E x2 x3 (sl bf 0 N N) x12 (i64 best')).run n h ∧ Lst far row a best' := by
  intro j
  induction j with
  | zero =>
    intro i k best hij hk hb
    obtain ⟨k, rfl⟩ : ∃ j, k = j + 1 := ⟨k - 1, by omega⟩
    rw [graph_Path_l3_s]
    unfold graph_Path_b3 graph_Path_r23
    try dsimp only
    rw [st_lss]
    simp only [onB_ite, run_ite, decide_eq_true_eq]
    rw [if_neg (by omega)]
    rw [List.take_of_length_le (by omega)] at hb
    exact ⟨best, rfl, hb⟩
  | succ j ih =>
    intro i k best hij hk hb
    obtain ⟨k, rfl⟩ : ∃ j, k = j + 1 := ⟨k - 1, by omega⟩
    have hi : i < row.length := by omega
    rw [graph_Path_l3_s]
    unfold graph_Path_b3 graph_Path_r23
    try dsimp only
    rw [st_lss]
    simp only [onB_ite, run_ite, decide_eq_true_eq]
    rw [if_pos (by omega)]
    unfold graph_Path_r24
    try dsimp only
    have hil : i < (nats row).length := by unfold nats; rw [List.length_map]; exact hi
    rw [hr.getI hil]
    have e : (nats row)[i]'hil = ((row[i] : Nat) : Int) := by simp [nats]
    rw [e]
    have hcN := hrow row[i] (List.getElem_mem hi)
    have etake : row.take (i + 1) = row.take i ++ [row[i]] := List.take_succ_eq_append_getElem hi
    generalize row[i] = c at *
    have f1 := hfar c hcN
    have f2 := hfar a ha
    have keep : (¬ (far c + 1 = far a ∧ far c ≠ 0) ∨ ∃ b : Nat, best = (b : Int) ∧ b ≤ c) → ∃ best', (graph_Path_k4 F (graph_Path_l3 F E k) x2 x3 (sl bf 0 N N) x12 (i64 (a : Nat)) (i64 best) rv (i64 row.length) (i64 (i : Nat))).run n h = (E x2 x3 (sl bf 0 N N) x12 (i64 best')).run n h ∧ Lst far row a best' := fun hc => by
      unfold graph_Path_k4 graph_Path_r27
      try dsimp only
      rw [sx_add (by omega)]
      refine ih (i + 1) k best (by omega) (by omega) ?_
      rw [etake]
      rcases hb with ⟨h1, h2⟩ | ⟨b, h1, h2, h3, h4, h5⟩
      · rcases hc with hc | ⟨b, hc, _⟩
        · refine .inl ⟨h1, fun q hq => ?_⟩
          rw [List.mem_append, List.mem_singleton] at hq
          rcases hq with hq | rfl
          · exact h2 q hq
          · exact hc
        · omega
      · refine .inr ⟨b, h1, List.mem_append_left _ h2, h3, h4, fun q hq q1 q2 => ?_⟩
        rw [List.mem_append, List.mem_singleton] at hq
        rcases hq with hq | rfl
        · exact h5 q hq q1 q2
        · rcases hc with hc | ⟨b', hc, hle⟩
          · exact absurd ⟨q1, q2⟩ hc
          · omega
    have take_ : far c + 1 = far a → far c ≠ 0 → (∀ b : Nat, best = (b : Int) → c ≤ b) → ∃ best', (graph_Path_r26 F x2 x3 (sl bf 0 N N) x12 (i64 (a : Nat)) (i64 (c : Nat)) rv (i64 row.length) (i64 (i : Nat)) fun x2 x3 x7 x12 x13 x14 x102 x103 x104 => graph_Path_k4 F (graph_Path_l3 F E k) x2 x3 x7 x12 x13 x14 x102 x103 x104).run n h = (E x2 x3 (sl bf 0 N N) x12 (i64 best')).run n h ∧ Lst far row a best' := fun q1 q2 q3 => by
      unfold graph_Path_r26 graph_Path_k4 graph_Path_r27
      try dsimp only
      rw [sx_add (by omega)]
      refine ih (i + 1) k (c : Int) (by omega) (by omega) ?_
      rw [etake]
      refine .inr ⟨c, rfl, by simp, q1, q2, fun q hq q4 q5 => ?_⟩
      rw [List.mem_append, List.mem_singleton] at hq
      rcases hq with hq | rfl
      · rcases hb with ⟨h1, h2⟩ | ⟨b, h1, h2, h3, h4, h5⟩
        · exact absurd ⟨q4, q5⟩ (h2 q hq)
        · have := h5 q hq q4 q5
          have := q3 b h1
          omega
      · exact Nat.le_refl _
    unfold graph_Path_r25
    try dsimp only
    rw [TI.get tf hcN, TI.get tf ha, sx_sub (by omega), st_eql]
    simp only [onB_ite, run_ite, beq_iff_eq]
    by_cases h1 : far c + 1 = far a
    · rw [if_pos (by omega), TI.get tf hcN, st_gtr]
      simp only [onB_ite, run_ite, decide_eq_true_eq]
      by_cases h2 : far c = 0
      · rw [if_neg (by omega), if_neg (by decide)]
        exact keep (.inl fun q => q.2 h2)
      · rw [if_pos (by omega), st_lss]
        simp only [onB_ite, run_ite, decide_eq_true_eq]
        by_cases h3 : best < 0
        · rw [if_pos h3, if_pos trivial]
          exact take_ h1 h2 fun b hb => by omega
        · rw [if_neg h3, st_lss]
          simp only [onB_ite, run_ite, decide_eq_true_eq]
          by_cases h4 : (c : Int) < best
          · rw [if_pos h4]
            exact take_ h1 h2 fun b hb => by omega
          · rw [if_neg h4]
            exact keep (.inr ⟨best.toNat, by omega, by omega⟩)
    · rw [if_neg (by omega), if_neg (by decide)]
      exact keep (.inl fun q => h1 q.1)

theorem Lst.nxt {far : Nat → Nat} (ok : GOk N adj) (hf : FarOf adj N t far) {a k : Nat} (ha : a < N) (hd : Dst adj t a (k + 1)) {best : Int} (h : Lst far (adj a) a best) : ∃ b : Nat, best = (b : Int) ∧ b < N ∧ IsNxt adj t a b ∧ Dst adj t b k := by
  have hfa := (hf a ha (k + 1)).2 hd
  rcases h with ⟨_, h2⟩ | ⟨b, h1, h2, h3, h4, h5⟩
  · obtain ⟨b, e, hb⟩ := hd.next
    have := (hf b (ok.lt a ha b e) k).2 hb
    exact absurd ⟨by omega, by omega⟩ (h2 b e)
  · have hbN := ok.lt a ha b h2
    have hbd : Dst adj t b k := (hf b hbN k).1 (by omega)
    refine ⟨b, h1, hbN, ⟨k, hd, h2, hbd, fun c hc hcd => ?_⟩, hbd⟩
    have := (hf c (ok.lt a ha c hc) k).2 hcd
    exact h5 c hc (by omega) (by omega)

theorem path_l1 {F bf g lo m : Nat} {tv : Value} {far : Nat → Nat} (hF : 1000000 ≤ F) (ok : GOk N adj) (hf : FarOf adj N t far) (ht : t < N) (hfar : ∀ c, c < N → far c ≤ 100000) (hbf : bf < lo ∧ g < lo ∧ m ≤ lo) {E : Value → M Value} : ∀ d k a n (h : H) v b (l : List Nat), Dst adj t a d → d < k → d ≤ 100000 → a < N → TI h bf N (fun i => (far i : Int)) → GB h g N tv → Gr h m tv N adj → GqI h v b (l ++ [a]) → (v ≠ nsl → lo ≤ b) → l.length + d ≤ 200000 → lo ≤ n → Fr n h →
    ∃ n' h' v' b' l', (graph_Path_l1 F E k (i64 (t : Nat)) (pt g 0) (sl bf 0 N N) v (i64 (a : Nat))).run n h = (E v').run n' h' ∧ GqI h' v' b' (l ++ l') ∧ PW adj t a l' ∧ (v' ≠ nsl → lo ≤ b') ∧ Ev (fun c => lo ≤ c) n h n' h' := by
  intro d
  induction d with
  | zero =>
    intro k a n h v b l hd hk hd2 ha tf hg gr gq hb hl hn f
    obtain ⟨k, rfl⟩ : ∃ j, k = j + 1 := ⟨k - 1, by omega⟩
    have := hd.eq_zero
    subst this
    rw [graph_Path_l1_s]
    unfold graph_Path_b1 graph_Path_r20
    try dsimp only
    rw [st_neq]
    simp only [onB_ite, run_ite]
    rw [if_neg (by simp)]
    exact ⟨n, h, v, b, [a], rfl, gq, .stop, hb, Ev.refl f⟩
  | succ d ih =>
    intro k a n h v b l hd hk hd2 ha tf hg gr gq hb hl hn f
    obtain ⟨k, rfl⟩ : ∃ j, k = j + 1 := ⟨k - 1, by omega⟩
    have hat : a ≠ t := by
      rintro rfl
      have := hd.uniq Dst.zero
      omega
    rw [graph_Path_l1_s]
    unfold graph_Path_b1 graph_Path_r20
    try dsimp only
    rw [st_neq]
    simp only [onB_ite, run_ite]
    rw [if_pos (by rw [bne_iff_ne]; omega)]
    unfold graph_Path_r21 graph_Path_r22
    try dsimp only
    obtain ⟨rv, e1, h0, f0, k0, hr⟩ := gr.row (β := Value) (n := n) ha
    have hr' : RdI h rv (nats (adj a)) := hr.kept f0 k0
    rw [hg.t, e1, hr'.lenI, show (nats (adj a)).length = (adj a).length by unfold nats; rw [List.length_map]]
    have hsa := ok.short a ha
    obtain ⟨best, e2, hL⟩ := path_l3 (F := F) (n := n) (x2 := i64 (t : Nat)) (x3 := pt g 0) (x12 := v) tf ha hr' (ok.lt a ha) hsa hfar (E := fun x2 x3 x7 x12 x14 => graph_Path_k2 F (graph_Path_l1 F E k) x2 x3 x7 x12 x14) (adj a).length 0 F (-1) (by omega) (by omega) (.inl ⟨rfl, fun c hc => by rw [List.take_zero] at hc; cases hc⟩)
    rw [show (Value.int .i64 (-1)) = i64 (-1) from rfl, show (Value.int .i64 0) = i64 ((0 : Nat) : Int) from rfl, e2]
    obtain ⟨c, rfl, hcN, hnx, hcd⟩ := hL.nxt ok hf ha hd
    unfold graph_Path_k2 graph_Path_r28 graph_Path_r29
    try dsimp only
    obtain ⟨h2, v2, e3, g2, f2, k2⟩ := gq.pushN (a := c) (y := 0) f (by simp; omega)
    rw [show (Value.int .i64 0) = i64 0 from rfl, e3]
    have ev : Ev (fun c => lo ≤ c) n h (n + 2) h2 := ⟨f2, by omega, fun q hq hq2 => k2 q hq fun hv => by have := hb hv; omega⟩
    have hbl : bf < n ∧ g < n := by omega
    obtain ⟨n', h', v', b', l', r1, r2, r3, r4, r5⟩ := ih k c (n + 2) h2 v2 (n + 1) (l ++ [a]) hcd (by omega) (by omega) hcN (tf.ev ev hbl.1 (by omega)) (hg.ev ev hbl.2 (by omega)) (gr.ev ev (by omega) fun q hq => by omega) g2 (fun _ => by omega) (by simp; omega) (by omega) f2
    refine ⟨n', h', v', b', a :: l', r1, ?_, .go hat hnx r3, r4, ev.trans r5 fun _ _ h => h⟩
    rw [List.append_assoc] at r2
    exact r2
end

/-- The way that Path tells; none: nothing. -/
theorem path_in {F n m N root t : Nat} {tv : Value} {adj : Nat → List Nat} {h : H} (hF : 1000000 ≤ F) (gr : Gr h m tv N adj) (hm : m ≤ n) (ok : GOk N adj) (hr : root < N) (ht : t < N) (f : Fr n h) :
    ∃ n' h' v, (graph_Path F (gv N tv) (i64 (root : Nat)) (i64 (t : Nat))).run n h = some (v, n', h') ∧ Ev No n h n' h' ∧ ((v = nsl ∧ ¬ Rch adj root t) ∨ ∃ l, RdI h' v (nats l) ∧ PW adj t root l) := by
  have hN := ok.few
  unfold graph_Path graph_Path_r0
  try dsimp only
  obtain ⟨h1, e1, g1, ev1⟩ := GB.box (β := Value) (N := N) f gr.1
  rw [e1]
  have gr1 := gr.no ev1 hm
  unfold graph_Path_r1
  try dsimp only
  obtain ⟨n2, h2, e2, ev2⟩ := gmay_spec (F := F) (by omega) gr1 (by omega) ok ev1.f
  have l2 := ev2.le
  have g2 := g1.ev ev2 (by omega) (fun h => h)
  have gr2 := gr1.no ev2 (by omega)
  rw [g1.all, run_bnd e2, st_not, onB_ite, run_ite, if_neg (by decide), st_lss, onB_ite, run_ite, if_neg (by simp), g2.nn, st_geq, onB_ite, run_ite, if_neg (by simp; omega), st_lss, onB_ite, run_ite, if_neg (by simp), g2.nn, st_geq]
  rw [onB_ite, run_ite, if_neg (by simp; omega)]
  unfold graph_Path_r3
  try dsimp only
  obtain ⟨h3, e3, t3, ev3⟩ := TI.make (β := Value) (bytes := 8) (N := N) (z := 0) ev2.f (by omega) (by decide)
  rw [g2.nn, show (Value.int .i64 0) = i64 0 from rfl, e3]
  have g3 := g2.ev ev3 (by omega) (fun h => h)
  have gr3 := gr2.no ev3 (by omega)
  unfold graph_Path_r4
  try dsimp only
  obtain ⟨h4, e4, t4, ev4⟩ := TI.set (β := Value) t3 ev3.f ht (z := 1)
  rw [show (Value.int .i64 1) = i64 1 from rfl, e4]
  have g4 := g3.ev ev4 (by omega) (by omega)
  have gr4 := gr3.ev ev4 (by omega) fun c hc => by omega
  unfold graph_Path_r5
  try dsimp only
  obtain ⟨n5, h5, ob, O, e5, x5, o5, ev5⟩ := turn_spec (F := F) (by omega) gr4 (by omega) ok ev4.f
  have l5 := ev5.le
  rw [g4.all, run_bnd e5, run_ptr ev5.f (by rfl)]
  have ev6 := Ev.new ev5.f ⟨[i64 0, nsl], .own⟩
  obtain ⟨h7, e7, g7, ev7⟩ := GB.put (β := Value) (N := N) (tv := sl ob 0 N N) (H.get_set_same h5 n5 ⟨[i64 0, nsl], .own⟩) rfl ev6.f rfl
  rw [show (Value.int .i64 0) = i64 0 from rfl, show (Value.slice none 0 0) = nsl from rfl, e7]
  have ev57 : Ev No n5 h5 (n5 + 1) h7 := ev6.trans ev7 fun c hc q => by omega
  have x7 := x5.keep (h' := h7) fun c hc => ev57.no (x5.lt ev5.f hc)
  have hO7 : ∀ c, O c → c < n5 := fun c hc => x5.lt ev5.f hc
  unfold graph_Path_r6
  try dsimp only
  rw [run_single ev7.f rfl]
  have ev8 := Ev.new ev7.f ⟨[i64 (t : Int)], .own⟩
  have g8 := g7.ev ev8 (by omega) (fun h => h)
  have x8 := x7.keep (h' := h7.set (n5 + 1) ⟨[i64 (t : Int)], .own⟩) fun c hc => ev8.no (by have := hO7 c hc; omega)
  have ev48 : Ev No (n2 + 1) h4 (n5 + 1 + 1) (h7.set (n5 + 1) ⟨[i64 (t : Int)], .own⟩) := (ev5.trans ev57 fun _ _ h => h).trans ev8 fun _ _ h => h
  have t8 := t4.ev ev48 (by omega) (fun h => h)
  have gr8 := gr4.no ev48 (by omega)
  have gb8 := g4.ev ev48 (by omega) (fun h => h)
  have q8 : Qs (h7.set (n5 + 1) ⟨[i64 (t : Int)], .own⟩) (n5 + 1) n2 N (sl (n5 + 1) 0 1 1) (upd (fun _ => 0) t 1) ([t] ++ []) := by
    refine ⟨?_, n5 + 1, Gq.own (cs := [i64 (t : Int)]) (H.get_set_same _ _ _) (by unfold U; simp), fun _ => ⟨Nat.le_refl _, by omega⟩⟩
    have e : upd (fun _ => (0 : Int)) t 1 = fun i => ((upd (fun _ => 0) t 1 i : Nat) : Int) := by
      funext i; unfold upd; split <;> rfl
    rw [e] at t8
    exact t8
  have hft : upd (fun _ => 0) t 1 t = 1 := upd_same
  have hfo : ∀ c, c ≠ t → upd (fun _ => 0) t 1 c = 0 := fun c hc => upd_ne hc
  have B8 : Bw adj N t (upd (fun _ => 0) t 1) [t] [] 0 (fun _ => False) := by
    refine ⟨fun a k hk => ?_, fun a k ha hw hk => ?_, fun b hb => ?_, fun b hb => ?_, fun b hb => by cases hb⟩
    · by_cases e : a = t
      · subst e
        rw [hft] at hk
        have : k = 0 := by omega
        subst this
        exact ⟨Dst.zero, ht⟩
      · rw [hfo a e] at hk; omega
    · have : k = 0 := by omega
      subst this
      cases hw
      rw [hft]; decide
    · by_cases e : b = t
      · subst e; exact .inl (by simp)
      · exact absurd (hfo b e) hb
    · rw [List.mem_singleton] at hb
      subst hb; exact hft
  have hcnt : cnt N (fun i => upd (fun _ => 0) t 1 i != 0) + 1 ≤ N := by
    have h3 := cnt_put (s := fun _ => false) (a := t) rfl N
    rw [if_pos ht] at h3
    have e3 : (fun i => upd (fun _ => 0) t 1 i != 0) = putM (fun _ => false) t := by
      funext q; unfold upd putM
      by_cases e4 : q = t
      · rw [if_pos e4, decide_eq_true e4]; rfl
      · rw [if_neg e4, decide_eq_false e4]; rfl
    rw [e3]
    have hc : cnt N (fun _ => false) ≤ N := by
      unfold cnt
      have := List.length_filter_le (fun m : Nat => !(fun _ => false) m) (List.range N)
      rwa [List.length_range] at this
    omega
  obtain ⟨n9, h9, far, e9, t9, hf, hfb, ev9⟩ := path_l6 (F := F) (t := t) (bf := n2) (lo := n5 + 1) (g2 := n5) (x1 := i64 (root : Nat)) (x2 := i64 (t : Nat)) (x3 := pt n 0) hF ok (by omega) (fun c hc => ⟨by have := o5 c hc; omega, by have := hO7 c hc; omega⟩) ⟨by omega, by omega⟩ g8 x8 (E := fun x1 x2 x3 x7 => graph_Path_k5 F x1 x2 x3 x7) 1000 F (n5 + 1 + 1) _ _ _ [t] [] 0 (by simp; omega) (by omega) (by omega) (fun _ _ => rfl) rfl q8 B8 (by rw [hft]; decide) (by rw [if_pos rfl]; omega) (fun q => by
    by_cases e : q = t
    · rw [e, hft]; omega
    · rw [hfo q e]; omega) (by omega) ev8.f
  have hsm : (sl (n5 + 1) 0 1 1) = sl (n5 + 1) 0 1 1 := rfl
  rw [e9]
  have l9 := ev9.le
  have gb9 := gb8.ev ev9 (by omega) (by omega)
  have gr9 := gr8.ev ev9 (by omega) fun c hc => by omega
  have evall : ∀ c, c < n → h9.get c = h.get c := fun c hc => by
    rw [ev9.keep c (by omega) (by omega), ev48.no (by omega), ev4.keep c (by omega) (by omega), ev3.no (by omega), ev2.no (by omega), ev1.no hc]
  unfold graph_Path_k5 graph_Path_r16
  try dsimp only
  rw [TI.get t9 hr, st_eql]
  simp only [onB_ite, run_ite, beq_iff_eq]
  by_cases h0 : far root = 0
  · rw [if_pos (by omega)]
    refine ⟨n9, h9, nsl, rfl, ⟨ev9.f, by omega, fun c hc _ => evall c hc⟩, .inl ⟨rfl, fun hrc => ?_⟩⟩
    obtain ⟨k, hk⟩ := wk_rch.2 hrc
    obtain ⟨l, _, hl⟩ := Dst.of hk
    have := (hf root hr l).2 hl
    omega
  · rw [if_neg (by omega)]
    obtain ⟨d, hd⟩ : ∃ d, far root = d + 1 := ⟨far root - 1, by omega⟩
    have hdd := (hf root hr d).1 hd
    have hfar : ∀ c, c < N → far c ≤ 100000 := fun c hc => by
      have := hfb c; omega
    unfold graph_Path_r18
    try dsimp only
    rw [run_single ev9.f rfl]
    have ev10 := Ev.new ev9.f ⟨[i64 (root : Int)], .own⟩
    unfold graph_Path_r19
    try dsimp only
    have t10 := TV.ev t9 ev10 (by omega) (fun h => h)
    obtain ⟨n11, h11, v11, b11, l', e11, q11, p11, _, ev11⟩ := path_l1 (F := F) (bf := n2) (g := n) (lo := n9) (m := m) hF ok hf ht hfar ⟨by omega, by omega, by omega⟩ (E := fun x12 => graph_Path_k0 F x12) d F root (n9 + 1) _ (sl n9 0 1 1) n9 [] hdd (by have := hfar root hr; omega) (by have := hfar root hr; omega) hr t10 (gb9.ev ev10 (by omega) (fun h => h)) (gr9.no ev10 (by omega)) (Gq.own (cs := [i64 (root : Int)]) (H.get_set_same _ _ _) (by unfold U; simp)) (fun _ => Nat.le_refl _) (by have := hfar root hr; simp; omega) (by omega) ev10.f
    rw [e11]
    refine ⟨n11, h11, v11, rfl, ⟨ev11.f, by have := ev11.le; omega, fun c hc _ => ?_⟩, .inr ⟨l', by rw [List.nil_append] at q11; exact q11.rd, p11⟩⟩
    rw [ev11.keep c (by omega) (by omega), ev10.no (by omega), evall c hc]

/-- Where an end is no node, nothing is told. -/
theorem path_out {F n m N : Nat} {a b : Int} {tv : Value} {adj : Nat → List Nat} {h : H} (hF : 1000000 ≤ F) (gr : Gr h m tv N adj) (hm : m ≤ n) (ok : GOk N adj) (hr : a < 0 ∨ (N : Int) ≤ a ∨ b < 0 ∨ (N : Int) ≤ b) (f : Fr n h) :
    ∃ n' h', (graph_Path F (gv N tv) (i64 a) (i64 b)).run n h = some (nsl, n', h') ∧ Ev No n h n' h' := by
  have hN := ok.few
  unfold graph_Path graph_Path_r0
  try dsimp only
  obtain ⟨h1, e1, g1, ev1⟩ := GB.box (β := Value) (N := N) f gr.1
  rw [e1]
  have gr1 := gr.no ev1 hm
  unfold graph_Path_r1
  try dsimp only
  obtain ⟨n2, h2, e2, ev2⟩ := gmay_spec (F := F) (by omega) gr1 (by omega) ok ev1.f
  have g2 := g1.ev ev2 (by omega) (fun h => h)
  have ev := ev1.trans ev2 fun _ _ h => h
  rw [g1.all, run_bnd e2, st_not, onB_ite, run_ite, if_neg (by decide), st_lss, onB_ite, run_ite]
  by_cases q1 : a < 0
  · rw [if_pos (by simpa using q1)]; exact ⟨n2, h2, rfl, ev⟩
  rw [if_neg (by simpa using q1), g2.nn, st_geq, onB_ite, run_ite]
  by_cases q2 : (N : Int) ≤ a
  · rw [if_pos (by simpa using q2)]; exact ⟨n2, h2, rfl, ev⟩
  rw [if_neg (by simpa using q2), st_lss, onB_ite, run_ite]
  by_cases q3 : b < 0
  · rw [if_pos (by simpa using q3)]; exact ⟨n2, h2, rfl, ev⟩
  rw [if_neg (by simpa using q3), g2.nn, st_geq, onB_ite, run_ite, if_pos (by simp; omega)]
  exact ⟨n2, h2, rfl, ev⟩


theorem Gr.kept {h h' : H} {m N : Nat} {tv : Value} {adj : Nat → List Nat} (g : Gr h m tv N adj) (hk : ∀ c, c < m → h'.get c = h.get c) : Gr h' m tv N adj := by
  obtain ⟨h1, h0, f0, k0, q⟩ := g
  exact ⟨h1, h0, f0, fun c hc => (hk c hc).trans (k0 c hc), q⟩

section
variable {adj : Nat → List Nat} {N root : Nat} {o : List Nat} {place : Nat → Nat} {up : Nat → Int}

/-- What stays as it is while the law looks at all. -/
structure DU (adj : Nat → List Nat) (N : Nat) (up : Nat → Int) (h : H) (m g bu bw bd : Nat) (tv : Value) (u d : Nat → Int) : Prop where
  gr : Gr h m tv N adj
  gb : GB h g N tv
  tu : TI h bu N up
  tw : TI h bw N u
  td : TI h bd N d
  lt : g < m ∧ bu < m ∧ bw < m ∧ bd < m
  vq : veq tv tv = true

theorem DU.kept {h h' : H} {m g bu bw bd : Nat} {tv : Value} {u d : Nat → Int} (x : DU adj N up h m g bu bw bd tv u d) (hk : ∀ c, c < m → h'.get c = h.get c) : DU adj N up h' m g bu bw bd tv u d :=
  ⟨x.gr.kept hk, by unfold GB; rw [hk g x.lt.1]; exact x.gb, x.tu.keep (hk _ x.lt.2.1), x.tw.keep (hk _ x.lt.2.2.1), x.td.keep (hk _ x.lt.2.2.2), x.lt, x.vq⟩

end


section
variable {adj : Nat → List Nat} {N root : Nat} {o : List Nat} {place : Nat → Nat} {up : Nat → Int}

theorem PW.mem_lt {t a : Nat} {l : List Nat} (ok : GOk N adj) (h : PW adj t a l) (ha : a < N) : ∀ x, x ∈ l → x < N := by
  induction h with
  | stop => intro x hx; rw [List.mem_singleton] at hx; omega
  | go _ n _ ih =>
    obtain ⟨_, _, e, _, _⟩ := n
    intro x hx
    rcases List.mem_cons.1 hx with rfl | hx
    · exact ha
    · exact ih (ok.lt _ ha _ e) x hx

theorem PW.short {t a : Nat} {l : List Nat} (h : PW adj t a l) : l.Nodup := by
  induction h with
  | stop => simp
  | @go a b l hne n p ih =>
    rw [List.nodup_cons]
    refine ⟨fun hm => ?_, ih⟩
    obtain ⟨k, d1, _, d2, _⟩ := n
    have key : ∀ x l, PW adj t x l → ∀ j, Dst adj t x j → ∀ y, y ∈ l → ∃ i, i ≤ j ∧ Dst adj t y i := by
      intro x l p
      induction p with
      | stop =>
        intro j hj y hy
        rw [List.mem_singleton] at hy
        subst hy
        exact ⟨j, Nat.le_refl _, hj⟩
      | go _ n _ ih =>
        obtain ⟨k, e1, _, e2, _⟩ := n
        intro j hj y hy
        rcases List.mem_cons.1 hy with rfl | hy
        · exact ⟨j, Nat.le_refl _, hj⟩
        · have := e1.uniq hj
          obtain ⟨i, h1, h2⟩ := ih k e2 y hy
          exact ⟨i, by omega, h2⟩
    obtain ⟨i, h1, h2⟩ := key b l p k d2 a hm
    have := h2.uniq d1
    omega

theorem PW.small {t a : Nat} {l : List Nat} (ok : GOk N adj) (h : PW adj t a l) (ha : a < N) : l.length ≤ N := nodup_len h.short (h.mem_lt ok ha)

end


end Go.Fw
