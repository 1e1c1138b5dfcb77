/-
  graph.Turn, said of the abstract machine.
-/
import Derived.Test.YtmkpboaigdnpnaaLawGr
set_option maxRecDepth 20000
namespace Go.Fw

theorem turn_l3 {F N m g ob a : Nat} {w2 x19 x20 x21 rv : Value} {adj : Nat → List Nat} (ok : GOk N adj) (ha : a < N) {h0 : H} (f0 : Fr m h0) (hr : RdI h0 rv (nats (adj a))) {E : Value → Value → Value → Value → Value → M Value} : ∀ j i k n (h : H) (O : Nat → Prop), i + j = (adj a).length → j < k → (∀ c, c < m → h.get c = h0.get c) → GB h g N (sl ob 0 N N) → OL h ob N O (fun b => nats (turnL adj a i b)) → ¬ O g → (∀ c, O c → m ≤ c) → g < n → m ≤ n → Fr n h →
    ∃ n' h' O', (graph_Turn_l3 F E k w2 (pt g 0) (i64 a) x19 x20 x21 rv (i64 (adj a).length) (i64 i)).run n h = (E w2 (pt g 0) x19 x20 x21).run n' h' ∧ GB h' g N (sl ob 0 N N) ∧ OL h' ob N O' (fun b => nats (turnL adj (a + 1) 0 b)) ∧ (∀ c, O' c → O c ∨ n ≤ c) ∧ Ev O n h n' h' := by
  have hN := ok.few
  have hs := ok.short a ha
  intro j
  induction j with
  | zero =>
    intro i k n h O hij hk hk0 hg hx hO hlO hgn hn f
    obtain ⟨k, rfl⟩ : ∃ j, k = j + 1 := ⟨k - 1, by omega⟩
    rw [graph_Turn_l3_s]
    unfold graph_Turn_b3 graph_Turn_r8
    simp only [st_lss, onB_ite, run_ite, decide_eq_true_eq]
    rw [if_neg (by omega)]
    have e : (fun b => nats (turnL adj a i b)) = fun b => nats (turnL adj (a + 1) 0 b) := by
      funext b; rw [turnL_row (by omega)]
    rw [e] at hx
    exact ⟨n, h, O, rfl, hg, hx, fun c hc => .inl hc, Ev.refl f⟩
  | succ j ih =>
    intro i k n h O hij hk hk0 hg hx hO hlO hgn hn f
    obtain ⟨k, rfl⟩ : ∃ j, k = j + 1 := ⟨k - 1, by omega⟩
    have hi : i < (adj a).length := by omega
    rw [graph_Turn_l3_s]
    unfold graph_Turn_b3 graph_Turn_r8
    simp only [st_lss, onB_ite, run_ite, decide_eq_true_eq]
    rw [if_pos (by omega)]
    unfold graph_Turn_r9
    try dsimp only
    have hr1 : RdI h rv (nats (adj a)) := hr.kept f0 hk0
    rw [hr1.getI (show i < (nats (adj a)).length by unfold nats; rw [List.length_map]; exact hi)]
    have e : (nats (adj a))[i]'(by unfold nats; rw [List.length_map]; exact hi) = (((adj a)[i] : Nat) : Int) := by simp [nats]
    rw [e]
    have hb := ok.lt a ha (adj a)[i] (List.getElem_mem hi)
    unfold graph_Turn_r10
    try dsimp only
    rw [st_field, Nat.zero_add, ld1 hg (by decide) rfl, hg.t]
    have hlen := turnL_len (b := (adj a)[i]) ok a i (by omega) (.inl ha)
    obtain ⟨h2, h3, q, e2, ev2, e3, x3, ev3⟩ := hx.app (J := (adj a)[i]) (y := 0) (z := (a : Int)) f hb (by unfold nats; rw [List.length_map]; omega)
    rw [show (Value.int .i64 0) = i64 0 from rfl, e2]
    have hg2 := hg.ev ev2 hgn hO
    rw [run_chk (cs := [i64 N, sl ob 0 N N]) hg2 (by decide) rfl (by simp [veq]), e3]
    unfold graph_Turn_r11
    try dsimp only
    rw [sx_add (by omega)]
    have el : (fun b => if b = (adj a)[i] then nats (turnL adj a i b) ++ [(a : Int)] else nats (turnL adj a i b)) = fun b => nats (turnL adj a (i + 1) b) := by
      funext b
      rw [turnL_next hi]
      split
      · unfold nats; rw [List.map_append]; rfl
      · rfl
    rw [el] at x3
    obtain ⟨n', h', O', q1, q2, q3, q4, q5⟩ := ih (i + 1) k (n + 2) h3 (fun c => O c ∨ c = n + 1) (by omega) (by omega) (fun c hc => by rw [ev3.keep c (by omega) fun hOc => by have := hlO c hOc; omega]; exact hk0 c hc) (hg.ev ev3 hgn hO) x3 (fun hq => hq.elim hO fun e => by omega) (fun c hc => hc.elim (hlO c) fun e => by omega) (by omega) (by omega) ev3.f
    refine ⟨n', h', O', q1, q2, q3, fun c hc => ?_, ev3.trans q5 fun c hc hq => hq.elim id fun e => by omega⟩
    rcases q4 c hc with (h1 | h1) | h1
    · exact .inl h1
    · exact .inr (by omega)
    · exact .inr (by omega)

theorem turn_l1 {F N m g ob : Nat} {w2 tv : Value} {adj : Nat → List Nat} (hF : 1000 < F) (ok : GOk N adj) {E : Value → Value → M Value} : ∀ j a k n (h : H) (O : Nat → Prop), a + j = N → j < k → Gr h m tv N adj → GB h g N (sl ob 0 N N) → OL h ob N O (fun b => nats (turnL adj a 0 b)) → ¬ O g → (∀ c, O c → m ≤ c) → g < n → m ≤ n → Fr n h →
    ∃ n' h' O', (graph_Turn_l1 F E k w2 (pt g 0) tv (i64 N) (i64 a)).run n h = (E w2 (pt g 0)).run n' h' ∧ GB h' g N (sl ob 0 N N) ∧ OL h' ob N O' (fun b => nats (turnL adj N 0 b)) ∧ (∀ c, O' c → O c ∨ n ≤ c) ∧ Ev O n h n' h' := by
  have hN := ok.few
  intro j
  induction j with
  | zero =>
    intro a k n h O hij hk gr hg hx hO hlO hgn hn f
    obtain ⟨k, rfl⟩ : ∃ j, k = j + 1 := ⟨k - 1, by omega⟩
    obtain rfl : a = N := by omega
    rw [graph_Turn_l1_s]
    unfold graph_Turn_b1 graph_Turn_r5
    simp only [st_lss, onB_ite, run_ite, decide_eq_true_eq]
    rw [if_neg (by omega)]
    exact ⟨n, h, O, rfl, hg, hx, fun c hc => .inl hc, Ev.refl f⟩
  | succ j ih =>
    intro a k n h O hij hk gr hg hx hO hlO hgn hn f
    obtain ⟨k, rfl⟩ : ∃ j, k = j + 1 := ⟨k - 1, by omega⟩
    have ha : a < N := by omega
    rw [graph_Turn_l1_s]
    unfold graph_Turn_b1 graph_Turn_r5
    simp only [st_lss, onB_ite, run_ite, decide_eq_true_eq]
    rw [if_pos (by omega)]
    unfold graph_Turn_r6
    try dsimp only
    obtain ⟨rv, e1, h0, f0, k0, hr⟩ := gr.row (β := Value) (n := n) ha
    rw [e1]
    unfold graph_Turn_r7
    try dsimp only
    have hr' : RdI h rv (nats (adj a)) := hr.kept f0 k0
    have hs := ok.short a ha
    obtain ⟨n1, h1, O1, e2, g1, x1, o1, ev1⟩ := turn_l3 (F := F) (w2 := w2) (x19 := tv) (x20 := i64 N) (x21 := i64 a) ok ha f0 hr (E := fun x2 x3 x19 x20 x21 => graph_Turn_k2 F (graph_Turn_l1 F E k) x2 x3 x19 x20 x21) (adj a).length 0 F n h O (by omega) (by omega) k0 hg hx hO hlO hgn hn f
    rw [hr'.lenI, show (nats (adj a)).length = (adj a).length by unfold nats; rw [List.length_map], show (Value.int .i64 0) = i64 ((0 : Nat) : Int) from rfl, e2]
    have l1 := ev1.le
    unfold graph_Turn_k2 graph_Turn_r12
    try dsimp only
    rw [sx_add (by omega)]
    have hlO1 : ∀ c, O1 c → m ≤ c := fun c hc => (o1 c hc).elim (hlO c) fun h => by omega
    obtain ⟨n', h', O', q1, q2, q3, q4, q5⟩ := ih (a + 1) k n1 h1 O1 (by omega) (by omega) (gr.ev ev1 hn hlO) g1 x1 (fun hq => (o1 g hq).elim hO fun h => by omega) hlO1 (by omega) (by omega) ev1.f
    refine ⟨n', h', O', q1, q2, q3, fun c hc => ?_, ev1.trans q5 fun c hc hq => (o1 c hq).elim id fun h => by omega⟩
    rcases q4 c hc with h3 | h3
    · exact o1 c h3
    · exact .inr (by omega)

theorem turn_spec {F n m N : Nat} {tv : Value} {adj : Nat → List Nat} {h : H} (hF : 1000 < F) (gr : Gr h m tv N adj) (hm : m ≤ n) (ok : GOk N adj) (f : Fr n h) :
    ∃ n' h' ob O, (graph_Turn F (gv N tv)).run n h = some (gv N (sl ob 0 N N), n', h') ∧ OL h' ob N O (fun b => nats (turnA N adj b)) ∧ (∀ c, O c → n ≤ c) ∧ Ev No n h n' h' := by
  have hN := ok.few
  unfold graph_Turn graph_Turn_r0
  try dsimp only
  obtain ⟨h1, e1, g1, ev1⟩ := GB.box (β := Value) (N := N) f gr.1
  rw [e1, run_ptr ev1.f (by rfl)]
  have ev2 := Ev.new ev1.f ⟨[i64 0, nsl], .own⟩
  have hret : (h1.set (n + 1) ⟨[i64 0, nsl], .own⟩).get (n + 1) = some ⟨[i64 0, nsl], .own⟩ := H.get_set_same _ _ _
  have g2 := g1.ev ev2 (by omega) (fun h => h)
  have gr2 := (gr.no ev1 hm).no ev2 (by omega)
  unfold graph_Turn_r1
  try dsimp only
  obtain ⟨n3, h3, e3, ev3⟩ := gmay_spec (F := F) hF gr2 (by omega) ok ev2.f
  have l3 := ev3.le
  rw [g2.all, run_bnd e3, st_not]
  simp only [onB_ite, run_ite]
  rw [if_neg (by decide)]
  have g3 := g2.ev ev3 (by omega) (fun h => h)
  have gr3 := gr2.no ev3 (by omega)
  have hret3 : h3.get (n + 1) = some ⟨[i64 0, nsl], .own⟩ := by rw [ev3.no (by omega)]; exact hret
  unfold graph_Turn_r3
  try dsimp only
  obtain ⟨h4, e4, x4, ev4⟩ := OL.make (β := Value) ev3.f (show N ≤ 100000 by omega)
  rw [g3.nn, g3.nn, e4, show (Value.int .i64 0) = i64 0 from rfl, opBuild_gr rfl, ret_bnd, run_ptr ev4.f (by rfl)]
  have ev5 := Ev.new ev4.f ⟨[i64 0, nsl], .own⟩
  obtain ⟨h6, e6, g6, ev6⟩ := GB.put (β := Value) (N := N) (tv := sl n3 0 N N) (H.get_set_same h4 (n3 + 1) ⟨[i64 0, nsl], .own⟩) rfl ev5.f rfl
  rw [e6]
  have ev36 : Ev No n3 h3 (n3 + 1 + 1) h6 := (ev4.trans ev5 fun _ _ h => h).trans ev6 fun c hc e => by omega
  have g36 := g3.ev ev36 (by omega) (fun h => h)
  have gr36 := gr3.no ev36 (by omega)
  have hret6 : h6.get (n + 1) = some ⟨[i64 0, nsl], .own⟩ := by rw [ev36.no (by omega)]; exact hret3
  have x6 : OL h6 n3 N (fun c => c = n3) (fun b => nats (turnL adj 0 0 b)) := by
    have e : (fun b => nats (turnL adj 0 0 b)) = fun _ => [] := by funext b; simp [turnL]
    rw [e]
    exact x4.keep fun c hc => by rw [ev6.keep c (by omega) (by omega), ev5.no (by omega)]
  unfold graph_Turn_r4
  try dsimp only
  obtain ⟨n7, h7, O7, e7, g7, x7, o7, ev7⟩ := turn_l1 (F := F) (w2 := pt (n + 1) 0) (tv := tv) hF ok (E := fun x2 x3 => graph_Turn_k0 F x2 x3) N 0 F (n3 + 1 + 1) h6 (fun c => c = n3) (by omega) (by omega) gr36 g6 x6 (by omega) (fun c hc => by omega) (by omega) (by omega) ev6.f
  rw [g36.t, gr36.len, show (Value.int .i64 0) = i64 ((0 : Nat) : Int) from rfl, e7]
  unfold graph_Turn_k0 graph_Turn_r13
  try dsimp only
  have l7 := ev7.le
  have hret7 : h7.get (n + 1) = some ⟨[i64 0, nsl], .own⟩ := by rw [ev7.keep _ (by omega) (by omega)]; exact hret6
  obtain ⟨h8, e8, g8, ev8⟩ := GB.put (β := Value) (N := N) (tv := sl n3 0 N N) hret7 rfl ev7.f rfl
  rw [g7.all, e8, g8.all]
  have o7' : ∀ c, O7 c → n3 ≤ c := fun c hc => (o7 c hc).elim (fun h => by omega) fun h => by omega
  have e : (fun b => nats (turnL adj N 0 b)) = fun b => nats (turnA N adj b) := rfl
  rw [e] at x7
  refine ⟨n7, h8, n3, O7, rfl, x7.keep fun c hc => ev8.keep c (x7.lt ev7.f hc) (by have := o7' c hc; omega), fun c hc => by have := o7' c hc; omega, ev8.f, by omega, fun c hc _ => ?_⟩
  rw [ev8.keep c (by omega) (by omega), ev7.keep c (by omega) (by omega), ev36.no (by omega), ev3.no (by omega), ev2.no (by omega), ev1.no hc]

end Go.Fw
