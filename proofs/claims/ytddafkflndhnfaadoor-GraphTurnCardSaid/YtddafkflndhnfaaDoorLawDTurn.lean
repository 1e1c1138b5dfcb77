/-
  GraphTurn, said of the abstract machine.
-/
import Derived.Test.YtddafkflndhnfaaDoorLawDC
import Derived.Test.YtddafkflndhnfaaDoorGenDGraphTurn
set_option maxRecDepth 20000
set_option linter.unusedVariables false
namespace Go.Fw

section
variable {N : Nat} {adj : Nat → List Nat}

theorem gturn_l6 {F g g2 m b a lo : Nat} {tv : Value} (hF : 1000000 ≤ F) (ok : GOk N adj) (ha : a < N) (hml : m ≤ lo) (hg : g < lo) {E : Value → Value → Value → Value → Value → M Value} : ∀ j i k n (h : H) v, i + j = (adj a).length → j < k → GB h g N tv → Gr h m tv N adj → NewI h lo v (nats (turnL adj a i b)) → lo ≤ n → Fr n h →
    ∃ n' h' v', (L5_GraphTurn_l6 F E k (pt g 0) (pt g2 0) (i64 (b : Nat)) v (i64 (a : Nat)) (i64 (i : Nat))).run n h = (E (pt g 0) (pt g2 0) (i64 (b : Nat)) v' (i64 (a : Nat))).run n' h' ∧ NewI h' lo v' (nats (turnL adj (a + 1) 0 b)) ∧ Ev (fun c => lo ≤ c) n h n' h' := by
  have hN := ok.few
  have hs := ok.short a ha
  intro j
  induction j with
  | zero =>
    intro i k n h v hij hk gb gr x hn f
    obtain ⟨k, rfl⟩ : ∃ j, k = j + 1 := ⟨k - 1, by omega⟩
    obtain ⟨rv, e1, h0, f0, k0, hr⟩ := gr.row (β := Value) (n := n) ha
    have rd : RdI h rv (nats (adj a)) := hr.kept f0 k0
    rw [L5_GraphTurn_l6_s]
    unfold L5_GraphTurn_b6 L5_GraphTurn_r16
    try dsimp only
    rw [gb.t, e1, rd.lenI, nats_len, st_lss, onB_ite, run_ite, if_neg (by simp; omega)]
    rw [turnL_row (by omega)] at x
    exact ⟨n, h, v, rfl, x, Ev.refl f⟩
  | succ j ih =>
    intro i k n h v hij hk gb gr x hn f
    obtain ⟨k, rfl⟩ : ∃ j, k = j + 1 := ⟨k - 1, by omega⟩
    obtain ⟨rv, e1, h0, f0, k0, hr⟩ := gr.row (β := Value) (n := n) ha
    have rd : RdI h rv (nats (adj a)) := hr.kept f0 k0
    have hi : i < (adj a).length := by omega
    have hil : i < (nats (adj a)).length := by rw [nats_len]; exact hi
    rw [L5_GraphTurn_l6_s]
    unfold L5_GraphTurn_b6 L5_GraphTurn_r16
    try dsimp only
    rw [gb.t, e1, rd.lenI, nats_len, st_lss, onB_ite, run_ite, if_pos (by simp; omega)]
    unfold L5_GraphTurn_r18
    try dsimp only
    rw [gb.t, e1, rd.getI hil, nats_get, st_eql, onB_ite, run_ite]
    have en := turnL_next (b := b) hi
    by_cases e : b = (adj a)[i]
    · rw [if_pos (by rw [beq_iff_eq]; omega)]
      rw [if_pos e] at en
      unfold L5_GraphTurn_r19
      try dsimp only
      have hlen := turnL_len (b := b) ok a i (by omega) (.inl ha)
      obtain ⟨h2, v2, e2, x2, ev2⟩ := x.push (β := Value) (y := 0) (z := (a : Int)) f hn (by rw [nats_len]; omega)
      rw [show (Value.int .i64 0) = i64 0 from rfl, e2]
      unfold L5_GraphTurn_k7 L5_GraphTurn_r17
      try dsimp only
      rw [sx_add (by omega)]
      have hen : nats (turnL adj a i b) ++ [(a : Int)] = nats (turnL adj a (i + 1) b) := by rw [en]; simp [nats]
      rw [hen] at x2
      obtain ⟨n', h', v', q1, q2, q3⟩ := ih (i + 1) k (n + 2) h2 v2 (by omega) (by omega) (gb.ev ev2 (by omega) (by omega)) (gr.ev ev2 (by omega) fun c hc => by omega) x2 (by omega) ev2.f
      exact ⟨n', h', v', q1, q2, ev2.trans q3 fun _ _ h => h⟩
    · rw [if_neg (by rw [beq_iff_eq]; omega)]
      rw [if_neg e] at en
      unfold L5_GraphTurn_k7 L5_GraphTurn_r17
      try dsimp only
      rw [sx_add (by omega)]
      rw [← en] at x
      exact ih (i + 1) k n h v (by omega) (by omega) gb gr x hn f

theorem gturn_l4 {F g g2 m b lo : Nat} {tv : Value} (hF : 1000000 ≤ F) (ok : GOk N adj) (hml : m ≤ lo) (hg : g < lo) {E : Value → Value → Value → Value → M Value} : ∀ j a k n (h : H) v, a + j = N → j < k → GB h g N tv → Gr h m tv N adj → NewI h lo v (nats (turnL adj a 0 b)) → lo ≤ n → Fr n h →
    ∃ n' h' v', (L5_GraphTurn_l4 F E k (pt g 0) (pt g2 0) (i64 (b : Nat)) v (i64 (a : Nat))).run n h = (E (pt g 0) (pt g2 0) (i64 (b : Nat)) v').run n' h' ∧ NewI h' lo v' (nats (turnA N adj b)) ∧ Ev (fun c => lo ≤ c) n h n' h' := by
  have hN := ok.few
  intro j
  induction j with
  | zero =>
    intro a k n h v hij hk gb gr x hn f
    obtain ⟨k, rfl⟩ : ∃ j, k = j + 1 := ⟨k - 1, by omega⟩
    rw [L5_GraphTurn_l4_s]
    unfold L5_GraphTurn_b4 L5_GraphTurn_r13
    try dsimp only
    rw [gb.nn, st_lss, onB_ite, run_ite, if_neg (by simp; omega)]
    have : a = N := by omega
    subst this
    exact ⟨n, h, v, rfl, x, Ev.refl f⟩
  | succ j ih =>
    intro a k n h v hij hk gb gr x hn f
    obtain ⟨k, rfl⟩ : ∃ j, k = j + 1 := ⟨k - 1, by omega⟩
    have ha : a < N := by omega
    have hs := ok.short a ha
    rw [L5_GraphTurn_l4_s]
    unfold L5_GraphTurn_b4 L5_GraphTurn_r13
    try dsimp only
    rw [gb.nn, st_lss, onB_ite, run_ite, if_pos (by simp; omega)]
    unfold L5_GraphTurn_r15
    try dsimp only
    obtain ⟨n1, h1, v1, e1, x1, ev1⟩ := gturn_l6 (F := F) (g := g) (g2 := g2) (m := m) (lo := lo) (b := b) hF ok ha hml hg (E := fun x6 x7 x8 x9 x10 => L5_GraphTurn_k5 F (L5_GraphTurn_l4 F E k) x6 x7 x8 x9 x10) (adj a).length 0 F n h v (by omega) (by omega) gb gr x hn f
    rw [show (Value.int .i64 0) = i64 ((0 : Nat) : Int) from rfl, e1]
    unfold L5_GraphTurn_k5 L5_GraphTurn_r14
    try dsimp only
    rw [sx_add (by omega)]
    have l1 := ev1.le
    obtain ⟨n', h', v', q1, q2, q3⟩ := ih (a + 1) k n1 h1 v1 (by omega) (by omega) (gb.ev ev1 (by omega) (by omega)) (gr.ev ev1 (by omega) fun c hc => by omega) x1 (by omega) ev1.f
    exact ⟨n', h', v', q1, q2, ev1.trans q3 fun _ _ h => h⟩

theorem gturn_l1 {F g g2 m ob : Nat} {tv : Value} {O : Nat → Prop} (hF : 1000000 ≤ F) (ok : GOk N adj) (hg : g < m ∧ g2 < m) {E : M Value} : ∀ j b k n (h : H), b + j = N → j < k → GB h g N tv → Gr h m tv N adj → GB h g2 N (sl ob 0 N N) → Gr h m (sl ob 0 N N) N (turnA N adj) → m ≤ n → Fr n h →
    ∃ n' h', (L5_GraphTurn_l1 F E k (pt g 0) (pt g2 0) (i64 (b : Nat))).run n h = E.run n' h' := by
  have hN := ok.few
  intro j
  induction j with
  | zero =>
    intro b k n h hij hk gb gr gb2 gr2 hn f
    obtain ⟨k, rfl⟩ : ∃ j, k = j + 1 := ⟨k - 1, by omega⟩
    rw [L5_GraphTurn_l1_s]
    unfold L5_GraphTurn_b1 L5_GraphTurn_r9
    try dsimp only
    rw [gb.nn, st_lss, onB_ite, run_ite, if_neg (by simp; omega)]
    exact ⟨n, h, rfl⟩
  | succ j ih =>
    intro b k n h hij hk gb gr gb2 gr2 hn f
    obtain ⟨k, rfl⟩ : ∃ j, k = j + 1 := ⟨k - 1, by omega⟩
    have hb : b < N := by omega
    rw [L5_GraphTurn_l1_s]
    unfold L5_GraphTurn_b1 L5_GraphTurn_r9
    try dsimp only
    rw [gb.nn, st_lss, onB_ite, run_ite, if_pos (by simp; omega)]
    unfold L5_GraphTurn_r11 L5_GraphTurn_r12
    try dsimp only
    have e0 : nats (turnL adj 0 0 b) = [] := by unfold turnL; simp [nats]
    obtain ⟨n1, h1, v1, e1, x1, ev1⟩ := gturn_l4 (F := F) (g := g) (g2 := g2) (m := m) (lo := n) (b := b) (tv := tv) hF ok hn (by omega) (E := fun x6 x7 x8 x9 => L5_GraphTurn_k3 F (L5_GraphTurn_l1 F E k) x6 x7 x8 x9) N 0 F n h nsl (by omega) (by omega) gb gr (by rw [e0]; exact NewI.nil) (Nat.le_refl _) f
    rw [show (Value.slice none 0 0) = nsl from rfl, show (Value.int .i64 0) = i64 ((0 : Nat) : Int) from rfl, e1]
    have ev1' : Ev No n h n1 h1 := ⟨ev1.f, ev1.le, fun c hc _ => ev1.keep c hc (by omega)⟩
    have l1 := ev1.le
    have gb1 := gb.ev ev1' (by omega) (fun h => h)
    have gb21 := gb2.ev ev1' (by omega) (fun h => h)
    have gr1 := gr.no ev1' hn
    have gr21 := gr2.no ev1' hn
    unfold L5_GraphTurn_k3 L5_GraphTurn_r20
    try dsimp only
    obtain ⟨rv, e2, h0, f0, k0, hr⟩ := gr21.row (β := Value) (n := n1) hb
    have rd : RdI h1 rv (nats (turnA N adj b)) := hr.kept f0 k0
    have hlen := turnL_len (b := b) ok N 0 (by omega) (.inr rfl)
    have hlen2 : (nats (turnA N adj b)).length ≤ 601000 := by rw [nats_len]; unfold turnA; omega
    rw [gb21.t, e2, run_bnd (req_spec rd x1.rd (by omega) (by omega)), decide_eq_true rfl, st_not, onB_ite, run_ite, if_neg (by decide)]
    unfold L5_GraphTurn_k2 L5_GraphTurn_r10
    try dsimp only
    rw [sx_add (by omega)]
    exact ih (b + 1) k n1 h1 (by omega) (by omega) gb1 gr1 gb21 gr21 (by omega) ev1.f
end

theorem gturn_run {F : Nat} (hF : 1000000 ≤ F) (hbg : gaveTrue ((L5_begun F).run 8 (baseH deB)) = true) (hbk : (((L5_begun F).run 8 (baseH deB)).map fun x => x.2.2.get 0) = some (some ⟨deB, .ro⟩)) (h : H) (us : List Value) (f : Fr 8 h) (hb : h.get 0 = some ⟨deB, .ro⟩) (ha : ArgsAre h [.int, .flat 2] us) :
    ∃ n' h', (L5_GraphTurn_m F us).run 8 h = some (.bool true, n', h') := by
  obtain ⟨_, v, rfl, ⟨z, rfl, hz⟩, hv⟩ := args2 ha
  obtain ⟨len, Z, hp, hl, hZ⟩ := hv.pairs f
  show ∃ n' h', (L5_GraphTurn F (i64 z) v).run 8 h = some (.bool true, n', h')
  unfold L5_GraphTurn L5_GraphTurn_r0 L5_GraphTurn_r1
  try dsimp only
  obtain ⟨n1, h1, e1, f1, l1, k1⟩ := run_over_true hbg hbk f hb
  rw [run_bnd e1]
  unfold L5_GraphTurn_r2
  simp only [st_not, onB_ite, Bool.not_true, Bool.false_eq_true, if_false]
  unfold L5_GraphTurn_r4
  try dsimp only
  obtain ⟨n2, h2, g, ob, O, e2, x2, ev2⟩ := made_var (F := F) hF l1 hz hZ (hp.keep k1) f1
  rw [show (Value.int .i64 0) = i64 0 from rfl, show (Value.slice none 0 0) = nsl from rfl, e2]
  generalize nodesOf z = N at *
  generalize madeL N Z (min len 80) = adj at *
  have gr2 := x2.gr ev2.f
  have hN := x2.few
  have hN1 := x2.pos
  have hgl := x2.glt
  unfold L5_GraphTurn_r5
  try dsimp only
  obtain ⟨n3, h3, g2, ob2, O2, e3, gb3, x3, o3, _, lg2, hg2, ev3⟩ := turn_var (F := F) (by omega) gr2 (Nat.le_refl _) x2.ok ev2.f
  rw [x2.var.all, show (Value.int .i64 0) = i64 0 from rfl, show (Value.slice none 0 0) = nsl from rfl, e3]
  have gbg := x2.var.ev ev3 x2.glt (fun h => h)
  have gr3 := gr2.no ev3 (Nat.le_refl _)
  have l3 := ev3.le
  unfold L5_GraphTurn_r6
  try dsimp only
  rw [gb3.nn, gbg.nn, st_neq, onB_ite, run_ite, if_neg (by simp), gb3.t, st_len, gbg.nn, st_neq, onB_ite, run_ite, if_neg (by simp)]
  unfold L5_GraphTurn_r8
  try dsimp only
  obtain ⟨n4, h4, e4⟩ := gturn_l1 (F := F) (g := g) (g2 := g2) (m := n3) (O := O2) hF x2.ok ⟨by omega, hg2⟩ (E := L5_GraphTurn_k0 F) N 0 F n3 h3 (by omega) (by omega) gbg (gr3.mono ev3.f (by omega)) gb3 (x3.gr ev3.f fun _ _ => rfl) (Nat.le_refl _) ev3.f
  rw [show (Value.int .i64 0) = i64 ((0 : Nat) : Int) from rfl, e4]
  exact ⟨n4, h4, rfl⟩

theorem gturn_law (h : H) (us : List Value) (f : Fr 8 h) (hb : h.get 0 = some ⟨deB, .ro⟩) (ha : ArgsAre h [.int, .flat 2] us) : ∃ n' h', (L5_GraphTurn_m 1000000 us).run 8 h = some (.bool true, n', h') := gturn_run (Nat.le_refl _) begunD_runs begunD_keeps h us f hb ha

end Go.Fw
