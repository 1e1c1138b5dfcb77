/-
  GraphLoopsParts, said of the abstract machine.
-/
import Derived.Test.YtddafkflndhnfaaDoorLawTC
import Derived.Test.YtddafkflndhnfaaDoorLawTLoops
import Derived.Test.YtddafkflndhnfaaDoorGenTGraphLoopsParts
set_option maxRecDepth 20000
set_option linter.unusedVariables false
namespace Go.Fw

section
variable {n : Nat} {h : H} {m N lo : Nat} {tv : Value} {adj : Nat → List Nat}

/-- A row, where it lies. -/
theorem RdP.rowC {v : Value} {L : List (List Nat)} (x : RdP lo h v L) {i : Nat} {P : List Nat} (hP : L[i]? = some P) (hne : P ≠ []) : ∃ u b o, (∀ k : Value → M Value, bnd (opIndexAddr 1 v (i64 i)) k = k (pt b o)) ∧ (∀ (n : Nat) (k : Value → M Value), (bnd (opLoad (pt b o)) k).run n h = (k u).run n h) ∧ (∀ (n : Nat) (k : Unit → M Value), (bnd (opChk false (pt b o) u) k).run n h = (k ()).run n h) ∧ RdI h u (nats P) := by
  obtain ⟨ivs, h1, h2, _, h3⟩ := x
  have hi := (List.getElem?_eq_some_iff.1 hP).1
  have hv : ivs[i]? = some (ivs[i]'(by omega)) := List.getElem?_eq_getElem _
  have hr := (h3 i _ P hv hP).1
  have hvv : veq (ivs[i]'(by omega)) (ivs[i]'(by omega)) = true := by
    rcases hr with ⟨e, _⟩ | ⟨b, o, c, k, e, _⟩
    · exact absurd e (nats_ne.2 hne)
    · rw [e]; simp [veq]
  rcases h1 with ⟨e, _⟩ | ⟨b, o, c, kk, rfl, g⟩
  · rw [e] at h2; simp at h2; omega
  · obtain ⟨xs, g1, g2, g3⟩ := g (by rintro rfl; simp at h2; omega)
    have hx : xs[o + i]? = some (ivs[i]'(by omega)) := by rw [g3 i (by omega)]; exact hv
    refine ⟨_, b, o + i, fun k => ?_, fun n k => ?_, fun n k => run_chk g1 g2 hx hvv, hr⟩
    · rw [st_ix, if_pos (by omega), Int.toNat_natCast, Nat.mul_one]
    · rw [run_load, g1, ldm_some g2 hx]

theorem glp_l3 {F i p hi_ lo' : Nat} {x8 : Value} {L : List (List Nat)} {C : Nat → Bool} {P : List Nat} (hF : 1000000 ≤ F) (ok : GOk N adj) {g : Nat} (gb : GB h g N tv) (gr : Gr h m tv N adj) (rp : RdP lo h x8 L) (hPi : L[i]? = some P) (hPs : P.length ≤ 1000) (hPN : ∀ a, a ∈ P → a < N ∧ C a = loopB adj P a) (xs : SetAt h p lo' hi_ C) {E : Value → Value → Value → Value → M Value} : ∀ j q k, q + j = P.length → j < k →
    (L5_GraphLoopsParts_l3 F E k (pt g 0) (pt p 0) x8 (i64 i) (i64 q)).run n h = (E (pt g 0) (pt p 0) x8 (i64 i)).run n h := by
  have hN := ok.few
  intro j
  induction j with
  | zero =>
    intro q k hq hk
    obtain ⟨k, rfl⟩ : ∃ j, k = j + 1 := ⟨k - 1, by omega⟩
    obtain ⟨u, er, ru, _, _⟩ := rp.row (n := n) hPi
    rw [L5_GraphLoopsParts_l3_s]
    unfold L5_GraphLoopsParts_b3 L5_GraphLoopsParts_r11
    try dsimp only
    rw [er, RdI.lenN ru, st_lss]
    simp only [onB_ite, run_ite, decide_eq_true_eq]
    rw [if_neg (by omega)]
  | succ j ih =>
    intro q k hq hk
    obtain ⟨k, rfl⟩ : ∃ j, k = j + 1 := ⟨k - 1, by omega⟩
    have hqP : q < P.length := by omega
    obtain ⟨u, er, ru, _, _⟩ := rp.row (n := n) hPi
    obtain ⟨haN, hCa⟩ := hPN P[q] (List.getElem_mem hqP)
    have hne : P ≠ [] := fun e => by rw [e] at hqP; simp at hqP
    rw [L5_GraphLoopsParts_l3_s]
    unfold L5_GraphLoopsParts_b3 L5_GraphLoopsParts_r11
    try dsimp only
    rw [er, RdI.lenN ru, st_lss]
    simp only [onB_ite, run_ite, decide_eq_true_eq]
    rw [if_pos (by omega)]
    unfold L5_GraphLoopsParts_r13
    try dsimp only
    rw [er, RdI.getN ru hqP]
    unfold L5_GraphLoopsParts_r14
    try dsimp only
    obtain ⟨w, b, o, c1, c2, c3, rw_⟩ := rp.rowC hPi hne
    have hisin : isIn C ((P[q] : Nat) : Int) = C P[q] := by
      unfold isIn
      rw [decide_eq_true (by omega), Bool.true_and, Int.toNat_natCast]
    have go : (L5_GraphLoopsParts_r12 F (pt g 0) (pt p 0) x8 (i64 i) (i64 q) fun x6 x7 x8 x9 x10 => L5_GraphLoopsParts_l3 F E k x6 x7 x8 x9 x10).run n h = (E (pt g 0) (pt p 0) x8 (i64 i)).run n h := by
      unfold L5_GraphLoopsParts_r12
      try dsimp only
      rw [show (Value.int .i64 1) = i64 1 from rfl, sx_add (by omega)]
      exact ih (q + 1) k (by omega) (by omega)
    rw [c1, c2, RdI.lenN rw_, show (Value.int .i64 1) = i64 1 from rfl, st_gtr, run_bnd (at_has (F := F) xs ((P[q] : Nat) : Int)), c3, onB_ite, run_ite, hisin, hCa]
    unfold loopB
    by_cases h1 : 1 < P.length
    · rw [if_pos (by rw [decide_eq_true_eq]; omega), decide_eq_true h1, Bool.true_or, show (Value.bool true) = bo true from rfl, st_eqB, onB_ite, run_ite, if_neg (by decide)]
      exact go
    · rw [if_neg (by rw [decide_eq_true_eq]; omega), decide_eq_false h1, Bool.false_or]
      obtain ⟨rv, er', hg, fg, kg, hr⟩ := gr.row (β := Value) (n := n) haN
      rw [gb.t, er', run_bnd (rin_spec (F := F) (z := ((P[q] : Nat) : Int)) (hr.kept fg kg) (by rw [nats_len]; have := ok.short _ haN; omega) (by rw [nats_len]; have := ok.short _ haN; omega)), st_eqB, onB_ite, run_ite]
      have em : decide (((P[q] : Nat) : Int) ∈ nats (adj P[q])) = decide (P[q] ∈ adj P[q]) := by rw [decide_eq_decide]; exact nats_mem
      rw [em, if_neg (by cases decide (P[q] ∈ adj P[q]) <;> decide)]
      exact go

theorem glp_l1 {F p hi_ lo' : Nat} {x8 : Value} {L : List (List Nat)} {C : Nat → Bool} (hF : 1000000 ≤ F) (ok : GOk N adj) {g : Nat} (gb : GB h g N tv) (gr : Gr h m tv N adj) (rp : RdP lo h x8 L) (hL : L.length ≤ 1000) (hPN : ∀ P, P ∈ L → P.length ≤ 1000 ∧ ∀ a, a ∈ P → a < N ∧ C a = loopB adj P a) (xs : SetAt h p lo' hi_ C) {E : M Value} : ∀ j i k, i + j = L.length → j < k →
    (L5_GraphLoopsParts_l1 F E k (pt g 0) (pt p 0) x8 (i64 i)).run n h = E.run n h := by
  intro j
  induction j with
  | zero =>
    intro i k hij hk
    obtain ⟨k, rfl⟩ : ∃ j, k = j + 1 := ⟨k - 1, by omega⟩
    rw [L5_GraphLoopsParts_l1_s]
    unfold L5_GraphLoopsParts_b1 L5_GraphLoopsParts_r8
    try dsimp only
    rw [rp.len, st_lss]
    simp only [onB_ite, run_ite, decide_eq_true_eq]
    rw [if_neg (by omega)]
  | succ j ih =>
    intro i k hij hk
    obtain ⟨k, rfl⟩ : ∃ j, k = j + 1 := ⟨k - 1, by omega⟩
    have hi : i < L.length := by omega
    obtain ⟨h1, h2⟩ := hPN _ (List.getElem_mem hi)
    rw [L5_GraphLoopsParts_l1_s]
    unfold L5_GraphLoopsParts_b1 L5_GraphLoopsParts_r8
    try dsimp only
    rw [rp.len, st_lss]
    simp only [onB_ite, run_ite, decide_eq_true_eq]
    rw [if_pos (by omega)]
    unfold L5_GraphLoopsParts_r10
    try dsimp only
    rw [show (Value.int .i64 0) = i64 ((0 : Nat) : Int) from rfl, glp_l3 (F := F) hF ok gb gr rp (List.getElem?_eq_getElem hi) h1 h2 xs L[i].length 0 F (by omega) (by omega)]
    unfold L5_GraphLoopsParts_k2 L5_GraphLoopsParts_r9
    try dsimp only
    rw [show (Value.int .i64 1) = i64 1 from rfl, sx_add (by omega)]
    exact ih (i + 1) k (by omega) (by omega)
end

theorem glp_run {F : Nat} (hF : 1000000 ≤ F) (hbg : gaveTrue ((L5_begun F).run 8 (baseH deB)) = true) (hbg0 : (((L5_begun F).run 8 (baseH deB)).map fun x => x.2.2.get 0) = some (some ⟨deB, .ro⟩)) (h : H) (us : List Value) (f : Fr 8 h) (hb : h.get 0 = some ⟨deB, .ro⟩) (ha : ArgsAre h [.int, .flat 2] us) : ∃ n' h', (L5_GraphLoopsParts_m F us).run 8 h = some (.bool true, n', h') := by
  obtain ⟨v0, v1, rfl, a0, a1⟩ := args2 ha
  obtain ⟨z, rfl, hz⟩ := a0
  obtain ⟨len, Z, hp, _, hZ⟩ := a1.pairs f
  show ∃ n' h', (L5_GraphLoopsParts F (i64 z) v1).run 8 h = _
  obtain ⟨n1, h1, e1, f1, l1, k1⟩ := run_over_true hbg hbg0 f hb
  unfold L5_GraphLoopsParts L5_GraphLoopsParts_r0 L5_GraphLoopsParts_r1
  try dsimp only
  rw [run_bnd e1]
  unfold L5_GraphLoopsParts_r2
  simp only [st_not, onB_ite, Bool.not_true, Bool.false_eq_true, if_false]
  unfold L5_GraphLoopsParts_r4
  try dsimp only
  obtain ⟨n2, h2, g, ob, O, e2, x2, ev2⟩ := made_var (F := F) hF l1 hz hZ (hp.keep k1) f1
  rw [show (Value.int .i64 0) = i64 0 from rfl, show (Value.slice none 0 0) = nsl from rfl, e2]
  generalize nodesOf z = N at *
  generalize madeL N Z (min len 80) = adj at *
  have gr2 := x2.gr ev2.f
  have hN := x2.few
  have hN1 := x2.pos
  have hgl := x2.glt
  unfold L5_GraphLoopsParts_r5
  try dsimp only
  obtain ⟨n3, h3, p, C, e3, x3, c3, ev3⟩ := gloops_spec (F := F) hF x2.ok hN1 gr2 (Nat.le_refl _) ev2.f
  have gb3 := x2.var.ev ev3 x2.glt (fun h => h)
  have gr3 := gr2.no ev3 (Nat.le_refl _)
  have l3 := ev3.le
  rw [x2.var.all, run_bnd e3]
  unfold L5_GraphLoopsParts_r6
  try dsimp only
  obtain ⟨n4, h4, v4, L, e4, rp, tp, _, ev4⟩ := parts_spec (F := F) hF x2.ok hN1 gr3 (by omega) ev3.f
  rw [gb3.all, run_bnd e4]
  unfold L5_GraphLoopsParts_r7
  try dsimp only
  rw [show (Value.int .i64 0) = i64 ((0 : Nat) : Int) from rfl, glp_l1 (F := F) hF x2.ok (gb3.ev ev4 (by omega) (fun h => h)) (gr3.no ev4 (by omega)) rp (by have := tp.len; omega) (fun P hP => ⟨by have := tp.few P hP; omega, fun a ha => by
    obtain ⟨q1, q2⟩ := (tp.part P hP).2 a ha
    refine ⟨q1, ?_⟩
    rw [Bool.eq_iff_iff, c3 a, q2, loop_iff x2.ok.lt q1]
    exact ⟨fun h => h.2, fun h => ⟨q1, h⟩⟩⟩) (x3.kept ev4 (Nat.le_refl _)) L.length 0 F (by omega) (by have := tp.len; omega)]
  exact ⟨n4, h4, rfl⟩

theorem glp_law (h : H) (us : List Value) (f : Fr 8 h) (hb : h.get 0 = some ⟨deB, .ro⟩) (ha : ArgsAre h [.int, .flat 2] us) : ∃ n' h', (L5_GraphLoopsParts_m 1000000 us).run 8 h = some (.bool true, n', h') := glp_run (Nat.le_refl _) begunT_runs begunT_keeps h us f hb ha

end Go.Fw
