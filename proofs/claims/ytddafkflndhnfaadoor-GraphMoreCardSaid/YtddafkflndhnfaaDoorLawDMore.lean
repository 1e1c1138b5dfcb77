/-
  GraphMore, said of the abstract machine.
-/
import Derived.Test.YtddafkflndhnfaaDoorLawDReach
import Derived.Test.YtddafkflndhnfaaDoorGenDGraphMore
set_option maxRecDepth 20000
set_option linter.unusedVariables false
namespace Go.Fw

/-- Two graphs that are made alike, put into two variables. -/
theorem made_two {F n len : Nat} {v : Value} {z : Int} {Z : Nat → Int} {h : H} (hF : 1000000 ≤ F) (hn : 8 ≤ n) (hz : Fit z) (hZ : ∀ i, Fit (Z i)) (hp : Pairs h v len Z) (f : Fr n h) :
    ∃ n' h' g g' ob ob' O' m1, (∀ K : Value → Value → M Value, (bnd (L5_Made F (i64 z) v) fun w => bnd (L5_Made F (i64 z) v) fun w' => bnd (opPtr [i64 0, nsl]) fun x => bnd (opPtr [i64 0, nsl]) fun x' => bnd (opStoreN 2 x w) fun _ => bnd (opStoreN 2 x' w') fun _ => K x x').run n h = (K (pt g 0) (pt g' 0)).run n' h') ∧
      GB h' g (nodesOf z) (sl ob 0 (nodesOf z) (nodesOf z)) ∧ GB h' g' (nodesOf z) (sl ob' 0 (nodesOf z) (nodesOf z)) ∧ Gr h' m1 (sl ob 0 (nodesOf z) (nodesOf z)) (nodesOf z) (madeL (nodesOf z) Z (min len 80)) ∧
      OL h' ob' (nodesOf z) O' (fun a => nats (madeL (nodesOf z) Z (min len 80) a)) ∧ (∀ c, O' c → m1 ≤ c ∧ c ≠ g ∧ c ≠ g') ∧ n ≤ m1 ∧ m1 ≤ g ∧ m1 ≤ g' ∧ g ≠ g' ∧ g < n' ∧ g' < n' ∧ GOk (nodesOf z) (madeL (nodesOf z) Z (min len 80)) ∧ 1 ≤ nodesOf z ∧ nodesOf z ≤ 25 ∧ (∀ a, (madeL (nodesOf z) Z (min len 80) a).length ≤ 80) ∧ Ev No n h n' h' := by
  obtain ⟨_, hN1, hN2⟩ := nodesOf_eq z
  obtain ⟨n1, h1, ob, O, e1, x1, o1, ev1⟩ := made_spec (F := F) (by omega) hn hz hZ hp f
  have l1 := ev1.le
  obtain ⟨n2, h2, ob', O', e2, x2, o2, ev2⟩ := made_spec (F := F) (by omega) (by omega) hz hZ (hp.keep fun c hc => ev1.no (by omega)) ev1.f
  have l2 := ev2.le
  have gr1 : Gr h1 n1 (sl ob 0 (nodesOf z) (nodesOf z)) (nodesOf z) (madeL (nodesOf z) Z (min len 80)) := x1.gr ev1.f fun _ _ => rfl
  have ev3 := Ev.new ev2.f ⟨[i64 0, nsl], .own⟩
  have ev4 := Ev.new ev3.f ⟨[i64 0, nsl], .own⟩
  generalize hh4 : (h2.set n2 ⟨[i64 0, nsl], .own⟩).set (n2 + 1) ⟨[i64 0, nsl], .own⟩ = h4 at *
  have q4 : h4.get n2 = some ⟨[i64 0, nsl], .own⟩ := by rw [← hh4, H.get_set_ne _ _ (by omega), H.get_set_same]
  have q4' : h4.get (n2 + 1) = some ⟨[i64 0, nsl], .own⟩ := by rw [← hh4, H.get_set_same]
  obtain ⟨h5, e5, g5, ev5⟩ := GB.put (β := Value) (N := nodesOf z) (tv := sl ob 0 (nodesOf z) (nodesOf z)) q4 rfl ev4.f rfl
  have q5 : h5.get (n2 + 1) = some ⟨[i64 0, nsl], .own⟩ := (ev5.keep _ (by omega) (by omega)).trans q4'
  obtain ⟨h6, e6, g6, ev6⟩ := GB.put (β := Value) (N := nodesOf z) (tv := sl ob' 0 (nodesOf z) (nodesOf z)) q5 rfl ev5.f rfl
  have ev26 : Ev No n2 h2 (n2 + 1 + 1) h6 := ((ev3.trans ev4 fun _ _ h => h).trans ev5 fun c hc q => by omega).trans ev6 fun c hc q => by omega
  refine ⟨n2 + 1 + 1, h6, n2, n2 + 1, ob, ob', O', n1, fun K => ?_, g5.ev ev6 (by omega) (by omega), g6, (gr1.no ev2 (Nat.le_refl _)).no ev26 l2, x2.keep fun c hc => ev26.no (x2.lt ev2.f hc), fun c hc => ⟨o2 c hc, by have := x2.lt ev2.f hc; omega, by have := x2.lt ev2.f hc; omega⟩, l1, l2, by omega, by omega, by omega, by omega, ⟨by omega, fun a _ b hb => madeL_lt hN1 hb, fun a _ => ?_⟩, hN1, hN2, fun a => ?_, (ev1.trans ev2 fun _ _ h => h).trans ev26 fun _ _ h => h⟩
  · rw [run_bnd e1, run_bnd e2, run_ptr ev2.f (by rfl), run_ptr ev3.f (by rfl), hh4, e5, e6]
  · have := madeL_len (N := nodesOf z) (Z := Z) (i := min len 80) (a := a); omega
  · have := madeL_len (N := nodesOf z) (Z := Z) (i := min len 80) (a := a); omega

/-- Who is reached with an edge more. -/
theorem rch_more {adj adj' : Nat → List Nat} {x y i q : Nat} (h : ∀ a b, b ∈ adj' a ↔ (b ∈ adj a ∨ (a = x ∧ b = y))) : Rch adj' i q ↔ (Rch adj i q ∨ (Rch adj i x ∧ Rch adj y q)) := by
  constructor
  · intro r
    induction r with
    | refl => exact .inl .refl
    | step _ h2 ih =>
      rcases (h _ _).1 h2 with h3 | ⟨rfl, rfl⟩
      · rcases ih with h4 | ⟨h4, h5⟩
        · exact .inl (.step h4 h3)
        · exact .inr ⟨h4, .step h5 h3⟩
      · rcases ih with h4 | ⟨h4, _⟩
        · exact .inr ⟨h4, .refl⟩
        · exact .inr ⟨h4, .refl⟩
  · have up : ∀ {a b}, Rch adj a b → Rch adj' a b := fun r => by
      induction r with
      | refl => exact .refl
      | step _ h2 ih => exact .step ih ((h _ _).2 (.inl h2))
    rintro (r | ⟨r1, r2⟩)
    · exact up r
    · exact ((up r1).step ((h _ _).2 (.inr ⟨rfl, rfl⟩))).trans (up r2)

section
variable {N : Nat} {adj adj' : Nat → List Nat}

theorem gmore_l1 {F m g g' x y : Nat} {tv : Value} {ob' : Nat} (hF : 1000000 ≤ F) (ok : GOk N adj) (ok' : GOk N adj') (hx : x < N) (hy : y < N) (hadj : ∀ a b, b ∈ adj' a ↔ (b ∈ adj a ∨ (a = x ∧ b = y))) (hg : g < m ∧ g' < m) {E : M Value} : ∀ j i k n (h : H), i + j = N → j < k → GB h g N tv → GB h g' N (sl ob' 0 N N) → Gr h m tv N adj → Gr h m (sl ob' 0 N N) N adj' → m ≤ n → Fr n h →
    ∃ n' h', (L5_GraphMore_l1 F E k (pt g 0) (pt g' 0) (i64 (x : Nat)) (i64 (y : Nat)) (i64 (i : Nat))).run n h = E.run n' h' := by
  have hN := ok.few
  intro j
  induction j with
  | zero =>
    intro i k n h hij hk gb gb' gr gr' hm f
    obtain ⟨k, rfl⟩ : ∃ j, k = j + 1 := ⟨k - 1, by omega⟩
    rw [L5_GraphMore_l1_s]
    unfold L5_GraphMore_b1 L5_GraphMore_r8
    try dsimp only
    rw [gb.nn, st_lss, onB_ite, run_ite, if_neg (by simp; omega)]
    exact ⟨n, h, rfl⟩
  | succ j ih =>
    intro i k n h hij hk gb gb' gr gr' hm f
    obtain ⟨k, rfl⟩ : ∃ j, k = j + 1 := ⟨k - 1, by omega⟩
    have hi : i < N := by omega
    rw [L5_GraphMore_l1_s]
    unfold L5_GraphMore_b1 L5_GraphMore_r8
    try dsimp only
    rw [gb.nn, st_lss, onB_ite, run_ite, if_pos (by simp; omega)]
    unfold L5_GraphMore_r10
    try dsimp only
    obtain ⟨n1, h1, p, S, e1, x1, s1, ev1⟩ := greach_one (F := F) (root := i) hF gr hm ok hi f
    have l1 := ev1.le
    have gb1' := gb'.ev ev1 (by omega) (fun h => h)
    have gb1 := gb.ev ev1 (by omega) (fun h => h)
    rw [gb.all, gb'.all, show (Value.int .i64 0) = i64 0 from rfl, e1]
    have hchk : ∀ K : M Value, (bnd (opChk true (pt g' 0) (gv N (sl ob' 0 N N))) fun _ => K).run n1 h1 = K.run n1 h1 := fun K => run_chkN (vs := [i64 N, sl ob' 0 N N]) gb1' (by decide) (by simp) rfl (by simp [veqL, veq])
    rw [hchk]
    obtain ⟨n2, h2, p2, T, e2, x2, s2, ev2⟩ := greach_one (F := F) (root := i) hF (gr'.no ev1 hm) (by omega) ok' hi ev1.f
    have l2 := ev2.le
    rw [e2]
    have x1' : SetAt h2 p n n1 S := x1.keep ev2 (Nat.le_refl _) fun c h _ => h.elim
    have gb2 := gb1.ev ev2 (by omega) (fun h => h)
    have gb2' := gb1'.ev ev2 (by omega) (fun h => h)
    have gr2 := (gr.no ev1 hm).no ev2 (by omega)
    have gr2' := (gr'.no ev1 hm).no ev2 (by omega)
    have hT : ∀ q, T q = true ↔ (S q = true ∨ (S x = true ∧ Rch adj y q)) := fun q => by
      rw [s2, s1, s1]; exact rch_more hadj
    unfold L5_GraphMore_r11
    try dsimp only
    have hsub : subS S T = true := subS_iff.2 fun q hq => (hT q).2 (.inl hq)
    rw [run_bnd (at_in (F := F) (n := n2) (by omega) x1' x2), hsub, st_not, onB_ite, run_ite, if_neg (by decide)]
    obtain ⟨O1, b1, o1⟩ := x1'
    obtain ⟨O2, b2, o2⟩ := x2
    have x1' : SetAt h2 p n n1 S := ⟨O1, b1, o1⟩
    have x2 : SetAt h2 p2 n1 n2 T := ⟨O2, b2, o2⟩
    have next : ∀ n3 (h3 : H) S' hi3, SetAt h3 p n hi3 S' → SetAt h3 p2 n1 n2 T → S' = T → Ev (fun c => n ≤ c) n2 h2 n3 h3 → ∃ n' h', (L5_GraphMore_k2 F (L5_GraphMore_l1 F E k) (pt g 0) (pt g' 0) (i64 (x : Nat)) (i64 (y : Nat)) (i64 (i : Nat)) (pt p 0) (pt p2 0)).run n3 h3 = E.run n' h' := fun n3 h3 S' hi3 y1 y2 hST ev3 => by
      unfold L5_GraphMore_k2 L5_GraphMore_r15
      try dsimp only
      have l3 := ev3.le
      have he : eqS S' T = true := by unfold eqS; rw [@decide_eq_true_eq _ (Classical.propDecidable _)]; exact hST
      rw [run_bnd (at_eq (F := F) (n := n3) (by omega) y1 y2), he, st_not, onB_ite, run_ite, if_neg (by decide)]
      unfold L5_GraphMore_r9
      try dsimp only
      rw [sx_add (by omega)]
      exact ih (i + 1) k n3 h3 (by omega) (by omega) (gb2.ev ev3 (by omega) (by omega)) (gb2'.ev ev3 (by omega) (by omega)) (gr2.ev ev3 (by omega) fun c hc => by omega) (gr2'.ev ev3 (by omega) fun c hc => by omega) (by omega) ev3.f
    cases hS : S x with
    | false =>
      rw [run_bnd (has_nat b1 x), hS, onB_ite, run_ite, if_neg (by decide), onB_ite, run_ite, if_neg (by decide)]
      unfold L5_GraphMore_r13
      try dsimp only
      rw [run_bnd (has_nat b1 x), hS, onB_ite, run_ite, if_neg (by decide)]
      refine next n2 h2 S n1 x1' x2 ?_ (Ev.refl ev2.f)
      funext q
      rw [Bool.eq_iff_iff, hT, hS]
      simp
    | true =>
      have hTy : T y = true := (hT y).2 (.inr ⟨hS, .refl⟩)
      rw [run_bnd (has_nat b1 x), hS, onB_ite, run_ite, if_pos rfl, run_bnd (has_nat b2 y), hTy, st_not, onB_ite, run_ite, if_neg (by decide)]
      unfold L5_GraphMore_r13
      try dsimp only
      rw [run_bnd (has_nat b1 x), hS, onB_ite, run_ite, if_pos rfl]
      unfold L5_GraphMore_r14
      try dsimp only
      obtain ⟨n3, h3, p3, Y, e3, x3, s3, ev3⟩ := greach_one (F := F) (root := y) hF gr2 (by omega) ok hy ev2.f
      have l3 := ev3.le
      rw [gb2.all, show (Value.int .i64 0) = i64 0 from rfl, e3]
      have y1 : SetAt h3 p n n1 S := x1'.keep ev3 (by omega) fun c h _ => h.elim
      have y2 : SetAt h3 p2 n1 n2 T := x2.keep ev3 (by omega) fun c h _ => h.elim
      obtain ⟨n4, h4, e4, z1, ev4⟩ := at_join (F := F) (n := n3) (by omega) y1 x3 (.inr (by omega)) (by omega) ev3.f
      rw [run_bnd e4]
      refine next n4 h4 _ n4 z1 (y2.keep ev4 (by omega) fun c h1 h2 => by omega) ?_ (Ev.trans (ev3.mono fun _ _ h => h.elim) ev4 fun c _ h => h.1)
      funext q
      rw [Bool.eq_iff_iff, hT, hS, Bool.or_eq_true, s3]
      simp
end

theorem gmore_run {F : Nat} (hF : 1000000 ≤ F) (hbg : gaveTrue ((L5_begun F).run 8 (baseH deB)) = true) (hbk : (((L5_begun F).run 8 (baseH deB)).map fun x => x.2.2.get 0) = some (some ⟨deB, .ro⟩)) (h : H) (us : List Value) (f : Fr 8 h) (hb : h.get 0 = some ⟨deB, .ro⟩) (ha : ArgsAre h [.int, .flat 2, .int, .int] us) :
    ∃ n' h', (L5_GraphMore_m F us).run 8 h = some (.bool true, n', h') := by
  obtain ⟨_, v, _, _, rfl, ⟨z, rfl, hz⟩, hv, ⟨a, rfl, hza⟩, ⟨b, rfl, hzb⟩⟩ := args4 ha
  obtain ⟨len, Z, hp, hl, hZ⟩ := hv.pairs f
  show ∃ n' h', (L5_GraphMore F (i64 z) v (i64 a) (i64 b)).run 8 h = some (.bool true, n', h')
  unfold L5_GraphMore L5_GraphMore_r0 L5_GraphMore_r1
  try dsimp only
  obtain ⟨n1, h1, e1, f1, l1, k1⟩ := run_over_true hbg hbk f hb
  rw [run_bnd e1]
  unfold L5_GraphMore_r2
  simp only [st_not, onB_ite, Bool.not_true, Bool.false_eq_true, if_false]
  unfold L5_GraphMore_r4
  try dsimp only
  obtain ⟨n2, h2, g, g', ob, ob', O', m1, e2, gb2, gb2', gr2, x2, o2, lm, lg, lg', hgg, hgn, hgn', ok, hN1, hN, short, ev2⟩ := made_two (F := F) hF l1 hz hZ (hp.keep k1) f1
  rw [show (Value.int .i64 0) = i64 0 from rfl, show (Value.slice none 0 0) = nsl from rfl, e2]
  generalize nodesOf z = N at *
  generalize madeL N Z (min len 80) = adj at *
  have l2 := ev2.le
  unfold L5_GraphMore_r5
  try dsimp only
  obtain ⟨wa, la⟩ := wrapN_eq hN1 a
  obtain ⟨wb, lb⟩ := wrapN_eq hN1 b
  have r1 := Int.tmod_lt_of_pos a (show (0 : Int) < N by omega)
  have r2 := Int.lt_tmod_of_pos a (show (0 : Int) < N by omega)
  have r3 := Int.tmod_lt_of_pos b (show (0 : Int) < N by omega)
  have r4 := Int.lt_tmod_of_pos b (show (0 : Int) < N by omega)
  rw [gb2.nn, st_rem (by omega), gb2.nn, sx_add (by omega), gb2.nn, st_rem (by omega), wa, gb2.nn, st_rem (by omega), gb2.nn, sx_add (by omega), gb2.nn, st_rem (by omega), wb]
  generalize wrapN N a = x at *
  generalize wrapN N b = y at *
  unfold L5_GraphMore_r6
  try dsimp only
  rw [st_field, Nat.zero_add, ld1 gb2' (by decide) rfl, gb2'.t]
  have hsx := short x
  obtain ⟨h4, h5, q, e4, ev4, e5, x5, ev5⟩ := x2.app (J := x) (y := 0) (z := (y : Int)) ev2.f la (by rw [nats_len]; omega)
  rw [show (Value.int .i64 0) = i64 0 from rfl, e4]
  have gb4' := gb2'.ev ev4 hgn' fun q => (o2 g' q).2.2 rfl
  rw [run_chk (cs := [i64 N, sl ob' 0 N N]) gb4' (by decide) rfl (by simp [veq]), e5]
  have gb5' := gb2'.ev ev5 hgn' fun q => (o2 g' q).2.2 rfl
  have gb5 := gb2.ev ev5 hgn fun q => (o2 g q).2.1 rfl
  have gr5 := gr2.ev ev5 (by omega) fun c hc => (o2 c hc).1
  have el : (fun j => if j = x then nats (adj j) ++ [(y : Int)] else nats (adj j)) = fun j => nats (if j = x then adj j ++ [y] else adj j) := by
    funext j; split
    · unfold nats; rw [List.map_append]; rfl
    · rfl
  rw [el] at x5
  have ok5 : GOk N (fun j => if j = x then adj j ++ [y] else adj j) := ⟨by omega, fun a ha b hb => by
    split at hb
    · rw [List.mem_append, List.mem_singleton] at hb
      rcases hb with hb | rfl
      · exact ok.lt a ha b hb
      · exact lb
    · exact ok.lt a ha b hb, fun a ha => by
    have := short a
    split
    · rw [List.length_append, List.length_singleton]; omega
    · omega⟩
  have gr5' : Gr h5 (n2 + 2) (sl ob' 0 N N) N (fun j => if j = x then adj j ++ [y] else adj j) := x5.gr ev5.f fun _ _ => rfl
  have hadj : ∀ a b, b ∈ (fun j => if j = x then adj j ++ [y] else adj j) a ↔ (b ∈ adj a ∨ (a = x ∧ b = y)) := fun a b => by
    show b ∈ (if a = x then adj a ++ [y] else adj a) ↔ _
    by_cases h : a = x
    · rw [if_pos h, List.mem_append, List.mem_singleton]; simp [h]
    · rw [if_neg h]; simp [h]
  generalize (fun j => if j = x then adj j ++ [y] else adj j) = adj' at *
  unfold L5_GraphMore_r7
  try dsimp only
  obtain ⟨n6, h6, e6⟩ := gmore_l1 (F := F) (m := n2 + 2) (g := g) (g' := g') hF ok ok5 la lb hadj ⟨by omega, by omega⟩ (E := L5_GraphMore_k0 F) N 0 F (n2 + 2) h5 (by omega) (by omega) gb5 gb5' (gr5.mono ev5.f (by omega)) gr5' (Nat.le_refl _) ev5.f
  rw [show (Value.int .i64 0) = i64 ((0 : Nat) : Int) from rfl, e6]
  exact ⟨n6, h6, rfl⟩

theorem gmore_law (h : H) (us : List Value) (f : Fr 8 h) (hb : h.get 0 = some ⟨deB, .ro⟩) (ha : ArgsAre h [.int, .flat 2, .int, .int] us) : ∃ n' h', (L5_GraphMore_m 1000000 us).run 8 h = some (.bool true, n', h') := gmore_run (Nat.le_refl _) begunD_runs begunD_keeps h us f hb ha

end Go.Fw
