/-
  GraphOwn, said of the abstract machine.
-/
import Derived.Test.YtddafkflndhnfaaDoorLawTC
import Derived.Test.YtddafkflndhnfaaDoorLawTTopo
import Derived.Test.YtddafkflndhnfaaDoorGenTGraphOwn
set_option maxRecDepth 20000
set_option linter.unusedVariables false
namespace Go.Fw

/-- Two graphs that are made alike, put into two variables. -/
theorem made_two {F n len : Nat} {v : Value} {z : Int} {Z : Nat → Int} {h : H} (hF : 1000000 ≤ F) (hn : 8 ≤ n) (hz : Fit z) (hZ : ∀ i, Fit (Z i)) (hp : Pairs h v len Z) (f : Fr n h) :
    ∃ n' h' g g' ob ob' O' m1, (∀ K : Value → Value → M Value, (bnd (L5_Made F (i64 z) v) fun w => bnd (L5_Made F (i64 z) v) fun w' => bnd (opPtr [i64 0, nsl]) fun x => bnd (opPtr [i64 0, nsl]) fun x' => bnd (opStoreN 2 x w) fun _ => bnd (opStoreN 2 x' w') fun _ => K x x').run n h = (K (pt g 0) (pt g' 0)).run n' h') ∧
      GB h' g (nodesOf z) (sl ob 0 (nodesOf z) (nodesOf z)) ∧ GB h' g' (nodesOf z) (sl ob' 0 (nodesOf z) (nodesOf z)) ∧ Gr h' m1 (sl ob 0 (nodesOf z) (nodesOf z)) (nodesOf z) (madeL (nodesOf z) Z (min len 80)) ∧
      OL h' ob' (nodesOf z) O' (fun a => nats (madeL (nodesOf z) Z (min len 80) a)) ∧ (∀ c, O' c → m1 ≤ c ∧ c ≠ g ∧ c ≠ g') ∧ n ≤ m1 ∧ m1 ≤ g ∧ m1 ≤ g' ∧ g ≠ g' ∧ g < n' ∧ g' < n' ∧ GOk (nodesOf z) (madeL (nodesOf z) Z (min len 80)) ∧ 1 ≤ nodesOf z ∧ nodesOf z ≤ 25 ∧ (∀ a, (madeL (nodesOf z) Z (min len 80) a).length ≤ 80) ∧ Ev No n h n' h' := by
  obtain ⟨_, hN1, hN2⟩ := nodesOf_eq z
  obtain ⟨n1, h1, ob, O, e1, x1, o1, ev1⟩ := made_spec (F := F) (by omega) hn hz hZ hp f
  have l1 := ev1.le
  obtain ⟨n2, h2, ob', O', e2, x2, o2, ev2⟩ := made_spec (F := F) (by omega) (by omega) hz hZ (hp.keep fun c hc => ev1.no (by omega)) ev1.f
  have l2 := ev2.le
  have gr1 : Gr h1 n1 (sl ob 0 (nodesOf z) (nodesOf z)) (nodesOf z) (madeL (nodesOf z) Z (min len 80)) := x1.gr ev1.f fun _ _ => rfl
  have ev3 := Ev.new ev2.f ⟨[i64 0, nsl], .own⟩
  have ev4 := Ev.new ev3.f ⟨[i64 0, nsl], .own⟩
  generalize hh4 : (h2.set n2 ⟨[i64 0, nsl], .own⟩).set (n2 + 1) ⟨[i64 0, nsl], .own⟩ = h4 at *
  have q4 : h4.get n2 = some ⟨[i64 0, nsl], .own⟩ := by rw [← hh4, H.get_set_ne _ _ (by omega), H.get_set_same]
  have q4' : h4.get (n2 + 1) = some ⟨[i64 0, nsl], .own⟩ := by rw [← hh4, H.get_set_same]
  obtain ⟨h5, e5, g5, ev5⟩ := GB.put (β := Value) (N := nodesOf z) (tv := sl ob 0 (nodesOf z) (nodesOf z)) q4 rfl ev4.f rfl
  have q5 : h5.get (n2 + 1) = some ⟨[i64 0, nsl], .own⟩ := (ev5.keep _ (by omega) (by omega)).trans q4'
  obtain ⟨h6, e6, g6, ev6⟩ := GB.put (β := Value) (N := nodesOf z) (tv := sl ob' 0 (nodesOf z) (nodesOf z)) q5 rfl ev5.f rfl
  have ev26 : Ev No n2 h2 (n2 + 1 + 1) h6 := ((ev3.trans ev4 fun _ _ h => h).trans ev5 fun c hc q => by omega).trans ev6 fun c hc q => by omega
  refine ⟨n2 + 1 + 1, h6, n2, n2 + 1, ob, ob', O', n1, fun K => ?_, g5.ev ev6 (by omega) (by omega), g6, (gr1.no ev2 (Nat.le_refl _)).no ev26 l2, x2.keep fun c hc => ev26.no (x2.lt ev2.f hc), fun c hc => ⟨o2 c hc, by have := x2.lt ev2.f hc; omega, by have := x2.lt ev2.f hc; omega⟩, l1, l2, by omega, by omega, by omega, by omega, ⟨by omega, fun a _ b hb => madeL_lt hN1 hb, fun a _ => ?_⟩, hN1, hN2, fun a => ?_, (ev1.trans ev2 fun _ _ h => h).trans ev26 fun _ _ h => h⟩
  · rw [run_bnd e1, run_bnd e2, run_ptr ev2.f (by rfl), run_ptr ev3.f (by rfl), hh4, e5, e6]
  · have := madeL_len (N := nodesOf z) (Z := Z) (i := min len 80) (a := a); omega
  · have := madeL_len (N := nodesOf z) (Z := Z) (i := min len 80) (a := a); omega


section
variable {n : Nat} {h h' : H} {m N ob g : Nat} {O : Nat → Prop} {L : Nat → List Int}

/-- A number of a row is turned. -/
theorem OL.put (x : OL h ob N O L) (f : Fr n h) {J i : Nat} (hJ : J < N) (hi : i < (L J).length) {z : Int} :
    ∃ h', (∀ k : Value → M Value, (bnd (opIndexAddr 1 (sl ob 0 N N) (i64 J)) fun p => bnd (opLoad p) fun w => bnd (opIndexAddr 1 w (i64 i)) fun p => bnd (opStore p (i64 z)) k).run n h = (k undef).run n h') ∧ OL h' ob N O (fun j => if j = J then (L j).set i z else L j) ∧ Ev O n h n h' := by
  obtain ⟨o1, o2, iv, ib, tv, rows, dis⟩ := x
  obtain ⟨g1, g2⟩ := rows J hJ
  have hne : L J ≠ [] := fun e => by rw [e] at hi; simp at hi
  obtain ⟨hO, hib⟩ := g2 hne
  have hne' : (L J).map i64 ≠ [] := by simpa using hne
  have hbn := g1.lt f hne'
  rcases g1 with ⟨e, _⟩ | ⟨_, e, hb⟩
  · exact absurd e hne'
  · refine ⟨h.set (ib J) ⟨((L J).map i64).set i (i64 z), .grow⟩, fun k => ?_, ⟨o1, fun c hc => ?_, iv, ib, tv.keep (H.get_set_ne _ _ hib.symm), fun j hj => ?_, fun a b ha hb hab h1 h2 => ?_⟩, f.set _ hbn, Nat.le_refl _, fun c _ hc => H.get_set_ne _ _ fun e => hc (by rw [e]; exact hO)⟩
    · rw [TV.get tv hJ (Nat.le_refl _), e, ix1 (by rw [List.length_map]; exact hi), Nat.zero_add, st1 hb (.inr rfl) rfl (by rw [List.length_map]; exact hi)]
    · rw [H.get_set]
      split
      · rfl
      · exact o2 c hc
    · obtain ⟨q1, q2⟩ := rows j hj
      by_cases hjJ : j = J
      · subst hjJ
        have hne2 : (L j).set i z ≠ [] := by simpa using hne
        simp only [if_true]
        refine ⟨.inr ⟨by simpa using hne, ?_, ?_⟩, fun _ => ⟨hO, hib⟩⟩
        · rw [e]; simp
        · rw [H.get_set_same, List.map_set]
      · simp only [if_neg hjJ]
        refine ⟨q1.keep fun h0 => H.get_set_ne _ _ fun e => ?_, q2⟩
        have h0' : L j ≠ [] := by simpa using h0
        exact dis j J hj hJ hjJ h0' hne e
    · have hh : ∀ j, (if j = J then (L j).set i z else L j) ≠ [] → L j ≠ [] := fun j hq e => by
        split at hq
        · rw [e] at hq; simp at hq
        · exact hq e
      exact dis a b ha hb hab (hh a h1) (hh b h2)

theorem OL.lenRow (x : OL h ob N O L) {J : Nat} (hJ : J < N) {k : Value → M Value} : (bnd (opIndexAddr 1 (sl ob 0 N N) (i64 J)) fun p => bnd (opLoad p) fun w => bnd (opLen w) k).run n h = (k (i64 (L J).length)).run n h := by
  obtain ⟨_, _, iv, ib, tv, rows, _⟩ := x
  rw [TV.get tv hJ (Nat.le_refl _), Gl.lenI (rows J hJ).1]

theorem own_l3 {F a : Nat} {x2 x8 x9 : Value} (hg : ¬ O g) (ha : a < N) {E : Value → Value → Value → Value → Value → M Value} : ∀ j i k n (h : H) (L : Nat → List Int), i + j = (L a).length → (L a).length ≤ 1000000 → j < k → OL h ob N O L → GB h g N (sl ob 0 N N) → g < n → Fr n h →
    ∃ h' L', (L5_GraphOwn_l3 F E k x2 x8 x9 (pt g 0) (i64 a) (i64 i)).run n h = (E x2 x8 x9 (pt g 0) (i64 a)).run n h' ∧ OL h' ob N O L' ∧ (∀ j, (L' j).length = (L j).length) ∧ Ev O n h n h' := by
  intro j
  induction j with
  | zero =>
    intro i k n h L hi hl hk x gb hgn f
    obtain ⟨k, rfl⟩ : ∃ j, k = j + 1 := ⟨k - 1, by omega⟩
    rw [L5_GraphOwn_l3_s]
    unfold L5_GraphOwn_b3 L5_GraphOwn_r10
    try dsimp only
    rw [gb.t, x.lenRow ha, st_lss]
    simp only [onB_ite, run_ite, decide_eq_true_eq]
    rw [if_neg (by omega)]
    exact ⟨h, L, rfl, x, fun _ => rfl, Ev.refl f⟩
  | succ j ih =>
    intro i k n h L hi hl hk x gb hgn f
    obtain ⟨k, rfl⟩ : ∃ j, k = j + 1 := ⟨k - 1, by omega⟩
    rw [L5_GraphOwn_l3_s]
    unfold L5_GraphOwn_b3 L5_GraphOwn_r10
    try dsimp only
    rw [gb.t, x.lenRow ha, st_lss]
    simp only [onB_ite, run_ite, decide_eq_true_eq]
    rw [if_pos (by omega)]
    unfold L5_GraphOwn_r12
    try dsimp only
    obtain ⟨h1, e1, x1, ev1⟩ := x.put f ha (show i < (L a).length by omega) (z := 0)
    rw [gb.t, show (Value.int .i64 0) = i64 0 from rfl, e1]
    unfold L5_GraphOwn_r11
    try dsimp only
    rw [show (Value.int .i64 1) = i64 1 from rfl, sx_add (by omega)]
    have hlen : ∀ j, ((fun j => if j = a then (L j).set i 0 else L j) j).length = (L j).length := fun j => by
      dsimp only; split <;> simp
    obtain ⟨h', L', r1, r2, r3, r4⟩ := ih (i + 1) k n h1 _ (by rw [hlen]; omega) (by rw [hlen]; exact hl) (by omega) x1 (gb.ev ev1 hgn hg) hgn ev1.f
    exact ⟨h', L', r1, r2, fun j => (r3 j).trans (hlen j), ev1.trans r4 fun _ _ h => h⟩

theorem own_l1 {F : Nat} {x2 x8 x9 : Value} (hF : 2000000 ≤ F ∨ 1000001 ≤ F) (hg : ¬ O g) (hN : N ≤ 600) {E : Value → Value → Value → M Value} : ∀ j i k n (h : H) (L : Nat → List Int), i + j = N → j < k → (∀ a, (L a).length ≤ 1000000) → OL h ob N O L → GB h g N (sl ob 0 N N) → g < n → Fr n h →
    ∃ h', (L5_GraphOwn_l1 F E k x2 x8 x9 (pt g 0) (i64 i)).run n h = (E x2 x8 x9).run n h' ∧ Ev O n h n h' := by
  intro j
  induction j with
  | zero =>
    intro i k n h L hij hk hl x gb hgn f
    obtain ⟨k, rfl⟩ : ∃ j, k = j + 1 := ⟨k - 1, by omega⟩
    rw [L5_GraphOwn_l1_s]
    unfold L5_GraphOwn_b1 L5_GraphOwn_r7
    try dsimp only
    rw [gb.t, st_len, st_lss]
    simp only [onB_ite, run_ite, decide_eq_true_eq]
    rw [if_neg (by omega)]
    exact ⟨h, rfl, Ev.refl f⟩
  | succ j ih =>
    intro i k n h L hij hk hl x gb hgn f
    obtain ⟨k, rfl⟩ : ∃ j, k = j + 1 := ⟨k - 1, by omega⟩
    rw [L5_GraphOwn_l1_s]
    unfold L5_GraphOwn_b1 L5_GraphOwn_r7
    try dsimp only
    rw [gb.t, st_len, st_lss]
    simp only [onB_ite, run_ite, decide_eq_true_eq]
    rw [if_pos (by omega)]
    unfold L5_GraphOwn_r9
    try dsimp only
    obtain ⟨h1, L1, r1, x1, len1, ev1⟩ := own_l3 (F := F) (x2 := x2) (x8 := x8) (x9 := x9) hg (show i < N by omega) (E := fun x2 x8 x9 x10 x11 => L5_GraphOwn_k2 F (L5_GraphOwn_l1 F E k) x2 x8 x9 x10 x11) (L i).length 0 F n h L (by omega) (hl i) (by have := hl i; omega) x gb hgn f
    rw [show (Value.int .i64 0) = i64 ((0 : Nat) : Int) from rfl, r1]
    unfold L5_GraphOwn_k2 L5_GraphOwn_r8
    try dsimp only
    rw [show (Value.int .i64 1) = i64 1 from rfl, sx_add (by omega)]
    obtain ⟨h', r2, r3⟩ := ih (i + 1) k n h1 L1 (by omega) (by omega) (fun a => by rw [len1 a]; exact hl a) x1 (gb.ev ev1 hgn hg) hgn ev1.f
    exact ⟨h', r2, ev1.trans r3 fun _ _ h => h⟩

theorem Gr.ll {adj : Nat → List Nat} {tv : Value} (g : Gr h m tv N adj) : RdLL h tv N fun j => (nats (adj j)).map i64 := by
  obtain ⟨_, h0, f0, k0, iv, q, q2⟩ := g
  exact ⟨iv, q.kept f0 k0, fun j hj => (q2 j hj).kept f0 k0⟩
end

theorem gown_run {F : Nat} (hF : 2000000 ≤ F) (hbg : gaveTrue ((L5_begun F).run 8 (baseH deB)) = true) (hbg0 : (((L5_begun F).run 8 (baseH deB)).map fun x => x.2.2.get 0) = some (some ⟨deB, .ro⟩)) (h : H) (us : List Value) (f : Fr 8 h) (hb : h.get 0 = some ⟨deB, .ro⟩) (ha : ArgsAre h [.int, .flat 2, .int] us) : ∃ n' h', (L5_GraphOwn_m F us).run 8 h = some (.bool true, n', h') := by
  obtain ⟨v0, v1, v2, rfl, a0, a1, a2⟩ := args3 ha
  obtain ⟨z, rfl, hz⟩ := a0
  obtain ⟨len, Z, hp, _, hZ⟩ := a1.pairs f
  obtain ⟨r, rfl, hr⟩ := a2
  show ∃ n' h', (L5_GraphOwn F (i64 z) v1 (i64 r)).run 8 h = _
  obtain ⟨n1, h1, e1, f1, l1, k1⟩ := run_over_true hbg hbg0 f hb
  unfold L5_GraphOwn L5_GraphOwn_r0 L5_GraphOwn_r1
  try dsimp only
  rw [run_bnd e1]
  unfold L5_GraphOwn_r2
  simp only [st_not, onB_ite, Bool.not_true, Bool.false_eq_true, if_false]
  unfold L5_GraphOwn_r4
  try dsimp only
  obtain ⟨n2, h2, g, g', ob, ob', O', m1, e2, gb2, gb2', gr2, x2, o2, lm, lg, lg', hgg, hgn, hgn', ok, hN1, hN, short, ev2⟩ := made_two (F := F) (by omega) l1 hz hZ (hp.keep k1) f1
  rw [show (Value.int .i64 0) = i64 0 from rfl, show (Value.slice none 0 0) = nsl from rfl, e2]
  generalize nodesOf z = N at *
  generalize madeL N Z (min len 80) = adj at *
  have l2 := ev2.le
  have gr2' : Gr h2 n2 (sl ob' 0 N N) N adj := x2.gr ev2.f fun _ _ => rfl
  unfold L5_GraphOwn_r5
  try dsimp only
  obtain ⟨n3, h3, g3, ob3, O3, e3, gb3, x3, o3, ng3, lg3, ltg3, ev3⟩ := turn_var (F := F) (by omega) gr2 (by omega) ok ev2.f
  rw [gb2.all, show (Value.int .i64 0) = i64 0 from rfl, show (Value.slice none 0 0) = nsl from rfl, e3]
  have l3 := ev3.le
  unfold L5_GraphOwn_r6
  try dsimp only
  obtain ⟨h4, r4, ev4⟩ := own_l1 (F := F) (x2 := i64 r) (x8 := pt g 0) (x9 := pt g' 0) (.inl hF) ng3 (by omega) (E := fun x2 x8 x9 => L5_GraphOwn_k0 F x2 x8 x9) N 0 F n3 h3 _ (by omega) (by omega) (fun a => by
    rw [nats_len]
    have := turnL_len (b := a) ok N 0 (Nat.le_refl _) (.inr rfl)
    show (turnL adj N 0 a).length ≤ _
    omega) x3 gb3 ltg3 ev3.f
  rw [show (Value.int .i64 0) = i64 ((0 : Nat) : Int) from rfl, r4]
  have k4 : ∀ c, c < n2 → h4.get c = h2.get c := fun c hc => by rw [ev4.keep c (by omega) fun q => by have := o3 c q; omega, ev3.no hc]
  have gb4 : GB h4 g N (sl ob 0 N N) := by unfold GB; rw [k4 g hgn]; exact gb2
  have gr4 : Gr h4 m1 (sl ob 0 N N) N adj := gr2.kept fun c hc => k4 c (by omega)
  unfold L5_GraphOwn_k0 L5_GraphOwn_r13
  try dsimp only
  obtain ⟨n5, h5, v5, L5, e5, _, _, _, ev5⟩ := parts_spec (F := F) (by omega) ok hN1 gr4 (by omega) ev4.f
  have l5 := ev5.le
  rw [gb4.all, run_bnd e5]
  have gb5 := gb4.ev ev5 (by omega) (fun h => h)
  have gr5 := gr4.no ev5 (by omega)
  unfold L5_GraphOwn_r14
  try dsimp only
  have ho : ∃ n6 h6 v6, (graph_Order F (gv N (sl ob 0 N N)) (i64 r)).run n5 h5 = some (v6, n6, h6) ∧ Ev No n5 h5 n6 h6 := by
    by_cases hin : r < 0 ∨ (N : Int) ≤ r
    · obtain ⟨n6, h6, e6, ev6⟩ := order_out (F := F) (by omega) gr5 (by omega) ok hin ev5.f
      exact ⟨n6, h6, _, e6, ev6⟩
    · obtain ⟨root, rfl⟩ : ∃ root : Nat, r = (root : Int) := ⟨r.toNat, by omega⟩
      obtain ⟨n6, h6, v6, b6, e6, _, _, ev6⟩ := order_in (F := F) (root := root) (by omega) gr5 (by omega) ok (by omega) ev5.f
      exact ⟨n6, h6, v6, e6, ev6⟩
  obtain ⟨n6, h6, v6, e6, ev6⟩ := ho
  have l6 := ev6.le
  rw [gb5.all, run_bnd e6]
  have gb6 := gb5.ev ev6 (by omega) (fun h => h)
  have gr6 := gr5.no ev6 (by omega)
  unfold L5_GraphOwn_r15
  try dsimp only
  have hpth : ∃ n7 h7 v7, (graph_Path F (gv N (sl ob 0 N N)) (i64 ((0 : Nat) : Int)) (i64 r)).run n6 h6 = some (v7, n7, h7) ∧ Ev No n6 h6 n7 h7 := by
    by_cases hin : r < 0 ∨ (N : Int) ≤ r
    · obtain ⟨n7, h7, e7, ev7⟩ := path_out (F := F) (a := ((0 : Nat) : Int)) (b := r) (by omega) gr6 (by omega) ok (by omega) ev6.f
      exact ⟨n7, h7, _, e7, ev7⟩
    · obtain ⟨root, rfl⟩ : ∃ root : Nat, r = (root : Int) := ⟨r.toNat, by omega⟩
      obtain ⟨n7, h7, v7, e7, ev7, _⟩ := path_in (F := F) (root := 0) (t := root) (by omega) gr6 (by omega) ok (by omega) (by omega) ev6.f
      exact ⟨n7, h7, v7, e7, ev7⟩
  obtain ⟨n7, h7, v7, e7, ev7⟩ := hpth
  rw [gb6.all, show (Value.int .i64 0) = i64 ((0 : Nat) : Int) from rfl, run_bnd e7]
  have k7 : ∀ c, c < n2 → h7.get c = h2.get c := fun c hc => by rw [ev7.no (by omega), ev6.no (by omega), ev5.no (by omega), k4 c hc]
  have gb7 : GB h7 g N (sl ob 0 N N) := by unfold GB; rw [k7 g hgn]; exact gb2
  have gb7' : GB h7 g' N (sl ob' 0 N N) := by unfold GB; rw [k7 g' hgn']; exact gb2'
  have ll : RdLL h7 (sl ob 0 N N) N fun j => (nats (adj j)).map i64 := (gr2.kept fun c hc => k7 c (by omega)).ll
  have ll' : RdLL h7 (sl ob' 0 N N) N fun j => (nats (adj j)).map i64 := (gr2'.kept fun c hc => k7 c hc).ll
  unfold L5_GraphOwn_r16
  try dsimp only
  rw [gb7.t, gb7'.t, run_bnd (eqAll_true (F := F) ll ll' (fun j hj i hi => by
    rw [List.length_map] at hi
    exact ⟨_, by rw [List.getElem?_map, List.getElem?_eq_getElem hi]; rfl⟩) (fun j hj => by
    have := ok.short j hj
    rw [List.length_map, nats_len]; omega) (by omega) (by omega))]
  exact ⟨n7, h7, rfl⟩

theorem begunT_runs2 : gaveTrue ((L5_begun 2000000).run 8 (baseH deB)) = true := by kernel_rfl
theorem begunT_keeps2 : (((L5_begun 2000000).run 8 (baseH deB)).map fun x => x.2.2.get 0) = some (some ⟨deB, .ro⟩) := by kernel_rfl

theorem gown_law (h : H) (us : List Value) (f : Fr 8 h) (hb : h.get 0 = some ⟨deB, .ro⟩) (ha : ArgsAre h [.int, .flat 2, .int] us) : ∃ n' h', (L5_GraphOwn_m 2000000 us).run 8 h = some (.bool true, n', h') := gown_run (Nat.le_refl _) begunT_runs2 begunT_keeps2 h us f hb ha

end Go.Fw
