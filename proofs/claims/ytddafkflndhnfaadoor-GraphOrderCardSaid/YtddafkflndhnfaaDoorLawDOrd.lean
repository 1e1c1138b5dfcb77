/-
  haruspexref1.Order and GraphOrder, said of the abstract machine.
-/
import Derived.Test.YtddafkflndhnfaaDoorLawDC
import Derived.Test.YtddafkflndhnfaaDoorGenDGraphOrder
set_option maxRecDepth 20000
set_option linter.unusedVariables false
namespace Go.Fw

section
variable {N : Nat} {adj : Nat → List Nat}

/-- A search in depth on its way: the table of who is met, the list of who is left. -/
structure DT (h : H) (lo bm N : Nat) (v : Value) (s : DSt) : Prop where
  tab : TB h bm N s.1
  low : lo ≤ bm
  que : ∃ b, GlI h v b (nats s.2) ∧ (s.2 ≠ [] → lo ≤ b ∧ b ≠ bm)

theorem DT.mark {n lo bm a : Nat} {h : H} {v : Value} {s : DSt} (x : DT h lo bm N v s) (f : Fr n h) (ha : a < N) :
    ∃ h', (∀ k : Value → M Value, (bnd (opIndexAddr 1 (sl bm 0 N N) (i64 a)) fun p => bnd (opStore p (bo true)) k).run n h = (k undef).run n h') ∧ DT h' lo bm N v (putM s.1 a, s.2) ∧ Ev (fun c => lo ≤ c) n h n h' := by
  obtain ⟨b, g, hb⟩ := x.que
  obtain ⟨h1, e1, t1, ev1⟩ := TB.set (β := Value) x.tab f ha (z := true)
  have e : upd s.1 a true = putM s.1 a := by
    funext m; unfold upd putM
    by_cases h : m = a
    · rw [if_pos h, decide_eq_true h, Bool.or_true]
    · rw [if_neg h, decide_eq_false h, Bool.or_false]
  have t1' : TB h1 bm N (putM s.1 a) := by rw [← e]; exact t1
  refine ⟨h1, e1, ⟨t1', x.low, b, g.keep fun h0 => ?_, hb⟩, ev1.mono fun c _ hc => by have := x.low; omega⟩
  have h0' : s.2 ≠ [] := by rintro e; exact h0 (by rw [e]; rfl)
  exact ev1.keep b (g.lt f h0) (hb h0').2

theorem DT.push {n lo bm a : Nat} {h : H} {v : Value} {s : DSt} (x : DT h lo bm N v s) (f : Fr n h) (hlo : lo ≤ n) (hl : s.2.length < 100000) :
    ∃ h' v', (∀ k : Value → M Value, (bnd (opBuildSlice 1 (rep 1 [i64 0]) [(0, 1, false, i64 (a : Int))]) fun t => bnd (opAppend 1 8 v t) k).run n h = (k v').run (n + 2) h') ∧ DT h' lo bm N v' (s.1, s.2 ++ [a]) ∧ Ev (fun c => lo ≤ c) n h (n + 2) h' := by
  obtain ⟨b, g, hb⟩ := x.que
  obtain ⟨h', v', e, g', f', k⟩ := g.pushI (β := Value) (y := 0) (z := (a : Int)) f (by rw [nats_len]; omega)
  have hbm := TV.lt x.tab f
  have hk : ∀ c, c < n → ¬ (s.2 ≠ [] ∧ c = b) → h'.get c = h.get c := fun c hc hn => k c hc fun h0 e => hn ⟨by rintro q; exact h0 (by rw [q]; rfl), e⟩
  refine ⟨h', v', e, ⟨x.tab.keep (hk bm hbm fun q => (hb q.1).2 q.2.symm), x.low, n + 1, by unfold nats; rw [List.map_append]; exact g', fun _ => ⟨by omega, by omega⟩⟩, f', by omega, fun c hc hlc => hk c hc fun q => by have := (hb q.1).1; omega⟩

theorem deep_l1 {F m lo bm a k0 : Nat} {tv rv : Value} (hF : 1000 < F) (ok : GOk N adj) (ha : a < N) (hml : m ≤ lo) {rec : Value → Value → Value → Value → M Value}
    (ih : ∀ b n (h : H) v (s : DSt), b < N → s.1 b = false → cnt N s.1 < k0 → s.2.length + cnt N s.1 ≤ 1000 → Gr h m tv N adj → DT h lo bm N v s → lo ≤ n → Fr n h →
      ∃ n' h' v', (rec tv (i64 b) (sl bm 0 N N) v).run n h = some (v', n', h') ∧ DT h' lo bm N v' (beh adj k0 b s) ∧ Ev (fun c => lo ≤ c) n h n' h')
    {E : Value → Value → M Value} : ∀ j i k n (h : H) v (s : DSt), i + j = (adj a).length → j < k → cnt N s.1 < k0 → s.2.length + cnt N s.1 ≤ 1000 → Gr h m tv N adj → DT h lo bm N v s → lo ≤ n → Fr n h →
    ∃ n' h' v', (R1_deep_l1 F rec E k tv (i64 (a : Nat)) (sl bm 0 N N) v (i64 (i : Nat))).run n h = (E (i64 (a : Nat)) v').run n' h' ∧ DT h' lo bm N v' (((adj a).drop i).foldl (fun s b => beh adj k0 b s) s) ∧ Ev (fun c => lo ≤ c) n h n' h' := by
  have hN := ok.few
  have hs := ok.short a ha
  intro j
  induction j with
  | zero =>
    intro i k n h v s hij hk hc hsz gr x hn f
    obtain ⟨k, rfl⟩ : ∃ j, k = j + 1 := ⟨k - 1, by omega⟩
    obtain ⟨rv, e1, h0, f0, k0, hr⟩ := gr.row (β := Value) (n := n) ha
    have rd : RdI h rv (nats (adj a)) := hr.kept f0 k0
    rw [R1_deep_l1_s]
    unfold R1_deep_b1 R1_deep_r3
    try dsimp only
    rw [e1, rd.lenI, nats_len, st_lss, onB_ite, run_ite, if_neg (by simp; omega), List.drop_of_length_le (by omega)]
    exact ⟨n, h, v, rfl, x, Ev.refl f⟩
  | succ j ih2 =>
    intro i k n h v s hij hk hc hsz gr x hn f
    obtain ⟨k, rfl⟩ : ∃ j, k = j + 1 := ⟨k - 1, by omega⟩
    obtain ⟨rv, e1, h0, f0, k0', hr⟩ := gr.row (β := Value) (n := n) ha
    have rd : RdI h rv (nats (adj a)) := hr.kept f0 k0'
    have hi : i < (adj a).length := by omega
    have hil : i < (nats (adj a)).length := by rw [nats_len]; exact hi
    rw [R1_deep_l1_s]
    unfold R1_deep_b1 R1_deep_r3
    try dsimp only
    rw [e1, rd.lenI, nats_len, st_lss, onB_ite, run_ite, if_pos (by simp; omega)]
    unfold R1_deep_r5
    try dsimp only
    rw [e1, rd.getI hil, nats_get]
    have hb := ok.lt a ha _ (List.getElem_mem hi)
    rw [x.tab.get hb, st_not, onB_ite, run_ite, List.drop_eq_getElem_cons hi, List.foldl_cons]
    generalize hbe : (adj a)[i] = b at *
    cases hm : s.1 b with
    | true =>
      rw [if_neg (by decide)]
      unfold R1_deep_k2 R1_deep_r4
      try dsimp only
      rw [sx_add (by omega)]
      have eb : beh adj k0 b s = s := by
        cases k0 with
        | zero => rfl
        | succ k0 => unfold beh; rw [if_pos hm]
      rw [eb]
      exact ih2 (i + 1) k n h v s (by omega) (by omega) hc hsz gr x hn f
    | false =>
      rw [if_pos (by decide)]
      unfold R1_deep_r6
      try dsimp only
      rw [e1, rd.getI hil, nats_get, hbe]
      obtain ⟨n1, h1, v1, e2, x1, ev1⟩ := ih b n h v s hb hm hc hsz gr x hn f
      rw [run_bnd e2]
      have l1 := ev1.le
      unfold R1_deep_k2 R1_deep_r4
      try dsimp only
      rw [sx_add (by omega)]
      have hmono : cnt N (beh adj k0 b s).1 ≤ cnt N s.1 := cnt_mono (fun q hq => beh_mono hq) N
      have hsize := (beh_full ok.lt k0 b s hb hc).size
      obtain ⟨n', h', v', q1, q2, q3⟩ := ih2 (i + 1) k n1 h1 v1 (beh adj k0 b s) (by omega) (by omega) (by omega) (by omega) (gr.ev ev1 (by omega) fun c hc => by omega) x1 (by omega) ev1.f
      exact ⟨n', h', v', q1, q2, ev1.trans q3 fun _ _ h => h⟩

theorem deep_spec {F m lo bm : Nat} {tv : Value} (hF : 1000 < F) (ok : GOk N adj) (hml : m ≤ lo) : ∀ k a n (h : H) v (s : DSt), a < N → s.1 a = false → cnt N s.1 < k → s.2.length + cnt N s.1 ≤ 1000 → Gr h m tv N adj → DT h lo bm N v s → lo ≤ n → Fr n h →
    ∃ n' h' v', (R1_deep F k tv (i64 a) (sl bm 0 N N) v).run n h = some (v', n', h') ∧ DT h' lo bm N v' (beh adj k a s) ∧ Ev (fun c => lo ≤ c) n h n' h' := by
  have hN := ok.few
  intro k
  induction k with
  | zero => intro a n h v s ha hm hk; omega
  | succ k ih =>
    intro a n h v s ha hsa hk hsz gr x hn f
    show ∃ n' h' v', (R1_deep_s F (R1_deep F k) tv (i64 a) (sl bm 0 N N) v).run n h = some (v', n', h') ∧ _
    unfold R1_deep_s R1_deep_r0 R1_deep_r1
    try dsimp only
    obtain ⟨h1, e1, x1, ev1⟩ := x.mark f ha
    rw [show (Value.bool true) = bo true from rfl, e1]
    unfold R1_deep_r2
    try dsimp only
    have hs := ok.short a ha
    have hcnt := cnt_put hsa N
    rw [if_pos ha] at hcnt
    obtain ⟨n2, h2, v2, e2, x2, ev2⟩ := deep_l1 (F := F) (lo := lo) (bm := bm) (k0 := k) (rv := undef) hF ok ha hml (rec := R1_deep F k) ih (E := fun x1 x3 => R1_deep_k0 F (R1_deep F k) x1 x3) (adj a).length 0 F n h1 v (putM s.1 a, s.2) (by omega) (by omega) (by show cnt N (putM s.1 a) < k; omega) (by show s.2.length + cnt N (putM s.1 a) ≤ 1000; omega) (gr.ev ev1 (by omega) fun c hc => by omega) x1 hn ev1.f
    rw [show (Value.int .i64 0) = i64 ((0 : Nat) : Int) from rfl, e2]
    have l2 := ev2.le
    unfold R1_deep_k0 R1_deep_r7
    try dsimp only
    rw [List.drop_zero] at x2
    have hfull := fold_full (adj := adj) (f := fun s b => beh adj k b s) (N := N) (k := k) (fun s b hb hk => beh_full ok.lt k b s hb hk) (adj a) (putM s.1 a, s.2) (ok.lt a ha) (by show cnt N (putM s.1 a) < k; omega)
    have hsz4 := hfull.size
    simp only at hsz4
    obtain ⟨h3, v3, e3, x3, ev3⟩ := x2.push (a := a) ev2.f (by omega) (by omega)
    rw [show (Value.int .i64 0) = i64 0 from rfl, e3]
    have eb : beh adj (k + 1) a s = (((adj a).foldl (fun s b => beh adj k b s) (putM s.1 a, s.2)).1, ((adj a).foldl (fun s b => beh adj k b s) (putM s.1 a, s.2)).2 ++ [a]) := by
      show (if s.1 a = true then s else _) = _
      rw [if_neg (by rw [hsa]; decide)]
    rw [eb]
    exact ⟨n2 + 2, h3, v3, rfl, x3, (ev1.trans ev2 fun _ _ h => h).trans ev3 fun _ _ h => h⟩

theorem rorder_l1 {F lo : Nat} {xv : Value} {l : List Nat} {hB : H} {mB : Nat} (fB : Fr mB hB) (hv : RdI hB xv (nats l)) (hl : l.length ≤ 100000) (hmB : mB ≤ lo) {E : Value → M Value} : ∀ i k n (h : H) v, i ≤ l.length → i < k → (∀ c, c < mB → h.get c = hB.get c) → NewI h lo v (nats (l.drop i).reverse) → lo ≤ n → Fr n h →
    ∃ n' h' v', (R1_Order_l1 F E k xv v (i64 ((i : Int) - 1))).run n h = (E v').run n' h' ∧ NewI h' lo v' (nats l.reverse) ∧ Ev (fun c => lo ≤ c) n h n' h' := by
  intro i
  induction i with
  | zero =>
    intro k n h v hi hk hkB x hn f
    obtain ⟨k, rfl⟩ : ∃ j, k = j + 1 := ⟨k - 1, by omega⟩
    rw [R1_Order_l1_s]
    unfold R1_Order_b1 R1_Order_r6
    try dsimp only
    rw [st_geq, onB_ite, run_ite, if_neg (by simp)]
    exact ⟨n, h, v, rfl, x, Ev.refl f⟩
  | succ i ih =>
    intro k n h v hi hk hkB x hn f
    obtain ⟨k, rfl⟩ : ∃ j, k = j + 1 := ⟨k - 1, by omega⟩
    have hi' : i < l.length := by omega
    have hil : i < (nats l).length := by rw [nats_len]; exact hi'
    have rd : RdI h xv (nats l) := hv.kept fB hkB
    rw [R1_Order_l1_s]
    unfold R1_Order_b1 R1_Order_r6
    try dsimp only
    have e0 : (((i + 1 : Nat) : Int) - 1) = (i : Int) := by omega
    rw [e0, st_geq, onB_ite, run_ite, if_pos (by simp)]
    unfold R1_Order_r8
    try dsimp only
    rw [rd.getI hil, nats_get]
    obtain ⟨h2, v2, e2, x2, ev2⟩ := x.push (β := Value) (y := 0) (z := ((l[i] : Nat) : Int)) f hn (by rw [nats_len]; simp; omega)
    rw [show (Value.int .i64 0) = i64 0 from rfl, e2]
    unfold R1_Order_r7
    try dsimp only
    rw [sx_sub (by omega)]
    have ed : nats (l.drop i).reverse = nats (l.drop (i + 1)).reverse ++ [((l[i] : Nat) : Int)] := by
      rw [List.drop_eq_getElem_cons hi', List.reverse_cons]; simp [nats]
    rw [← ed] at x2
    obtain ⟨n', h', v', q1, q2, q3⟩ := ih k (n + 2) h2 v2 (by omega) (by omega) (fun c hc => by rw [ev2.keep c (by omega) (by omega)]; exact hkB c hc) x2 (by omega) ev2.f
    exact ⟨n', h', v', q1, q2, ev2.trans q3 fun _ _ h => h⟩

theorem rorder_in {F n m root : Nat} {tv : Value} {h : H} (hF : 1000000 ≤ F) (gr : Gr h m tv N adj) (hm : m ≤ n) (ok : GOk N adj) (hr : root < N) (f : Fr n h) :
    ∃ n' h' v, (R1_Order F tv (i64 (root : Int))).run n h = some (v, n', h') ∧ NewI h' n v (nats (ordL adj F root)) ∧ Ev No n h n' h' := by
  have hN := ok.few
  unfold R1_Order R1_Order_r0 R1_Order_r1
  try dsimp only
  rw [st_lss, onB_ite, run_ite, if_neg (by simp), gr.len, st_geq, onB_ite, run_ite, if_neg (by simp; omega)]
  unfold R1_Order_r3
  try dsimp only
  obtain ⟨h1, e1, t1, ev1⟩ := TB.make (β := Value) (bytes := 1) (z := false) f (show N ≤ 100000 by omega) (by decide)
  rw [gr.len, show (Value.bool false) = bo false from rfl, e1, show (Value.slice none 0 0) = nsl from rfl]
  have hc : cnt N (fun _ => false) ≤ N := by
    unfold cnt
    have := List.length_filter_le (fun m : Nat => !(fun _ => false) m) (List.range N)
    rwa [List.length_range] at this
  have gr1 := gr.no ev1 hm
  obtain ⟨n2, h2, v2, e2, x2, ev2⟩ := deep_spec (F := F) (m := m) (lo := n) (bm := n) (tv := tv) (by omega) ok hm F root (n + 1) h1 nsl (fun _ => false, []) hr rfl (by show cnt N (fun _ => false) < F; omega) (by show 0 + cnt N (fun _ => false) ≤ 1000; omega) gr1 ⟨t1, Nat.le_refl _, 0, .inl ⟨rfl, rfl⟩, fun h => absurd rfl h⟩ (by omega) ev1.f
  rw [run_bnd e2]
  have l2 := ev2.le
  unfold R1_Order_r4 R1_Order_r5
  try dsimp only
  obtain ⟨b, g, hb⟩ := x2.que
  have rd : RdI h2 v2 (nats (beh adj F root (fun _ => false, [])).2) := g.rd
  have ho := ord_beh (k := F) ok.lt hr (by omega)
  have hlen : (beh adj F root (fun _ => false, [])).2.length ≤ N := by
    have := nodup_len ho.nodup ho.lt
    rwa [List.length_reverse] at this
  rw [rd.lenI, nats_len, sx_sub (by omega)]
  obtain ⟨n3, h3, v3, e3, x3, ev3⟩ := rorder_l1 (F := F) (lo := n2) (mB := n2) ev2.f rd (by omega) (Nat.le_refl _) (E := fun x6 => R1_Order_k0 F x6) (beh adj F root (fun _ => false, [])).2.length F n2 h2 nsl (Nat.le_refl _) (by omega) (fun _ _ => rfl) (by rw [List.drop_of_length_le (Nat.le_refl _)]; exact NewI.nil) (Nat.le_refl _) ev2.f
  rw [show (Value.slice none 0 0) = nsl from rfl, e3]
  refine ⟨n3, h3, v3, rfl, x3.mono (by omega), ev3.f, by have := ev3.le; omega, fun c hc _ => ?_⟩
  rw [ev3.keep c (by omega) (by omega), ev2.keep c (by omega) (by omega), ev1.no hc]

theorem rorder_out {F n m : Nat} {z : Int} {tv : Value} {h : H} (hF : 1000000 ≤ F) (gr : Gr h m tv N adj) (hr : z < 0 ∨ (N : Int) ≤ z) : (R1_Order F tv (i64 z)).run n h = some (nsl, n, h) := by
  unfold R1_Order R1_Order_r0 R1_Order_r1
  try dsimp only
  rw [st_lss, onB_ite, run_ite]
  by_cases h0 : z < 0
  · rw [if_pos (by simpa using h0), onB_ite, run_ite, if_pos rfl]; rfl
  · rw [if_neg (by simpa using h0), gr.len, st_geq, onB_ite, run_ite, if_pos (by simp; omega)]; rfl
end

theorem gorder_run {F : Nat} (hF : 1000000 ≤ F) (hbg : gaveTrue ((L5_begun F).run 8 (baseH deB)) = true) (hbk : (((L5_begun F).run 8 (baseH deB)).map fun x => x.2.2.get 0) = some (some ⟨deB, .ro⟩)) (h : H) (us : List Value) (f : Fr 8 h) (hb : h.get 0 = some ⟨deB, .ro⟩) (ha : ArgsAre h [.int, .flat 2, .int] us) :
    ∃ n' h', (L5_GraphOrder_m F us).run 8 h = some (.bool true, n', h') := by
  obtain ⟨_, v, _, rfl, ⟨z, rfl, hz⟩, hv, ⟨r, rfl, hr⟩⟩ := args3 ha
  obtain ⟨len, Z, hp, hl, hZ⟩ := hv.pairs f
  show ∃ n' h', (L5_GraphOrder F (i64 z) v (i64 r)).run 8 h = some (.bool true, n', h')
  unfold L5_GraphOrder L5_GraphOrder_r0 L5_GraphOrder_r1
  try dsimp only
  obtain ⟨n1, h1, e1, f1, l1, k1⟩ := run_over_true hbg hbk f hb
  rw [run_bnd e1]
  unfold L5_GraphOrder_r2
  simp only [st_not, onB_ite, Bool.not_true, Bool.false_eq_true, if_false]
  unfold L5_GraphOrder_r4
  try dsimp only
  obtain ⟨n2, h2, g, ob, O, e2, x2, ev2⟩ := made_var (F := F) hF l1 hz hZ (hp.keep k1) f1
  rw [show (Value.int .i64 0) = i64 0 from rfl, show (Value.slice none 0 0) = nsl from rfl, e2]
  generalize nodesOf z = N at *
  generalize madeL N Z (min len 80) = adj at *
  have gr2 := x2.gr ev2.f
  have hN := x2.few
  have hN1 := x2.pos
  have hgl := x2.glt
  unfold L5_GraphOrder_r5
  try dsimp only
  have chk : ∀ {n : Nat} {h' : H} {k : Unit → M Value}, GB h' g N (sl ob 0 N N) → (bnd (opChk false (pt g 1) (sl ob 0 N N)) k).run n h' = (k ()).run n h' := fun hg => run_chk hg (by decide) rfl (by simp [veq])
  have fa : ∀ k : Value → M Value, bnd (opFieldAddr 1 (pt g 0)) k = k (pt g 1) := fun k => rfl
  rw [x2.var.all, fa, ld1 x2.var (by decide) rfl]
  by_cases hin : r < 0 ∨ (N : Int) ≤ r
  · obtain ⟨n3, h3, e3, ev3⟩ := order_out (F := F) hF gr2 (Nat.le_refl _) x2.ok hin ev2.f
    have gb3 := x2.var.ev ev3 x2.glt (fun h => h)
    have gr3 := gr2.no ev3 (Nat.le_refl _)
    rw [run_bnd e3, chk gb3, run_bnd (rorder_out (F := F) (n := n3) hF gr3 hin)]
    have nl : RdI h3 nsl [] := .inl ⟨rfl, rfl⟩
    rw [run_bnd (req_spec nl nl (by simp; omega) (by simp))]
    exact ⟨n3, h3, rfl⟩
  · obtain ⟨root, rfl⟩ : ∃ root : Nat, r = (root : Int) := ⟨r.toNat, by omega⟩
    have hrN : root < N := by omega
    obtain ⟨n3, h3, v3, b3, e3, g3, lb3, ev3⟩ := order_in (F := F) (root := root) hF gr2 (Nat.le_refl _) x2.ok hrN ev2.f
    have gb3 := x2.var.ev ev3 x2.glt (fun h => h)
    have gr3 := gr2.no ev3 (Nat.le_refl _)
    have l3 := ev3.le
    rw [run_bnd e3, chk gb3]
    obtain ⟨n4, h4, v4, e4, x4, ev4⟩ := rorder_in (F := F) (root := root) hF gr3 l3 x2.ok hrN ev3.f
    rw [run_bnd e4]
    have rd3 : RdI h3 v3 (nats (ordL adj F root)) := g3.rd
    have rd4 : RdI h4 v3 (nats (ordL adj F root)) := rd3.kept ev3.f fun c hc => ev4.no hc
    have ho := ord_beh (k := F) x2.ok.lt hrN (by omega)
    have hlen : (nats (ordL adj F root)).length ≤ N := by rw [nats_len]; exact nodup_len ho.nodup ho.lt
    rw [run_bnd (req_spec rd4 x4.rd (by omega) (by omega)), decide_eq_true rfl]
    exact ⟨n4, h4, rfl⟩

theorem gorder_law (h : H) (us : List Value) (f : Fr 8 h) (hb : h.get 0 = some ⟨deB, .ro⟩) (ha : ArgsAre h [.int, .flat 2, .int] us) : ∃ n' h', (L5_GraphOrder_m 1000000 us).run 8 h = some (.bool true, n', h') := gorder_run (Nat.le_refl _) begunD_runs begunD_keeps h us f hb ha

end Go.Fw
