/-
  graph.Parts, said of the abstract machine: the parts, one after the other; the whole.
-/
import Derived.Test.YtddafkflndhnfaaDoorLawTarC
set_option maxRecDepth 20000
set_option linter.unusedVariables false
namespace Go.Fw

theorem Up.congr {adj : Nat → List Nat} {N : Nat} {D D' : Nat → Prop} (hlt : ∀ a, a < N → ∀ b, b ∈ adj a → b < N) (x : Up adj N D) (e : ∀ v, v < N → (D v ↔ D' v)) : Up adj N D' := fun u v hu hr hd => by
  have hv : v < N := by
    induction hr with
    | refl => exact hu
    | step _ q ih =>
      have : ∀ w, Rch adj u w → w < N := fun w hw => by
        induction hw with
        | refl => exact hu
        | step _ q ih => exact hlt _ ih _ q
      exact hlt _ (this _ ‹_›) _ q
  exact (e u hu).1 (x u v hu hr ((e v hv).2 hd))

theorem cnt_pos {N : Nat} {s : Nat → Bool} (h : cnt N s ≠ 0) : ∃ k, k < N ∧ s k = false := by
  unfold cnt at h
  obtain ⟨k, hk⟩ := List.exists_mem_of_length_pos (Nat.pos_of_ne_zero h)
  rw [List.mem_filter, List.mem_range] at hk
  exact ⟨k, hk.1, by cases hs : s k with | false => rfl | true => rw [hs] at hk; exact absurd hk.2 (by decide)⟩
theorem cnt_none {N : Nat} {s : Nat → Bool} (h : cnt N s = 0) {k : Nat} (hk : k < N) : s k = true := by
  cases hs : s k with
  | true => rfl
  | false =>
    unfold cnt at h
    have := List.eq_nil_of_length_eq_zero h
    have hm : k ∈ (List.range N).filter fun m => !s m := List.mem_filter.2 ⟨List.mem_range.2 hk, by rw [hs]; rfl⟩
    rw [this] at hm; cases hm

theorem idx_first {MM k : Nat} {ah : Nat → Int} (hk : k < MM) (h0 : ah k = 0) (hl : ∀ j, j < k → ah j ≠ 0) : idxI 0 ((List.range MM).map ah) = (k : Int) := by
  have hm : (0 : Int) ∈ (List.range MM).map ah := List.mem_map.2 ⟨k, List.mem_range.2 hk, h0⟩
  unfold idxI
  rw [if_pos hm]
  have : ((List.range MM).map ah).idxOf 0 = k := by
    have e : (List.range MM).map ah = ((List.range MM).map ah).take k ++ 0 :: ((List.range MM).map ah).drop (k + 1) := by
      have h1 : ((List.range MM).map ah)[k]'(by simpa using hk) = 0 := by simp [h0]
      rw [← h1, ← List.drop_eq_getElem_cons, List.take_append_drop]
    rw [e, List.idxOf_append, if_neg, List.idxOf_cons_self, List.length_take, List.length_map, List.length_range]
    · omega
    · intro hc
      rw [← List.map_take, List.mem_map] at hc
      obtain ⟨j, hj, h2⟩ := hc
      rw [List.take_range, List.mem_range] at hj
      exact hl j (by omega) h2
  rw [this]

/-- Rows that may be read in a heap, in blocks from lo on. -/
def RowsB (lo : Nat) (hb : H) (ivo : List Value) (L : List (List Nat)) : Prop := ivo.length = L.length ∧ ∀ (i : Nat) (v : Value) (P : List Nat), ivo[i]? = some v → L[i]? = some P → RdI hb v (nats P) ∧ one v = true ∧ (P ≠ [] → lo ≤ blkOf v)
theorem RowsB.push {lo : Nat} {hb : H} {ivo : List Value} {L : List (List Nat)} (x : RowsB lo hb ivo L) {v : Value} {P : List Nat} (h1 : RdI hb v (nats P)) (h2 : one v = true) (h3 : P ≠ [] → lo ≤ blkOf v) : RowsB lo hb (ivo ++ [v]) (L ++ [P]) := by
  refine ⟨by rw [List.length_append, List.length_append, x.1]; rfl, fun i u Q hu hQ => ?_⟩
  rcases Nat.lt_or_ge i ivo.length with hi | hi
  · rw [List.getElem?_append_left hi] at hu
    rw [List.getElem?_append_left (by rw [← x.1]; exact hi)] at hQ
    exact x.2 i u Q hu hQ
  · rw [List.getElem?_append_right hi] at hu
    rw [List.getElem?_append_right (by rw [← x.1]; exact hi)] at hQ
    have hz : i - ivo.length = 0 := by
      have := (List.getElem?_eq_some_iff.1 hu).1
      simp at this; omega
    rw [hz] at hu
    rw [← x.1, hz] at hQ
    simp only [List.getElem?_cons_zero, Option.some.injEq] at hu hQ
    subst hu
    subst hQ
    exact ⟨h1, h2, h3⟩
theorem RowsB.all {lo : Nat} {hb : H} {ivo : List Value} {L : List (List Nat)} (x : RowsB lo hb ivo L) : ivo.all one = true := by
  rw [List.all_eq_true]
  intro u hu
  obtain ⟨i, hi, rfl⟩ := List.mem_iff_getElem.1 hu
  exact (x.2 i ivo[i] (L[i]'(by rw [← x.1]; exact hi)) (List.getElem?_eq_getElem hi) (List.getElem?_eq_getElem _)).2.1

section
variable {n : Nat} {h h' hb : H} {lo m q p bn bl bs N g nb : Nat} {tv sv pv : Value} {s s' : TS} {sb pb : Nat} {ivs : List Value} {adj : Nat → List Nat}

theorem ahd_bounds (ok : GOk N adj) {u : Nat → Nat} {dn : Nat → Bool} (j : Nat) : -1 ≤ ahd adj N u dn j ∧ ahd adj N u dn j ≤ 1000000 := by
  have hN := ok.few
  unfold ahd
  split
  · omega
  · have : ∀ l : List Nat, (∀ a, a ∈ l → a < N) → (l.flatMap (outK adj u)).length ≤ 1000 * l.length := by
      intro l
      induction l with
      | nil => intro _; simp
      | cons a l ih2 =>
        intro hl
        have h2 := ih2 fun b hb => hl b (List.mem_cons_of_mem _ hb)
        have h3 : (outK adj u a).length ≤ 1000 := by
          unfold outK
          have := List.length_filter_le (fun k => decide (k ≠ u a)) ((adj a).map u)
          rw [List.length_map] at this
          have := ok.short a (hl a List.mem_cons_self)
          omega
        rw [List.flatMap_cons, List.length_append, List.length_cons]
        omega
    have h1 := this ((List.range N).filter fun a => !dn (u a)) fun a ha => by rw [List.mem_filter, List.mem_range] at ha; exact ha.1
    have h2 := List.length_filter_le (fun a => !dn (u a)) (List.range N)
    rw [List.length_range] at h2
    have h3 := List.count_le_length (a := j) (l := ((List.range N).filter fun a => !dn (u a)).flatMap (outK adj u))
    omega

theorem parts_l1 {F ob ab MM : Nat} {u : Nat → Nat} {Q : List (List Nat)} {cs : List Value} (hF : 1000000 ≤ F) (ok : GOk N adj) (fb : Fr nb hb) (gb : GB hb g N tv) (grb : Gr hb m tv N adj) (hm : m ≤ nb) (hp : hb.get p = some ⟨cs, .own⟩) (hp7 : cs[7]? = some pv) (rq : RdP lo hb pv Q) (qo : QOk adj N Q) (ua : At u Q) (hQ : Q.length = MM) (hM : MM ≤ 1000) (hob : nb ≤ ob) (hab : nb ≤ ab) (hne : ob ≠ ab) {E : Value → M Value} :
    ∀ j i k n (h : H) (dn : Nat → Bool) (ov : Value) (oB : Nat) (ivo : List Value) (L : List (List Nat)), i + j = MM → j < k → (∀ c, c < nb → h.get c = hb.get c) → TI h ob N (fun a => (u a : Int)) → TI h ab MM (ahd adj N u dn) → Up adj N (fun v => dn (u v) = true) → cnt MM dn = j →
    Gl h ov oB ivo → (ivo ≠ [] → nb ≤ oB ∧ oB ≠ ob ∧ oB ≠ ab) → RowsB lo hb ivo L → L.length ≤ i → Fr n h → nb ≤ n →
    ∃ n' h' ov' oB' ivo' L', (graph_Parts_l1 F E k (pt g 0) (pt p 0) (sl ob 0 N N) (sl ab 0 MM MM) ov (i64 MM) (i64 i)).run n h = (E ov').run n' h' ∧ Gl h' ov' oB' ivo' ∧ RowsB lo hb ivo' (L ++ L') ∧ (ivo' ≠ [] → nb ≤ oB') ∧ Topo adj N (fun v => dn (u v) = true) L' ∧ Ev (fun c => nb ≤ c) n h n' h' := by
  have hN := ok.few
  have hlt' : ∀ a, a < N → ∀ b, b ∈ adj a → b < N := fun a ha b hb => ok.lt a ha b hb
  intro j
  induction j with
  | zero =>
    intro i k n h dn ov oB ivo L hij hk hk0 tu ta up hcnt gl hob' rows hLi f hn
    obtain ⟨k, rfl⟩ : ∃ j, k = j + 1 := ⟨k - 1, by omega⟩
    rw [graph_Parts_l1_s]
    unfold graph_Parts_b1 graph_Parts_r34
    try dsimp only
    rw [st_lss]
    simp only [onB_ite, run_ite, decide_eq_true_eq]
    rw [if_neg (by omega)]
    exact ⟨n, h, ov, oB, ivo, [], rfl, gl, by rw [List.append_nil]; exact rows, fun h0 => (hob' h0).1, .nil fun v hv => cnt_none hcnt (by rw [← hQ]; exact qo.lt_len ua hv), Ev.refl f⟩
  | succ j ih =>
    intro i k n h dn ov oB ivo L hij hk hk0 tu ta up hcnt gl hob' rows hLi f hn
    obtain ⟨k, rfl⟩ : ∃ j, k = j + 1 := ⟨k - 1, by omega⟩
    have hobn := tu.ltn f
    have habn := TI.ltn ta f
    obtain ⟨k0, hk0M, hk0d⟩ := cnt_pos (N := MM) (s := dn) (by omega)
    have hPk0 := List.getElem?_eq_getElem (show k0 < Q.length by omega)
    have hmem0 : hd Q[k0] ∈ Q[k0] := hd_mem (qo.scc _ (List.getElem_mem _)).1
    obtain ⟨kk, P, hP, hdk, hz, hfirst, hnext⟩ := next_part hlt' qo ua up (qo.lt (List.getElem_mem _) hmem0) (by rw [ua k0 _ hPk0 _ hmem0]; exact hk0d)
    have hPQ := List.mem_of_getElem? hP
    have hkM : kk < MM := by rw [← hQ]; exact (List.getElem?_eq_some_iff.1 hP).1
    rw [graph_Parts_l1_s]
    unfold graph_Parts_b1 graph_Parts_r34
    try dsimp only
    rw [st_lss]
    simp only [onB_ite, run_ite, decide_eq_true_eq]
    rw [if_pos (by omega)]
    unfold graph_Parts_r35
    try dsimp only
    have rda : RdI h (sl ab 0 MM MM) ((List.range MM).map (ahd adj N u dn)) := by
      have := TV.rd ta
      unfold tab at this
      show Rd h _ (((List.range MM).map (ahd adj N u dn)).map i64)
      rw [List.map_map]
      exact this
    rw [show (Value.int .i64 0) = i64 0 from rfl, run_bnd (index_spec (F := F) (x := 0) (by rw [List.length_map, List.length_range]; omega) (by rw [List.length_map, List.length_range]; omega) rda), idx_first hkM hz hfirst]
    unfold graph_Parts_r36
    try dsimp only
    obtain ⟨h1, e1, t1, ev1⟩ := TI.set (β := Value) ta f hkM (z := -1)
    rw [show (Value.int .i64 (-1)) = i64 (-1) from rfl, e1]
    have k1 : ∀ c, c < nb → h1.get c = hb.get c := fun c hc => by rw [ev1.keep c (by omega) (by omega)]; exact hk0 c hc
    have hp1 : h1.get p = _ := (k1 p (fb.lt hp)).trans hp
    obtain ⟨rv, er, hr, hr1, hrl⟩ := rq.rowB (n := n) fb k1 hP
    unfold graph_Parts_r37
    try dsimp only
    rw [ldF hp1 hp7, er, run_single ev1.f hr1]
    have ev2 := Ev.new ev1.f ⟨[rv], .own⟩
    have m2 : (h1.set n ⟨[rv], .own⟩).get n = some ⟨[rv], .own⟩ := H.get_set_same _ _ _
    generalize h1.set n ⟨[rv], .own⟩ = h2 at ev2 m2
    have gl2 : Gl h2 ov oB ivo := gl.keep fun h0 => by
      have := gl.lt f h0
      have := hob' h0
      rw [ev2.no (by omega), ev1.keep oB (by omega) (by omega)]
    obtain ⟨h3, e3, gl3, f3, k3⟩ := run_append (β := Value) (bytes := 24) (km := .own) gl2 ev2.f m2 (by decide) hr1 rows.all (fun h0 => by have := gl.lt f h0; omega) (by have := rows.1; omega)
    rw [e3]
    have k03 : ∀ c, c < n → c ≠ ab → (ivo ≠ [] → c ≠ oB) → h3.get c = h.get c := fun c hc c1 c2 => by rw [k3 c (by omega) c2, ev2.no (by omega), ev1.keep c hc c1]
    have kb3 : ∀ c, c < nb → h3.get c = hb.get c := fun c hc => by rw [k03 c (by omega) (by omega) fun h0 => by have := hob' h0; omega]; exact hk0 c hc
    have hp3 : h3.get p = _ := (kb3 p (fb.lt hp)).trans hp
    unfold graph_Parts_r38
    try dsimp only
    obtain ⟨rv', er', hr', _, _⟩ := rq.rowB (n := n + 1 + 1) fb kb3 hP
    rw [ldF hp3 hp7, er', RdI.lenN (Rd.kept hr' fb kb3)]
    have t3 : TI h3 ab MM (fun j => if j = kk then -1 else ahd adj N u dn j) := by
      refine TV.keep ?_ (show h3.get ab = h1.get ab by rw [k3 ab (by omega) fun h0 => ((hob' h0).2.2).symm, ev2.no (by omega)])
      have e : upd (ahd adj N u dn) kk (-1) = fun j => if j = kk then -1 else ahd adj N u dn j := by funext j; rfl
      rw [e] at t1; exact t1
    have hsP : P.length ≤ 1000 := by
      have hn : P.Nodup := by
        rw [(qo.scc P hPQ).2 _ (hd_mem (qo.scc P hPQ).1)]
        exact List.nodup_range.filter _
      have := nodupN_len (N := N) hn fun v hv => qo.lt hPQ hv
      omega
    obtain ⟨h4, r4, t4, ev4⟩ := parts_l3 (F := F) (kk := kk) (x3 := pt p 0) (x15 := sl (n + 1) 0 (ivo.length + 1) (U + 1)) (x127 := i64 MM) (x128 := i64 i) (u := u) hF ok fb gb grb hm hr' (fun a ha => ⟨qo.lt hPQ ha, ua kk P hP a ha⟩) hsP (fun b hb => by rw [← hQ]; exact qo.lt_len ua hb) hM hob hab hne (E := fun x1 x3 x5 x10 x15 x127 x128 => graph_Parts_k2 F (graph_Parts_l1 F E k) x1 x3 x5 x10 x15 x127 x128) P.length 0 F (n + 1 + 1) h3 _ (by omega) (by omega) kb3 (tu.keep (k03 ob hobn hne fun h0 => ((hob' h0).2.1).symm)) t3 (fun j => by
      have := ahd_bounds ok (u := u) (dn := dn) j
      constructor <;> split <;> omega) f3 (by omega)
    rw [show (Value.int .i64 0) = i64 ((0 : Nat) : Int) from rfl, r4]
    unfold graph_Parts_k2 graph_Parts_r48
    try dsimp only
    rw [sx_add (by omega)]
    have e4 : (fun j => (if j = kk then -1 else ahd adj N u dn j) - ((((P.drop 0).flatMap (outK adj u)).count j : Nat) : Int)) = ahd adj N u (fun i => dn i || decide (i = kk)) := by
      funext j
      rw [List.drop_zero]
      exact ahd_next hlt' qo ua up hP hdk j
    rw [e4] at t4
    have hhm : hd P ∈ P := hd_mem (qo.scc P hPQ).1
    have hhN := qo.lt hPQ hhm
    have hD : ∀ v, v < N → ((dn (u v) = true ∨ Same2 adj (hd P) v) ↔ (dn (u v) || decide (u v = kk)) = true) := fun v hv => by
      rw [Bool.or_eq_true, decide_eq_true_eq]
      refine or_congr Iff.rfl ?_
      rw [← qo.same ua hhN hv, ua kk P hP _ hhm]
      exact eq_comm
    have up' := (up.next hnext).congr hlt' hD
    have hcnt' : cnt MM (fun i => dn i || decide (i = kk)) = j := by
      have := cnt_put (s := dn) (a := kk) hdk MM
      rw [if_pos hkM] at this
      have e : putM dn kk = fun i => dn i || decide (i = kk) := rfl
      rw [e] at this
      omega
    obtain ⟨n', h', ov', oB', ivo', L', q1, q2, q3, q6, q4, q5⟩ := ih (i + 1) k (n + 1 + 1) h4 _ (sl (n + 1) 0 (ivo.length + 1) (U + 1)) (n + 1) (ivo ++ [rv]) (L ++ [P]) (by omega) (by omega)
      (fun c hc => by rw [ev4.keep c (by omega) (by omega)]; exact kb3 c hc) ((tu.keep (k03 ob hobn hne fun h0 => ((hob' h0).2.1).symm)).keep (ev4.keep ob (by omega) hne)) t4 up' hcnt'
      (gl3.keep fun _ => ev4.keep (n + 1) (by omega) (by omega)) (fun _ => ⟨by omega, by omega, by omega⟩) (rows.push hr hr1 hrl) (by rw [List.length_append, List.length_singleton]; omega) ev4.f (by omega)
    refine ⟨n', h', ov', oB', ivo', P :: L', q1, q2, by rw [List.append_assoc] at q3; exact q3, q6, ?_, q5.1, by have := q5.le; omega, fun c hc hcn => ?_⟩
    · rw [(qo.scc P hPQ).2 _ hhm]
      refine .cons hnext (q4.congr fun v hv => (hD v hv).symm)
    · rw [q5.keep c (by omega) hcn, ev4.keep c (by omega) (by omega), k03 c hc (by omega) fun h0 => by have := (hob' h0).1; omega]


theorem opBuild_fin {nv lv ov : Value} (h1 : one tv = true) (h2 : one nv = true) (h3 : one lv = true) (h4 : one ov = true) :
    opBuild [i64 0, nsl, nsl, nsl, nsl, nsl, i64 0, nsl] [(0, 2, true, gv N tv), (2, 1, false, nv), (3, 1, false, lv), (4, 1, false, ov)] = ret (.agg (fcs N tv nv lv ov nsl nsl 0).toArray) := by
  have hf : fillA [i64 0, nsl, nsl, nsl, nsl, nsl, i64 0, nsl] [(0, 2, true, gv N tv), (2, 1, false, nv), (3, 1, false, lv), (4, 1, false, ov)] = some (fcs N tv nv lv ov nsl nsl 0) := by
    have hN : one (i64 N) = true := rfl
    simp [fillA, h1, h2, h3, h4, hN, over]
  unfold opBuild
  rw [hf]

/-- graph.Parts tells the parts, in their order. -/
theorem parts_spec {F : Nat} (hF : 1000000 ≤ F) (ok : GOk N adj) (hN1 : 1 ≤ N) (gr : Gr h m tv N adj) (hm : m ≤ n) (f : Fr n h) :
    ∃ n' h' v L, (graph_Parts F (gv N tv)).run n h = some (v, n', h') ∧ RdP n h' v L ∧ Topo adj N (fun _ => False) L ∧ one v = true ∧ Ev No n h n' h' := by
  have hN := ok.few
  have hlt' : ∀ a, a < N → ∀ b, b ∈ adj a → b < N := fun a ha b hb => ok.lt a ha b hb
  unfold graph_Parts graph_Parts_r0
  try dsimp only
  obtain ⟨h1, e1, g1, ev1⟩ := GB.box (β := Value) (N := N) f gr.1
  rw [e1]
  have gr1 := gr.no ev1 hm
  unfold graph_Parts_r1
  try dsimp only
  obtain ⟨n2, h2, e2, ev2⟩ := gmay_spec (F := F) (by omega) gr1 (by omega) ok ev1.f
  have l2 := ev2.le
  rw [g1.all, run_bnd e2, st_not]
  simp only [onB_ite, run_ite]
  rw [if_neg (by decide)]
  have g2 := g1.ev ev2 (by omega) (fun h => h)
  have gr2 := gr1.no ev2 (by omega)
  unfold graph_Parts_r3
  try dsimp only
  obtain ⟨h3, e3, t3, ev3⟩ := TI.make (β := Value) (bytes := 8) ev2.f (show N ≤ 100000 by omega) (by omega) (z := 0)
  obtain ⟨h4, e4, t4, ev4⟩ := TI.make (β := Value) (bytes := 8) ev3.f (show N ≤ 100000 by omega) (by omega) (z := 0)
  obtain ⟨h5, e5, t5, ev5⟩ := TB.make (β := Value) (bytes := 1) ev4.f (show N ≤ 100000 by omega) (by omega) (z := false)
  rw [g2.all, g2.nn, g2.nn, g2.nn, show (Value.int .i64 0) = i64 0 from rfl, e3, e4, e5, opBuild_fin gr.1 rfl rfl rfl, ret_bnd, run_box ev5.f (by simp only [List.all_cons, List.all_nil, gr.1, Bool.true_and, Bool.and_true]; rfl)]
  have ev6 := Ev.new ev5.f ⟨fcs N tv (sl n2 0 N N) (sl (n2 + 1) 0 N N) (sl (n2 + 1 + 1) 0 N N) nsl nsl 0, .own⟩
  have p6 : (h5.set (n2 + 1 + 1 + 1) ⟨fcs N tv (sl n2 0 N N) (sl (n2 + 1) 0 N N) (sl (n2 + 1 + 1) 0 N N) nsl nsl 0, .own⟩).get (n2 + 1 + 1 + 1) = some ⟨fcs N tv (sl n2 0 N N) (sl (n2 + 1) 0 N N) (sl (n2 + 1 + 1) 0 N N) nsl nsl 0, .own⟩ := H.get_set_same _ _ _
  generalize h5.set (n2 + 1 + 1 + 1) ⟨fcs N tv (sl n2 0 N N) (sl (n2 + 1) 0 N N) (sl (n2 + 1 + 1) 0 N N) nsl nsl 0, .own⟩ = h6 at ev6 p6
  have ev26 : Ev No n2 h2 (n2 + 1 + 1 + 1 + 1) h6 := ((ev3.trans ev4 fun _ _ h => h).trans ev5 fun _ _ h => h).trans ev6 fun _ _ h => h
  have fx : Fx n2 (n2 + 1 + 1 + 1 + 1) (n2 + 1 + 1 + 1) n2 (n2 + 1) (n2 + 1 + 1) := by constructor <;> omega
  have fe : FE h6 (n2 + 1 + 1 + 1 + 1) (n2 + 1 + 1 + 1) n2 (n2 + 1) (n2 + 1 + 1) N tv (tall adj N F 0) := by
    refine ⟨nsl, 0, nsl, 0, [], p6, ?_, ?_, ?_, .inl ⟨rfl, rfl⟩, fun h => absurd rfl h, rfl, .inl ⟨rfl, rfl⟩, fun h => absurd rfl h, rfl, fun i v P hv => by simp at hv⟩
    · exact TV.keep t3 (by rw [ev6.no (by omega), ev5.no (by omega), ev4.no (by omega)])
    · exact TV.keep t4 (by rw [ev6.no (by omega), ev5.no (by omega)])
    · exact TV.keep t5 (by rw [ev6.no (by omega)])
  have gr6 := gr2.no ev26 (by omega)
  have g6 := g2.ev ev26 (by omega) (fun h => h)
  unfold graph_Parts_r4
  try dsimp only
  obtain ⟨n7, h7, r7, fe7, ev7⟩ := parts_l17 (F := F) (g := n) hF ok fx (by omega) (E := fun x1 x3 => graph_Parts_k16 F x1 x3) N 0 F (n2 + 1 + 1 + 1 + 1) h6 (by omega) (by omega) fe gr6 ev6.f (Nat.le_refl _)
  rw [g6.nn, show (Value.int .i64 0) = i64 ((0 : Nat) : Int) from rfl, r7]
  have l7 := ev7.le
  have g7 := g6.ev ev7 (by omega) (by omega)
  have gr7 := gr6.ev ev7 (by omega) fun c hc => by omega
  have sc := tall_scc (k := F) hlt' (show N < F by omega)
  obtain ⟨x, hst, hvis⟩ := tall_inv (k := F) hlt' (by omega) N (Nat.le_refl _)
  generalize tall adj N F N = t at fe7 sc x
  obtain ⟨sv, sb, pv, pb, ivs, w⟩ := fe7
  unfold graph_Parts_k16 graph_Parts_r10
  try dsimp only
  have hpsne : t.ps ≠ [] := fun e => by
    have := (sc.all 0).2 (by omega)
    rw [e] at this; cases this
  obtain ⟨h8, Q, r8, q1, q2, rq, ev8⟩ := sort_parts (F := F) w ev7.f hN hpsne sc.dis fun P hP v hv => (sc.all v).1 (List.mem_flatten.2 ⟨P, hP, hv⟩)
  rw [ldF w.hp rfl, run_bnd r8]
  have qo := QOk.of_scc sc q1 q2
  have hivs : ivs ≠ [] := fun e => hpsne (List.eq_nil_of_length_eq_zero (by rw [← w.pp.1, e]; rfl))
  have hpb := (w.pq hivs).1
  have g8 := g7.ev ev8 (by omega) (by omega)
  have gr8 := gr7.ev (P := fun c => c = pb) ev8 (by omega) fun c hc => by omega
  have hp8 : h8.get (n2 + 1 + 1 + 1) = _ := (ev8.keep _ (ev7.f.lt w.hp) (by omega)).trans w.hp
  have hQl : Q.length ≤ 1000 := by
    rw [q1.length_eq]
    have := parts_len (N := N) sc.dis (fun P hP => (sc.scc P hP).1) fun P hP v hv => (sc.all v).1 (List.mem_flatten.2 ⟨P, hP, hv⟩)
    omega
  have hQlt : ∀ P, P ∈ Q → (∀ a, a ∈ P → a < N) ∧ P.length ≤ 1000 := fun P hP => by
    refine ⟨fun a ha => qo.lt hP ha, ?_⟩
    have hn : P.Nodup := by
      rw [(qo.scc P hP).2 _ (hd_mem (qo.scc P hP).1)]
      exact List.nodup_range.filter _
    have := nodupN_len (N := N) hn fun v hv => qo.lt hP hv
    omega
  unfold graph_Parts_r11
  try dsimp only
  obtain ⟨h9, e9, t9, ev9⟩ := TI.make (β := Value) (bytes := 8) ev8.f (show N ≤ 100000 by omega) (by omega) (z := 0)
  rw [g8.nn, show (Value.int .i64 0) = i64 0 from rfl, e9]
  have hp9 : h9.get (n2 + 1 + 1 + 1) = _ := (ev9.no (ev8.f.lt hp8)).trans hp8
  have k9 : ∀ c, c < n7 → h9.get c = h8.get c := fun c hc => ev9.no hc
  unfold graph_Parts_r12
  try dsimp only
  rw [ldF hp9 rfl, (rq.kept ev8.f k9).len]
  obtain ⟨h10, r10, t10, ev10⟩ := parts_l13 (F := F) (x1 := pt n 0) (x3 := pt (n2 + 1 + 1 + 1) 0) (N := N) (nb := n7) hF ev8.f rq rfl hQl hQlt (Nat.le_refl _) (E := fun x1 x3 x5 => graph_Parts_k12 F x1 x3 x5) Q.length 0 F (n7 + 1) h9 (by omega) (by omega) k9 t9 ev9.f
  rw [show (Value.int .i64 0) = i64 ((0 : Nat) : Int) from rfl, r10]
  have at10 : At (ofF Q Q.length) Q := fun k P hP a ha => ofF_at qo Q.length k P (List.getElem?_eq_some_iff.1 hP).1 hP a ha
  have hu : ∀ b, b < N → ofF Q Q.length b < Q.length := fun b hb => qo.lt_len at10 hb
  generalize ofF Q Q.length = u at t10 at10 hu
  have k10 : ∀ c, c < n7 → h10.get c = h8.get c := fun c hc => by rw [ev10.keep c (by omega) (by omega), k9 c hc]
  have hp10 : h10.get (n2 + 1 + 1 + 1) = _ := (k10 _ (ev8.f.lt hp8)).trans hp8
  unfold graph_Parts_k12 graph_Parts_r21
  try dsimp only
  obtain ⟨h11, e11, t11, ev11⟩ := TI.make (β := Value) (bytes := 8) ev10.f (show Q.length ≤ 100000 by omega) (by omega) (z := 0)
  rw [ldF hp10 rfl, (rq.kept ev8.f k10).len, show (Value.int .i64 0) = i64 0 from rfl, e11]
  have k11 : ∀ c, c < n7 → h11.get c = h8.get c := fun c hc => by rw [ev11.no (by omega), k10 c hc]
  have g11 : GB h11 n N tv := by unfold GB; rw [k11 n (by omega)]; exact g8
  have gr11 : Gr h11 m tv N adj := by
    obtain ⟨q0, hg, fg, kg, iv, q3, q4⟩ := gr8
    exact ⟨q0, hg, fg, fun c hc => by rw [k11 c (by omega)]; exact kg c hc, iv, q3, q4⟩
  unfold graph_Parts_r22
  try dsimp only
  rw [g11.t, gr11.len]
  obtain ⟨h12, r12, t12, ev12⟩ := parts_l8 (F := F) (x1 := pt n 0) (x3 := pt (n2 + 1 + 1 + 1) 0) (nb := n7) (u := u) hF ok ev8.f hu hQl (by omega) (Nat.le_refl _) (show n7 ≤ n7 + 1 by omega) (by omega) (E := fun x1 x3 x5 x10 => graph_Parts_k7 F x1 x3 x5 x10) N 0 F (n7 + 1 + 1) h11 (by omega) (by omega) k11 gr11 (t10.keep (ev11.no (by omega))) t11 ev11.f (by omega)
  rw [show (Value.int .i64 0) = i64 ((0 : Nat) : Int) from rfl, r12]
  have k12 : ∀ c, c < n7 → h12.get c = h8.get c := fun c hc => by rw [ev12.keep c (by omega) (by omega), k11 c hc]
  have hp12 : h12.get (n2 + 1 + 1 + 1) = _ := (k12 _ (ev8.f.lt hp8)).trans hp8
  unfold graph_Parts_k7 graph_Parts_r32 graph_Parts_r33
  try dsimp only
  rw [ldF hp12 rfl, (rq.kept ev8.f k12).len]
  have ea : (fun j => ((((List.range N).flatMap (outK adj u)).count j : Nat) : Int)) = ahd adj N u fun _ => false := by
    funext j
    unfold ahd
    rw [if_neg (by intro h; cases h)]
    have : (List.range N).filter (fun a => !(fun _ => false) (u a)) = List.range N := List.filter_eq_self.2 fun a _ => rfl
    rw [this]
  rw [ea] at t12
  obtain ⟨n13, h13, ov, oB, ivo, L, r13, gl, rows, olo, tp, ev13⟩ := parts_l1 (F := F) (g := n) (p := n2 + 1 + 1 + 1) (nb := n7) (u := u) (hb := h8) (pv := pv) hF ok ev8.f g8 gr8 (by omega) hp8 rfl rq qo at10 rfl hQl (Nat.le_refl _) (show n7 ≤ n7 + 1 by omega) (by omega) (E := fun x15 => graph_Parts_k0 F x15) Q.length 0 F (n7 + 1 + 1) h12 (fun _ => false) nsl 0 [] [] (by omega) (by omega) k12 ((t10.keep (ev11.no (by omega))).keep (ev12.keep _ (by omega) (by omega))) t12 (fun _ _ _ _ h => h) (by
    unfold cnt
    have : (List.range Q.length).filter (fun m => !(fun _ => false) m) = List.range Q.length := List.filter_eq_self.2 fun a _ => rfl
    rw [this, List.length_range]) (.inl ⟨rfl, rfl⟩) (fun h => absurd rfl h) ⟨rfl, fun i v P hv => by simp at hv⟩ (Nat.le_refl _) ev12.f (by omega)
  rw [show (Value.int .i64 0) = i64 ((0 : Nat) : Int) from rfl, r13]
  unfold graph_Parts_k0 graph_Parts_r49
  try dsimp only
  rw [List.nil_append] at rows
  have l13 := ev13.le
  have k13 : ∀ c, c < n7 → h13.get c = h8.get c := fun c hc => by rw [ev13.keep c (by omega) (by omega), k12 c hc]
  refine ⟨n13, h13, ov, L, rfl, ⟨ivo, gl.rd, rows.1, fun h0 => ?_, fun i v P hv hP => ⟨(rows.2 i v P hv hP).1.kept ev8.f k13, fun h0 => by have := (rows.2 i v P hv hP).2.2 h0; omega⟩⟩, tp.congr fun v _ => ⟨fun h => (by cases h), fun h => h.elim⟩, gl.one_v, ev13.f, by omega, fun c hc _ => ?_⟩
  · have := olo h0
    rcases gl with ⟨e, _⟩ | ⟨_, e, _⟩
    · exact absurd e h0
    · rw [e, blk_sl]; omega
  rw [k13 c (by omega), ev8.keep c (by omega) (by omega), ev7.keep c (by omega) (by omega), ev26.no (by omega), ev2.no (by omega), ev1.no hc]

end
end Go.Fw
