/-
  DomDeep and DomMore, said of the abstract machine.
-/
import Derived.Test.YtmkpboaigdnpnaaLawDomE
set_option maxRecDepth 20000
namespace Go.Fw

section
variable {adj : Nat → List Nat} {N : Nat} {o : List Nat} {place : Nat → Nat} {up : Nat → Int}

theorem deep_l1 {F bu bd g n : Nat} {h : H} {tv : Value} {d : Nat → Int} (hF : 1000000 ≤ F) (hN : N ≤ 600) (P : Pl adj N 0 o place) (D : DomT adj 0 o place up) (tu : TI h bu N up) (td : TI h bd N d) (hd : ∀ q, q < N → DepOf up 0 o d q) (hg : GB h g N tv) {E : Value → M Value} : ∀ j i k, i + j = N → j < k →
    (L6_DomDeep_l1 F E k (pt g 0) (sl bu 0 N N) (sl bd 0 N N) (i64 (i : Nat))).run n h = (E (sl bd 0 N N)).run n h := by
  have hol := nodup_len P.ord.nodup P.ord.lt
  intro j
  induction j with
  | zero =>
    intro i k hij hk
    obtain ⟨k, rfl⟩ : ∃ j, k = j + 1 := ⟨k - 1, by omega⟩
    rw [L6_DomDeep_l1_s]
    unfold L6_DomDeep_b1 L6_DomDeep_r10
    try dsimp only
    rw [hg.nn, st_lss]
    simp only [onB_ite, run_ite, decide_eq_true_eq]
    rw [if_neg (by omega)]
  | succ j ih =>
    intro i k hij hk
    obtain ⟨k, rfl⟩ : ∃ j, k = j + 1 := ⟨k - 1, by omega⟩
    have hi : i < N := by omega
    rw [L6_DomDeep_l1_s]
    unfold L6_DomDeep_b1 L6_DomDeep_r10
    try dsimp only
    rw [hg.nn, st_lss]
    simp only [onB_ite, run_ite, decide_eq_true_eq]
    rw [if_pos (by omega)]
    unfold L6_DomDeep_r12
    try dsimp only
    rw [tu.get hi, st_lss]
    simp only [onB_ite, run_ite, decide_eq_true_eq]
    have next : (L6_DomDeep_k2 F (L6_DomDeep_l1 F E k) (pt g 0) (sl bu 0 N N) (sl bd 0 N N) (i64 (i : Nat))).run n h = (E (sl bd 0 N N)).run n h := by
      unfold L6_DomDeep_k2 L6_DomDeep_r11
      try dsimp only
      rw [sx_add (by omega)]
      exact ih (i + 1) k (by omega) (by omega)
    rcases hd i hi with ⟨h1, h2⟩ | ⟨q, h1, h2, h3⟩
    · have hu := (D.inv.dom i).resolve_right fun q => h1 q.1
      rw [if_pos (by omega)]
      unfold L6_DomDeep_r13
      try dsimp only
      rw [td.get hi, h2, st_neq]
      simp only [onB_ite, run_ite]
      rw [if_neg (by decide)]
      exact next
    · obtain ⟨x, hx⟩ := D.inv.nat (D.all i h1)
      rw [if_neg (by omega)]
      unfold L6_DomDeep_r15
      try dsimp only
      rw [st_neq]
      simp only [onB_ite, run_ite]
      by_cases h0 : i = 0
      · subst h0
        rw [if_neg (by decide), if_neg (by decide)]
        exact next
      · rw [if_pos (by rw [bne_iff_ne]; omega)]
        have hdx := D.inv.dec i x h0 hx
        have hxo := D.inv.mem hdx.1
        have hxN := P.ord.lt x hxo
        rcases hd x hxN with ⟨h4, _⟩ | ⟨l, _, h5, h6⟩
        · exact absurd hxo h4
        · have hq : q = l + 1 := h3.uniq (.succ h0 hx h6)
          obtain ⟨n1, n2, n3⟩ := D.next P h1 h0 hx
          have hpq := P.at_ h1
          have hlx : l ≤ 600 := by
            obtain ⟨k', k1, k2⟩ := stp_of P D (place x) x (Nat.le_refl _) hxo
            have := h6.uniq k2
            obtain ⟨p1, _⟩ := P.at_ hxo
            omega
          rw [td.get hi, h2, tu.get hi, hx, td.get hxN, h5, sx_add (by omega), st_neq]
          simp only [onB_ite, run_ite]
          rw [if_neg (by rw [hq]; simp), tu.get hi, hx, run_bnd (above_nat hF P D tu hN x i), domB_iff.2 n1, st_not]
          simp only [onB_ite, run_ite]
          rw [if_neg (by decide), tu.get hi, hx, run_bnd (above_nat hF P D tu hN i x), domB_false fun q => n2 (D.antisymm P n1 q), onB_ite, run_ite, if_neg (by decide)]
          exact next
end

theorem domdeep_run {F : Nat} (hF : 1000000 ≤ F) (hbg : gaveTrue ((L6_begun F).run 8 .leaf) = true) (h : H) (us : List Value) (f : Fr 8 h) (ha : ArgsAre h [.int, .flat 2] us) :
    ∃ n' h', (L6_DomDeep_m F us).run 8 h = some (.bool true, n', h') := by
  obtain ⟨_, v, rfl, ⟨z, rfl, hz⟩, hv⟩ := args2 ha
  obtain ⟨len, Z, hp, hl, hZ⟩ := hv.pairs f
  show ∃ n' h', (L6_DomDeep F (i64 z) v).run 8 h = some (.bool true, n', h')
  unfold L6_DomDeep L6_DomDeep_r0 L6_DomDeep_r1
  try dsimp only
  obtain ⟨n1, h1, e1, f1, l1, k1⟩ := run_true hbg f
  rw [run_bnd e1]
  unfold L6_DomDeep_r2
  simp only [st_not, onB_ite, Bool.not_true, Bool.false_eq_true, if_false]
  unfold L6_DomDeep_r4
  try dsimp only
  obtain ⟨n2, h2, g, ob, O, e2, x2, ev2⟩ := made_var (F := F) hF l1 hz hZ (hp.keep k1) f1
  rw [show (Value.int .i64 0) = i64 0 from rfl, show (Value.slice none 0 0) = nsl from rfl, e2]
  generalize nodesOf z = N at *
  generalize madeL N Z (min len 80) = adj at *
  have gr2 := x2.gr ev2.f
  have hN := x2.few
  have hN1 := x2.pos
  have hgl := x2.glt
  unfold L6_DomDeep_r5
  try dsimp only
  obtain ⟨n3, h3, bu, up, o, place, e3, t3, P, D, lb3, ev3⟩ := up_in (F := F) (root := 0) hF gr2 (Nat.le_refl _) x2.ok (by omega) ev2.f
  have le3 := ev3.le
  rw [x2.var.all, show (Value.int .i64 0) = i64 ((0 : Nat) : Int) from rfl, run_bnd e3]
  have gb3 := x2.var.ev ev3 x2.glt (fun h => h)
  unfold L6_DomDeep_r6
  try dsimp only
  obtain ⟨h4, d, e4, t4, q4, ev4⟩ := depth_spec (F := F) hF P D t3 (by omega) ev3.f
  rw [run_bnd e4]
  have gb4 := gb3.ev ev4 (by omega) (fun h => h)
  have t3 := t3.ev ev4 (TV.lt t3 ev3.f) (fun h => h)
  unfold L6_DomDeep_r7
  try dsimp only
  rw [st_len, gb4.nn, st_neq]
  simp only [onB_ite, run_ite]
  rw [if_neg (by simp), st_len, gb4.nn, st_neq]
  simp only [onB_ite, run_ite]
  rw [if_neg (by simp)]
  unfold L6_DomDeep_r9
  try dsimp only
  rw [show (Value.int .i64 0) = i64 ((0 : Nat) : Int) from rfl, deep_l1 hF (by omega) P D t3 t4 q4 gb4 N 0 F (by omega) (by omega)]
  unfold L6_DomDeep_k0 L6_DomDeep_r17
  try dsimp only
  have h0 : d 0 = 0 := by
    rcases q4 0 (by omega) with ⟨h5, _⟩ | ⟨k, _, h5, h6⟩
    · exact absurd P.mem_root h5
    · have := h6.uniq .zero
      rw [h5, this]; rfl
  rw [show (Value.int .i64 0) = i64 ((0 : Nat) : Int) from rfl, t4.get (by omega), h0, st_eql]
  exact ⟨n3 + 1, h4, rfl⟩

theorem domdeep_law (h : H) (us : List Value) (f : Fr 8 h) (ha : ArgsAre h [.int, .flat 2] us) : ∃ n' h', (L6_DomDeep_m 1000000 us).run 8 h = some (.bool true, n', h') := domdeep_run (Nat.le_refl _) begun6c_runs h us f ha

/-! ## DomMore -/

section
variable {adj adj' : Nat → List Nat} {N : Nat} {o o' : List Nat} {place place' : Nat → Nat} {up up' : Nat → Int}

/-- With an edge more, who did not stand above does not. -/
theorem dom_more {x y : Nat} (hadj : ∀ a b, b ∈ adj a → b ∈ adj' a) {i k : Nat} (hi : Rch adj 0 k) (h : Dom adj' 0 i k) : Dom adj 0 i k := by
  refine ⟨hi, fun hw => h.2 ?_⟩
  clear hi h
  induction hw with
  | start h => exact .start h
  | step _ h2 h3 ih => exact .step ih (hadj _ _ h2) h3

theorem more_l3 {F bu bm g n : Nat} {h : H} {tv : Value} (hF : 1000000 ≤ F) (hN : N ≤ 600) (P : Pl adj N 0 o place) (D : DomT adj 0 o place up) (P' : Pl adj' N 0 o' place') (D' : DomT adj' 0 o' place' up') (hadj : ∀ a b, b ∈ adj a → b ∈ adj' a) (tu : TI h bu N up) (tm : TI h bm N up') (hg : GB h g N tv) {i : Nat} (hi : i < N) {E : Value → Value → Value → Value → M Value} : ∀ j q k, q + j = N → j < k →
    (L6_DomMore_l3 F E k (pt g 0) (sl bu 0 N N) (sl bm 0 N N) (i64 (i : Nat)) (i64 (q : Nat))).run n h = (E (pt g 0) (sl bu 0 N N) (sl bm 0 N N) (i64 (i : Nat))).run n h := by
  intro j
  induction j with
  | zero =>
    intro q k hij hk
    obtain ⟨k, rfl⟩ : ∃ j, k = j + 1 := ⟨k - 1, by omega⟩
    rw [L6_DomMore_l3_s]
    unfold L6_DomMore_b3 L6_DomMore_r13
    try dsimp only
    rw [hg.nn, st_lss]
    simp only [onB_ite, run_ite, decide_eq_true_eq]
    rw [if_neg (by omega)]
  | succ j ih =>
    intro q k hij hk
    obtain ⟨k, rfl⟩ : ∃ j, k = j + 1 := ⟨k - 1, by omega⟩
    have hq : q < N := by omega
    rw [L6_DomMore_l3_s]
    unfold L6_DomMore_b3 L6_DomMore_r13
    try dsimp only
    rw [hg.nn, st_lss]
    simp only [onB_ite, run_ite, decide_eq_true_eq]
    rw [if_pos (by omega)]
    have next : (L6_DomMore_r14 F (pt g 0) (sl bu 0 N N) (sl bm 0 N N) (i64 (i : Nat)) (i64 (q : Nat)) fun x10 x14 x15 x16 x17 => L6_DomMore_l3 F E k x10 x14 x15 x16 x17).run n h = (E (pt g 0) (sl bu 0 N N) (sl bm 0 N N) (i64 (i : Nat))).run n h := by
      unfold L6_DomMore_r14
      try dsimp only
      rw [sx_add (by omega)]
      exact ih (q + 1) k (by omega) (by omega)
    unfold L6_DomMore_r15
    try dsimp only
    rw [tu.get hi, st_geq]
    simp only [onB_ite, run_ite, decide_eq_true_eq]
    by_cases h1 : 0 ≤ up i
    · rw [if_pos h1, tu.get hq, st_geq]
      simp only [onB_ite, run_ite, decide_eq_true_eq]
      by_cases h2 : 0 ≤ up q
      · rw [if_pos h2, run_bnd (above_nat hF P' D' tm hN i q)]
        simp only [onB_ite, run_ite]
        cases hm : domB adj' 0 i q with
        | false =>
          rw [if_neg (by decide), if_neg (by decide)]
          exact next
        | true =>
          have hrq : Rch adj 0 q := (P.ord.mem q).1 (D.inv.mem (by omega))
          rw [if_pos rfl, run_bnd (above_nat hF P D tu hN i q), domB_iff.2 (dom_more (x := 0) (y := 0) hadj hrq (domB_iff.1 hm)), st_not, onB_ite, run_ite, if_neg (by decide)]
          exact next
      · rw [if_neg h2, if_neg (by decide)]
        exact next
    · rw [if_neg h1, if_neg (by decide)]
      exact next

theorem more_l1 {F bu bm g n : Nat} {h : H} {tv : Value} (hF : 1000000 ≤ F) (hN : N ≤ 600) (P : Pl adj N 0 o place) (D : DomT adj 0 o place up) (P' : Pl adj' N 0 o' place') (D' : DomT adj' 0 o' place' up') (hadj : ∀ a b, b ∈ adj a → b ∈ adj' a) (tu : TI h bu N up) (tm : TI h bm N up') (hg : GB h g N tv) {E : M Value} : ∀ j i k, i + j = N → j < k →
    (L6_DomMore_l1 F E k (pt g 0) (sl bu 0 N N) (sl bm 0 N N) (i64 (i : Nat))).run n h = E.run n h := by
  intro j
  induction j with
  | zero =>
    intro i k hij hk
    obtain ⟨k, rfl⟩ : ∃ j, k = j + 1 := ⟨k - 1, by omega⟩
    rw [L6_DomMore_l1_s]
    unfold L6_DomMore_b1 L6_DomMore_r10
    try dsimp only
    rw [hg.nn, st_lss]
    simp only [onB_ite, run_ite, decide_eq_true_eq]
    rw [if_neg (by omega)]
  | succ j ih =>
    intro i k hij hk
    obtain ⟨k, rfl⟩ : ∃ j, k = j + 1 := ⟨k - 1, by omega⟩
    have hi : i < N := by omega
    rw [L6_DomMore_l1_s]
    unfold L6_DomMore_b1 L6_DomMore_r10
    try dsimp only
    rw [hg.nn, st_lss]
    simp only [onB_ite, run_ite, decide_eq_true_eq]
    rw [if_pos (by omega)]
    unfold L6_DomMore_r12
    try dsimp only
    rw [show (Value.int .i64 0) = i64 ((0 : Nat) : Int) from rfl, more_l3 hF hN P D P' D' hadj tu tm hg hi N 0 F (by omega) (by omega)]
    unfold L6_DomMore_k2 L6_DomMore_r11
    try dsimp only
    rw [sx_add (by omega)]
    exact ih (i + 1) k (by omega) (by omega)
end

theorem dommore_run {F : Nat} (hF : 1000000 ≤ F) (hbg : gaveTrue ((L6_begun F).run 8 .leaf) = true) (h : H) (us : List Value) (f : Fr 8 h) (ha : ArgsAre h [.int, .flat 2, .int, .int] us) :
    ∃ n' h', (L6_DomMore_m F us).run 8 h = some (.bool true, n', h') := by
  obtain ⟨_, v, _, _, rfl, ⟨z, rfl, hz⟩, hv, ⟨a, rfl, hza⟩, ⟨b, rfl, hzb⟩⟩ := args4 ha
  obtain ⟨len, Z, hp, hl, hZ⟩ := hv.pairs f
  show ∃ n' h', (L6_DomMore F (i64 z) v (i64 a) (i64 b)).run 8 h = some (.bool true, n', h')
  unfold L6_DomMore L6_DomMore_r0 L6_DomMore_r1
  try dsimp only
  obtain ⟨n1, h1, e1, f1, l1, k1⟩ := run_true hbg f
  rw [run_bnd e1]
  unfold L6_DomMore_r2
  simp only [st_not, onB_ite, Bool.not_true, Bool.false_eq_true, if_false]
  have hp1 := hp.keep k1
  unfold L6_DomMore_r4
  try dsimp only
  obtain ⟨n2, h2, g, ob, O, e2, x2, ev2⟩ := made_var (F := F) hF l1 hz hZ hp1 f1
  have le2 := ev2.le
  rw [show (Value.int .i64 0) = i64 0 from rfl, show (Value.slice none 0 0) = nsl from rfl, e2]
  unfold L6_DomMore_r5
  try dsimp only
  obtain ⟨n3, h3, g', ob', O', e3, x3, ev3⟩ := made_var (F := F) hF (by omega) hz hZ (hp1.keep fun c hc => ev2.no (by omega)) ev2.f
  have le3 := ev3.le
  rw [show (Value.int .i64 0) = i64 0 from rfl, show (Value.slice none 0 0) = nsl from rfl, e3]
  generalize nodesOf z = N at *
  generalize madeL N Z (min len 80) = adj at *
  have hN := x2.few
  have hN1 := x2.pos
  have hgl := x2.glt
  have hgl' := x3.glt
  have gr3 := (x2.gr ev2.f).no ev3 (Nat.le_refl _)
  have gb3 := x2.var.ev ev3 x2.glt (fun h => h)
  have gb3' := x3.var
  unfold L6_DomMore_r6
  try dsimp only
  obtain ⟨wa, la⟩ := wrapN_eq hN1 a
  obtain ⟨wb, lb⟩ := wrapN_eq hN1 b
  have r1 := Int.tmod_lt_of_pos a (show (0 : Int) < N by omega)
  have r2 := Int.lt_tmod_of_pos a (show (0 : Int) < N by omega)
  have r3 := Int.tmod_lt_of_pos b (show (0 : Int) < N by omega)
  have r4 := Int.lt_tmod_of_pos b (show (0 : Int) < N by omega)
  rw [gb3'.nn, st_rem (by omega), gb3'.nn, sx_add (by omega), gb3'.nn, st_rem (by omega), wa, gb3'.nn, st_rem (by omega), gb3'.nn, sx_add (by omega), gb3'.nn, st_rem (by omega), wb]
  generalize wrapN N a = x at *
  generalize wrapN N b = y at *
  unfold L6_DomMore_r7
  try dsimp only
  rw [st_field, Nat.zero_add, ld1 gb3' (by decide) rfl, gb3'.t]
  have hsx := x3.short x
  obtain ⟨h4, h5, q, e4, ev4, e5, x5, ev5⟩ := x3.rows.app (J := x) (y := 0) (z := (y : Int)) ev3.f la (by unfold nats; rw [List.length_map]; omega)
  rw [show (Value.int .i64 0) = i64 0 from rfl, e4]
  have gb4' := gb3'.ev ev4 hgl' x3.off
  rw [run_chk (cs := [i64 N, sl ob' 0 N N]) gb4' (by decide) rfl (by simp [veq]), e5]
  have gb5' := gb3'.ev ev5 hgl' x3.off
  have gb5 := gb3.ev ev5 (by omega) (fun q => by have := x3.low g q; omega)
  have gr5 := gr3.ev ev5 le3 x3.low
  have el : (fun j => if j = x then nats (adj j) ++ [(y : Int)] else nats (adj j)) = fun j => nats (if j = x then adj j ++ [y] else adj j) := by
    funext j; split
    · unfold nats; rw [List.map_append]; rfl
    · rfl
  rw [el] at x5
  have ok5 : GOk N (fun j => if j = x then adj j ++ [y] else adj j) := ⟨by omega, fun a ha b hb => by
    split at hb
    · rw [List.mem_append, List.mem_singleton] at hb
      rcases hb with hb | rfl
      · exact x2.ok.lt a ha b hb
      · exact lb
    · exact x2.ok.lt a ha b hb, fun a ha => by
    have := x2.short a
    split
    · rw [List.length_append, List.length_singleton]; omega
    · omega⟩
  have gr5' : Gr h5 (n3 + 2) (sl ob' 0 N N) N (fun j => if j = x then adj j ++ [y] else adj j) := x5.gr ev5.f fun _ _ => rfl
  have hadj : ∀ a b, b ∈ adj a → b ∈ (fun j => if j = x then adj j ++ [y] else adj j) a := fun a b hb => by
    show b ∈ if a = x then adj a ++ [y] else adj a
    split
    · exact List.mem_append_left _ hb
    · exact hb
  generalize (fun j => if j = x then adj j ++ [y] else adj j) = adj' at *
  unfold L6_DomMore_r8
  try dsimp only
  obtain ⟨n6, h6, bu, up, o, place, e6, t6, P, D, lb6, ev6⟩ := up_in (F := F) (root := 0) hF gr5 (by omega) x2.ok (by omega) ev5.f
  have le6 := ev6.le
  have gb6' := gb5'.ev ev6 (by omega) (fun h => h)
  have gb6 := gb5.ev ev6 (by omega) (fun h => h)
  rw [gb5.all, gb5'.all, show (Value.int .i64 0) = i64 ((0 : Nat) : Int) from rfl, run_bnd e6]
  have hchk : (bnd (opChk true (pt g' 0) (gv N (sl ob' 0 N N))) fun _ => bnd (dom_Up F (gv N (sl ob' 0 N N)) (i64 ((0 : Nat) : Int))) fun v62 => L6_DomMore_r9 F (pt g 0) (sl bu 0 N N) v62 fun x10 x14 x15 x16 => L6_DomMore_l1 F (L6_DomMore_k0 F) F x10 x14 x15 x16).run n6 h6 = (bnd (dom_Up F (gv N (sl ob' 0 N N)) (i64 ((0 : Nat) : Int))) fun v62 => L6_DomMore_r9 F (pt g 0) (sl bu 0 N N) v62 fun x10 x14 x15 x16 => L6_DomMore_l1 F (L6_DomMore_k0 F) F x10 x14 x15 x16).run n6 h6 :=
    run_chkN (vs := [i64 N, sl ob' 0 N N]) gb6' (by decide) (by simp) rfl (by simp [veqL, veq])
  rw [hchk]
  obtain ⟨n7, h7, bm, up', o', place', e7, t7, P', D', lb7, ev7⟩ := up_in (F := F) (root := 0) hF (gr5'.no ev6 (Nat.le_refl _)) le6 ok5 (by omega) ev6.f
  rw [run_bnd e7]
  have tu7 := t6.ev ev7 (TV.lt t6 ev6.f) (fun h => h)
  have gb7 := gb6.ev ev7 (by omega) (fun h => h)
  unfold L6_DomMore_r9
  try dsimp only
  rw [show (Value.int .i64 0) = i64 ((0 : Nat) : Int) from rfl, more_l1 hF (by omega) P D P' D' hadj tu7 t7 gb7 N 0 F (by omega) (by omega)]
  exact ⟨n7, h7, rfl⟩

theorem dommore_law (h : H) (us : List Value) (f : Fr 8 h) (ha : ArgsAre h [.int, .flat 2, .int, .int] us) : ∃ n' h', (L6_DomMore_m 1000000 us).run 8 h = some (.bool true, n', h') := dommore_run (Nat.le_refl _) begun6c_runs h us f ha

end Go.Fw
