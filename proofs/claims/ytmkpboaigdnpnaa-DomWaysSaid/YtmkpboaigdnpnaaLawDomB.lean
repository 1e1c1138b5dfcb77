/-
  dom.Up, the whole of it.
-/
import Derived.Test.YtmkpboaigdnpnaaLawDom
set_option maxRecDepth 20000
namespace Go.Fw

section
variable {adj : Nat → List Nat} {N root : Nat} {o : List Nat}

theorem up_l10 {F bu : Nat} {x1 x2 x5 x7 : Value} (hN : N ≤ 600) {E : Value → Value → Value → Value → Value → M Value} : ∀ j i k n (h : H) u, i + j = N → j < k → TI h bu N u → (∀ q, q < i → u q = -1) → Fr n h →
    ∃ h' u', (dom_Up_l10 F E k x1 x2 x5 (sl bu 0 N N) x7 (i64 N) (i64 i)).run n h = (E x1 x2 x5 (sl bu 0 N N) x7).run n h' ∧ TI h' bu N u' ∧ (∀ q, q < N → u' q = -1) ∧ Ev (fun c => c = bu) n h n h' := by
  intro j
  induction j with
  | zero =>
    intro i k n h u hij hk t hu f
    obtain ⟨k, rfl⟩ : ∃ j, k = j + 1 := ⟨k - 1, by omega⟩
    rw [dom_Up_l10_s]
    unfold dom_Up_b10 dom_Up_r6
    simp only [st_lss, onB_ite, run_ite, decide_eq_true_eq]
    rw [if_neg (by omega)]
    exact ⟨h, u, rfl, t, fun q hq => hu q (by omega), Ev.refl f⟩
  | succ j ih =>
    intro i k n h u hij hk t hu f
    obtain ⟨k, rfl⟩ : ∃ j, k = j + 1 := ⟨k - 1, by omega⟩
    rw [dom_Up_l10_s]
    unfold dom_Up_b10 dom_Up_r6
    simp only [st_lss, onB_ite, run_ite, decide_eq_true_eq]
    rw [if_pos (by omega)]
    unfold dom_Up_r7 dom_Up_r8
    try dsimp only
    obtain ⟨h1, e1, t1, ev1⟩ := TI.set (β := Value) t f (show i < N by omega) (z := -1)
    rw [e1]
    unfold dom_Up_r9
    try dsimp only
    rw [sx_add (by omega)]
    obtain ⟨h', u', q1, q2, q3, q4⟩ := ih (i + 1) k n h1 (upd u i (-1)) (by omega) (by omega) t1 (fun q hq => by
      unfold upd
      split
      · rfl
      · exact hu q (by omega)) ev1.f
    exact ⟨h', u', q1, q2, q3, ev1.trans q4 fun _ _ h => h⟩

theorem up_l8 {F bp m : Nat} {x1 x2 x6 v : Value} (hl : o.length ≤ 600) (hlt : ∀ a, a ∈ o → a < N) (hn : o.Nodup) {h0 : H} (f0 : Fr m h0) (ho : RdI h0 v (nats o)) (hm : m ≤ bp) {E : Value → Value → Value → Value → Value → M Value} : ∀ j i k n (h : H) (pf : Nat → Nat), i + j = o.length → j < k → (∀ c, c < m → h.get c = h0.get c) → TI h bp N (fun q => (pf q : Int)) → (∀ q (hq : q < o.length), q < i → pf o[q] = q) → Fr n h →
    ∃ h' pf', (dom_Up_l8 F E k x1 x2 v x6 (sl bp 0 N N) v (i64 o.length) (i64 i)).run n h = (E x1 x2 v x6 (sl bp 0 N N)).run n h' ∧ TI h' bp N (fun q => ((pf' : Nat → Nat) q : Int)) ∧ (∀ q (hq : q < o.length), pf' o[q] = q) ∧ Ev (fun c => c = bp) n h n h' := by
  intro j
  induction j with
  | zero =>
    intro i k n h pf hij hk hk0 t hp f
    obtain ⟨k, rfl⟩ : ∃ j, k = j + 1 := ⟨k - 1, by omega⟩
    rw [dom_Up_l8_s]
    unfold dom_Up_b8 dom_Up_r11
    simp only [st_lss, onB_ite, run_ite, decide_eq_true_eq]
    rw [if_neg (by omega)]
    exact ⟨h, pf, rfl, t, fun q hq => hp q hq (by omega), Ev.refl f⟩
  | succ j ih =>
    intro i k n h pf hij hk hk0 t hp f
    obtain ⟨k, rfl⟩ : ∃ j, k = j + 1 := ⟨k - 1, by omega⟩
    have hi : i < o.length := by omega
    rw [dom_Up_l8_s]
    unfold dom_Up_b8 dom_Up_r11
    simp only [st_lss, onB_ite, run_ite, decide_eq_true_eq]
    rw [if_pos (by omega)]
    unfold dom_Up_r12
    try dsimp only
    have ho1 : RdI h v (nats o) := ho.kept f0 hk0
    have hil : i < (nats o).length := by unfold nats; rw [List.length_map]; exact hi
    rw [ho1.getI hil]
    have e : (nats o)[i]'hil = ((o[i] : Nat) : Int) := by simp [nats]
    rw [e]
    unfold dom_Up_r13
    try dsimp only
    obtain ⟨h1, e1, t1, ev1⟩ := TI.set (β := Value) t f (hlt o[i] (List.getElem_mem hi)) (z := (i : Int))
    rw [e1]
    unfold dom_Up_r14
    try dsimp only
    rw [sx_add (by omega)]
    have et : (upd (fun q => (pf q : Int)) o[i] (i : Int)) = fun q => ((upd pf o[i] i q : Nat) : Int) := by
      funext q; unfold upd; split <;> rfl
    rw [et] at t1
    obtain ⟨h', pf', q1, q2, q3, q4⟩ := ih (i + 1) k n h1 (upd pf o[i] i) (by omega) (by omega) (fun c hc => by rw [ev1.keep c (by have := t.lt f; omega) (by omega)]; exact hk0 c hc) t1 (fun q hq hqi => by
      unfold upd
      by_cases e : q = i
      · subst e; rw [if_pos rfl]
      · rw [if_neg (List.pairwise_iff_getElem.1 hn q i hq hi (by omega))]
        exact hp q hq (by omega)) ev1.f
    exact ⟨h', pf', q1, q2, q3, ev1.trans q4 fun _ _ h => h⟩
end

theorem inv_start {adj : Nat → List Nat} {root : Nat} {o : List Nat} {place : Nat → Nat} (hr : root ∈ o) : Inv adj root o place (updI (fun _ => -1) root (root : Int)) := by
  have hval : ∀ a, updI (fun _ => -1) root (root : Int) a = if a = root then (root : Int) else -1 := fun a => rfl
  refine ⟨by rw [hval, if_pos rfl], fun a => ?_, fun a b ha hb => ?_, fun a b ha hb => ?_⟩
  · rw [hval]
    by_cases e : a = root
    · rw [if_pos e]; exact .inr ⟨e ▸ hr, root, rfl⟩
    · rw [if_neg e]; exact .inl rfl
  · rw [hval, if_neg ha] at hb; omega
  · rw [hval, if_neg ha] at hb; omega

theorem up_in {F n m N root : Nat} {tv : Value} {adj : Nat → List Nat} {h : H} (hF : 1000000 ≤ F) (gr : Gr h m tv N adj) (hm : m ≤ n) (ok : GOk N adj) (hr : root < N) (f : Fr n h) :
    ∃ n' h' bu up o place, (dom_Up F (gv N tv) (i64 root)).run n h = some (sl bu 0 N N, n', h') ∧ TI h' bu N up ∧ Pl adj N root o place ∧ DomT adj root o place up ∧ n ≤ bu ∧ Ev No n h n' h' := by
  have hN := ok.few
  have ho := ord_beh (k := F) ok.lt hr (by omega)
  unfold dom_Up dom_Up_r0
  try dsimp only
  obtain ⟨h1, e1, g1, ev1⟩ := GB.box (β := Value) (N := N) f gr.1
  rw [e1]
  have gr1 := gr.no ev1 hm
  unfold dom_Up_r1
  try dsimp only
  obtain ⟨n2, h2, v2, b2, e2, o2, lb2, ev2⟩ := order_in (F := F) hF gr1 (by omega) ok hr ev1.f
  have l2 := ev2.le
  have hoe : (beh adj F root (fun _ => false, [])).2.reverse = ordL adj F root := rfl
  rw [hoe] at ho
  generalize ordL adj F root = o at *
  have hol := nodup_len ho.nodup ho.lt
  obtain ⟨o', eo⟩ := ho.first
  have hpos : 0 < o.length := by rw [eo]; simp
  have g2 := g1.ev ev2 (by omega) (fun h => h)
  have gr2 := gr1.no ev2 (by omega)
  have hv2 : v2 = sl b2 0 o.length (U + 1) := by
    rcases o2 with ⟨g0, _⟩ | ⟨_, e, _⟩
    · rw [eo] at g0; simp [nats] at g0
    · rw [e]; simp [nats]
  have rd2 : RdI h2 v2 (nats o) := o2.rd
  unfold dom_Up_r2
  try dsimp only
  rw [g1.all, run_bnd e2, rd2.lenI, show (nats o).length = o.length by unfold nats; rw [List.length_map], st_eql]
  simp only [onB_ite, run_ite, beq_iff_eq]
  rw [if_neg (by omega)]
  unfold dom_Up_r4
  try dsimp only
  rw [g2.nn, g2.nn]
  obtain ⟨h3, e3, t3, ev3⟩ := TI.make (β := Value) (bytes := 8) (z := 0) ev2.f (show N ≤ 100000 by omega) (by decide)
  rw [show (Value.int .i64 0) = i64 0 from rfl, e3]
  obtain ⟨h4, e4, t4, ev4⟩ := TI.make (β := Value) (bytes := 8) (z := 0) ev3.f (show N ≤ 100000 by omega) (by decide)
  rw [e4]
  have t3 := t3.ev ev4 (by omega) (fun h => h)
  have ev24 : Ev No n2 h2 (n2 + 1 + 1) h4 := ev3.trans ev4 fun _ _ h => h
  unfold dom_Up_r5
  try dsimp only
  rw [st_len]
  obtain ⟨h5, u5, e5, t5, u5e, ev5⟩ := up_l10 (F := F) (bu := n2) (x1 := i64 root) (x2 := pt n 0) (x5 := v2) (x7 := sl (n2 + 1) 0 N N) hN (E := fun x1 x2 x5 x6 x7 => dom_Up_k9 F x1 x2 x5 x6 x7) N 0 F (n2 + 1 + 1) h4 _ (by omega) (by omega) t3 (fun q hq => by omega) ev4.f
  rw [show (Value.int .i64 0) = i64 ((0 : Nat) : Int) from rfl, e5]
  have t4 := t4.ev ev5 (by omega) (by omega)
  have ev25 : Ev No n2 h2 (n2 + 1 + 1) h5 := ev24.trans ev5 fun c hc q => by omega
  unfold dom_Up_k9 dom_Up_r10
  try dsimp only
  rw [(rd2.kept ev2.f fun c hc => ev25.no hc : RdI h5 v2 (nats o)).lenI, show (nats o).length = o.length by unfold nats; rw [List.length_map]]
  obtain ⟨h6, pf, e6, t6, pfe, ev6⟩ := up_l8 (F := F) (bp := n2 + 1) (m := n2) (N := N) (x1 := i64 root) (x2 := pt n 0) (x6 := sl n2 0 N N) (v := v2) (by omega) ho.lt ho.nodup ev2.f rd2 (by omega) (E := fun x1 x2 x5 x6 x7 => dom_Up_k7 F x1 x2 x5 x6 x7) o.length 0 F (n2 + 1 + 1) h5 (fun _ => 0) (by omega) (by omega) (fun c hc => ev25.no hc) t4 (fun q hq h => by omega) ev5.f
  rw [show (Value.int .i64 0) = i64 ((0 : Nat) : Int) from rfl, e6]
  have t5 := t5.ev ev6 (by omega) (by omega)
  have ev26 : Ev No n2 h2 (n2 + 1 + 1) h6 := ev25.trans ev6 fun c hc q => by omega
  have g6 := g2.ev ev26 (by omega) (fun h => h)
  have gr6 := gr2.no ev26 (by omega)
  have P : Pl adj N root o pf := ⟨ho, pfe⟩
  unfold dom_Up_k7 dom_Up_r15
  try dsimp only
  obtain ⟨n7, h7, ob7, O7, e7, x7, o7, ev7⟩ := turn_spec (F := F) (by omega) gr6 (by omega) ok ev6.f
  have l7 := ev7.le
  rw [g6.all, run_bnd e7, run_ptr ev7.f (by rfl)]
  have ev8 := Ev.new ev7.f ⟨[i64 0, nsl], .own⟩
  obtain ⟨h9, e9, g9, ev9⟩ := GB.put (β := Value) (N := N) (tv := sl ob7 0 N N) (H.get_set_same h7 n7 ⟨[i64 0, nsl], .own⟩) rfl ev8.f rfl
  rw [show (Value.int .i64 0) = i64 0 from rfl, show (Value.slice none 0 0) = nsl from rfl, e9]
  have ev79 : Ev No n7 h7 (n7 + 1) h9 := ev8.trans ev9 fun c hc q => by omega
  have ev69 : Ev No (n2 + 1 + 1) h6 (n7 + 1) h9 := ev7.trans ev79 fun _ _ h => h
  have t5 := t5.ev ev69 (by omega) (fun h => h)
  have t6 := t6.ev ev69 (by omega) (fun h => h)
  have x9 : OL h9 ob7 N O7 (fun b => nats (turnA N adj b)) := x7.keep fun c hc => ev79.no (x7.lt ev7.f hc)
  unfold dom_Up_r16
  try dsimp only
  obtain ⟨h10, e10, t10, ev10⟩ := TI.set (β := Value) t5 ev9.f hr (z := (root : Int))
  rw [e10]
  have t10' : TI h10 n2 N (updI (fun _ => -1) root (root : Int)) := by
    have e : tab N (fun i => i64 (upd u5 root (root : Int) i)) = tab N fun i => i64 (updI (fun _ => -1) root (root : Int) i) := tab_ext fun q hq => by
      unfold upd
      show i64 (if q = root then (root : Int) else u5 q) = i64 (if q = root then (root : Int) else -1)
      rw [u5e q hq]
    unfold TI TV at t10 ⊢
    rw [t10, e]
  -- the second boundary: everything ahead of n7 but the table is kept
  unfold dom_Up_r17
  try dsimp only
  have ev2t : Ev No n2 h2 (n7 + 1) h10 := (ev26.trans ev69 fun _ _ h => h).trans ev10 fun c hc q => by omega
  have hbu : ¬ O7 n2 := fun q => by have := o7 n2 q; omega
  have x10 : OL h10 ob7 N O7 (fun b => nats (turnA N adj b)) := x9.keep fun c hc => ev10.keep c (x9.lt ev9.f hc) fun e => hbu (e ▸ hc)
  have t6 := t6.ev ev10 (by omega) (by omega)
  have g10 := g9.ev ev10 (by omega) (by omega)
  rw [hv2] at o2 ⊢
  obtain ⟨h11, up, e11, t11, D, ev11⟩ := up_l1 (F := F) (m := n2) (bu := n2) (bp := n2 + 1) (g := n7) (ob := b2) (gb := ob7) (O := O7) hF ok P ev2.f o2 (E := fun x6 => dom_Up_k0 F x6) (N + 2) 0 F (n7 + 1) h10 _ true (by omega) (by omega) (fun c hc => ev2t.no hc) x10 g10 t10' t6 (inv_start P.mem_root) (fun a d _ _ h => h.none) (.inl rfl) (fun h => by cases h) (fun h => by omega) (Nat.le_refl _) hbu (by omega) (by omega) (by omega) (by omega) ev10.f
  rw [show (Value.bool true) = bo true from rfl, e11]
  refine ⟨n7 + 1, h11, n2, up, o, pf, rfl, t11, P, D, by omega, ev11.f, by omega, fun c hc _ => ?_⟩
  rw [ev11.keep c (by omega) (by omega), ev2t.no (by omega), ev2.no (by omega), ev1.no hc]

theorem up_out {F n m N : Nat} {z : Int} {tv : Value} {adj : Nat → List Nat} {h : H} (hF : 1000000 ≤ F) (gr : Gr h m tv N adj) (hm : m ≤ n) (ok : GOk N adj) (hr : z < 0 ∨ (N : Int) ≤ z) (f : Fr n h) :
    ∃ n' h', (dom_Up F (gv N tv) (i64 z)).run n h = some (nsl, n', h') ∧ Ev No n h n' h' := by
  unfold dom_Up dom_Up_r0
  try dsimp only
  obtain ⟨h1, e1, g1, ev1⟩ := GB.box (β := Value) (N := N) f gr.1
  rw [e1]
  have gr1 := gr.no ev1 hm
  unfold dom_Up_r1
  try dsimp only
  obtain ⟨n2, h2, e2, ev2⟩ := order_out (F := F) hF gr1 (by omega) ok hr ev1.f
  rw [g1.all, run_bnd e2]
  unfold dom_Up_r2
  try dsimp only
  rw [st_len, st_eql]
  simp only [onB_ite, run_ite]
  rw [if_pos (by decide)]
  exact ⟨n2, h2, rfl, ev1.trans ev2 fun _ _ h => h⟩

end Go.Fw
