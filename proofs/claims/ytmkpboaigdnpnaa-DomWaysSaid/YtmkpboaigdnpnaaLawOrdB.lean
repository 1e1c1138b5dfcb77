/-
  slices.Reverse, graph.Order, said of the abstract machine.
-/
import Derived.Test.YtmkpboaigdnpnaaLawOrd
set_option maxRecDepth 20000
namespace Go.Fw

theorem rev_l0 {F b L c : Nat} {u : Nat → Value} (hu : ∀ q, one (u q) = true) (hL : L ≤ 100000) {E : M Value} : ∀ j i k n (h : H), L ≤ 2 * i + j → 2 * i ≤ L + 1 → j < k → h.get b = some ⟨tab L (fun q => if q < i ∨ L ≤ q + i then u (L - 1 - q) else u q), .grow⟩ → Fr n h →
    ∃ h', (slices_Reverse_l0 F E k (sl b 0 L c) (i64 i) (i64 ((L : Int) - 1 - i))).run n h = E.run n h' ∧ h'.get b = some ⟨tab L (fun q => u (L - 1 - q)), .grow⟩ ∧ Ev (fun c => c = b) n h n h' := by
  have stop : ∀ (i k n : Nat) (h : H), ¬ ((i : Int) < (L : Int) - 1 - i) → h.get b = some ⟨tab L (fun q => if q < i ∨ L ≤ q + i then u (L - 1 - q) else u q), .grow⟩ → Fr n h →
      ∃ h', (slices_Reverse_l0 F E (k + 1) (sl b 0 L c) (i64 i) (i64 ((L : Int) - 1 - i))).run n h = E.run n h' ∧ h'.get b = some ⟨tab L (fun q => u (L - 1 - q)), .grow⟩ ∧ Ev (fun c => c = b) n h n h' := by
    intro i k n h hi hb f
    rw [slices_Reverse_l0_s]
    unfold slices_Reverse_b0 slices_Reverse_r1
    simp only [st_lss, onB_ite, run_ite, decide_eq_true_eq]
    rw [if_neg hi]
    refine ⟨h, rfl, ?_, Ev.refl f⟩
    rw [hb]
    have e : tab L (fun q => if q < i ∨ L ≤ q + i then u (L - 1 - q) else u q) = tab L (fun q => u (L - 1 - q)) := tab_ext fun q hq => by
      by_cases h1 : q < i ∨ L ≤ q + i
      · rw [if_pos h1]
      · rw [if_neg h1, show L - 1 - q = q by omega]
    rw [e]
  intro j
  induction j with
  | zero =>
    intro i k n h hij hi2 hk hb f
    obtain ⟨k, rfl⟩ : ∃ j, k = j + 1 := ⟨k - 1, by omega⟩
    exact stop i k n h (by omega) hb f
  | succ j ih =>
    intro i k n h hij hi2 hk hb f
    obtain ⟨k, rfl⟩ : ∃ j, k = j + 1 := ⟨k - 1, by omega⟩
    by_cases hi : (i : Int) < (L : Int) - 1 - i
    · rw [slices_Reverse_l0_s]
      unfold slices_Reverse_b0 slices_Reverse_r1
      simp only [st_lss, onB_ite, run_ite, decide_eq_true_eq]
      rw [if_pos hi]
      unfold slices_Reverse_r3
      try dsimp only
      have ej : (L : Int) - 1 - i = ((L - 1 - i : Nat) : Int) := by omega
      have hbn := f.lt hb
      rw [ej, ix1 (show L - 1 - i < L by omega), Nat.zero_add, ldT hb (by decide) (show L - 1 - i < L by omega), ix1 (show i < L by omega), Nat.zero_add, ldT hb (by decide) (show i < L by omega)]
      try dsimp only
      rw [if_neg (show ¬ (L - 1 - i < i ∨ L ≤ L - 1 - i + i) by omega), if_neg (show ¬ (i < i ∨ L ≤ i + i) by omega), ix1 (show i < L by omega), Nat.zero_add, stT hb (.inr rfl) (hu _) (show i < L by omega), ix1 (show L - 1 - i < L by omega), Nat.zero_add, stT (H.get_set_same _ _ _) (.inr rfl) (hu _) (show L - 1 - i < L by omega)]
      unfold slices_Reverse_r2
      try dsimp only
      rw [sx_add (by omega), sx_sub (by omega)]
      generalize hh2 : (h.set b ⟨tab L (fun i_1 => if i_1 = i then u (L - 1 - i) else if i_1 < i ∨ L ≤ i_1 + i then u (L - 1 - i_1) else u i_1), .grow⟩).set b ⟨tab L (fun i_1 => if i_1 = L - 1 - i then u i else if i_1 = i then u (L - 1 - i) else if i_1 < i ∨ L ≤ i_1 + i then u (L - 1 - i_1) else u i_1), .grow⟩ = h2
      have f2 : Fr n h2 := by rw [← hh2]; exact (f.set _ hbn).set _ hbn
      have hb2 : h2.get b = some ⟨tab L (fun q => if q < i + 1 ∨ L ≤ q + (i + 1) then u (L - 1 - q) else u q), .grow⟩ := by
        rw [← hh2, H.get_set_same]
        have e : tab L (fun i_1 => if i_1 = L - 1 - i then u i else if i_1 = i then u (L - 1 - i) else if i_1 < i ∨ L ≤ i_1 + i then u (L - 1 - i_1) else u i_1) = tab L (fun q => if q < i + 1 ∨ L ≤ q + (i + 1) then u (L - 1 - q) else u q) := tab_ext fun q hq => by
          by_cases h1 : q = L - 1 - i
          · rw [if_pos h1, if_pos (by omega), show L - 1 - q = i by omega]
          · rw [if_neg h1]
            by_cases h2 : q = i
            · rw [if_pos h2, if_pos (by omega), h2]
            · rw [if_neg h2]
              by_cases h3 : q < i ∨ L ≤ q + i
              · rw [if_pos h3, if_pos (by omega)]
              · rw [if_neg h3, if_neg (by omega)]
        rw [e]
      have k2 : ∀ c, c ≠ b → h2.get c = h.get c := fun c hc => by rw [← hh2, H.get_set_ne _ _ hc, H.get_set_ne _ _ hc]
      obtain ⟨h', q1, q2, q3⟩ := ih (i + 1) k n h2 (by omega) (by omega) (by omega) hb2 f2
      have ee : ((L - 1 - i : Nat) : Int) - 1 = (L : Int) - 1 - ((i + 1 : Nat) : Int) := by omega
      rw [ee]
      exact ⟨h', q1, q2, Ev.trans (P := fun c => c = b) ⟨f2, Nat.le_refl _, fun c _ hc => k2 c hc⟩ q3 fun c _ hc => hc⟩
    · exact stop i k n h hi hb f

theorem map_tab {l : List Nat} : (nats l).map i64 = tab l.length fun q => i64 ((l[q]?.getD 0 : Nat) : Int) := by
  apply List.ext_getElem?
  intro i
  by_cases h : i < l.length
  · rw [tab_get h]; simp [nats, h]
  · rw [tab_none (by omega)]; simp [nats]; omega

theorem rev_spec {F n b : Nat} {v : Value} {h : H} {l : List Nat} (hF : 1000000 ≤ F) (hl : l.length ≤ 100000) (h0 : l ≠ []) (g : GlI h v b (nats l)) (f : Fr n h) :
    ∃ h' w, (slices_Reverse F v).run n h = some (w, n, h') ∧ GlI h' v b (nats l.reverse) ∧ Ev (fun c => c = b) n h n h' := by
  rcases g with ⟨g0, _⟩ | ⟨_, rfl, gb⟩
  · exact absurd g0 (by simpa [nats] using h0)
  have hlen : ((nats l).map i64).length = l.length := by simp [nats]
  unfold slices_Reverse slices_Reverse_r0
  try dsimp only
  rw [hlen, st_len, sx_sub (by omega)]
  rw [map_tab] at gb
  obtain ⟨h', e1, gb', ev⟩ := rev_l0 (F := F) (b := b) (L := l.length) (c := U + 1) (u := fun q => i64 ((l[q]?.getD 0 : Nat) : Int)) (fun _ => rfl) hl (E := tupK []) l.length 0 F n h (by omega) (by omega) (by omega) (by
    rw [gb]
    have e : tab l.length (fun q => i64 ((l[q]?.getD 0 : Nat) : Int)) = tab l.length (fun q => if q < 0 ∨ l.length ≤ q + 0 then i64 ((l[l.length - 1 - q]?.getD 0 : Nat) : Int) else i64 ((l[q]?.getD 0 : Nat) : Int)) := tab_ext fun q hq => by rw [if_neg (by omega)]
    rw [e]) f
  refine ⟨h', .tuple #[], ?_, .inr ⟨by simpa [nats] using h0, by simp [nats], ?_⟩, ev⟩
  · rw [show (Value.int .i64 0) = i64 ((0 : Nat) : Int) from rfl]
    have : (l.length : Int) - 1 = (l.length : Int) - 1 - ((0 : Nat) : Int) := by omega
    rw [this]
    exact e1
  · rw [gb', map_tab, List.length_reverse]
    have e : tab l.length (fun q => i64 ((l[l.length - 1 - q]?.getD 0 : Nat) : Int)) = tab l.length fun q => i64 ((l.reverse[q]?.getD 0 : Nat) : Int) := tab_ext fun q hq => by
      rw [List.getElem?_reverse hq]
    rw [e]

/-- The order of a search in depth. -/
def ordL (adj : Nat → List Nat) (F root : Nat) : List Nat := (beh adj F root (fun _ => false, [])).2.reverse

theorem nodup_len {N : Nat} : ∀ {l : List Nat}, l.Nodup → (∀ m, m ∈ l → m < N) → l.length ≤ N := by
  induction N with
  | zero =>
    intro l _ h
    match l with
    | [] => exact Nat.le_refl _
    | a :: l => exact absurd (h a List.mem_cons_self) (Nat.not_lt_zero _)
  | succ N ih =>
    intro l hn hl
    have h1 := ih (l := l.filter (· ≠ N)) (List.Pairwise.filter _ hn) fun m hm => by
      rw [List.mem_filter] at hm
      have := hl m hm.1
      have h2 : m ≠ N := by simpa using hm.2
      omega
    have h2 : l.length ≤ (l.filter (· ≠ N)).length + 1 := by
      clear h1 hl ih
      induction l with
      | nil => simp
      | cons a l ih2 =>
        rw [List.nodup_cons] at hn
        by_cases e : a = N
        · subst e
          rw [List.filter_cons_of_neg (by simp)]
          have : l.filter (fun x => decide (x ≠ a)) = l := by
            rw [List.filter_eq_self]
            intro x hx
            simp only [decide_eq_true_eq]
            rintro rfl; exact hn.1 hx
          rw [this]; simp
        · rw [List.filter_cons_of_pos (by simpa using e), List.length_cons, List.length_cons]
          have := ih2 hn.2; omega
    omega

theorem order_in {F n m N root : Nat} {tv : Value} {adj : Nat → List Nat} {h : H} (hF : 1000000 ≤ F) (gr : Gr h m tv N adj) (hm : m ≤ n) (ok : GOk N adj) (hr : root < N) (f : Fr n h) :
    ∃ n' h' v b, (graph_Order F (gv N tv) (i64 root)).run n h = some (v, n', h') ∧ GlI h' v b (nats (ordL adj F root)) ∧ n ≤ b ∧ Ev No n h n' h' := by
  have hN := ok.few
  have ho := ord_beh (k := F) ok.lt hr (by omega)
  unfold graph_Order graph_Order_r0
  try dsimp only
  obtain ⟨h1, e1, g1, ev1⟩ := GB.box (β := Value) (N := N) f gr.1
  rw [e1]
  have gr1 := gr.no ev1 hm
  unfold graph_Order_r1
  try dsimp only
  obtain ⟨n2, h2, e2, ev2⟩ := gmay_spec (F := F) (by omega) gr1 (by omega) ok ev1.f
  have l2 := ev2.le
  have g2 := g1.ev ev2 (by omega) (fun h => h)
  have gr2 := gr1.no ev2 (by omega)
  rw [g1.all, run_bnd e2, st_not]
  simp only [onB_ite, run_ite]
  rw [if_neg (by decide), st_lss]
  simp only [onB_ite, run_ite, decide_eq_true_eq]
  rw [if_neg (by omega), g2.nn, st_geq]
  simp only [onB_ite, run_ite, decide_eq_true_eq]
  rw [if_neg (by omega)]
  unfold graph_Order_r3
  try dsimp only
  rw [g2.all]
  obtain ⟨e3, x3, f3⟩ := new_set ev2.f (k := fun v22 => bnd (graph_behind F F (gv N tv) (i64 root) v22 (.slice none 0 0)) fun v23 => graph_Order_r4 F v23 fun x5 => graph_Order_r5 F x5 fun x4 => ret x4)
  rw [show (Value.slice none 0 0) = nsl from rfl] at e3 ⊢
  rw [e3]
  have ev3 : Ev No n2 h2 (n2 + 1) (h2.set n2 ⟨[nsl], .own⟩) := Ev.new ev2.f _
  have gr3 := gr2.no ev3 (by omega)
  have hc : cnt N (fun _ => false) ≤ N := by
    unfold cnt
    have := List.length_filter_le (fun m : Nat => !(fun _ => false) m) (List.range N)
    rwa [List.length_range] at this
  obtain ⟨n4, h4, v4, O4, e4, x4, o4, ev4⟩ := behind_spec (F := F) (by omega) ok gr.1 F root (n2 + 1) _ n2 nsl (fun c => c = n2) (fun _ => false, []) hr (by show cnt N (fun _ => false) < F; omega) (by show 0 + cnt N (fun _ => false) ≤ 1000; omega) gr3 ⟨fun c => c = n2, 0, x3, .inl ⟨rfl, rfl⟩, fun c hc => hc, fun h => absurd rfl h⟩ (by omega) (fun c hc => by omega) f3
  rw [run_bnd e4]
  unfold graph_Order_r4
  try dsimp only
  obtain ⟨Os, b, _, g4, hOs, hb⟩ := x4
  have l4 := ev4.le
  have hne : (beh adj F root (fun _ => false, [])).2 ≠ [] := by
    obtain ⟨o', q⟩ := ho.first
    intro e
    rw [e] at q; cases q
  have hb1 := (o4 b (hb hne).1)
  have hlen : (beh adj F root (fun _ => false, [])).2.length ≤ N := by
    have := nodup_len ho.nodup ho.lt
    rwa [List.length_reverse] at this
  obtain ⟨h5, w5, e5, g5, ev5⟩ := rev_spec (F := F) hF (by omega) hne g4 ev4.f
  rw [run_bnd e5]
  unfold graph_Order_r5
  refine ⟨n4, h5, v4, b, rfl, g5, ?_, ev5.f, by omega, fun c hc _ => ?_⟩
  · rcases hb1.1 with h1 | h1 <;> omega
  · rw [ev5.keep c (by omega) (by rcases hb1.1 with h1 | h1 <;> omega), ev4.keep c (by omega) (by omega), ev3.no (by omega), ev2.no (by omega), ev1.no hc]

theorem order_out {F n m N : Nat} {z : Int} {tv : Value} {adj : Nat → List Nat} {h : H} (hF : 1000000 ≤ F) (gr : Gr h m tv N adj) (hm : m ≤ n) (ok : GOk N adj) (hr : z < 0 ∨ (N : Int) ≤ z) (f : Fr n h) :
    ∃ n' h', (graph_Order F (gv N tv) (i64 z)).run n h = some (nsl, n', h') ∧ Ev No n h n' h' := by
  have hN := ok.few
  unfold graph_Order graph_Order_r0
  try dsimp only
  obtain ⟨h1, e1, g1, ev1⟩ := GB.box (β := Value) (N := N) f gr.1
  rw [e1]
  have gr1 := gr.no ev1 hm
  unfold graph_Order_r1
  try dsimp only
  obtain ⟨n2, h2, e2, ev2⟩ := gmay_spec (F := F) (by omega) gr1 (by omega) ok ev1.f
  have l2 := ev2.le
  have g2 := g1.ev ev2 (by omega) (fun h => h)
  rw [g1.all, run_bnd e2, st_not]
  simp only [onB_ite, run_ite]
  rw [if_neg (by decide), st_lss]
  simp only [onB_ite, run_ite, decide_eq_true_eq]
  by_cases h0 : z < 0
  · rw [if_pos h0, if_pos trivial]
    exact ⟨n2, h2, rfl, ev1.trans ev2 fun _ _ h => h⟩
  · rw [if_neg h0, g2.nn, st_geq]
    simp only [onB_ite, run_ite, decide_eq_true_eq]
    rw [if_pos (by omega)]
    exact ⟨n2, h2, rfl, ev1.trans ev2 fun _ _ h => h⟩

end Go.Fw
