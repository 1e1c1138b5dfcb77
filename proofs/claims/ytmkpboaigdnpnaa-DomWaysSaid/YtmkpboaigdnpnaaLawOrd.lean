/-
  graph.behind and graph.Order, said of the abstract machine.
-/
import Derived.Test.YtmkpboaigdnpnaaLawGrB
import Derived.Test.YtmkpboaigdnpnaaLawCSet
import Derived.Test.YtmkpboaigdnpnaaFwDfs
set_option maxRecDepth 20000
namespace Go.Fw

/-- A search in depth on its way: the set of who is met, the list of who is left; O: their blocks. -/
def DS (h : H) (p : Nat) (v : Value) (O : Nat → Prop) (s : DSt) : Prop :=
  ∃ Os b, BS h p Os s.1 ∧ GlI h v b (nats s.2) ∧ (∀ c, Os c → O c) ∧ (s.2 ≠ [] → O b ∧ ¬ Os b)

theorem DS.keep {h h' : H} {p : Nat} {v : Value} {O : Nat → Prop} {s : DSt} (x : DS h p v O s) (hk : ∀ c, O c → h'.get c = h.get c) : DS h' p v O s := by
  obtain ⟨Os, b, x, g, h1, h2⟩ := x
  exact ⟨Os, b, x.keep fun c hc => hk c (h1 c hc), g.keep fun h0 => hk b (h2 (by rintro e; exact h0 (by rw [e]; rfl))).1, h1, h2⟩

theorem putS_putM {s : Nat → Bool} {a : Nat} : putS s a = putM s a := rfl

theorem DS.add {F n p a : Nat} {h : H} {v : Value} {O : Nat → Prop} {s : DSt} (hF : 100 < F) (x : DS h p v O s) (hOn : ∀ c, O c → c < n) (f : Fr n h) (ha : a < 5000) :
    ∃ n' h' O', (bitset_Set_Add F (pt p 0) (i64 a)).run n h = some (bo (!s.1 a), n', h') ∧ DS h' p v O' (if s.1 a = true then s else (putM s.1 a, s.2)) ∧ (∀ c, O' c → (O c ∨ n ≤ c) ∧ c < n') ∧ Ev O n h n' h' := by
  obtain ⟨Os, b, x, g, h1, h2⟩ := x
  obtain ⟨n', h', Os', e, x', f', l, k, o⟩ := add_spec (F := F) x f (a : Int) hF
  have hc : canAdd s.1 (a : Int) = !s.1 a := by
    have h0 : decide ((0 : Int) ≤ (a : Int) ∧ (a : Int) < 5000) = true := decide_eq_true ⟨by omega, by omega⟩
    unfold canAdd; rw [h0, Bool.true_and]; rfl
  rw [hc] at e x'
  have hb : s.2 ≠ [] → b < n := fun h0 => g.lt f (by intro e; exact h0 (by simpa [nats] using e))
  refine ⟨n', h', fun c => O c ∨ Os' c, e, ⟨Os', b, ?_, ?_, fun c hc => .inr hc, ?_⟩, fun c hc => ⟨hc.elim .inl fun q => (o c q).imp (h1 c) id, hc.elim (fun q => by have := hOn c q; omega) fun q => x'.lt f' c q⟩, f', l, fun c hc hn => k c hc fun q => hn (h1 c q)⟩
  · cases hq : s.1 a with
    | true => rw [hq, Bool.not_true, if_neg (by decide)] at x'; rw [if_pos rfl]; exact x'
    | false => rw [hq, Bool.not_false, if_pos rfl] at x'; rw [if_neg (by decide)]; exact x'
  · have e2 : (if s.1 a = true then s else (putM s.1 a, s.2)).2 = s.2 := by split <;> rfl
    rw [e2]
    exact g.keep fun h0 => by
      have h0' : s.2 ≠ [] := by rintro e; exact h0 (by rw [e]; rfl)
      exact k b (hb h0') (h2 h0').2
  · intro h0
    have e2 : (if s.1 a = true then s else (putM s.1 a, s.2)).2 = s.2 := by split <;> rfl
    rw [e2] at h0
    refine ⟨.inl (h2 h0).1, fun q => ?_⟩
    rcases o b q with q | q
    · exact (h2 h0).2 q
    · have := hb h0; omega

theorem DS.push {n p a : Nat} {h : H} {v : Value} {O : Nat → Prop} {s : DSt} (x : DS h p v O s) (f : Fr n h) (hl : s.2.length < 100000) :
    ∃ h' v', (∀ k : Value → M Value, (bnd (opBuildSlice 1 (rep 1 [i64 0]) [(0, 1, false, i64 (a : Int))]) fun t => bnd (opAppend 1 8 v t) k).run n h = (k v').run (n + 2) h') ∧ DS h' p v' (fun c => O c ∨ c = n + 1) (s.1, s.2 ++ [a]) ∧ Ev O n h (n + 2) h' := by
  obtain ⟨Os, b, x, g, h1, h2⟩ := x
  obtain ⟨h', v', e, g', f', k⟩ := g.pushI (β := Value) (y := 0) (z := (a : Int)) f (by unfold nats; rw [List.length_map]; omega)
  have hk : ∀ c, c < n → ¬ (s.2 ≠ [] ∧ c = b) → h'.get c = h.get c := fun c hc hn => k c hc fun h0 e => hn ⟨by rintro q; exact h0 (by rw [q]; rfl), e⟩
  refine ⟨h', v', e, ⟨Os, n + 1, x.keep fun c hc => hk c (x.lt f c hc) fun q => (h2 q.1).2 (q.2 ▸ hc), by unfold nats; rw [List.map_append]; exact g', fun c hc => .inl (h1 c hc), fun _ => ⟨.inr rfl, fun q => by have := x.lt f _ q; omega⟩⟩, f', by omega, fun c hc hO => hk c hc fun q => hO (q.2 ▸ (h2 q.1).1)⟩

theorem behind_l1 {F m N g a k0 : Nat} {tv rv : Value} {adj : Nat → List Nat} (hF : 1000 < F) (ok : GOk N adj) (ha : a < N) {rec : Value → Value → Value → Value → M Value}
    (ih : ∀ b n (h : H) p v O (s : DSt), b < N → cnt N s.1 < k0 → s.2.length + cnt N s.1 ≤ 1000 → Gr h m tv N adj → DS h p v O s → m ≤ n → (∀ c, O c → m ≤ c ∧ c < n) → Fr n h →
      ∃ n' h' v' O', (rec (gv N tv) (i64 b) (pt p 0) v).run n h = some (v', n', h') ∧ DS h' p v' O' (beh adj k0 b s) ∧ (∀ c, O' c → (O c ∨ n ≤ c) ∧ c < n') ∧ Ev O n h n' h')
    {h0 : H} (f0 : Fr m h0) (hr : RdI h0 rv (nats (adj a))) {E : Value → Value → M Value} : ∀ j i k n (h : H) p v O (s : DSt), i + j = (adj a).length → j < k → cnt N s.1 < k0 → s.2.length + cnt N s.1 ≤ 1000 → (∀ c, c < m → h.get c = h0.get c) → Gr h m tv N adj → GB h g N tv → DS h p v O s → m ≤ n → (∀ c, O c → m ≤ c ∧ c < n) → ¬ O g → g < n → Fr n h →
    ∃ n' h' v' O', (graph_behind_l1 F rec E k (i64 a) (pt p 0) v (pt g 0) rv (i64 (adj a).length) (i64 i)).run n h = (E (i64 a) v').run n' h' ∧ DS h' p v' O' (((adj a).drop i).foldl (fun s b => beh adj k0 b s) s) ∧ (∀ c, O' c → (O c ∨ n ≤ c) ∧ c < n') ∧ Ev O n h n' h' := by
  have hN := ok.few
  have hs := ok.short a ha
  intro j
  induction j with
  | zero =>
    intro i k n h p v O s hij hk hc hsz hk0 gr hg x hm hO hOg hgn f
    obtain ⟨k, rfl⟩ : ∃ j, k = j + 1 := ⟨k - 1, by omega⟩
    rw [graph_behind_l1_s]
    unfold graph_behind_b1 graph_behind_r4
    simp only [st_lss, onB_ite, run_ite, decide_eq_true_eq]
    rw [if_neg (by omega), List.drop_of_length_le (by omega)]
    exact ⟨n, h, v, O, rfl, x, fun c hc => ⟨.inl hc, (hO c hc).2⟩, Ev.refl f⟩
  | succ j ih2 =>
    intro i k n h p v O s hij hk hc hsz hk0 gr hg x hm hO hOg hgn f
    obtain ⟨k, rfl⟩ : ∃ j, k = j + 1 := ⟨k - 1, by omega⟩
    have hi : i < (adj a).length := by omega
    rw [graph_behind_l1_s]
    unfold graph_behind_b1 graph_behind_r4
    simp only [st_lss, onB_ite, run_ite, decide_eq_true_eq]
    rw [if_pos (by omega)]
    unfold graph_behind_r5
    try dsimp only
    have hr1 : RdI h rv (nats (adj a)) := hr.kept f0 hk0
    rw [hr1.getI (show i < (nats (adj a)).length by unfold nats; rw [List.length_map]; exact hi)]
    have e : (nats (adj a))[i]'(by unfold nats; rw [List.length_map]; exact hi) = (((adj a)[i] : Nat) : Int) := by simp [nats]
    rw [e]
    have hb := ok.lt a ha (adj a)[i] (List.getElem_mem hi)
    unfold graph_behind_r6
    try dsimp only
    rw [hg.all]
    obtain ⟨n1, h1, v1, O1, e1, x1, o1, ev1⟩ := ih (adj a)[i] n h p v O s hb hc hsz gr x hm hO f
    rw [run_bnd e1]
    have l1 := ev1.le
    unfold graph_behind_r7
    try dsimp only
    rw [sx_add (by omega)]
    have hmono : cnt N (beh adj k0 (adj a)[i] s).1 ≤ cnt N s.1 := cnt_mono (fun q hq => beh_mono hq) N
    have hsize := (beh_full ok.lt k0 (adj a)[i] s hb hc).size
    obtain ⟨n', h', v', O', q1, q2, q3, q4⟩ := ih2 (i + 1) k n1 h1 p v1 O1 (beh adj k0 (adj a)[i] s) (by omega) (by omega) (by omega) (by omega) (fun c hc => by rw [ev1.keep c (by omega) fun q => by have := (hO c q).1; omega]; exact hk0 c hc) (gr.ev ev1 hm fun c hc => (hO c hc).1) (hg.ev ev1 hgn hOg) x1 (by omega) (fun c hc => ⟨(o1 c hc).1.elim (fun q => (hO c q).1) fun q => by omega, (o1 c hc).2⟩) (fun q => (o1 g q).1.elim hOg fun q => by omega) (by omega) ev1.f
    rw [List.drop_eq_getElem_cons hi, List.foldl_cons]
    refine ⟨n', h', v', O', q1, q2, fun c hc => ⟨(q3 c hc).1.elim (fun q => (o1 c q).1) fun q => .inr (by omega), (q3 c hc).2⟩, ev1.trans q4 fun c hc q => (o1 c q).1.elim id fun q => by omega⟩

theorem behind_spec {F m N : Nat} {tv : Value} {adj : Nat → List Nat} (hF : 1000 < F) (ok : GOk N adj) (h1v : one tv = true) : ∀ k a n (h : H) p v O (s : DSt), a < N → cnt N s.1 < k → s.2.length + cnt N s.1 ≤ 1000 → Gr h m tv N adj → DS h p v O s → m ≤ n → (∀ c, O c → m ≤ c ∧ c < n) → Fr n h →
    ∃ n' h' v' O', (graph_behind F k (gv N tv) (i64 a) (pt p 0) v).run n h = some (v', n', h') ∧ DS h' p v' O' (beh adj k a s) ∧ (∀ c, O' c → (O c ∨ n ≤ c) ∧ c < n') ∧ Ev O n h n' h' := by
  have hN := ok.few
  intro k
  induction k with
  | zero => intro a n h p v O s ha hk; omega
  | succ k ih =>
    intro a n h p v O s ha hk hsz gr x hm hO f
    show ∃ n' h' v' O', (graph_behind_s F (graph_behind F k) (gv N tv) (i64 a) (pt p 0) v).run n h = some (v', n', h') ∧ _
    unfold graph_behind_s graph_behind_r0
    try dsimp only
    obtain ⟨h1, e1, g1, ev1⟩ := GB.box (β := Value) (N := N) f h1v
    rw [e1]
    have gr1 := gr.no ev1 hm
    have x1 := x.keep (h' := h1) fun c hc => ev1.no (hO c hc).2
    unfold graph_behind_r1
    try dsimp only
    obtain ⟨n2, h2, O2, e2, x2, o2, ev2⟩ := x1.add (F := F) (a := a) (by omega) (fun c hc => by have := (hO c hc).2; omega) ev1.f (by omega)
    rw [run_bnd e2, st_not]
    have l2 := ev2.le
    have ev02 : Ev O n h n2 h2 := (ev1.mono fun _ _ h => h.elim).trans ev2 fun _ _ h => h
    simp only [onB_ite, run_ite]
    cases hsa : s.1 a with
    | true =>
      rw [Bool.not_true, Bool.not_false, if_pos rfl]
      unfold graph_behind_r2
      rw [hsa, if_pos rfl] at x2
      have eb : beh adj (k + 1) a s = s := by unfold beh; rw [if_pos hsa]
      rw [eb]
      exact ⟨n2, h2, v, O2, rfl, x2, fun c hc => ⟨(o2 c hc).1.imp id fun q => by omega, (o2 c hc).2⟩, ev02⟩
    | false =>
      rw [Bool.not_false, Bool.not_true, if_neg (by decide)]
      rw [hsa, if_neg (by decide)] at x2
      unfold graph_behind_r3
      try dsimp only
      have hOg : ¬ O n := fun q => by have := (hO n q).2; omega
      have g2 := g1.ev ev2 (by omega) hOg
      have gr2 := gr1.ev ev2 (by omega) fun c hc => (hO c hc).1
      obtain ⟨rv, e3, h0, f0, k0, hr⟩ := gr2.row (β := Value) (n := n2) ha
      have hr' : RdI h2 rv (nats (adj a)) := hr.kept f0 k0
      have hs := ok.short a ha
      rw [g2.t, e3, hr'.lenI, show (nats (adj a)).length = (adj a).length by unfold nats; rw [List.length_map]]
      have hcnt := cnt_put hsa N
      rw [if_pos ha] at hcnt
      obtain ⟨n4, h4, v4, O4, e4, x4, o4, ev4⟩ := behind_l1 (F := F) (g := n) (k0 := k) hF ok ha (rec := graph_behind F k) ih f0 hr (E := fun x1 x3 => graph_behind_k0 F (graph_behind F k) x1 x3) (adj a).length 0 F n2 h2 p v O2 (putM s.1 a, s.2) (by omega) (by omega) (by show cnt N (putM s.1 a) < k; omega) (by show s.2.length + cnt N (putM s.1 a) ≤ 1000; omega) k0 gr2 g2 x2 (by omega) (fun c hc => ⟨(o2 c hc).1.elim (fun q => (hO c q).1) fun q => by omega, (o2 c hc).2⟩) (fun q => (o2 n q).1.elim hOg fun q => by omega) (by omega) ev2.f
      rw [show (Value.int .i64 0) = i64 ((0 : Nat) : Int) from rfl, e4]
      have l4 := ev4.le
      unfold graph_behind_k0 graph_behind_r8
      try dsimp only
      rw [List.drop_zero] at x4
      have hfull := fold_full (adj := adj) (f := fun s b => beh adj k b s) (N := N) (k := k) (fun s b hb hk => beh_full ok.lt k b s hb hk) (adj a) (putM s.1 a, s.2) (ok.lt a ha) (by show cnt N (putM s.1 a) < k; omega)
      have hsz4 := hfull.size
      simp only at hsz4
      obtain ⟨h5, v5, e5, x5, ev5⟩ := x4.push (a := a) ev4.f (by omega)
      rw [show (Value.int .i64 0) = i64 0 from rfl, e5]
      have eb : beh adj (k + 1) a s = (((adj a).foldl (fun s b => beh adj k b s) (putM s.1 a, s.2)).1, ((adj a).foldl (fun s b => beh adj k b s) (putM s.1 a, s.2)).2 ++ [a]) := by
        show (if s.1 a = true then s else _) = _
        rw [if_neg (by rw [hsa]; decide)]
      rw [eb]
      have oo : ∀ c, O4 c → (O c ∨ n ≤ c) ∧ c < n4 := fun c hc => ⟨(o4 c hc).1.elim (fun q => (o2 c q).1.imp id fun q => by omega) fun q => .inr (by omega), (o4 c hc).2⟩
      refine ⟨n4 + 2, h5, v5, _, rfl, x5, fun c hc => ⟨hc.elim (fun q => (oo c q).1) fun q => .inr (by omega), hc.elim (fun q => by have := (oo c q).2; omega) fun q => by omega⟩, (ev02.trans ev4 fun c hc q => (o2 c q).1.elim id fun q => by omega).trans ev5 fun c hc q => (oo c q).1.elim id fun q => by omega⟩

end Go.Fw
