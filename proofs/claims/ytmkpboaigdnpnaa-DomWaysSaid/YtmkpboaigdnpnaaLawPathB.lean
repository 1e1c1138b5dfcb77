/-
  graph.Path, the way itself.
-/
import Derived.Test.YtmkpboaigdnpnaaLawPath
set_option maxRecDepth 20000
namespace Go.Fw

section
variable {adj : Nat → List Nat} {N t : Nat}

/-- far is how far it is, and one; nought: no way leads there. -/
def FarOf (adj : Nat → List Nat) (N t : Nat) (far : Nat → Nat) : Prop := ∀ a, a < N → ∀ k, far a = k + 1 ↔ Dst adj t a k

/-- The least one so far of those that are nearer. -/
def Lst (far : Nat → Nat) (row : List Nat) (a : Nat) (best : Int) : Prop :=
  (best = -1 ∧ ∀ c, c ∈ row → ¬ (far c + 1 = far a ∧ far c ≠ 0)) ∨ ∃ b : Nat, best = (b : Int) ∧ b ∈ row ∧ far b + 1 = far a ∧ far b ≠ 0 ∧ ∀ c, c ∈ row → far c + 1 = far a → far c ≠ 0 → b ≤ c

theorem path_l3 {F bf n a : Nat} {x2 x3 x12 rv : Value} {h : H} {far : Nat → Nat} {row : List Nat} (tf : TI h bf N fun i => (far i : Int)) (ha : a < N) (hr : RdI h rv (nats row)) (hrow : ∀ c, c ∈ row → c < N) (hs : row.length ≤ 1000) (hfar : ∀ c, c < N → far c ≤ 100000) {E : Value → Value → Value → Value → Value → M Value} : ∀ j i k best, i + j = row.length → j < k → Lst far (row.take i) a best →
    ∃ best', (graph_Path_l3 F E k x2 x3 (sl bf 0 N N) x12 (i64 (a : Nat)) (i64 best) rv (i64 row.length) (i64 (i : Nat))).run n h = (E x2 x3 (sl bf 0 N N) x12 (i64 best')).run n h ∧ Lst far row a best' := by
  intro j
  induction j with
  | zero =>
    intro i k best hij hk hb
    obtain ⟨k, rfl⟩ : ∃ j, k = j + 1 := ⟨k - 1, by omega⟩
    rw [graph_Path_l3_s]
    unfold graph_Path_b3 graph_Path_r23
    try dsimp only
    rw [st_lss]
    simp only [onB_ite, run_ite, decide_eq_true_eq]
    rw [if_neg (by omega)]
    rw [List.take_of_length_le (by omega)] at hb
    exact ⟨best, rfl, hb⟩
  | succ j ih =>
    intro i k best hij hk hb
    obtain ⟨k, rfl⟩ : ∃ j, k = j + 1 := ⟨k - 1, by omega⟩
    have hi : i < row.length := by omega
    rw [graph_Path_l3_s]
    unfold graph_Path_b3 graph_Path_r23
    try dsimp only
    rw [st_lss]
    simp only [onB_ite, run_ite, decide_eq_true_eq]
    rw [if_pos (by omega)]
    unfold graph_Path_r24
    try dsimp only
    have hil : i < (nats row).length := by unfold nats; rw [List.length_map]; exact hi
    rw [hr.getI hil]
    have e : (nats row)[i]'hil = ((row[i] : Nat) : Int) := by simp [nats]
    rw [e]
    have hcN := hrow row[i] (List.getElem_mem hi)
    have etake : row.take (i + 1) = row.take i ++ [row[i]] := List.take_succ_eq_append_getElem hi
    generalize row[i] = c at *
    have f1 := hfar c hcN
    have f2 := hfar a ha
    have keep : (¬ (far c + 1 = far a ∧ far c ≠ 0) ∨ ∃ b : Nat, best = (b : Int) ∧ b ≤ c) → ∃ best', (graph_Path_k4 F (graph_Path_l3 F E k) x2 x3 (sl bf 0 N N) x12 (i64 (a : Nat)) (i64 best) rv (i64 row.length) (i64 (i : Nat))).run n h = (E x2 x3 (sl bf 0 N N) x12 (i64 best')).run n h ∧ Lst far row a best' := fun hc => by
      unfold graph_Path_k4 graph_Path_r27
      try dsimp only
      rw [sx_add (by omega)]
      refine ih (i + 1) k best (by omega) (by omega) ?_
      rw [etake]
      rcases hb with ⟨h1, h2⟩ | ⟨b, h1, h2, h3, h4, h5⟩
      · rcases hc with hc | ⟨b, hc, _⟩
        · refine .inl ⟨h1, fun q hq => ?_⟩
          rw [List.mem_append, List.mem_singleton] at hq
          rcases hq with hq | rfl
          · exact h2 q hq
          · exact hc
        · omega
      · refine .inr ⟨b, h1, List.mem_append_left _ h2, h3, h4, fun q hq q1 q2 => ?_⟩
        rw [List.mem_append, List.mem_singleton] at hq
        rcases hq with hq | rfl
        · exact h5 q hq q1 q2
        · rcases hc with hc | ⟨b', hc, hle⟩
          · exact absurd ⟨q1, q2⟩ hc
          · omega
    have take_ : far c + 1 = far a → far c ≠ 0 → (∀ b : Nat, best = (b : Int) → c ≤ b) → ∃ best', (graph_Path_r26 F x2 x3 (sl bf 0 N N) x12 (i64 (a : Nat)) (i64 (c : Nat)) rv (i64 row.length) (i64 (i : Nat)) fun x2 x3 x7 x12 x13 x14 x102 x103 x104 => graph_Path_k4 F (graph_Path_l3 F E k) x2 x3 x7 x12 x13 x14 x102 x103 x104).run n h = (E x2 x3 (sl bf 0 N N) x12 (i64 best')).run n h ∧ Lst far row a best' := fun q1 q2 q3 => by
      unfold graph_Path_r26 graph_Path_k4 graph_Path_r27
      try dsimp only
      rw [sx_add (by omega)]
      refine ih (i + 1) k (c : Int) (by omega) (by omega) ?_
      rw [etake]
      refine .inr ⟨c, rfl, by simp, q1, q2, fun q hq q4 q5 => ?_⟩
      rw [List.mem_append, List.mem_singleton] at hq
      rcases hq with hq | rfl
      · rcases hb with ⟨h1, h2⟩ | ⟨b, h1, h2, h3, h4, h5⟩
        · exact absurd ⟨q4, q5⟩ (h2 q hq)
        · have := h5 q hq q4 q5
          have := q3 b h1
          omega
      · exact Nat.le_refl _
    unfold graph_Path_r25
    try dsimp only
    rw [TI.get tf hcN, TI.get tf ha, sx_sub (by omega), st_eql]
    simp only [onB_ite, run_ite, beq_iff_eq]
    by_cases h1 : far c + 1 = far a
    · rw [if_pos (by omega), TI.get tf hcN, st_gtr]
      simp only [onB_ite, run_ite, decide_eq_true_eq]
      by_cases h2 : far c = 0
      · rw [if_neg (by omega), if_neg (by decide)]
        exact keep (.inl fun q => q.2 h2)
      · rw [if_pos (by omega), st_lss]
        simp only [onB_ite, run_ite, decide_eq_true_eq]
        by_cases h3 : best < 0
        · rw [if_pos h3, if_pos trivial]
          exact take_ h1 h2 fun b hb => by omega
        · rw [if_neg h3, st_lss]
          simp only [onB_ite, run_ite, decide_eq_true_eq]
          by_cases h4 : (c : Int) < best
          · rw [if_pos h4]
            exact take_ h1 h2 fun b hb => by omega
          · rw [if_neg h4]
            exact keep (.inr ⟨best.toNat, by omega, by omega⟩)
    · rw [if_neg (by omega), if_neg (by decide)]
      exact keep (.inl fun q => h1 q.1)

theorem Lst.nxt {far : Nat → Nat} (ok : GOk N adj) (hf : FarOf adj N t far) {a k : Nat} (ha : a < N) (hd : Dst adj t a (k + 1)) {best : Int} (h : Lst far (adj a) a best) : ∃ b : Nat, best = (b : Int) ∧ b < N ∧ IsNxt adj t a b ∧ Dst adj t b k := by
  have hfa := (hf a ha (k + 1)).2 hd
  rcases h with ⟨_, h2⟩ | ⟨b, h1, h2, h3, h4, h5⟩
  · obtain ⟨b, e, hb⟩ := hd.next
    have := (hf b (ok.lt a ha b e) k).2 hb
    exact absurd ⟨by omega, by omega⟩ (h2 b e)
  · have hbN := ok.lt a ha b h2
    have hbd : Dst adj t b k := (hf b hbN k).1 (by omega)
    refine ⟨b, h1, hbN, ⟨k, hd, h2, hbd, fun c hc hcd => ?_⟩, hbd⟩
    have := (hf c (ok.lt a ha c hc) k).2 hcd
    exact h5 c hc (by omega) (by omega)

theorem path_l1 {F bf g lo m : Nat} {tv : Value} {far : Nat → Nat} (hF : 1000000 ≤ F) (ok : GOk N adj) (hf : FarOf adj N t far) (ht : t < N) (hfar : ∀ c, c < N → far c ≤ 100000) (hbf : bf < lo ∧ g < lo ∧ m ≤ lo) {E : Value → M Value} : ∀ d k a n (h : H) v b (l : List Nat), Dst adj t a d → d < k → d ≤ 100000 → a < N → TI h bf N (fun i => (far i : Int)) → GB h g N tv → Gr h m tv N adj → GqI h v b (l ++ [a]) → (v ≠ nsl → lo ≤ b) → l.length + d ≤ 200000 → lo ≤ n → Fr n h →
    ∃ n' h' v' b' l', (graph_Path_l1 F E k (i64 (t : Nat)) (pt g 0) (sl bf 0 N N) v (i64 (a : Nat))).run n h = (E v').run n' h' ∧ GqI h' v' b' (l ++ l') ∧ PW adj t a l' ∧ (v' ≠ nsl → lo ≤ b') ∧ Ev (fun c => lo ≤ c) n h n' h' := by
  intro d
  induction d with
  | zero =>
    intro k a n h v b l hd hk hd2 ha tf hg gr gq hb hl hn f
    obtain ⟨k, rfl⟩ : ∃ j, k = j + 1 := ⟨k - 1, by omega⟩
    have := hd.eq_zero
    subst this
    rw [graph_Path_l1_s]
    unfold graph_Path_b1 graph_Path_r20
    try dsimp only
    rw [st_neq]
    simp only [onB_ite, run_ite]
    rw [if_neg (by simp)]
    exact ⟨n, h, v, b, [a], rfl, gq, .stop, hb, Ev.refl f⟩
  | succ d ih =>
    intro k a n h v b l hd hk hd2 ha tf hg gr gq hb hl hn f
    obtain ⟨k, rfl⟩ : ∃ j, k = j + 1 := ⟨k - 1, by omega⟩
    have hat : a ≠ t := by
      rintro rfl
      have := hd.uniq Dst.zero
      omega
    rw [graph_Path_l1_s]
    unfold graph_Path_b1 graph_Path_r20
    try dsimp only
    rw [st_neq]
    simp only [onB_ite, run_ite]
    rw [if_pos (by rw [bne_iff_ne]; omega)]
    unfold graph_Path_r21 graph_Path_r22
    try dsimp only
    obtain ⟨rv, e1, h0, f0, k0, hr⟩ := gr.row (β := Value) (n := n) ha
    have hr' : RdI h rv (nats (adj a)) := hr.kept f0 k0
    rw [hg.t, e1, hr'.lenI, show (nats (adj a)).length = (adj a).length by unfold nats; rw [List.length_map]]
    have hsa := ok.short a ha
    obtain ⟨best, e2, hL⟩ := path_l3 (F := F) (n := n) (x2 := i64 (t : Nat)) (x3 := pt g 0) (x12 := v) tf ha hr' (ok.lt a ha) hsa hfar (E := fun x2 x3 x7 x12 x14 => graph_Path_k2 F (graph_Path_l1 F E k) x2 x3 x7 x12 x14) (adj a).length 0 F (-1) (by omega) (by omega) (.inl ⟨rfl, fun c hc => by rw [List.take_zero] at hc; cases hc⟩)
    rw [show (Value.int .i64 (-1)) = i64 (-1) from rfl, show (Value.int .i64 0) = i64 ((0 : Nat) : Int) from rfl, e2]
    obtain ⟨c, rfl, hcN, hnx, hcd⟩ := hL.nxt ok hf ha hd
    unfold graph_Path_k2 graph_Path_r28 graph_Path_r29
    try dsimp only
    obtain ⟨h2, v2, e3, g2, f2, k2⟩ := gq.pushN (a := c) (y := 0) f (by simp; omega)
    rw [show (Value.int .i64 0) = i64 0 from rfl, e3]
    have ev : Ev (fun c => lo ≤ c) n h (n + 2) h2 := ⟨f2, by omega, fun q hq hq2 => k2 q hq fun hv => by have := hb hv; omega⟩
    have hbl : bf < n ∧ g < n := by omega
    obtain ⟨n', h', v', b', l', r1, r2, r3, r4, r5⟩ := ih k c (n + 2) h2 v2 (n + 1) (l ++ [a]) hcd (by omega) (by omega) hcN (tf.ev ev hbl.1 (by omega)) (hg.ev ev hbl.2 (by omega)) (gr.ev ev (by omega) fun q hq => by omega) g2 (fun _ => by omega) (by simp; omega) (by omega) f2
    refine ⟨n', h', v', b', a :: l', r1, ?_, .go hat hnx r3, r4, ev.trans r5 fun _ _ h => h⟩
    rw [List.append_assoc] at r2
    exact r2
end

/-- The way that Path tells; none: nothing. -/
theorem path_in {F n m N root t : Nat} {tv : Value} {adj : Nat → List Nat} {h : H} (hF : 1000000 ≤ F) (gr : Gr h m tv N adj) (hm : m ≤ n) (ok : GOk N adj) (hr : root < N) (ht : t < N) (f : Fr n h) :
    ∃ n' h' v, (graph_Path F (gv N tv) (i64 (root : Nat)) (i64 (t : Nat))).run n h = some (v, n', h') ∧ Ev No n h n' h' ∧ ((v = nsl ∧ ¬ Rch adj root t) ∨ ∃ l, RdI h' v (nats l) ∧ PW adj t root l) := by
  have hN := ok.few
  unfold graph_Path graph_Path_r0
  try dsimp only
  obtain ⟨h1, e1, g1, ev1⟩ := GB.box (β := Value) (N := N) f gr.1
  rw [e1]
  have gr1 := gr.no ev1 hm
  unfold graph_Path_r1
  try dsimp only
  obtain ⟨n2, h2, e2, ev2⟩ := gmay_spec (F := F) (by omega) gr1 (by omega) ok ev1.f
  have l2 := ev2.le
  have g2 := g1.ev ev2 (by omega) (fun h => h)
  have gr2 := gr1.no ev2 (by omega)
  rw [g1.all, run_bnd e2, st_not, onB_ite, run_ite, if_neg (by decide), st_lss, onB_ite, run_ite, if_neg (by simp), g2.nn, st_geq, onB_ite, run_ite, if_neg (by simp; omega), st_lss, onB_ite, run_ite, if_neg (by simp), g2.nn, st_geq]
  rw [onB_ite, run_ite, if_neg (by simp; omega)]
  unfold graph_Path_r3
  try dsimp only
  obtain ⟨h3, e3, t3, ev3⟩ := TI.make (β := Value) (bytes := 8) (N := N) (z := 0) ev2.f (by omega) (by decide)
  rw [g2.nn, show (Value.int .i64 0) = i64 0 from rfl, e3]
  have g3 := g2.ev ev3 (by omega) (fun h => h)
  have gr3 := gr2.no ev3 (by omega)
  unfold graph_Path_r4
  try dsimp only
  obtain ⟨h4, e4, t4, ev4⟩ := TI.set (β := Value) t3 ev3.f ht (z := 1)
  rw [show (Value.int .i64 1) = i64 1 from rfl, e4]
  have g4 := g3.ev ev4 (by omega) (by omega)
  have gr4 := gr3.ev ev4 (by omega) fun c hc => by omega
  unfold graph_Path_r5
  try dsimp only
  obtain ⟨n5, h5, ob, O, e5, x5, o5, ev5⟩ := turn_spec (F := F) (by omega) gr4 (by omega) ok ev4.f
  have l5 := ev5.le
  rw [g4.all, run_bnd e5, run_ptr ev5.f (by rfl)]
  have ev6 := Ev.new ev5.f ⟨[i64 0, nsl], .own⟩
  obtain ⟨h7, e7, g7, ev7⟩ := GB.put (β := Value) (N := N) (tv := sl ob 0 N N) (H.get_set_same h5 n5 ⟨[i64 0, nsl], .own⟩) rfl ev6.f rfl
  rw [show (Value.int .i64 0) = i64 0 from rfl, show (Value.slice none 0 0) = nsl from rfl, e7]
  have ev57 : Ev No n5 h5 (n5 + 1) h7 := ev6.trans ev7 fun c hc q => by omega
  have x7 := x5.keep (h' := h7) fun c hc => ev57.no (x5.lt ev5.f hc)
  have hO7 : ∀ c, O c → c < n5 := fun c hc => x5.lt ev5.f hc
  unfold graph_Path_r6
  try dsimp only
  rw [run_single ev7.f rfl]
  have ev8 := Ev.new ev7.f ⟨[i64 (t : Int)], .own⟩
  have g8 := g7.ev ev8 (by omega) (fun h => h)
  have x8 := x7.keep (h' := h7.set (n5 + 1) ⟨[i64 (t : Int)], .own⟩) fun c hc => ev8.no (by have := hO7 c hc; omega)
  have ev48 : Ev No (n2 + 1) h4 (n5 + 1 + 1) (h7.set (n5 + 1) ⟨[i64 (t : Int)], .own⟩) := (ev5.trans ev57 fun _ _ h => h).trans ev8 fun _ _ h => h
  have t8 := t4.ev ev48 (by omega) (fun h => h)
  have gr8 := gr4.no ev48 (by omega)
  have gb8 := g4.ev ev48 (by omega) (fun h => h)
  have q8 : Qs (h7.set (n5 + 1) ⟨[i64 (t : Int)], .own⟩) (n5 + 1) n2 N (sl (n5 + 1) 0 1 1) (upd (fun _ => 0) t 1) ([t] ++ []) := by
    refine ⟨?_, n5 + 1, Gq.own (cs := [i64 (t : Int)]) (H.get_set_same _ _ _) (by unfold U; simp), fun _ => ⟨Nat.le_refl _, by omega⟩⟩
    have e : upd (fun _ => (0 : Int)) t 1 = fun i => ((upd (fun _ => 0) t 1 i : Nat) : Int) := by
      funext i; unfold upd; split <;> rfl
    rw [e] at t8
    exact t8
  have hft : upd (fun _ => 0) t 1 t = 1 := upd_same
  have hfo : ∀ c, c ≠ t → upd (fun _ => 0) t 1 c = 0 := fun c hc => upd_ne hc
  have B8 : Bw adj N t (upd (fun _ => 0) t 1) [t] [] 0 (fun _ => False) := by
    refine ⟨fun a k hk => ?_, fun a k ha hw hk => ?_, fun b hb => ?_, fun b hb => ?_, fun b hb => by cases hb⟩
    · by_cases e : a = t
      · subst e
        rw [hft] at hk
        have : k = 0 := by omega
        subst this
        exact ⟨Dst.zero, ht⟩
      · rw [hfo a e] at hk; omega
    · have : k = 0 := by omega
      subst this
      cases hw
      rw [hft]; decide
    · by_cases e : b = t
      · subst e; exact .inl (by simp)
      · exact absurd (hfo b e) hb
    · rw [List.mem_singleton] at hb
      subst hb; exact hft
  have hcnt : cnt N (fun i => upd (fun _ => 0) t 1 i != 0) + 1 ≤ N := by
    have h3 := cnt_put (s := fun _ => false) (a := t) rfl N
    rw [if_pos ht] at h3
    have e3 : (fun i => upd (fun _ => 0) t 1 i != 0) = putM (fun _ => false) t := by
      funext q; unfold upd putM
      by_cases e4 : q = t
      · rw [if_pos e4, decide_eq_true e4]; rfl
      · rw [if_neg e4, decide_eq_false e4]; rfl
    rw [e3]
    have hc : cnt N (fun _ => false) ≤ N := by
      unfold cnt
      have := List.length_filter_le (fun m : Nat => !(fun _ => false) m) (List.range N)
      rwa [List.length_range] at this
    omega
  obtain ⟨n9, h9, far, e9, t9, hf, hfb, ev9⟩ := path_l6 (F := F) (t := t) (bf := n2) (lo := n5 + 1) (g2 := n5) (x1 := i64 (root : Nat)) (x2 := i64 (t : Nat)) (x3 := pt n 0) hF ok (by omega) (fun c hc => ⟨by have := o5 c hc; omega, by have := hO7 c hc; omega⟩) ⟨by omega, by omega⟩ g8 x8 (E := fun x1 x2 x3 x7 => graph_Path_k5 F x1 x2 x3 x7) 1000 F (n5 + 1 + 1) _ _ _ [t] [] 0 (by simp; omega) (by omega) (by omega) (fun _ _ => rfl) rfl q8 B8 (by rw [hft]; decide) (by rw [if_pos rfl]; omega) (fun q => by
    by_cases e : q = t
    · rw [e, hft]; omega
    · rw [hfo q e]; omega) (by omega) ev8.f
  have hsm : (sl (n5 + 1) 0 1 1) = sl (n5 + 1) 0 1 1 := rfl
  rw [e9]
  have l9 := ev9.le
  have gb9 := gb8.ev ev9 (by omega) (by omega)
  have gr9 := gr8.ev ev9 (by omega) fun c hc => by omega
  have evall : ∀ c, c < n → h9.get c = h.get c := fun c hc => by
    rw [ev9.keep c (by omega) (by omega), ev48.no (by omega), ev4.keep c (by omega) (by omega), ev3.no (by omega), ev2.no (by omega), ev1.no hc]
  unfold graph_Path_k5 graph_Path_r16
  try dsimp only
  rw [TI.get t9 hr, st_eql]
  simp only [onB_ite, run_ite, beq_iff_eq]
  by_cases h0 : far root = 0
  · rw [if_pos (by omega)]
    refine ⟨n9, h9, nsl, rfl, ⟨ev9.f, by omega, fun c hc _ => evall c hc⟩, .inl ⟨rfl, fun hrc => ?_⟩⟩
    obtain ⟨k, hk⟩ := wk_rch.2 hrc
    obtain ⟨l, _, hl⟩ := Dst.of hk
    have := (hf root hr l).2 hl
    omega
  · rw [if_neg (by omega)]
    obtain ⟨d, hd⟩ : ∃ d, far root = d + 1 := ⟨far root - 1, by omega⟩
    have hdd := (hf root hr d).1 hd
    have hfar : ∀ c, c < N → far c ≤ 100000 := fun c hc => by
      have := hfb c; omega
    unfold graph_Path_r18
    try dsimp only
    rw [run_single ev9.f rfl]
    have ev10 := Ev.new ev9.f ⟨[i64 (root : Int)], .own⟩
    unfold graph_Path_r19
    try dsimp only
    have t10 := TV.ev t9 ev10 (by omega) (fun h => h)
    obtain ⟨n11, h11, v11, b11, l', e11, q11, p11, _, ev11⟩ := path_l1 (F := F) (bf := n2) (g := n) (lo := n9) (m := m) hF ok hf ht hfar ⟨by omega, by omega, by omega⟩ (E := fun x12 => graph_Path_k0 F x12) d F root (n9 + 1) _ (sl n9 0 1 1) n9 [] hdd (by have := hfar root hr; omega) (by have := hfar root hr; omega) hr t10 (gb9.ev ev10 (by omega) (fun h => h)) (gr9.no ev10 (by omega)) (Gq.own (cs := [i64 (root : Int)]) (H.get_set_same _ _ _) (by unfold U; simp)) (fun _ => Nat.le_refl _) (by have := hfar root hr; simp; omega) (by omega) ev10.f
    rw [e11]
    refine ⟨n11, h11, v11, rfl, ⟨ev11.f, by have := ev11.le; omega, fun c hc _ => ?_⟩, .inr ⟨l', by rw [List.nil_append] at q11; exact q11.rd, p11⟩⟩
    rw [ev11.keep c (by omega) (by omega), ev10.no (by omega), evall c hc]

/-- Where an end is no node, nothing is told. -/
theorem path_out {F n m N : Nat} {a b : Int} {tv : Value} {adj : Nat → List Nat} {h : H} (hF : 1000000 ≤ F) (gr : Gr h m tv N adj) (hm : m ≤ n) (ok : GOk N adj) (hr : a < 0 ∨ (N : Int) ≤ a ∨ b < 0 ∨ (N : Int) ≤ b) (f : Fr n h) :
    ∃ n' h', (graph_Path F (gv N tv) (i64 a) (i64 b)).run n h = some (nsl, n', h') ∧ Ev No n h n' h' := by
  have hN := ok.few
  unfold graph_Path graph_Path_r0
  try dsimp only
  obtain ⟨h1, e1, g1, ev1⟩ := GB.box (β := Value) (N := N) f gr.1
  rw [e1]
  have gr1 := gr.no ev1 hm
  unfold graph_Path_r1
  try dsimp only
  obtain ⟨n2, h2, e2, ev2⟩ := gmay_spec (F := F) (by omega) gr1 (by omega) ok ev1.f
  have g2 := g1.ev ev2 (by omega) (fun h => h)
  have ev := ev1.trans ev2 fun _ _ h => h
  rw [g1.all, run_bnd e2, st_not, onB_ite, run_ite, if_neg (by decide), st_lss, onB_ite, run_ite]
  by_cases q1 : a < 0
  · rw [if_pos (by simpa using q1)]; exact ⟨n2, h2, rfl, ev⟩
  rw [if_neg (by simpa using q1), g2.nn, st_geq, onB_ite, run_ite]
  by_cases q2 : (N : Int) ≤ a
  · rw [if_pos (by simpa using q2)]; exact ⟨n2, h2, rfl, ev⟩
  rw [if_neg (by simpa using q2), st_lss, onB_ite, run_ite]
  by_cases q3 : b < 0
  · rw [if_pos (by simpa using q3)]; exact ⟨n2, h2, rfl, ev⟩
  rw [if_neg (by simpa using q3), g2.nn, st_geq, onB_ite, run_ite, if_pos (by simp; omega)]
  exact ⟨n2, h2, rfl, ev⟩

end Go.Fw
