/-
  haruspexref1.Reach, said of the abstract machine.
-/
import Derived.Test.YtmkpboaigdnpnaaLawGr
import Derived.Test.YtmkpboaigdnpnaaFwBfs
set_option maxRecDepth 20000
namespace Go.Fw

abbrev GqI (h : H) (v : Value) (b : Nat) (l : List Nat) : Prop := Gq h v b ((nats l).map i64)

theorem allN {l : List Nat} : ((nats l).map i64).all one = true := allI

theorem Gq.pushN {n b a : Nat} {h : H} {v : Value} {y : Int} {l : List Nat} (g : GqI h v b l) (f : Fr n h) (hl : l.length < 100000000) :
    ∃ h' v', (∀ k : Value → M Value, (bnd (opBuildSlice 1 (rep 1 [i64 y]) [(0, 1, false, i64 (a : Int))]) fun t => bnd (opAppend 1 8 v t) k).run n h = (k v').run (n + 2) h') ∧ GqI h' v' (n + 1) (l ++ [a]) ∧ Fr (n + 2) h' ∧ ∀ c, c < n → (v ≠ nsl → c ≠ b) → h'.get c = h.get c := by
  obtain ⟨h', v', e, g', f', k⟩ := Gq.push (y := i64 y) (x := i64 (a : Int)) g f rfl allN (by simpa [nats] using hl)
  exact ⟨h', v', e, by unfold GqI nats; rw [List.map_append, List.map_append]; exact g', f', k⟩

/-- The state on the way: the table of who is seen, the list of who waits; lo: where the call's own blocks begin. -/
structure Rs (h : H) (lo bs N : Nat) (v : Value) (seen : Nat → Bool) (l : List Nat) : Prop where
  tab : TB h bs N seen
  low : lo ≤ bs
  que : ∃ b, GqI h v b l ∧ (v ≠ nsl → lo ≤ b ∧ b ≠ bs)

theorem Rs.len {β : Type} {h : H} {lo bs N : Nat} {v : Value} {seen : Nat → Bool} {l : List Nat} (x : Rs h lo bs N v seen l) {k : Value → M β} : bnd (opLen v) k = k (i64 l.length) := by
  obtain ⟨b, g, _⟩ := x.que
  have : RdI h v (nats l) := g.rd
  rw [this.lenI, show (nats l).length = l.length by unfold nats; rw [List.length_map]]

theorem Rs.mark {h : H} {n lo bs N a : Nat} {v : Value} {seen : Nat → Bool} {l : List Nat} (x : Rs h lo bs N v seen l) (f : Fr n h) (ha : a < N) (hlo : lo ≤ n) (hl : l.length < 100000) :
    ∃ h1 h2 v', (∀ k : Value → M Value, (bnd (opIndexAddr 1 (sl bs 0 N N) (i64 a)) fun p => bnd (opStore p (bo true)) k).run n h = (k undef).run n h1) ∧
      (∀ k : Value → M Value, (bnd (opBuildSlice 1 (rep 1 [i64 0]) [(0, 1, false, i64 (a : Int))]) fun t => bnd (opAppend 1 8 v t) k).run n h1 = (k v').run (n + 2) h2) ∧ Rs h2 lo bs N v' (upd seen a true) (l ++ [a]) ∧ Ev (fun c => lo ≤ c) n h (n + 2) h2 := by
  obtain ⟨b, g, hb⟩ := x.que
  obtain ⟨h1, e1, t1, ev1⟩ := TB.set (β := Value) x.tab f ha (z := true)
  have hbs := TV.lt x.tab f
  have g1 : GqI h1 v b l := by
    rcases g with g | g
    · exact .inl g
    · have hv : v ≠ nsl := by obtain ⟨o, xs, kd, c, rfl, _⟩ := g; intro e; cases e
      exact Gq.keep (.inr g) fun hs => ev1.keep b (by
        rcases Nat.lt_or_ge b n with h3 | h3
        · exact h3
        · rw [f b h3] at hs; cases hs) (hb hv).2
  obtain ⟨h2, v', e2, g2, f2, k2⟩ := g1.pushN (a := a) (y := 0) ev1.f (by omega)
  have low := x.low
  refine ⟨h1, h2, v', e1, e2, ⟨t1.keep (k2 bs hbs fun hv => (hb hv).2.symm), x.low, n + 1, g2, fun _ => ⟨by omega, by omega⟩⟩, f2, by omega, fun c hc hlo' => ?_⟩
  rw [k2 c hc fun hv => by have := (hb hv).1; omega, ev1.keep c hc (by omega)]

/-- The rest of the fields: the graph is read, the marks hold. -/
theorem reach_l2 {F N m lo bs a : Nat} {tv : Value} {w : Int} {adj : Nat → List Nat} {st : Nat → Prop} (ok : GOk N adj) (ha : a < N) (hlo : m ≤ lo) {E : Value → Value → Value → Value → M Value} : ∀ j i k n (h : H) v (seen : Nat → Bool) (l : List Nat), i + j = (adj a).length → j < k → Gr h m tv N adj → Rs h lo bs N v seen l → Bf adj N st w seen l (fun x => x = a) → RchS adj st w a → l.length + cnt N seen ≤ 2000 → (∀ q, q ∈ (adj a).take i → (q : Int) ≠ w → seen q = true) → lo ≤ n → Fr n h →
    ∃ n' h' v' seen' l', (R1_Reach_l2 F E k tv (i64 w) (sl bs 0 N N) v (i64 a) (i64 i)).run n h = (E tv (i64 w) (sl bs 0 N N) v').run n' h' ∧ Rs h' lo bs N v' seen' l' ∧ Bf adj N st w seen' l' (fun _ => False) ∧ l'.length + cnt N seen' ≤ l.length + cnt N seen ∧ (∀ q, seen q = true → seen' q = true) ∧ Ev (fun c => lo ≤ c) n h n' h' := by
  have hN := ok.few
  have hs := ok.short a ha
  intro j
  induction j with
  | zero =>
    intro i k n h v seen l hij hk gr x B hra hsz hdone hn f
    obtain ⟨k, rfl⟩ : ∃ j, k = j + 1 := ⟨k - 1, by omega⟩
    obtain ⟨rv, e1, h0, f0, k0, hr⟩ := gr.row (β := Value) (n := n) ha
    have hr' : RdI h rv (nats (adj a)) := hr.kept f0 k0
    rw [R1_Reach_l2_s]
    unfold R1_Reach_b2 R1_Reach_r14
    try dsimp only
    rw [e1, hr'.lenI, show (nats (adj a)).length = (adj a).length by unfold nats; rw [List.length_map], st_lss]
    simp only [onB_ite, run_ite, decide_eq_true_eq]
    rw [if_neg (by omega)]
    rw [List.take_of_length_le (by omega)] at hdone
    refine ⟨n, h, v, seen, l, rfl, x, ⟨B.snd, B.q, fun m hm => ?_⟩, Nat.le_refl _, fun _ h => h, Ev.refl f⟩
    rcases B.cl m hm with h1 | h1 | h1
    · exact .inl h1
    · subst h1; exact .inr (.inr hdone)
    · exact .inr (.inr h1)
  | succ j ih =>
    intro i k n h v seen l hij hk gr x B hra hsz hdone hn f
    obtain ⟨k, rfl⟩ : ∃ j, k = j + 1 := ⟨k - 1, by omega⟩
    have hi : i < (adj a).length := by omega
    obtain ⟨rv, e1, h0, f0, k0, hr⟩ := gr.row (β := Value) (n := n) ha
    have hr' : RdI h rv (nats (adj a)) := hr.kept f0 k0
    rw [R1_Reach_l2_s]
    unfold R1_Reach_b2 R1_Reach_r14
    try dsimp only
    rw [e1, hr'.lenI, show (nats (adj a)).length = (adj a).length by unfold nats; rw [List.length_map], st_lss]
    simp only [onB_ite, run_ite, decide_eq_true_eq]
    rw [if_pos (by omega)]
    unfold R1_Reach_r16
    try dsimp only
    have hil : i < (nats (adj a)).length := by unfold nats; rw [List.length_map]; exact hi
    rw [e1, hr'.getI hil]
    have e : (nats (adj a))[i]'hil = (((adj a)[i] : Nat) : Int) := by simp [nats]
    rw [e]
    have hmem : (adj a)[i] ∈ adj a := List.getElem_mem hi
    have hbN := ok.lt a ha (adj a)[i] hmem
    have etake : (adj a).take (i + 1) = (adj a).take i ++ [(adj a)[i]] := List.take_succ_eq_append_getElem hi
    unfold R1_Reach_r17
    try dsimp only
    rw [x.tab.get hbN, st_not]
    simp only [onB_ite, run_ite]
    have skip : (seen (adj a)[i] = true ∨ (((adj a)[i] : Nat) : Int) = w) → ∃ n' h' v' seen' l', (R1_Reach_k3 F (R1_Reach_l2 F E k) tv (i64 w) (sl bs 0 N N) v (i64 a) (i64 i)).run n h = (E tv (i64 w) (sl bs 0 N N) v').run n' h' ∧ Rs h' lo bs N v' seen' l' ∧ Bf adj N st w seen' l' (fun _ => False) ∧ l'.length + cnt N seen' ≤ l.length + cnt N seen ∧ (∀ q, seen q = true → seen' q = true) ∧ Ev (fun c => lo ≤ c) n h n' h' := fun hc => by
      unfold R1_Reach_k3 R1_Reach_r15
      try dsimp only
      rw [sx_add (by omega)]
      refine ih (i + 1) k n h v seen l (by omega) (by omega) gr x B hra hsz (fun q hq hw => ?_) hn f
      rw [etake, List.mem_append, List.mem_singleton] at hq
      rcases hq with hq | rfl
      · exact hdone q hq hw
      · exact hc.resolve_right hw
    by_cases hseen : seen (adj a)[i] = true
    · rw [hseen, Bool.not_true, if_neg (by decide), if_neg (by decide)]
      exact skip (.inl hseen)
    · have hseen' : seen (adj a)[i] = false := by simpa using hseen
      rw [hseen', Bool.not_false, if_pos rfl, st_neq]
      simp only [onB_ite, run_ite]
      by_cases hw : (((adj a)[i] : Nat) : Int) = w
      · rw [if_neg (by rw [bne_iff_ne]; omega)]
        exact skip (.inr hw)
      · rw [if_pos (by rw [bne_iff_ne]; exact hw)]
        unfold R1_Reach_r18
        try dsimp only
        have hcnt := Bf.cnt hbN hseen'
        obtain ⟨h1, h2, v2, q1, q2, x2, ev2⟩ := x.mark f hbN hn (by omega)
        rw [q1]
        unfold R1_Reach_r19
        try dsimp only
        rw [show (Value.int .i64 0) = i64 0 from rfl, q2]
        unfold R1_Reach_k3 R1_Reach_r15
        try dsimp only
        rw [sx_add (by omega)]
        have B2 := B.mark (.step hra hmem hw) hbN
        have hmono : ∀ q, seen q = true → upd seen (adj a)[i] true q = true := fun q hq => by
          unfold upd; split
          · rfl
          · exact hq
        obtain ⟨n', h', v', seen', l', r1, r2, r3, r4, r5, r6⟩ := ih (i + 1) k (n + 2) h2 v2 (upd seen (adj a)[i] true) (l ++ [(adj a)[i]]) (by omega) (by omega) (gr.ev ev2 (by omega) fun c hc => by omega) x2 B2 hra (by rw [List.length_append, List.length_singleton]; omega) (fun q hq hw => by
          rw [etake, List.mem_append, List.mem_singleton] at hq
          rcases hq with hq | rfl
          · exact hmono q (hdone q hq hw)
          · exact upd_same) (by omega) ev2.f
        rw [List.length_append, List.length_singleton] at r4
        exact ⟨n', h', v', seen', l', r1, r2, r3, by omega, fun q hq => r5 q (hmono q hq), ev2.trans r6 fun _ _ h => h⟩

theorem reach_l1 {F N m lo bs : Nat} {tv : Value} {w : Int} {adj : Nat → List Nat} {st : Nat → Prop} (hF : 1000000 ≤ F) (ok : GOk N adj) (hlo : m ≤ lo) {E : Value → M Value} : ∀ j k n (h : H) v (seen : Nat → Bool) (l : List Nat), l.length + cnt N seen ≤ j → j < k → j ≤ 2000 → Gr h m tv N adj → Rs h lo bs N v seen l → Bf adj N st w seen l (fun _ => False) → (∀ q, st q → (q : Int) ≠ w → seen q = true) → lo ≤ n → Fr n h →
    ∃ n' h' seen', (R1_Reach_l1 F E k tv (i64 w) (sl bs 0 N N) v).run n h = (E (sl bs 0 N N)).run n' h' ∧ TB h' bs N seen' ∧ (∀ q, seen' q = true ↔ RchS adj st w q) ∧ Ev (fun c => lo ≤ c) n h n' h' := by
  have fin : ∀ k n (h : H) v (seen : Nat → Bool), Rs h lo bs N v seen [] → Bf adj N st w seen [] (fun _ => False) → (∀ q, st q → (q : Int) ≠ w → seen q = true) → Fr n h →
      ∃ n' h' seen', (R1_Reach_l1 F E (k + 1) tv (i64 w) (sl bs 0 N N) v).run n h = (E (sl bs 0 N N)).run n' h' ∧ TB h' bs N seen' ∧ (∀ q, seen' q = true ↔ RchS adj st w q) ∧ Ev (fun c => lo ≤ c) n h n' h' := by
    intro k n h v seen x B hst f
    rw [R1_Reach_l1_s]
    unfold R1_Reach_b1 R1_Reach_r10
    try dsimp only
    rw [x.len, st_gtr]
    simp only [onB_ite, run_ite, decide_eq_true_eq]
    rw [if_neg (by decide)]
    exact ⟨n, h, seen, rfl, x.tab, B.done hst, Ev.refl f⟩
  intro j
  induction j with
  | zero =>
    intro k n h v seen l hj hk hj2 gr x B hst hn f
    obtain ⟨k, rfl⟩ : ∃ j, k = j + 1 := ⟨k - 1, by omega⟩
    have : l = [] := List.eq_nil_of_length_eq_zero (by omega)
    subst this
    exact fin k n h v seen x B hst f
  | succ j ih =>
    intro k n h v seen l hj hk hj2 gr x B hst hn f
    obtain ⟨k, rfl⟩ : ∃ j, k = j + 1 := ⟨k - 1, by omega⟩
    match l with
    | [] => exact fin k n h v seen x B hst f
    | a :: l =>
      have hsa := B.q a List.mem_cons_self
      obtain ⟨hra, haN⟩ := B.snd a hsa
      rw [R1_Reach_l1_s]
      unfold R1_Reach_b1 R1_Reach_r10
      try dsimp only
      rw [x.len, st_gtr]
      simp only [onB_ite, run_ite, decide_eq_true_eq]
      rw [if_pos (by rw [List.length_cons]; omega)]
      obtain ⟨b, g, hb⟩ := x.que
      have rd : RdI h v (nats (a :: l)) := g.rd
      unfold R1_Reach_r11
      try dsimp only
      rw [show (Value.int .i64 0) = i64 ((0 : Nat) : Int) from rfl, rd.getI (i := 0) (by simp [nats])]
      have e0 : (nats (a :: l))[0]'(by simp [nats]) = (a : Int) := rfl
      rw [e0]
      unfold R1_Reach_r12
      try dsimp only
      have g' : Gq h v b (i64 (a : Int) :: (nats l).map i64) := g
      obtain ⟨v', e1, g1⟩ := g'.tail (β := Value)
      rw [e1]
      have x1 : Rs h lo bs N v' seen l := ⟨x.tab, x.low, b, g1, fun hv' => hb (by
        rintro rfl
        rcases g' with ⟨q, _⟩ | ⟨_, _, _, _, q, _⟩ <;> cases q)⟩
      have B1 : Bf adj N st w seen l (fun x => x = a) := ⟨B.snd, fun m hm => B.q m (List.mem_cons_of_mem _ hm), fun m hm => by
        rcases B.cl m hm with h | h | h
        · rcases List.mem_cons.1 h with h | h
          · exact .inr (.inl h)
          · exact .inl h
        · exact h.elim
        · exact .inr (.inr h)⟩
      unfold R1_Reach_r13
      try dsimp only
      rw [List.length_cons] at hj
      have hs := ok.short a haN
      obtain ⟨n2, h2, v2, seen2, l2, q1, q2, q3, q4, q5, q6⟩ := reach_l2 (F := F) (bs := bs) (lo := lo) (w := w) (st := st) ok haN hlo (E := fun x0 x2 x7 x8 => R1_Reach_l1 F E k x0 x2 x7 x8) (adj a).length 0 F n h v' seen l (by omega) (by omega) gr x1 B1 hra (by omega) (fun q hq _ => by rw [List.take_zero] at hq; cases hq) hn f
      rw [show (Value.int .i64 0) = i64 ((0 : Nat) : Int) from rfl, q1]
      obtain ⟨n', h', seen', r1, r2, r3, r4⟩ := ih k n2 h2 v2 seen2 l2 (by omega) (by omega) (by omega) (gr.ev q6 (by omega) fun c hc => by omega) q2 q3 (fun q hq hw => q5 q (hst q hq hw)) (by have := q6.le; omega) q6.f
      exact ⟨n', h', seen', r1, r2, r3, q6.trans r4 fun _ _ h => h⟩

/-- Who is among those to begin with. -/
def stOf (N : Nat) (zs : List Int) (q : Nat) : Prop := q < N ∧ (q : Int) ∈ zs

theorem reach_l5 {F N m lo bs : Nat} {tv fv : Value} {w : Int} {adj : Nat → List Nat} {zs : List Int} {hf : H} {mf : Nat} (ff : Fr mf hf) (hfv : RdI hf fv zs) (hmf : mf ≤ lo) (hz : zs.length ≤ 1000) (hN : N ≤ 600) (hlo : m ≤ lo) {E : Value → Value → Value → Value → M Value} : ∀ j i k n (h : H) v (seen : Nat → Bool) (l : List Nat), i + j = zs.length → j < k → (∀ c, c < mf → h.get c = hf.get c) → Gr h m tv N adj → Rs h lo bs N v seen l → Bf adj N (stOf N zs) w seen l (fun _ => False) → l.length + cnt N seen ≤ 2000 → (∀ q, q < N → (q : Int) ∈ zs.take i → (q : Int) ≠ w → seen q = true) → lo ≤ n → Fr n h →
    ∃ n' h' v' seen' l', (R1_Reach_l5 F E k tv fv (i64 w) (sl bs 0 N N) v (i64 i)).run n h = (E tv (i64 w) (sl bs 0 N N) v').run n' h' ∧ Rs h' lo bs N v' seen' l' ∧ Bf adj N (stOf N zs) w seen' l' (fun _ => False) ∧ l'.length + cnt N seen' ≤ l.length + cnt N seen ∧ (∀ q, stOf N zs q → (q : Int) ≠ w → seen' q = true) ∧ Ev (fun c => lo ≤ c) n h n' h' := by
  intro j
  induction j with
  | zero =>
    intro i k n h v seen l hij hk hkf gr x B hsz hdone hn f
    obtain ⟨k, rfl⟩ : ∃ j, k = j + 1 := ⟨k - 1, by omega⟩
    rw [R1_Reach_l5_s]
    unfold R1_Reach_b5 R1_Reach_r4
    try dsimp only
    rw [(hfv.kept ff hkf : RdI h fv zs).lenI, st_lss]
    simp only [onB_ite, run_ite, decide_eq_true_eq]
    rw [if_neg (by omega)]
    rw [List.take_of_length_le (by omega)] at hdone
    exact ⟨n, h, v, seen, l, rfl, x, B, Nat.le_refl _, fun q hq hw => hdone q hq.1 hq.2 hw, Ev.refl f⟩
  | succ j ih =>
    intro i k n h v seen l hij hk hkf gr x B hsz hdone hn f
    obtain ⟨k, rfl⟩ : ∃ j, k = j + 1 := ⟨k - 1, by omega⟩
    have hi : i < zs.length := by omega
    have rf : RdI h fv zs := hfv.kept ff hkf
    rw [R1_Reach_l5_s]
    unfold R1_Reach_b5 R1_Reach_r4
    try dsimp only
    rw [rf.lenI, st_lss]
    simp only [onB_ite, run_ite, decide_eq_true_eq]
    rw [if_pos (by omega)]
    unfold R1_Reach_r6
    try dsimp only
    rw [rf.getI hi]
    have etake : zs.take (i + 1) = zs.take i ++ [zs[i]] := List.take_succ_eq_append_getElem hi
    have skip : (∀ q, q < N → (q : Int) = zs[i] → (q : Int) ≠ w → seen q = true) → ∃ n' h' v' seen' l', (R1_Reach_k6 F (R1_Reach_l5 F E k) tv fv (i64 w) (sl bs 0 N N) v (i64 i)).run n h = (E tv (i64 w) (sl bs 0 N N) v').run n' h' ∧ Rs h' lo bs N v' seen' l' ∧ Bf adj N (stOf N zs) w seen' l' (fun _ => False) ∧ l'.length + cnt N seen' ≤ l.length + cnt N seen ∧ (∀ q, stOf N zs q → (q : Int) ≠ w → seen' q = true) ∧ Ev (fun c => lo ≤ c) n h n' h' := fun hc => by
      unfold R1_Reach_k6 R1_Reach_r5
      try dsimp only
      rw [sx_add (by omega)]
      refine ih (i + 1) k n h v seen l (by omega) (by omega) hkf gr x B hsz (fun q hqN hq hw => ?_) hn f
      rw [etake, List.mem_append, List.mem_singleton] at hq
      rcases hq with hq | hq
      · exact hdone q hqN hq hw
      · exact hc q hqN hq hw
    unfold R1_Reach_r7
    try dsimp only
    rw [st_geq]
    simp only [onB_ite, run_ite, decide_eq_true_eq]
    by_cases h1 : 0 ≤ zs[i]
    · rw [if_pos h1, gr.len, st_lss]
      simp only [onB_ite, run_ite, decide_eq_true_eq]
      by_cases h2 : zs[i] < (N : Int)
      · rw [if_pos h2]
        obtain ⟨a, ha⟩ : ∃ a : Nat, zs[i] = (a : Int) := ⟨zs[i].toNat, by omega⟩
        rw [ha] at h2 ⊢
        have haN : a < N := by omega
        rw [x.tab.get haN, st_not]
        simp only [onB_ite, run_ite]
        by_cases hseen : seen a = true
        · rw [hseen, Bool.not_true, if_neg (by decide), if_neg (by decide)]
          exact skip fun q hq e hw => by
            have : q = a := by omega
            subst this; exact hseen
        · have hseen' : seen a = false := by simpa using hseen
          rw [hseen', Bool.not_false, if_pos rfl, st_neq]
          simp only [onB_ite, run_ite]
          by_cases hw : (a : Int) = w
          · rw [if_neg (by rw [bne_iff_ne]; omega)]
            exact skip fun q hq e hw' => by omega
          · rw [if_pos (by rw [bne_iff_ne]; exact hw)]
            unfold R1_Reach_r8
            try dsimp only
            have hcnt := Bf.cnt haN hseen'
            obtain ⟨h3, h4, v2, q1, q2, x2, ev2⟩ := x.mark f haN hn (by omega)
            rw [q1]
            unfold R1_Reach_r9
            try dsimp only
            rw [show (Value.int .i64 0) = i64 0 from rfl, q2]
            unfold R1_Reach_k6 R1_Reach_r5
            try dsimp only
            rw [sx_add (by omega)]
            have hzm : (a : Int) ∈ zs := by rw [← ha]; exact List.getElem_mem hi
            have B2 := B.mark (b := a) (.start ⟨haN, hzm⟩ hw) haN
            obtain ⟨n', h', v', seen', l', r1, r2, r3, r4, r5, r6⟩ := ih (i + 1) k (n + 2) h4 v2 (upd seen a true) (l ++ [a]) (by omega) (by omega) (fun c hc => by rw [ev2.keep c (by omega) (by omega)]; exact hkf c hc) (gr.ev ev2 (by omega) fun c hc => by omega) x2 B2 (by rw [List.length_append, List.length_singleton]; omega) (fun q hqN hq hw => by
              unfold upd
              split
              · rfl
              · rename_i hne
                rw [etake, List.mem_append, List.mem_singleton] at hq
                rcases hq with hq | hq
                · exact hdone q hqN hq hw
                · exact absurd (by omega) hne) (by omega) ev2.f
            rw [List.length_append, List.length_singleton] at r4
            exact ⟨n', h', v', seen', l', r1, r2, r3, by omega, r5, ev2.trans r6 fun _ _ h => h⟩
      · rw [if_neg h2, if_neg (by decide)]
        exact skip fun q hq e hw => by omega
    · rw [if_neg h1, if_neg (by decide)]
      exact skip fun q hq e hw => by omega

theorem reach_spec {F n m N : Nat} {tv fv : Value} {w : Int} {adj : Nat → List Nat} {zs : List Int} {h : H} (hF : 1000000 ≤ F) (gr : Gr h m tv N adj) (hm : m ≤ n) (ok : GOk N adj) (hfv : RdI h fv zs) (hz : zs.length ≤ 1000) (f : Fr n h) :
    ∃ n' h' seen, (R1_Reach F tv fv (i64 w)).run n h = some (sl n 0 N N, n', h') ∧ TB h' n N seen ∧ (∀ q, seen q = true ↔ RchS adj (stOf N zs) w q) ∧ Ev No n h n' h' := by
  have hN := ok.few
  unfold R1_Reach R1_Reach_r0 R1_Reach_r1
  try dsimp only
  obtain ⟨h1, e1, t1, ev1⟩ := TB.make (β := Value) (bytes := 1) (N := N) (z := false) f (by omega) (by decide)
  rw [gr.len, show (Value.bool false) = bo false from rfl, e1]
  unfold R1_Reach_r2 R1_Reach_r3
  try dsimp only
  have hc : cnt N (fun _ => false) ≤ N := by
    unfold cnt
    have := List.length_filter_le (fun m : Nat => !(fun _ => false) m) (List.range N)
    rwa [List.length_range] at this
  obtain ⟨n2, h2, v2, seen2, l2, q1, q2, q3, q4, q5, q6⟩ := reach_l5 (F := F) (m := m) (lo := n) (bs := n) (tv := tv) (w := w) (adj := adj) f hfv (Nat.le_refl _) hz hN hm (E := fun x0 x2 x7 x8 => R1_Reach_k4 F x0 x2 x7 x8) zs.length 0 F (n + 1) h1 nsl (fun _ => false) [] (by omega) (by omega) (fun c hc => ev1.no hc) (gr.no ev1 hm) ⟨t1, Nat.le_refl _, 0, .inl ⟨rfl, rfl⟩, fun h => absurd rfl h⟩ ⟨(fun m h => by cases h), (fun m h => by cases h), (fun m h => by cases h)⟩ (by simp; omega) (fun q _ hq => by rw [List.take_zero] at hq; cases hq) (by omega) ev1.f
  rw [show (Value.slice none 0 0) = nsl from rfl, show (Value.int .i64 0) = i64 ((0 : Nat) : Int) from rfl, q1]
  unfold R1_Reach_k4
  have le2 := q6.le
  obtain ⟨n', h', seen', r1, r2, r3, r4⟩ := reach_l1 (F := F) (st := stOf N zs) hF ok hm (E := fun x7 => R1_Reach_k0 F x7) (l2.length + cnt N seen2) F n2 h2 v2 seen2 l2 (Nat.le_refl _) (by simp at q4; omega) (by simp at q4; omega) ((gr.no ev1 hm).ev q6 (by omega) fun c hc => by omega) q2 q3 q5 (by omega) q6.f
  rw [r1]
  refine ⟨n', h', seen', rfl, r2, r3, r4.f, by have := r4.le; omega, fun c hc _ => ?_⟩
  rw [r4.keep c (by omega) (by omega), q6.keep c (by omega) (by omega), ev1.no hc]

end Go.Fw
