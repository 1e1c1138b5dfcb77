/-
  front.Closure, said of the abstract machine.
-/
import Derived.Test.YtmkpboaigdnpnaaDoorLawFE
set_option maxRecDepth 20000
set_option linter.unusedVariables false
namespace Go.Fw

/-- Who comes in the end. -/
inductive Cls (S : Nat → Nat → Bool) (s : Nat → Bool) : Nat → Prop
  | one {a m : Nat} : s a = true → S a m = true → Cls S s m
  | step {a m : Nat} : Cls S s a → S a m = true → Cls S s m

theorem Cls.mono {S : Nat → Nat → Bool} {s t : Nat → Bool} (h : ∀ a, s a = true → t a = true) {m : Nat} (c : Cls S s m) : Cls S t m := by
  induction c with
  | one h1 h2 => exact .one (h _ h1) h2
  | step _ h2 ih => exact .step ih h2

structure Cf (N : Nat) (S : Nat → Nat → Bool) (s C : Nat → Bool) (L : List Nat) (ex : Nat → Prop) : Prop where
  snd : ∀ m, C m = true → Cls S s m ∧ m < N
  q : ∀ x, x ∈ L → (s x = true ∨ C x = true) ∧ x < N
  cl : ∀ x, s x = true ∨ C x = true → x ∈ L ∨ ex x ∨ ∀ m, S x m = true → C m = true

theorem Cf.add {N : Nat} {S : Nat → Nat → Bool} {s C : Nat → Bool} {L : List Nat} {ex : Nat → Prop} (x : Cf N S s C L ex) {b : Nat} (h1 : Cls S s b) (h2 : b < N) : Cf N S s (putS C b) (L ++ [b]) ex := by
  have hs : ∀ m, C m = true → putS C b m = true := fun m h => by unfold putS; rw [h, Bool.true_or]
  have hb : ∀ m, putS C b m = true → C m = true ∨ m = b := fun m h => by
    unfold putS at h; rw [Bool.or_eq_true, decide_eq_true_eq] at h; exact h
  refine ⟨fun m hm => ?_, fun m hm => ?_, fun m hm => ?_⟩
  · rcases hb m hm with h | rfl
    · exact x.snd m h
    · exact ⟨h1, h2⟩
  · rw [List.mem_append, List.mem_singleton] at hm
    rcases hm with hm | rfl
    · exact ⟨(x.q m hm).1.imp id (hs m), (x.q m hm).2⟩
    · exact ⟨.inr (by unfold putS; simp), h2⟩
  · have : (s m = true ∨ C m = true) ∨ m = b := by
      rcases hm with h | h
      · exact .inl (.inl h)
      · rcases hb m h with h | h
        · exact .inl (.inr h)
        · exact .inr h
    rcases this with h | rfl
    · rcases x.cl m h with h | h | h
      · exact .inl (List.mem_append_left _ h)
      · exact .inr (.inl h)
      · exact .inr (.inr fun c hc => hs c (h c hc))
    · exact .inl (by simp)

theorem Cf.done {N : Nat} {S : Nat → Nat → Bool} {s C : Nat → Bool} (x : Cf N S s C [] (fun _ => False)) (m : Nat) : C m = true ↔ Cls S s m := by
  constructor
  · exact fun h => (x.snd m h).1
  · intro r
    induction r with
    | one h1 h2 =>
      rcases x.cl _ (.inl h1) with h | h | h
      · cases h
      · exact h.elim
      · exact h _ h2
    | step _ h2 ih =>
      rcases x.cl _ (.inr ih) with h | h | h
      · cases h
      · exact h.elim
      · exact h _ h2

theorem cnt_putS {N b : Nat} {C : Nat → Bool} (hb : b < N) (hs : C b = false) : cnt N (putS C b) + 1 = cnt N C := by
  have e : putS C b = putM C b := by funext m; rfl
  have := cnt_put hs N
  rw [if_pos hb] at this
  rw [e]; exact this

/-- The state on the way: the set that grows, the list of who waits. -/
def Cs (h : H) (lo n0 n1 q : Nat) (v : Value) (C : Nat → Bool) (L : List Nat) : Prop :=
  ∃ O b, BS h q O C ∧ (∀ c, O c → lo ≤ c ∧ (c < n0 ∨ n1 ≤ c)) ∧ GqI h v b L ∧ (v ≠ nsl → lo ≤ b ∧ (b < n0 ∨ n1 ≤ b) ∧ ¬ O b)

theorem Gq.nn {h : H} {v : Value} {b : Nat} {cs : List Value} (g : Gq h v b cs) (hv : v = nsl) : cs = [] := by
  rcases g with ⟨q, _⟩ | ⟨_, _, _, _, q, _⟩
  · exact q
  · rw [q] at hv; cases hv

theorem Gq.kept {h h' : H} {n : Nat} {v : Value} {b : Nat} {cs : List Value} (g : Gq h v b cs) (f : Fr n h) (hk : v ≠ nsl → b < n → h'.get b = h.get b) : Gq h' v b cs := by
  rcases g with g | g
  · exact .inl g
  · have hv : v ≠ nsl := by obtain ⟨o, xs, kd, c, rfl, _⟩ := g; intro e; cases e
    exact Gq.keep (.inr g) fun hs => hk hv (by
      rcases Nat.lt_or_ge b n with h3 | h3
      · exact h3
      · rw [f b h3] at hs; cases hs)

theorem Cs.mono {h : H} {lo n0 n1 q : Nat} {v : Value} {C : Nat → Bool} {L : List Nat} (x : Cs h lo n0 n1 q v C L) : Cs h lo 0 0 q v C L := by
  obtain ⟨O, b, x1, x2, x3, x4⟩ := x
  exact ⟨O, b, x1, fun c hc => ⟨(x2 c hc).1, .inr (Nat.zero_le _)⟩, x3, fun hv => ⟨(x4 hv).1, .inr (Nat.zero_le _), (x4 hv).2.2⟩⟩

theorem Cs.enter {h h1 : H} {lo n0 n1 q : Nat} {v : Value} {C : Nat → Bool} {L : List Nat} (x : Cs h lo 0 0 q v C L) (f : Fr n0 h) (e : Ev No n0 h n1 h1) : Cs h1 lo n0 n1 q v C L := by
  obtain ⟨O, b, x1, x2, x3, x4⟩ := x
  rcases x3 with g | g
  · exact ⟨O, b, x1.keep fun c hc => e.no (x1.lt f c hc), fun c hc => ⟨(x2 c hc).1, .inl (x1.lt f c hc)⟩, .inl g, fun hv => absurd g.2 hv⟩
  · have hb : b < n0 := by obtain ⟨o, xs, kd, c, _, h2, _⟩ := g; exact f.lt h2
    exact ⟨O, b, x1.keep fun c hc => e.no (x1.lt f c hc), fun c hc => ⟨(x2 c hc).1, .inl (x1.lt f c hc)⟩, Gq.keep (.inr g) fun _ => e.no hb, fun hv => ⟨(x4 hv).1, .inl hb, (x4 hv).2.2⟩⟩

section
variable {N : Nat} {S : Nat → Nat → Bool} {s : Nat → Bool}

theorem clo_l2 {F lo n0 n1 q a : Nat} {h1 : H} {x0 vl : Value} {T : List Nat} (hF : 1000000 ≤ F) (hN : N ≤ 600) (hT : ∀ x, x ∈ T → Cls S s x ∧ x < N) (hTl : T.length ≤ 100000) (hv : NewI h1 n0 vl (nats T)) (f1 : Fr n1 h1) (hlo : lo ≤ n0) (h01 : n0 ≤ n1) {E : Value → Value → Value → M Value} : ∀ j i k n (h : H) v (C : Nat → Bool) (L : List Nat), i + j = T.length → j < k → (∀ c, n0 ≤ c → c < n1 → h.get c = h1.get c) → Cs h lo n0 n1 q v C L → Cf N S s C L (fun x => x = a) → L.length + cnt N C ≤ 100000 → (∀ x, x ∈ T.take i → C x = true) → n1 ≤ n → Fr n h →
    ∃ n' h' v' C' L', (front_Closure_l2 F E k x0 (pt q 0) v vl (i64 T.length) (i64 (i : Nat))).run n h = (E x0 (pt q 0) v').run n' h' ∧ Cs h' lo n0 n1 q v' C' L' ∧ Cf N S s C' L' (fun x => x = a) ∧ (∀ x, x ∈ T → C' x = true) ∧ L'.length + cnt N C' ≤ L.length + cnt N C ∧ Ev (fun c => lo ≤ c) n h n' h' := by
  intro j
  induction j with
  | zero =>
    intro i k n h v C L hij hk hk1 x B hsz hdone hn f
    obtain ⟨k, rfl⟩ : ∃ j, k = j + 1 := ⟨k - 1, by omega⟩
    rw [front_Closure_l2_s]
    unfold front_Closure_b2 front_Closure_r8
    try dsimp only
    rw [st_lss, onB_ite, run_ite, if_neg (by simp; omega)]
    rw [List.take_of_length_le (by omega)] at hdone
    exact ⟨n, h, v, C, L, rfl, x, B, hdone, Nat.le_refl _, Ev.refl f⟩
  | succ j ih =>
    intro i k n h v C L hij hk hk1 x B hsz hdone hn f
    obtain ⟨k, rfl⟩ : ∃ j, k = j + 1 := ⟨k - 1, by omega⟩
    have hi : i < T.length := by omega
    rw [front_Closure_l2_s]
    unfold front_Closure_b2 front_Closure_r8
    try dsimp only
    rw [st_lss, onB_ite, run_ite, if_pos (by simp; omega)]
    unfold front_Closure_r9
    try dsimp only
    have hil : i < (nats T).length := by rw [nats_len]; exact hi
    have rd : RdI h vl (nats T) := (hv.keep f1 hk1).rd
    rw [rd.getI hil, nats_get]
    obtain ⟨hcb, hbN⟩ := hT T[i] (List.getElem_mem hi)
    have etake : T.take (i + 1) = T.take i ++ [T[i]] := List.take_succ_eq_append_getElem hi
    generalize T[i] = b at *
    unfold front_Closure_r10
    try dsimp only
    obtain ⟨O, bl, x1, x2, x3, x4⟩ := x
    obtain ⟨n2, h2, O', e2, y2, f2, l2, k2, o2⟩ := add_spec (F := F) x1 f (b : Int) (by omega)
    rw [run_bnd e2, onB_ite, run_ite]
    have hcan : canAdd C (b : Int) = !C b := by
      unfold canAdd
      rw [decide_eq_true (show (0 : Int) ≤ (b : Int) ∧ (b : Int) < 5000 by omega), Bool.true_and]; rfl
    have g2 : GqI h2 v bl L := Gq.kept x3 f fun hv hb => k2 bl hb (x4 hv).2.2
    have hO' : ∀ c, O' c → lo ≤ c ∧ (c < n0 ∨ n1 ≤ c) := fun c hc => by
      rcases o2 c hc with h | h
      · exact x2 c h
      · exact ⟨by omega, .inr (by omega)⟩
    have hbl : v ≠ nsl → lo ≤ bl ∧ (bl < n0 ∨ n1 ≤ bl) ∧ bl < n ∧ ¬ O' bl := fun hv => by
      have hlt : bl < n := by
        rcases x3 with g | ⟨o, xs, kd, c, _, q2, _⟩
        · exact absurd g.2 hv
        · exact f.lt q2
      refine ⟨(x4 hv).1, (x4 hv).2.1, hlt, fun q => ?_⟩
      rcases o2 bl q with h | h
      · exact (x4 hv).2.2 h
      · omega
    have ev2 : Ev (fun c => lo ≤ c) n h n2 h2 := ⟨f2, l2, fun c hc hlc => k2 c hc fun q => hlc (x2 c q).1⟩
    have hk12 : ∀ c, n0 ≤ c → c < n1 → h2.get c = h1.get c := fun c q1 q2 => by
      rw [k2 c (by omega) fun q => by have := (x2 c q).2; omega]; exact hk1 c q1 q2
    cases hC : C b with
    | true =>
      rw [hcan, hC, Bool.not_true, if_neg (by decide)]
      rw [hcan, hC, Bool.not_true, if_neg (by decide)] at y2
      unfold front_Closure_k3 front_Closure_r12
      try dsimp only
      rw [sx_add (by omega)]
      obtain ⟨n', h', v', C', L', r1, r2, r3, r4, r5, r6⟩ := ih (i + 1) k n2 h2 v C L (by omega) (by omega) hk12 ⟨O', bl, y2, hO', g2, fun hv => ⟨(hbl hv).1, (hbl hv).2.1, (hbl hv).2.2.2⟩⟩ B hsz (fun y hy => by
        rw [etake, List.mem_append, List.mem_singleton] at hy
        rcases hy with hy | rfl
        · exact hdone y hy
        · exact hC) (by omega) f2
      exact ⟨n', h', v', C', L', r1, r2, r3, r4, r5, ev2.trans r6 fun _ _ h => h⟩
    | false =>
      rw [hcan, hC, Bool.not_false, if_pos rfl]
      rw [hcan, hC, Bool.not_false, if_pos rfl, Int.toNat_natCast] at y2
      unfold front_Closure_r11
      try dsimp only
      have hcnt := cnt_putS hbN hC
      obtain ⟨h3, v3, e3, g3, f3, k3⟩ := g2.pushN (a := b) (y := 0) f2 (by omega)
      rw [show (Value.int .i64 0) = i64 0 from rfl, e3]
      unfold front_Closure_k3 front_Closure_r12
      try dsimp only
      rw [sx_add (by omega)]
      have hk3 : ∀ c, c < n2 → (v ≠ nsl → c ≠ bl) → h3.get c = h2.get c := k3
      have ev3 : Ev (fun c => lo ≤ c) n2 h2 (n2 + 2) h3 := ⟨f3, by omega, fun c hc hlc => k3 c hc fun hv e => hlc (e ▸ (hbl hv).1)⟩
      have y3 : BS h3 q O' (putS C b) := y2.keep fun c hc => k3 c (y2.lt f2 c hc) fun hv e => (hbl hv).2.2.2 (e ▸ hc)
      have hk13 : ∀ c, n0 ≤ c → c < n1 → h3.get c = h1.get c := fun c q1 q2 => by
        rw [k3 c (by omega) fun hv e => by have := (hbl hv).2.1; omega]; exact hk12 c q1 q2
      obtain ⟨n', h', v', C', L', r1, r2, r3, r4, r5, r6⟩ := ih (i + 1) k (n2 + 2) h3 v3 (putS C b) (L ++ [b]) (by omega) (by omega) hk13 ⟨O', n2 + 1, y3, hO', g3, fun _ => ⟨by omega, .inr (by omega), fun q => by have := y2.lt f2 _ q; omega⟩⟩ (B.add hcb hbN) (by rw [List.length_append, List.length_singleton]; omega) (fun y hy => by
        rw [etake, List.mem_append, List.mem_singleton] at hy
        unfold putS
        rcases hy with hy | rfl
        · rw [hdone y hy, Bool.true_or]
        · simp) (by omega) f3
      rw [List.length_append, List.length_singleton] at r5
      exact ⟨n', h', v', C', L', r1, r2, r3, r4, by omega, (ev2.trans ev3 fun _ _ h => h).trans r6 fun _ _ h => h⟩

theorem clo_l1 {F lo q bt : Nat} {hB : H} (hF : 1000000 ≤ F) (hN : N ≤ 600) (fB : Fr lo hB) (fs : FS hB 0 bt N S) (hS : ∀ a m, S a m = true → m < N) (h0 : 0 < lo) (hz : hB.get 0 = some ⟨deB, .ro⟩) {E : Value → M Value} : ∀ j k n (h : H) v (C : Nat → Bool) (L : List Nat), L.length + cnt N C ≤ j → j < k → j ≤ 100000 → (∀ c, c < lo → h.get c = hB.get c) → Cs h lo 0 0 q v C L → Cf N S s C L (fun _ => False) → lo ≤ n → Fr n h →
    ∃ n' h' C' O', (front_Closure_l1 F E k (sl bt 0 N N) (pt q 0) v).run n h = (E (pt q 0)).run n' h' ∧ BS h' q O' C' ∧ (∀ c, O' c → lo ≤ c) ∧ (∀ m, C' m = true ↔ Cls S s m) ∧ Ev (fun c => lo ≤ c) n h n' h' := by
  have fin : ∀ k n (h : H) v (C : Nat → Bool), Cs h lo 0 0 q v C [] → Cf N S s C [] (fun _ => False) → Fr n h →
      ∃ n' h' C' O', (front_Closure_l1 F E (k + 1) (sl bt 0 N N) (pt q 0) v).run n h = (E (pt q 0)).run n' h' ∧ BS h' q O' C' ∧ (∀ c, O' c → lo ≤ c) ∧ (∀ m, C' m = true ↔ Cls S s m) ∧ Ev (fun c => lo ≤ c) n h n' h' := by
    intro k n h v C x B f
    obtain ⟨O, b, x1, x2, x3, x4⟩ := x
    have rd : RdI h v (nats []) := Gq.rd x3
    rw [front_Closure_l1_s]
    unfold front_Closure_b1 front_Closure_r3
    try dsimp only
    rw [rd.lenI, st_gtr, onB_ite, run_ite, if_neg (by decide)]
    exact ⟨n, h, C, O, rfl, x1, fun c hc => (x2 c hc).1, B.done, Ev.refl f⟩
  intro j
  induction j with
  | zero =>
    intro k n h v C L hj hk hj2 hkB x B hn f
    obtain ⟨k, rfl⟩ : ∃ j, k = j + 1 := ⟨k - 1, by omega⟩
    have : L = [] := List.eq_nil_of_length_eq_zero (by omega)
    subst this
    exact fin k n h v C x B f
  | succ j ih =>
    intro k n h v C L hj hk hj2 hkB x B hn f
    obtain ⟨k, rfl⟩ : ∃ j, k = j + 1 := ⟨k - 1, by omega⟩
    match L with
    | [] => exact fin k n h v C x B f
    | a :: L =>
      obtain ⟨hsa, haN⟩ := B.q a List.mem_cons_self
      obtain ⟨O, b, x1, x2, x3, x4⟩ := x
      have rd : RdI h v (nats (a :: L)) := Gq.rd x3
      rw [List.length_cons] at hj
      rw [front_Closure_l1_s]
      unfold front_Closure_b1 front_Closure_r3
      try dsimp only
      rw [rd.lenI, nats_len, st_gtr, onB_ite, run_ite, if_pos (by rw [List.length_cons]; simp)]
      unfold front_Closure_r4
      try dsimp only
      rw [show (Value.int .i64 0) = i64 ((0 : Nat) : Int) from rfl, rd.getI (i := 0) (by simp [nats])]
      have e0 : (nats (a :: L))[0]'(by simp [nats]) = (a : Int) := rfl
      rw [e0]
      unfold front_Closure_r5
      try dsimp only
      have g' : Gq h v b (i64 (a : Int) :: (nats L).map i64) := x3
      obtain ⟨v', e1, g1⟩ := g'.tail (β := Value)
      rw [e1]
      have hv0 : v ≠ nsl := fun e => by cases Gq.nn g' e
      unfold front_Closure_r6
      try dsimp only
      rw [st_len, st_geq, onB_ite, run_ite, if_neg (by simp; omega)]
      unfold front_Closure_r7
      try dsimp only
      have fs1 : FS h 0 bt N S := fs.kept fB fun c hc _ => hkB c hc
      obtain ⟨p, O2, e2, bs, _⟩ := fs1.get (β := Value) (n := n) haN
      obtain ⟨n1, h1, vl, e3, nw, ev1⟩ := all_spec (F := F) (by omega) (by omega) ((hkB 0 h0).trans hz) bs f
      have sm : ∀ q, S a q = true → q < 5000 := fun q hq => bs.small hq
      have hlen : (setL (S a)).length ≤ 100000 := by
        have := upTo_len (s := S a) (k := 80)
        unfold setL; omega
      rw [e2, run_bnd e3, (show RdI h1 vl (nats (setL (S a))) from nw.rd).lenI, nats_len, show (Value.int .i64 0) = i64 ((0 : Nat) : Int) from rfl]
      have xs : Cs h lo 0 0 q v' C L := ⟨O, b, x1, x2, g1, fun _ => x4 hv0⟩
      have xe := xs.enter f ev1
      have B1 : Cf N S s C L (fun x => x = a) := ⟨B.snd, fun m hm => B.q m (List.mem_cons_of_mem _ hm), fun m hm => by
        rcases B.cl m hm with h | h | h
        · rcases List.mem_cons.1 h with h | h
          · exact .inr (.inl h)
          · exact .inl h
        · exact h.elim
        · exact .inr (.inr h)⟩
      have l1 := ev1.le
      obtain ⟨n2, h2, v2, C2, L2, q1, q2, q3, q4, q5, q6⟩ := clo_l2 (F := F) (lo := lo) (n0 := n) (n1 := n1) (q := q) (a := a) (x0 := sl bt 0 N N) (T := setL (S a)) hF hN (fun y hy => by
        have hy' := (setL_memS sm).1 hy
        refine ⟨?_, hS a y hy'⟩
        rcases hsa with h | h
        · exact .one h hy'
        · exact .step (B.snd a h).1 hy') hlen nw ev1.f hn l1 (E := fun x0 x5 x6 => front_Closure_l1 F E k x0 x5 x6) (setL (S a)).length 0 F n1 h1 v' C L (by omega) (by omega) (fun c _ _ => rfl) xe B1 (by omega) (fun y hy => by rw [List.take_zero] at hy; cases hy) (Nat.le_refl _) ev1.f
      rw [q1]
      have B2 : Cf N S s C2 L2 (fun _ => False) := ⟨q3.snd, q3.q, fun m hm => by
        rcases q3.cl m hm with h | h | h
        · exact .inl h
        · subst h
          exact .inr (.inr fun y hy => q4 y ((setL_memS sm).2 hy))
        · exact .inr (.inr h)⟩
      have ev12 : Ev (fun c => lo ≤ c) n h n2 h2 := (ev1.mono fun _ _ h => h.elim).trans q6 fun _ _ h => h
      obtain ⟨n', h', C', O', r1, r2, r3, r4, r5⟩ := ih k n2 h2 v2 C2 L2 (by omega) (by omega) (by omega) (fun c hc => by rw [ev12.keep c (by omega) (by omega)]; exact hkB c hc) q2.mono B2 (by have := ev12.le; omega) ev12.f
      exact ⟨n', h', C', O', r1, r2, r3, r4, ev12.trans r5 fun _ _ h => h⟩

theorem closure_spec {F n p bt : Nat} {O : Nat → Prop} {h : H} (hF : 1000000 ≤ F) (hN : N ≤ 600) (f : Fr n h) (fs : FS h 0 bt N S) (hS : ∀ a m, S a m = true → m < N) (h0 : 0 < n) (hz : h.get 0 = some ⟨deB, .ro⟩) (bs : BS h p O s) (hs : ∀ a, s a = true → a < N) :
    ∃ n' h' q C, (front_Closure F (sl bt 0 N N) (pt p 0)).run n h = some (pt q 0, n', h') ∧ SetAt h' q n n' C ∧ (∀ m, C m = true ↔ Cls S s m) ∧ Ev No n h n' h' := by
  unfold front_Closure front_Closure_r0 front_Closure_r1
  try dsimp only
  obtain ⟨e1, x1, f1⟩ := new_set f (k := fun v11 => front_Closure_r2 F (sl bt 0 N N) (pt p 0) v11 fun x0 x5 x6 => front_Closure_l1 F (fun x5 => front_Closure_k0 F x5) F x0 x5 x6)
  rw [show (Value.slice none 0 0) = nsl from rfl, e1]
  have ev1 := Ev.new f ⟨[nsl], .own⟩
  unfold front_Closure_r2
  try dsimp only
  have bs1 := bs.keep (h' := h.set n ⟨[nsl], .own⟩) fun c hc => ev1.no (bs.lt f c hc)
  obtain ⟨n2, h2, vl, e2, nw, ev2⟩ := all_spec (F := F) (by omega) (by omega) ((ev1.no h0).trans hz) bs1 f1
  rw [run_bnd e2]
  have sm : ∀ q, s q = true → q < 5000 := fun q hq => bs.small hq
  have hlen : (setL s).length ≤ 5120 := by
    have := upTo_len (s := s) (k := 80)
    unfold setL; omega
  obtain ⟨b, gb, hb⟩ := nw
  have l2 := ev2.le
  have ev02 : Ev No n h n2 h2 := ev1.trans ev2 fun _ _ h => h
  have x2 : BS h2 n (fun c => c = n) (fun _ => false) := x1.keep fun c hc => ev2.no (by omega)
  have hcnt : cnt N (fun _ => false) ≤ N := by
    unfold cnt; exact Nat.le_trans (List.length_filter_le _ _) (by rw [List.length_range]; omega)
  have hnn : vl ≠ nsl → nats (setL s) ≠ [] := fun hv e => by
    rcases gb with ⟨_, g⟩ | ⟨g, _⟩
    · exact hv g
    · apply g; rw [show ints (setL s) = nats (setL s) from rfl, e]; rfl
  obtain ⟨n3, h3, C, O3, e3, y3, o3, c3, ev3⟩ := clo_l1 (F := F) (lo := n) (q := n) (hB := h) (s := s) hF hN f fs hS h0 hz (E := fun x5 => front_Closure_k0 F x5) ((setL s).length + cnt N fun _ => false) F n2 h2 vl (fun _ => false) (setL s) (Nat.le_refl _) (by omega) (by omega) (fun c hc => ev02.no hc) ⟨_, b, x2, fun c hc => ⟨by omega, .inr (Nat.zero_le _)⟩, Gl.q gb, fun hv => by have := hb (hnn hv); exact ⟨by omega, .inr (Nat.zero_le _), by omega⟩⟩ ⟨fun m hm => (by cases hm), fun y hy => ⟨.inl ((setL_memS sm).1 hy), hs y ((setL_memS sm).1 hy)⟩, fun y hy => (by
    rcases hy with hy | hy
    · exact .inl ((setL_memS sm).2 hy)
    · cases hy)⟩ (by omega) ev2.f
  rw [e3]
  refine ⟨n3, h3, n, C, rfl, ⟨O3, y3, fun c hc => ⟨o3 c hc, y3.lt ev3.f c hc⟩⟩, c3, ev02.trans ev3 fun c hc q => by omega⟩
end

end Go.Fw
