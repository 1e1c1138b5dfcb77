/-
  haruspexref1.Front, said of the abstract machine.
-/
import Derived.Test.YtmkpboaigdnpnaaDoorLawFH
import Derived.Test.YtmkpboaigdnpnaaDoorFwRl
set_option maxRecDepth 20000
set_option linter.unusedVariables false
namespace Go.Fw

section
variable {adj : Nat → List Nat} {N root : Nat}

theorem rfront_l6 {F m n0 a c : Nat} {tv x5 x6 x7 : Value} (hF : 1000000 ≤ F) (ok : GOk N adj) (hr : root < N) (ha : a < N) (hc : c < N) (hm : m ≤ n0) {E : Value → Value → Value → Value → Value → Value → Value → Value → M Value} : ∀ j i k n (h : H) v zs, i + j = (adj c).length → j < k → Gr h m tv N adj → NewI h n0 v zs → zs.Pairwise (· < ·) → zs.length ≤ 1000 * c + i → n0 ≤ n → Fr n h →
    ∃ n' h' v' zs', (R1_Front_l6 F E k tv (i64 (root : Int)) x5 x6 x7 (i64 (a : Nat)) v (i64 (c : Nat)) (i64 (i : Nat))).run n h = (E tv (i64 (root : Int)) x5 x6 x7 (i64 (a : Nat)) v' (i64 (c : Nat))).run n' h' ∧ NewI h' n0 v' zs' ∧ zs'.Pairwise (· < ·) ∧ zs'.length ≤ 1000 * c + 1000 ∧ (∀ z, z ∈ zs' ↔ z ∈ zs ∨ ∃ b : Nat, z = (b : Int) ∧ b ∈ (adj c).drop i ∧ (a = b ∨ ¬ Dom adj root a b)) ∧ Ev No n h n' h' := by
  have hN := ok.few
  have hs := ok.short c hc
  intro j
  induction j with
  | zero =>
    intro i k n h v zs hij hk gr x hso hzl hn f
    obtain ⟨k, rfl⟩ : ∃ j, k = j + 1 := ⟨k - 1, by omega⟩
    obtain ⟨rv, e1, h0, f0, k0, hr'⟩ := gr.row (β := Value) (n := n) hc
    have rd : RdI h rv (nats (adj c)) := hr'.kept f0 k0
    rw [R1_Front_l6_s]
    unfold R1_Front_b6 R1_Front_r13
    try dsimp only
    rw [e1, rd.lenI, nats_len, st_lss, onB_ite, run_ite, if_neg (by simp; omega)]
    refine ⟨n, h, v, zs, rfl, x, hso, by omega, fun z => ?_, Ev.refl f⟩
    rw [List.drop_of_length_le (by omega)]
    simp
  | succ j ih =>
    intro i k n h v zs hij hk gr x hso hzl hn f
    obtain ⟨k, rfl⟩ : ∃ j, k = j + 1 := ⟨k - 1, by omega⟩
    obtain ⟨rv, e1, h0, f0, k0, hr'⟩ := gr.row (β := Value) (n := n) hc
    have rd : RdI h rv (nats (adj c)) := hr'.kept f0 k0
    have hi : i < (adj c).length := by omega
    have hil : i < (nats (adj c)).length := by rw [nats_len]; exact hi
    rw [R1_Front_l6_s]
    unfold R1_Front_b6 R1_Front_r13
    try dsimp only
    rw [e1, rd.lenI, nats_len, st_lss, onB_ite, run_ite, if_pos (by simp; omega)]
    unfold R1_Front_r15
    try dsimp only
    rw [e1, rd.getI hil, nats_get]
    have hbN := ok.lt c hc _ (List.getElem_mem hi)
    have edrop : (adj c).drop i = (adj c)[i] :: (adj c).drop (i + 1) := List.drop_eq_getElem_cons hi
    generalize (adj c)[i] = b at *
    have next : ∀ n1 (h1 : H) v1 zs1, Ev No n h n1 h1 → NewI h1 n0 v1 zs1 → zs1.Pairwise (· < ·) → zs1.length ≤ 1000 * c + i + 1 → (∀ z, z ∈ zs1 ↔ z ∈ zs ∨ (z = (b : Int) ∧ (a = b ∨ ¬ Dom adj root a b))) →
        ∃ n' h' v' zs', (R1_Front_k7 F (R1_Front_l6 F E k) tv (i64 (root : Int)) x5 x6 x7 (i64 (a : Nat)) v1 (i64 (c : Nat)) (i64 (i : Nat))).run n1 h1 = (E tv (i64 (root : Int)) x5 x6 x7 (i64 (a : Nat)) v' (i64 (c : Nat))).run n' h' ∧ NewI h' n0 v' zs' ∧ zs'.Pairwise (· < ·) ∧ zs'.length ≤ 1000 * c + 1000 ∧ (∀ z, z ∈ zs' ↔ z ∈ zs ∨ ∃ b : Nat, z = (b : Int) ∧ b ∈ (adj c).drop i ∧ (a = b ∨ ¬ Dom adj root a b)) ∧ Ev No n h n' h' := fun n1 h1 v1 zs1 ev1 y1 so1 zl1 m1 => by
      unfold R1_Front_k7 R1_Front_r14
      try dsimp only
      rw [sx_add (by omega)]
      obtain ⟨n', h', v', zs', q1, q2, q3, q4, q5, q6⟩ := ih (i + 1) k n1 h1 v1 zs1 (by omega) (by omega) (gr.no ev1 (by omega)) y1 so1 (by omega) (by have := ev1.le; omega) ev1.f
      refine ⟨n', h', v', zs', q1, q2, q3, q4, fun z => ?_, ev1.trans q6 fun _ _ h => h⟩
      rw [q5, m1, edrop]
      constructor
      · rintro ((h | ⟨h1, h2⟩) | ⟨d, h1, h2, h3⟩)
        · exact .inl h
        · exact .inr ⟨b, h1, List.mem_cons_self, h2⟩
        · exact .inr ⟨d, h1, List.mem_cons_of_mem _ h2, h3⟩
      · rintro (h | ⟨d, h1, h2, h3⟩)
        · exact .inl (.inl h)
        · rcases List.mem_cons.1 h2 with h4 | h4
          · subst h4; exact .inl (.inr ⟨h1, h3⟩)
          · exact .inr ⟨d, h1, h4, h3⟩
    have put : ∀ n1 (h1 : H), Ev No n h n1 h1 → (a = b ∨ ¬ Dom adj root a b) → ∃ n' h' v' zs', (R1_Front_r17 F tv (i64 (root : Int)) x5 x6 x7 (i64 (a : Nat)) v (i64 (c : Nat)) (i64 (i : Nat)) (i64 (b : Int)) fun x0 x1 x5 x6 x7 x8 x9 x10 x11 => R1_Front_k7 F (R1_Front_l6 F E k) x0 x1 x5 x6 x7 x8 x9 x10 x11).run n1 h1 = (E tv (i64 (root : Int)) x5 x6 x7 (i64 (a : Nat)) v' (i64 (c : Nat))).run n' h' ∧ NewI h' n0 v' zs' ∧ zs'.Pairwise (· < ·) ∧ zs'.length ≤ 1000 * c + 1000 ∧ (∀ z, z ∈ zs' ↔ z ∈ zs ∨ ∃ b : Nat, z = (b : Int) ∧ b ∈ (adj c).drop i ∧ (a = b ∨ ¬ Dom adj root a b)) ∧ Ev No n h n' h' := fun n1 h1 ev1 hcond => by
      unfold R1_Front_r17
      try dsimp only
      have hle := ev1.le
      have y1 : NewI h1 n0 v zs := x.keep f fun q _ hq => ev1.no hq
      obtain ⟨n2, h2, v2, e2, y2, ev2⟩ := rput_spec (F := F) y1 ev1.f (by omega) (by omega) (by omega) (b : Int)
      rw [run_bnd e2]
      have := putI_len (z := (b : Int)) (L := zs)
      refine next n2 h2 v2 _ (ev1.trans ev2 fun _ _ h => h) y2 (putI_sorted hso) (by omega) fun z => ?_
      rw [putI_mem]
      constructor
      · rintro (h | h)
        · exact .inr ⟨h, hcond⟩
        · exact .inl h
      · rintro (h | ⟨h, _⟩)
        · exact .inr h
        · exact .inl h
    unfold R1_Front_r16
    try dsimp only
    rw [st_eql, onB_ite, run_ite]
    by_cases e : a = b
    · rw [if_pos (by rw [e]; simp), onB_ite, run_ite, if_pos rfl]
      exact put n h (Ev.refl f) (.inl e)
    · rw [if_neg (by rw [beq_iff_eq]; omega)]
      obtain ⟨n1, h1, e1, ev1⟩ := rabove_spec (F := F) (root := root) (a := a) (b := b) hF gr (by omega) ok hr ha hbN f
      rw [run_bnd e1, st_not, onB_ite, run_ite]
      cases hd : domB adj root a b with
      | false =>
        rw [if_pos (by decide)]
        exact put n1 h1 ev1 (.inr fun q => by rw [domB_iff.2 q] at hd; cases hd)
      | true =>
        rw [if_neg (by decide)]
        refine next n1 h1 v zs ev1 (x.keep f fun q _ hq => ev1.no hq) hso (by omega) fun z => ?_
        constructor
        · exact .inl
        · rintro (h | ⟨_, h | h⟩)
          · exact h
          · exact absurd h e
          · exact absurd (domB_iff.1 hd) h

theorem rfront_l4 {F m n0 a ba : Nat} {tv x6 : Value} {all : Nat → Bool} (hF : 1000000 ≤ F) (ok : GOk N adj) (hr : root < N) (ha : a < N) (hm : m ≤ n0) (hba : ba < n0) (hall : ∀ q, all q = true ↔ Rch adj root q) {E : Value → Value → Value → Value → Value → Value → Value → M Value} : ∀ j i k n (h : H) v zs, i + j = N → j < k → Gr h m tv N adj → TB h ba N all → NewI h n0 v zs → zs.Pairwise (· < ·) → zs.length ≤ 1000 * i → n0 ≤ n → Fr n h →
    ∃ n' h' v' zs', (R1_Front_l4 F E k tv (i64 (root : Int)) (i64 N) x6 (sl ba 0 N N) (i64 (a : Nat)) v (i64 (i : Nat))).run n h = (E tv (i64 (root : Int)) (i64 N) x6 (sl ba 0 N N) (i64 (a : Nat)) v').run n' h' ∧ NewI h' n0 v' zs' ∧ zs'.Pairwise (· < ·) ∧ (∀ z, z ∈ zs' ↔ z ∈ zs ∨ ∃ c b : Nat, i ≤ c ∧ c < N ∧ Dom adj root a c ∧ z = (b : Int) ∧ b ∈ adj c ∧ (a = b ∨ ¬ Dom adj root a b)) ∧ Ev No n h n' h' := by
  have hN := ok.few
  intro j
  induction j with
  | zero =>
    intro i k n h v zs hij hk gr ta x hso hzl hn f
    obtain ⟨k, rfl⟩ : ∃ j, k = j + 1 := ⟨k - 1, by omega⟩
    rw [R1_Front_l4_s]
    unfold R1_Front_b4 R1_Front_r9
    try dsimp only
    rw [st_lss, onB_ite, run_ite, if_neg (by simp; omega)]
    refine ⟨n, h, v, zs, rfl, x, hso, fun z => ⟨.inl, ?_⟩, Ev.refl f⟩
    rintro (h | ⟨c, b, h1, h2, _⟩)
    · exact h
    · omega
  | succ j ih =>
    intro i k n h v zs hij hk gr ta x hso hzl hn f
    obtain ⟨k, rfl⟩ : ∃ j, k = j + 1 := ⟨k - 1, by omega⟩
    have hi : i < N := by omega
    rw [R1_Front_l4_s]
    unfold R1_Front_b4 R1_Front_r9
    try dsimp only
    rw [st_lss, onB_ite, run_ite, if_pos (by simp; omega)]
    unfold R1_Front_r11
    try dsimp only
    have next : ∀ n1 (h1 : H) v1 zs1, Ev No n h n1 h1 → NewI h1 n0 v1 zs1 → zs1.Pairwise (· < ·) → zs1.length ≤ 1000 * i + 1000 → (∀ z, z ∈ zs1 ↔ z ∈ zs ∨ (∃ b : Nat, Dom adj root a i ∧ z = (b : Int) ∧ b ∈ adj i ∧ (a = b ∨ ¬ Dom adj root a b))) →
        ∃ n' h' v' zs', (R1_Front_k5 F (R1_Front_l4 F E k) tv (i64 (root : Int)) (i64 N) x6 (sl ba 0 N N) (i64 (a : Nat)) v1 (i64 (i : Nat))).run n1 h1 = (E tv (i64 (root : Int)) (i64 N) x6 (sl ba 0 N N) (i64 (a : Nat)) v').run n' h' ∧ NewI h' n0 v' zs' ∧ zs'.Pairwise (· < ·) ∧ (∀ z, z ∈ zs' ↔ z ∈ zs ∨ ∃ c b : Nat, i ≤ c ∧ c < N ∧ Dom adj root a c ∧ z = (b : Int) ∧ b ∈ adj c ∧ (a = b ∨ ¬ Dom adj root a b)) ∧ Ev No n h n' h' := fun n1 h1 v1 zs1 ev1 y1 so1 zl1 m1 => by
      unfold R1_Front_k5 R1_Front_r10
      try dsimp only
      rw [sx_add (by omega)]
      obtain ⟨n', h', v', zs', q1, q2, q3, q4, q5⟩ := ih (i + 1) k n1 h1 v1 zs1 (by omega) (by omega) (gr.no ev1 (by omega)) (ta.ev ev1 (by omega) fun h => h) y1 so1 (by omega) (by have := ev1.le; omega) ev1.f
      refine ⟨n', h', v', zs', q1, q2, q3, fun z => ?_, ev1.trans q5 fun _ _ h => h⟩
      rw [q4, m1]
      constructor
      · rintro ((h | ⟨b, h1, h2, h3⟩) | ⟨c, b, h1, h2, h3⟩)
        · exact .inl h
        · exact .inr ⟨i, b, Nat.le_refl _, hi, h1, h2, h3⟩
        · exact .inr ⟨c, b, by omega, h2, h3⟩
      · rintro (h | ⟨c, b, h1, h2, h3, h4⟩)
        · exact .inl (.inl h)
        · by_cases e : c = i
          · subst e; exact .inl (.inr ⟨b, h3, h4⟩)
          · exact .inr ⟨c, b, by omega, h2, h3, h4⟩
    have skip : ∀ n1 (h1 : H), Ev No n h n1 h1 → ¬ Dom adj root a i → ∃ n' h' v' zs', (R1_Front_k5 F (R1_Front_l4 F E k) tv (i64 (root : Int)) (i64 N) x6 (sl ba 0 N N) (i64 (a : Nat)) v (i64 (i : Nat))).run n1 h1 = (E tv (i64 (root : Int)) (i64 N) x6 (sl ba 0 N N) (i64 (a : Nat)) v').run n' h' ∧ NewI h' n0 v' zs' ∧ zs'.Pairwise (· < ·) ∧ (∀ z, z ∈ zs' ↔ z ∈ zs ∨ ∃ c b : Nat, i ≤ c ∧ c < N ∧ Dom adj root a c ∧ z = (b : Int) ∧ b ∈ adj c ∧ (a = b ∨ ¬ Dom adj root a b)) ∧ Ev No n h n' h' := fun n1 h1 ev1 hnd => by
      refine next n1 h1 v zs ev1 (x.keep f fun q _ hq => ev1.no hq) hso (by omega) fun z => ⟨.inl, ?_⟩
      rintro (h | ⟨b, h, _⟩)
      · exact h
      · exact absurd h hnd
    rw [ta.get ha, st_not, onB_ite, run_ite]
    cases h1 : all a with
    | false =>
      rw [if_pos (by decide), onB_ite, run_ite, if_pos rfl]
      exact skip n h (Ev.refl f) fun q => by rw [(hall a).2 q.rch] at h1; cases h1
    | true =>
      rw [if_neg (by decide), ta.get hi, st_not, onB_ite, run_ite]
      cases h2 : all i with
      | false =>
        rw [if_pos (by decide), onB_ite, run_ite, if_pos rfl]
        exact skip n h (Ev.refl f) fun q => by rw [(hall i).2 q.1] at h2; cases h2
      | true =>
        rw [if_neg (by decide)]
        obtain ⟨n1, h1, e1, ev1⟩ := rabove_spec (F := F) (root := root) (a := a) (b := i) hF gr (by omega) ok hr ha hi f
        rw [run_bnd e1, st_not, onB_ite, run_ite]
        cases hd : domB adj root a i with
        | false =>
          rw [if_pos (by decide)]
          exact skip n1 h1 ev1 fun q => by rw [domB_iff.2 q] at hd; cases hd
        | true =>
          have hda := domB_iff.1 hd
          rw [if_neg (by decide)]
          have hle := ev1.le
          have hs := ok.short i hi
          unfold R1_Front_r12
          try dsimp only
          obtain ⟨n2, h2, v2, zs2, e2, y2, so2, zl2, m2, ev2⟩ := rfront_l6 (F := F) (n0 := n0) (a := a) (c := i) (x5 := i64 N) (x6 := x6) (x7 := sl ba 0 N N) hF ok hr ha hi hm (E := fun x0 x1 x5 x6 x7 x8 x9 x10 => R1_Front_k5 F (R1_Front_l4 F E k) x0 x1 x5 x6 x7 x8 x9 x10) (adj i).length 0 F n1 h1 v zs (by omega) (by omega) (gr.no ev1 (by omega)) (x.keep f fun q _ hq => ev1.no hq) hso (by omega) (by omega) ev1.f
          rw [show (Value.int .i64 0) = i64 ((0 : Nat) : Int) from rfl, e2]
          refine next n2 h2 v2 zs2 (ev1.trans ev2 fun _ _ h => h) y2 so2 zl2 fun z => ?_
          rw [m2, List.drop_zero]
          constructor
          · rintro (h | ⟨b, h1, h2, h3⟩)
            · exact .inl h
            · exact .inr ⟨b, hda, h1, h2, h3⟩
          · rintro (h | ⟨b, _, h1, h2, h3⟩)
            · exact .inl h
            · exact .inr ⟨b, h1, h2, h3⟩

/-- The rows that are asked for. -/
def FRow (adj : Nat → List Nat) (root a : Nat) (l : List Int) : Prop := l.Pairwise (· < ·) ∧ ∀ z, z ∈ l ↔ ∃ b : Nat, z = (b : Int) ∧ Frt adj root a b

theorem rfront_l1 {F m lo ba : Nat} {tv : Value} {all : Nat → Bool} (hF : 1000000 ≤ F) (ok : GOk N adj) (hr : root < N) (hm : m ≤ lo) (hba : ba < lo) (hall : ∀ q, all q = true ↔ Rch adj root q) {E : Value → M Value} : ∀ j i k n (h : H) v R, i + j = N → j < k → Gr h m tv N adj → TB h ba N all → RL h lo n v i R → (∀ a, a < i → FRow adj root a (R a)) → lo ≤ n → Fr n h →
    ∃ n' h' v' R', (R1_Front_l1 F E k tv (i64 (root : Int)) (i64 N) v (sl ba 0 N N) (i64 (i : Nat))).run n h = (E v').run n' h' ∧ RL h' lo n' v' N R' ∧ (∀ a, a < N → FRow adj root a (R' a)) ∧ Ev (fun c => lo ≤ c) n h n' h' := by
  have hN := ok.few
  intro j
  induction j with
  | zero =>
    intro i k n h v R hij hk gr ta x hR hn f
    obtain ⟨k, rfl⟩ : ∃ j, k = j + 1 := ⟨k - 1, by omega⟩
    rw [R1_Front_l1_s]
    unfold R1_Front_b1 R1_Front_r5
    try dsimp only
    rw [st_lss, onB_ite, run_ite, if_neg (by simp; omega)]
    have : i = N := by omega
    subst this
    exact ⟨n, h, v, R, rfl, x, hR, Ev.refl f⟩
  | succ j ih =>
    intro i k n h v R hij hk gr ta x hR hn f
    obtain ⟨k, rfl⟩ : ∃ j, k = j + 1 := ⟨k - 1, by omega⟩
    have hi : i < N := by omega
    rw [R1_Front_l1_s]
    unfold R1_Front_b1 R1_Front_r5
    try dsimp only
    rw [st_lss, onB_ite, run_ite, if_pos (by simp; omega)]
    unfold R1_Front_r7 R1_Front_r8
    try dsimp only
    obtain ⟨n1, h1, lv, zs, e1, y1, so1, m1, ev1⟩ := rfront_l4 (F := F) (n0 := n) (a := i) (x6 := v) hF ok hr hi (by omega) (by omega) hall (E := fun x0 x1 x5 x6 x7 x8 x9 => R1_Front_k3 F (R1_Front_l1 F E k) x0 x1 x5 x6 x7 x8 x9) N 0 F n h nsl [] (by omega) (by omega) gr ta NewI.nil List.Pairwise.nil (by simp) (Nat.le_refl _) f
    have hle := ev1.le
    rw [show (Value.slice none 0 0) = nsl from rfl, show (Value.int .i64 0) = i64 ((0 : Nat) : Int) from rfl, e1]
    unfold R1_Front_k3 R1_Front_r18
    try dsimp only
    have x1 : RL h1 lo n v i R := x.keep fun c _ hc => ev1.no hc
    obtain ⟨h2, v2, e2, x2, ev2⟩ := x1.push (β := Value) (bytes := 24) (y := nsl) ev1.f y1 hn hle (by omega)
    rw [show (Value.slice none 0 0) = nsl from rfl, e2]
    unfold R1_Front_k2 R1_Front_r6
    try dsimp only
    rw [sx_add (by omega)]
    have ev12 : Ev (fun c => lo ≤ c) n h (n1 + 2) h2 := (ev1.mono fun _ _ h => h.elim).trans ev2 fun _ _ h => h
    obtain ⟨n', h', v', R', q1, q2, q3, q4⟩ := ih (i + 1) k (n1 + 2) h2 v2 _ (by omega) (by omega) (gr.ev ev12 (by omega) fun c hc => by omega) (ta.ev ev12 (by omega) (by omega)) x2 (fun a ha => by
      by_cases e : a = i
      · subst e
        rw [if_pos rfl]
        refine ⟨so1, fun z => ?_⟩
        rw [m1]
        unfold Frt
        constructor
        · rintro (h | ⟨c, b, _, _, h1, h2, h3, h4⟩)
          · cases h
          · exact ⟨b, h2, c, h1.1, h3, h1, h4⟩
        · rintro ⟨b, h1, c, h2, h3, h4, h5⟩
          exact .inr ⟨c, b, Nat.zero_le _, rch_few ok hr h2, h4, h1, h3, h5⟩
      · rw [if_neg e]; exact hR a (by omega)) (by omega) ev12.f
    exact ⟨n', h', v', R', q1, q2, q3, ev12.trans q4 fun _ _ h => h⟩

theorem rfront_spec {F n m : Nat} {tv : Value} {h : H} (hF : 1000000 ≤ F) (gr : Gr h m tv N adj) (hm : m ≤ n) (ok : GOk N adj) (hr : root < N) (f : Fr n h) :
    ∃ n' h' v R, (R1_Front F tv (i64 (root : Int))).run n h = some (v, n', h') ∧ RL h' n n' v N R ∧ (∀ a, a < N → FRow adj root a (R a)) ∧ Ev No n h n' h' := by
  have hN := ok.few
  unfold R1_Front R1_Front_r0 R1_Front_r1
  try dsimp only
  rw [gr.len]
  unfold R1_Front_r2 R1_Front_r3
  try dsimp only
  obtain ⟨n1, h1, ba, all, e1, t1, q1, lb1, ev1⟩ := reach_one (F := F) (root := root) (w := -1) hF gr hm ok f
  have hle := ev1.le
  have hba := TV.lt t1 ev1.f
  have e1' := e1 (fun v18 => R1_Front_r4 F tv (i64 (root : Int)) (i64 N) nsl v18 fun x0 x1 x5 x6 x7 x8 => R1_Front_l1 F (fun x6 => R1_Front_k0 F x6) F x0 x1 x5 x6 x7 x8)
  obtain ⟨n2, h2, v2, R, e2, x2, r2, ev2⟩ := rfront_l1 (F := F) (lo := n1) hF ok hr (by omega) hba (fun q => (q1 q).trans (rchS_rch hr)) (E := fun x6 => R1_Front_k0 F x6) N 0 F n1 h1 nsl (fun _ => []) (by omega) (by omega) (gr.no ev1 hm) t1 RL.nil (fun a ha => by omega) (Nat.le_refl _) ev1.f
  refine ⟨n2, h2, v2, R, ?_, ?_, r2, ev1.trans ev2 fun c hc q => by omega⟩
  · refine Eq.trans e1' ?_
    unfold R1_Front_r4
    try dsimp only
    rw [show (Value.int .i64 0) = i64 ((0 : Nat) : Int) from rfl, e2]
    rfl
  · obtain ⟨ob, iv, ib, g, ho, hrr⟩ := x2
    exact ⟨ob, iv, ib, g, fun h0 => ⟨by have := (ho h0).1; omega, (ho h0).2⟩, fun j hj => ⟨(hrr j hj).1, fun h0 => ⟨by have := ((hrr j hj).2 h0).1; omega, ((hrr j hj).2 h0).2⟩⟩⟩
end

end Go.Fw
