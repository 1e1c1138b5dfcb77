/-
  haruspexref1.Far, Walk and Path, said of the abstract machine.
-/
import Derived.Test.YtddafkflndhnfaaDoorLawDC
set_option maxRecDepth 20000
set_option linter.unusedVariables false
namespace Go.Fw

section
variable {N t : Nat} {adj : Nat → List Nat}

/-- A table of how far it is, and one, on its way; nought: not known. -/
structure Fi (adj : Nat → List Nat) (N t : Nat) (e : Nat → Nat) : Prop where
  snd : ∀ i, i < N → ∀ k, e i = k + 1 → Wk adj t i k
  small : ∀ i, i < N → e i ≠ 0 → e i + cnt N (fun m => e m != 0) ≤ N
  at_ : e t = 1

theorem cnt_upd {e : Nat → Nat} {i v : Nat} (hi : i < N) (hv : v ≠ 0) : cnt N (fun m => upd e i v m != 0) + (if e i = 0 then 1 else 0) = cnt N (fun m => e m != 0) := by
  by_cases h : e i = 0
  · rw [if_pos h]
    have eq : (fun m => upd e i v m != 0) = putM (fun m => e m != 0) i := by
      funext m
      unfold upd putM
      by_cases q : m = i
      · rw [if_pos q, decide_eq_true q, Bool.or_true]; simpa using hv
      · rw [if_neg q, decide_eq_false q, Bool.or_false]
    have := cnt_put (s := fun m => e m != 0) (a := i) (by simp [h]) N
    rw [if_pos hi] at this
    rw [eq]; exact this
  · rw [if_neg h]
    have eq : (fun m => upd e i v m != 0) = fun m => e m != 0 := by
      funext m
      unfold upd
      by_cases q : m = i
      · rw [if_pos q, q, Bool.eq_iff_iff]; simp [hv, h]
      · rw [if_neg q]
    rw [eq]; rfl

theorem Fi.put {e : Nat → Nat} (x : Fi adj N t e) (ht : t < N) {i b : Nat} (hi : i < N) (hb : b < N) (hbi : b ∈ adj i) (h0 : e b ≠ 0) (hc : e i = 0 ∨ e b + 1 < e i) : Fi adj N t (upd e i (e b + 1)) := by
  have hcu := cnt_upd (e := e) (v := e b + 1) hi (by omega)
  have hti : i ≠ t := by
    rintro rfl
    have := x.at_
    omega
  refine ⟨fun q hq k hk => ?_, fun q hq hne => ?_, ?_⟩
  · by_cases h : q = i
    · subst h
      rw [upd_same] at hk
      obtain ⟨j, hj⟩ : ∃ j, e b = j + 1 := ⟨e b - 1, by omega⟩
      have : k = j + 1 := by omega
      subst this
      exact .succ hbi (x.snd b hb j hj)
    · rw [upd_ne h] at hk; exact x.snd q hq k hk
  · by_cases h : q = i
    · subst h
      rw [upd_same]
      have h1 := x.small b hb h0
      rcases hc with h2 | h2
      · rw [if_pos h2] at hcu; omega
      · rw [if_neg (by omega)] at hcu
        have := x.small q hq (by omega)
        omega
    · rw [upd_ne h] at hne ⊢
      have := x.small q hq hne
      split at hcu <;> omega
  · rw [upd_ne (Ne.symm hti)]; exact x.at_

/-- What is still to come. -/
def sumN : Nat → (Nat → Nat) → Nat
  | 0, _ => 0
  | n + 1, g => sumN n g + g n
theorem sumN_congr {g g' : Nat → Nat} : ∀ n, (∀ i, i < n → g i = g' i) → sumN n g = sumN n g'
  | 0, _ => rfl
  | n + 1, h => by unfold sumN; rw [sumN_congr n fun i hi => h i (by omega), h n (by omega)]
theorem sumN_le {g : Nat → Nat} {c : Nat} : ∀ n, (∀ i, i < n → g i ≤ c) → sumN n g ≤ n * c
  | 0, _ => by unfold sumN; omega
  | n + 1, h => by
    unfold sumN
    have := sumN_le n fun i hi => h i (by omega)
    have := h n (by omega)
    rw [Nat.succ_mul]; omega
theorem sumN_upd {g : Nat → Nat} {i v : Nat} : ∀ n, i < n → sumN n (upd g i v) + g i = sumN n g + v
  | 0, h => by omega
  | n + 1, h => by
    unfold sumN
    by_cases e : i = n
    · subst e
      rw [sumN_congr i (g := upd g i v) (g' := g) fun j hj => upd_ne (by omega), upd_same]
      omega
    · have := sumN_upd (g := g) (i := i) (v := v) n (by omega)
      rw [upd_ne (show n ≠ i from Ne.symm e)]
      omega

/-- How much there is to gain. -/
def gain (N : Nat) (e : Nat → Nat) : Nat := sumN N fun i => if e i = 0 then N + 1 else e i

theorem gain_put {e : Nat → Nat} {i v : Nat} (hi : i < N) (hv : v ≠ 0) (hlt : v < (if e i = 0 then N + 1 else e i)) : gain N (upd e i v) < gain N e := by
  have h1 := sumN_upd (g := fun i => if e i = 0 then N + 1 else e i) (i := i) (v := v) N hi
  have h2 : gain N (upd e i v) = sumN N (upd (fun i => if e i = 0 then N + 1 else e i) i v) := sumN_congr N fun j hj => by
    unfold upd
    by_cases h : j = i
    · rw [if_pos h, if_pos h, if_neg hv]
    · rw [if_neg h, if_neg h]
  unfold gain at *
  rw [h2]
  try dsimp only at h1
  omega

theorem Fi.gain {e : Nat → Nat} (x : Fi adj N t e) {i b : Nat} (hi : i < N) (hb : b < N) (h0 : e b ≠ 0) (hc : e i = 0 ∨ e b + 1 < e i) : gain N (upd e i (e b + 1)) < Fw.gain N e := by
  refine gain_put hi (by omega) ?_
  have := x.small b hb h0
  have hcu := cnt_upd (e := e) (v := e b + 1) hi (by omega)
  rcases hc with h | h
  · rw [if_pos h] at hcu; rw [if_pos h]; omega
  · rw [if_neg (by omega)]; exact h

/-- All that may be told is told. -/
def Fclosed (adj : Nat → List Nat) (e : Nat → Nat) (i : Nat) : Prop := ∀ b, b ∈ adj i → e b ≠ 0 → e i ≠ 0 ∧ e i ≤ e b + 1

theorem Fi.far {e : Nat → Nat} (x : Fi adj N t e) (hlt : ∀ a, a < N → ∀ b, b ∈ adj a → b < N) (hc : ∀ i, i < N → Fclosed adj e i) : FarOf adj N t e := by
  have up : ∀ a k, a < N → Wk adj t a k → e a ≠ 0 ∧ e a ≤ k + 1 := by
    intro a k ha w
    induction w with
    | zero => rw [x.at_]; omega
    | @succ a b k hb _ ih =>
      have := ih (hlt a ha b hb)
      have := hc a ha b hb this.1
      omega
  intro a ha k
  constructor
  · intro h
    refine ⟨x.snd a ha k h, fun l hl => ?_⟩
    have := up a l ha hl
    omega
  · intro h
    have h1 := up a k ha h.1
    obtain ⟨j, hj⟩ : ∃ j, e a = j + 1 := ⟨e a - 1, by omega⟩
    have := h.2 j (x.snd a ha j hj)
    omega

/-- The table as it lies. -/
abbrev TF (h : H) (bd N : Nat) (e : Nat → Nat) : Prop := TI h bd N fun i => (e i : Int) - 1

theorem TF.put {β : Type} {n bd i v : Nat} {h : H} {e : Nat → Nat} (x : TF h bd N e) (f : Fr n h) (hi : i < N) :
    ∃ h', (∀ k : Value → M β, (bnd (opIndexAddr 1 (sl bd 0 N N) (i64 i)) fun p => bnd (opStore p (i64 ((v : Int) - 1))) k).run n h = (k undef).run n h') ∧ TF h' bd N (upd e i v) ∧ Ev (fun c => c = bd) n h n h' := by
  obtain ⟨h', e1, t1, ev1⟩ := TI.set (β := β) x f hi (z := (v : Int) - 1)
  refine ⟨h', e1, ?_, ev1⟩
  have eq : (upd (fun i => (e i : Int) - 1) i ((v : Int) - 1)) = fun j => ((upd e i v j : Nat) : Int) - 1 := by
    funext j; unfold upd
    by_cases q : j = i
    · rw [if_pos q, if_pos q]
    · rw [if_neg q, if_neg q]
  unfold TF
  rw [← eq]; exact t1

theorem far_l4 {F m bd i lo : Nat} {tv : Value} (hF : 1000000 ≤ F) (ok : GOk N adj) (ht : t < N) (hi : i < N) (hml : m ≤ lo) (hbd : lo ≤ bd) {E : Value → Value → Value → Value → M Value} : ∀ j p k n (h : H) e T, p + j = (adj i).length → j < k → Gr h m tv N adj → TF h bd N e → Fi adj N t e → (∀ b, b ∈ (adj i).take p → e b ≠ 0 → e i ≠ 0 ∧ e i ≤ e b + 1) → Fr n h →
    ∃ h' e' T', (R1_Far_l4 F E k tv (sl bd 0 N N) (bo T) (i64 (i : Nat)) (i64 (p : Nat))).run n h = (E tv (sl bd 0 N N) (bo T') (i64 (i : Nat))).run n h' ∧ TF h' bd N e' ∧ Fi adj N t e' ∧ (T' = true → T = true ∨ gain N e' < gain N e) ∧ (T' = false → e' = e ∧ T = false ∧ Fclosed adj e i) ∧ gain N e' ≤ gain N e ∧ Ev (fun c => c = bd) n h n h' := by
  have hN := ok.few
  have hs := ok.short i hi
  intro j
  induction j with
  | zero =>
    intro p k n h e T hpj hk gr x fi hdone f
    obtain ⟨k, rfl⟩ : ∃ j, k = j + 1 := ⟨k - 1, by omega⟩
    obtain ⟨rv, e1, h0, f0, k0, hr⟩ := gr.row (β := Value) (n := n) hi
    have rd : RdI h rv (nats (adj i)) := hr.kept f0 k0
    rw [R1_Far_l4_s]
    unfold R1_Far_b4 R1_Far_r15
    try dsimp only
    rw [e1, rd.lenI, nats_len, st_lss, onB_ite, run_ite, if_neg (by simp; omega)]
    rw [List.take_of_length_le (by omega)] at hdone
    exact ⟨h, e, T, rfl, x, fi, fun h => .inl h, fun h => ⟨rfl, h, hdone⟩, Nat.le_refl _, Ev.refl f⟩
  | succ j ih =>
    intro p k n h e T hpj hk gr x fi hdone f
    obtain ⟨k, rfl⟩ : ∃ j, k = j + 1 := ⟨k - 1, by omega⟩
    obtain ⟨rv, e1, h0, f0, k0, hr⟩ := gr.row (β := Value) (n := n) hi
    have rd : RdI h rv (nats (adj i)) := hr.kept f0 k0
    have hp : p < (adj i).length := by omega
    have hpl : p < (nats (adj i)).length := by rw [nats_len]; exact hp
    rw [R1_Far_l4_s]
    unfold R1_Far_b4 R1_Far_r15
    try dsimp only
    rw [e1, rd.lenI, nats_len, st_lss, onB_ite, run_ite, if_pos (by simp; omega)]
    unfold R1_Far_r17
    try dsimp only
    have hbm : (adj i)[p] ∈ adj i := List.getElem_mem hp
    have hbN := ok.lt i hi _ hbm
    have etake : (adj i).take (p + 1) = (adj i).take p ++ [(adj i)[p]] := List.take_succ_eq_append_getElem hp
    rw [e1, rd.getI hpl, nats_get]
    generalize (adj i)[p] = b at *
    rw [TI.get x hbN]
    unfold R1_Far_r18
    try dsimp only
    rw [st_geq, onB_ite, run_ite]
    have skip : (e b ≠ 0 → e i ≠ 0 ∧ e i ≤ e b + 1) → ∃ h' e' T', (R1_Far_k5 F (R1_Far_l4 F E k) tv (sl bd 0 N N) (bo T) (i64 (i : Nat)) (i64 (p : Nat))).run n h = (E tv (sl bd 0 N N) (bo T') (i64 (i : Nat))).run n h' ∧ TF h' bd N e' ∧ Fi adj N t e' ∧ (T' = true → T = true ∨ gain N e' < gain N e) ∧ (T' = false → e' = e ∧ T = false ∧ Fclosed adj e i) ∧ gain N e' ≤ gain N e ∧ Ev (fun c => c = bd) n h n h' := fun hcl => by
      unfold R1_Far_k5 R1_Far_r16
      try dsimp only
      rw [sx_add (by omega)]
      exact ih (p + 1) k n h e T (by omega) (by omega) gr x fi (fun q hq => by
        rw [etake, List.mem_append, List.mem_singleton] at hq
        rcases hq with hq | rfl
        · exact hdone q hq
        · exact hcl) f
    by_cases h0 : e b = 0
    · rw [if_neg (by simp; omega), onB_ite, run_ite, if_neg (by decide)]
      exact skip fun h => absurd h0 h
    · rw [if_pos (by simp; omega), TI.get x hi, st_lss, onB_ite, run_ite]
      have hsb := fi.small b hbN h0
      have take_ : (e i = 0 ∨ e b + 1 < e i) → ∃ h' e' T', (R1_Far_r19 F tv (sl bd 0 N N) (i64 (i : Nat)) (i64 (p : Nat)) (i64 ((e b : Int) - 1)) fun x0 x5 x8 x9 => R1_Far_r20 F x0 x5 x8 x9 fun x0 x5 x7 x8 x9 => R1_Far_k5 F (R1_Far_l4 F E k) x0 x5 x7 x8 x9).run n h = (E tv (sl bd 0 N N) (bo T') (i64 (i : Nat))).run n h' ∧ TF h' bd N e' ∧ Fi adj N t e' ∧ (T' = true → T = true ∨ gain N e' < gain N e) ∧ (T' = false → e' = e ∧ T = false ∧ Fclosed adj e i) ∧ gain N e' ≤ gain N e ∧ Ev (fun c => c = bd) n h n h' := fun hc => by
        unfold R1_Far_r19
        try dsimp only
        rw [sx_add (by omega)]
        obtain ⟨h2, e2, x2, ev2⟩ := TF.put (β := Value) (v := e b + 1) x f hi
        rw [show ((e b : Int) - 1 + 1) = ((e b + 1 : Nat) : Int) - 1 by omega, e2]
        unfold R1_Far_r20 R1_Far_k5 R1_Far_r16
        try dsimp only
        rw [sx_add (by omega)]
        have fi2 := fi.put ht hi hbN hbm h0 hc
        have hg := fi.gain hi hbN h0 hc
        have hbi : b ≠ i := by rintro rfl; omega
        obtain ⟨h', e', T', q1, q2, q3, q4, q5, q6, q7⟩ := ih (p + 1) k n h2 (upd e i (e b + 1)) true (by omega) (by omega) (gr.ev ev2 (by have := TV.lt x f; omega) fun c hc => by omega) x2 fi2 (fun q hq hq0 => by
          rw [etake, List.mem_append, List.mem_singleton] at hq
          rw [upd_same]
          by_cases hqi : q = i
          · subst hqi; rw [upd_same]; omega
          · rw [upd_ne hqi] at hq0 ⊢
            rcases hq with hq | rfl
            · have := hdone q hq hq0
              omega
            · omega) ev2.f
        exact ⟨h', e', T', q1, q2, q3, fun _ => .inr (by omega), fun h => (by have := (q5 h).2.1; cases this), by omega, ev2.trans q7 fun _ _ h => h⟩
      by_cases hi0 : e i = 0
      · rw [if_pos (by simp; omega), onB_ite, run_ite, if_pos rfl]
        exact take_ (.inl hi0)
      · rw [if_neg (by simp; omega), TI.get x hi, sx_add (by omega), st_gtr, onB_ite, run_ite]
        by_cases hlt : e b + 1 < e i
        · rw [if_pos (by simp; omega)]
          exact take_ (.inr hlt)
        · rw [if_neg (by simp; omega)]
          exact skip fun _ => ⟨hi0, by omega⟩

theorem far_l2 {F m bd lo : Nat} {tv : Value} (hF : 1000000 ≤ F) (ok : GOk N adj) (ht : t < N) (hml : m ≤ lo) (hbd : lo ≤ bd) {E : Value → Value → Value → M Value} : ∀ j i k n (h : H) e T, i + j = N → j < k → Gr h m tv N adj → TF h bd N e → Fi adj N t e → Fr n h →
    ∃ h' e' T', (R1_Far_l2 F E k tv (sl bd 0 N N) (bo T) (i64 (i : Nat))).run n h = (E tv (sl bd 0 N N) (bo T')).run n h' ∧ TF h' bd N e' ∧ Fi adj N t e' ∧ (T' = true → T = true ∨ gain N e' < gain N e) ∧ (T' = false → e' = e ∧ T = false ∧ ∀ a, i ≤ a → a < N → Fclosed adj e a) ∧ gain N e' ≤ gain N e ∧ Ev (fun c => c = bd) n h n h' := by
  have hN := ok.few
  intro j
  induction j with
  | zero =>
    intro i k n h e T hij hk gr x fi f
    obtain ⟨k, rfl⟩ : ∃ j, k = j + 1 := ⟨k - 1, by omega⟩
    rw [R1_Far_l2_s]
    unfold R1_Far_b2 R1_Far_r12
    try dsimp only
    rw [gr.len, st_lss, onB_ite, run_ite, if_neg (by simp; omega)]
    exact ⟨h, e, T, rfl, x, fi, fun h => .inl h, fun h => ⟨rfl, h, fun a h1 h2 => by omega⟩, Nat.le_refl _, Ev.refl f⟩
  | succ j ih =>
    intro i k n h e T hij hk gr x fi f
    obtain ⟨k, rfl⟩ : ∃ j, k = j + 1 := ⟨k - 1, by omega⟩
    have hi : i < N := by omega
    have hs := ok.short i hi
    rw [R1_Far_l2_s]
    unfold R1_Far_b2 R1_Far_r12
    try dsimp only
    rw [gr.len, st_lss, onB_ite, run_ite, if_pos (by simp; omega)]
    unfold R1_Far_r14
    try dsimp only
    obtain ⟨h1, e1, T1, q1, q2, q3, q4, q5, q6, q7⟩ := far_l4 (F := F) (lo := lo) (m := m) (bd := bd) hF ok ht hi hml hbd (E := fun x0 x5 x7 x8 => R1_Far_k3 F (R1_Far_l2 F E k) x0 x5 x7 x8) (adj i).length 0 F n h e T (by omega) (by omega) gr x fi (fun b hb => by rw [List.take_zero] at hb; cases hb) f
    rw [show (Value.int .i64 0) = i64 ((0 : Nat) : Int) from rfl, q1]
    unfold R1_Far_k3 R1_Far_r13
    try dsimp only
    rw [sx_add (by omega)]
    obtain ⟨h', e', T', p1, p2, p3, p4, p5, p6, p7⟩ := ih (i + 1) k n h1 e1 T1 (by omega) (by omega) (gr.ev q7 (by have := TV.lt x f; omega) fun c hc => by omega) q2 q3 q7.f
    refine ⟨h', e', T', p1, p2, p3, fun hT => ?_, fun hT => ?_, by omega, q7.trans p7 fun _ _ h => h⟩
    · rcases p4 hT with h | h
      · rcases q4 h with h | h
        · exact .inl h
        · exact .inr (by omega)
      · exact .inr (by omega)
    · obtain ⟨r1, r2, r3⟩ := p5 hT
      obtain ⟨d1, d2, d3⟩ := q5 r2
      subst d1
      refine ⟨r1, d2, fun a h1 h2 => ?_⟩
      by_cases ea : a = i
      · subst ea; exact d3
      · exact r3 a (by omega) h2

theorem far_l1 {F m bd lo : Nat} {tv : Value} (hF : 1000000 ≤ F) (ok : GOk N adj) (ht : t < N) (hml : m ≤ lo) (hbd : lo ≤ bd) {E : Value → M Value} : ∀ j k n (h : H) e, gain N e ≤ j → j + 1 < k → Gr h m tv N adj → TF h bd N e → Fi adj N t e → Fr n h →
    ∃ h' e', (R1_Far_l1 F E k tv (sl bd 0 N N) (bo true)).run n h = (E (sl bd 0 N N)).run n h' ∧ TF h' bd N e' ∧ Fi adj N t e' ∧ FarOf adj N t e' ∧ Ev (fun c => c = bd) n h n h' := by
  have hN := ok.few
  intro j
  induction j with
  | zero =>
    intro k n h e hj hk gr x fi f
    obtain ⟨k, rfl⟩ : ∃ j, k = j + 2 := ⟨k - 2, by omega⟩
    rw [R1_Far_l1_s]
    unfold R1_Far_b1 R1_Far_r9
    try dsimp only
    rw [onB_ite, run_ite, if_pos rfl]
    unfold R1_Far_r10 R1_Far_r11
    try dsimp only
    obtain ⟨h1, e1, T1, q1, q2, q3, q4, q5, q6, q7⟩ := far_l2 (F := F) (lo := lo) (m := m) (bd := bd) hF ok ht hml hbd (E := fun x0 x5 x7 => R1_Far_l1 F E (k + 1) x0 x5 x7) N 0 F n h e false (by omega) (by omega) gr x fi f
    rw [show (Value.bool false) = bo false from rfl, show (Value.int .i64 0) = i64 ((0 : Nat) : Int) from rfl, q1]
    cases T1 with
    | true =>
      rcases q4 rfl with h | h
      · cases h
      · omega
    | false =>
      obtain ⟨r1, _, r3⟩ := q5 rfl
      subst r1
      rw [R1_Far_l1_s]
      unfold R1_Far_b1 R1_Far_r9
      try dsimp only
      rw [onB_ite, run_ite, if_neg (by decide)]
      exact ⟨h1, e1, rfl, q2, q3, q3.far ok.lt fun i hi => r3 i (Nat.zero_le _) hi, q7⟩
  | succ j ih =>
    intro k n h e hj hk gr x fi f
    obtain ⟨k, rfl⟩ : ∃ j, k = j + 2 := ⟨k - 2, by omega⟩
    rw [R1_Far_l1_s]
    unfold R1_Far_b1 R1_Far_r9
    try dsimp only
    rw [onB_ite, run_ite, if_pos rfl]
    unfold R1_Far_r10 R1_Far_r11
    try dsimp only
    obtain ⟨h1, e1, T1, q1, q2, q3, q4, q5, q6, q7⟩ := far_l2 (F := F) (lo := lo) (m := m) (bd := bd) hF ok ht hml hbd (E := fun x0 x5 x7 => R1_Far_l1 F E (k + 1) x0 x5 x7) N 0 F n h e false (by omega) (by omega) gr x fi f
    rw [show (Value.bool false) = bo false from rfl, show (Value.int .i64 0) = i64 ((0 : Nat) : Int) from rfl, q1]
    cases T1 with
    | true =>
      rcases q4 rfl with h | h
      · cases h
      · obtain ⟨h', e', p1, p2, p3, p4, p5⟩ := ih (k + 1) n h1 e1 (by omega) (by omega) (gr.ev q7 (by have := TV.lt x f; omega) fun c hc => by omega) q2 q3 q7.f
        exact ⟨h', e', p1, p2, p3, p4, q7.trans p5 fun _ _ h => h⟩
    | false =>
      obtain ⟨r1, _, r3⟩ := q5 rfl
      subst r1
      rw [R1_Far_l1_s]
      unfold R1_Far_b1 R1_Far_r9
      try dsimp only
      rw [onB_ite, run_ite, if_neg (by decide)]
      exact ⟨h1, e1, rfl, q2, q3, q3.far ok.lt fun i hi => r3 i (Nat.zero_le _) hi, q7⟩

theorem far_l7 {F m bd bg : Nat} {tv : Value} (hF : 1000000 ≤ F) (hN : N ≤ 600) (hm : m ≤ bd) (hbg : bg ≠ bd) {E : Value → Value → M Value} : ∀ j i k n (h : H) e, i + j = N → j < k → Gr h m tv N adj → TB h bg N (fun q => decide (q = t)) → TF h bd N e → (∀ q, q < i → e q = if q = t then 1 else 0) → Fr n h →
    ∃ h' e', (R1_Far_l7 F E k tv (sl bg 0 N N) (sl bd 0 N N) (i64 (i : Nat))).run n h = (E tv (sl bd 0 N N)).run n h' ∧ TF h' bd N e' ∧ (∀ q, q < N → e' q = if q = t then 1 else 0) ∧ Ev (fun c => c = bd) n h n h' := by
  intro j
  induction j with
  | zero =>
    intro i k n h e hij hk gr tb x he f
    obtain ⟨k, rfl⟩ : ∃ j, k = j + 1 := ⟨k - 1, by omega⟩
    rw [R1_Far_l7_s]
    unfold R1_Far_b7 R1_Far_r3
    try dsimp only
    rw [gr.len, st_lss, onB_ite, run_ite, if_neg (by simp; omega)]
    exact ⟨h, e, rfl, x, fun q hq => he q (by omega), Ev.refl f⟩
  | succ j ih =>
    intro i k n h e hij hk gr tb x he f
    obtain ⟨k, rfl⟩ : ∃ j, k = j + 1 := ⟨k - 1, by omega⟩
    have hi : i < N := by omega
    rw [R1_Far_l7_s]
    unfold R1_Far_b7 R1_Far_r3
    try dsimp only
    rw [gr.len, st_lss, onB_ite, run_ite, if_pos (by simp; omega)]
    unfold R1_Far_r5
    try dsimp only
    obtain ⟨h1, e1, x1, ev1⟩ := TF.put (β := Value) (v := 0) x f hi
    rw [show (Value.int .i64 (-1)) = i64 (((0 : Nat) : Int) - 1) from rfl, e1]
    unfold R1_Far_r6
    try dsimp only
    have tb1 : TB h1 bg N (fun q => decide (q = t)) := tb.ev ev1 (TV.lt tb f) hbg
    have gr1 := gr.ev ev1 (by have := TV.lt x f; omega) fun c hc => by omega
    rw [TB.get tb1 hi, onB_ite, run_ite]
    try dsimp only
    by_cases e0 : i = t
    · rw [if_pos (decide_eq_true e0)]
      unfold R1_Far_r7
      try dsimp only
      obtain ⟨h2, e2, x2, ev2⟩ := TF.put (β := Value) (v := 1) x1 ev1.f hi
      rw [show (Value.int .i64 0) = i64 (((1 : Nat) : Int) - 1) from rfl, e2]
      unfold R1_Far_k8 R1_Far_r4
      try dsimp only
      rw [sx_add (by omega)]
      obtain ⟨h', e', q1, q2, q3, q4⟩ := ih (i + 1) k n h2 _ (by omega) (by omega) (gr1.ev ev2 (by have := TV.lt x f; omega) fun c hc => by omega) (tb1.ev ev2 (TV.lt tb f) hbg) x2 (fun q hq => by
        by_cases h : q = i
        · subst h; rw [upd_same, if_pos e0]
        · rw [upd_ne h, upd_ne h]; exact he q (by omega)) ev2.f
      exact ⟨h', e', q1, q2, q3, (ev1.trans ev2 fun _ _ h => h).trans q4 fun _ _ h => h⟩
    · rw [if_neg (show ¬ decide (i = t) = true by simpa using e0)]
      unfold R1_Far_k8 R1_Far_r4
      try dsimp only
      rw [sx_add (by omega)]
      obtain ⟨h', e', q1, q2, q3, q4⟩ := ih (i + 1) k n h1 _ (by omega) (by omega) gr1 tb1 x1 (fun q hq => by
        by_cases h : q = i
        · subst h; rw [upd_same, if_neg e0]
        · rw [upd_ne h]; exact he q (by omega)) ev1.f
      exact ⟨h', e', q1, q2, q3, ev1.trans q4 fun _ _ h => h⟩

theorem cnt_but {t : Nat} : ∀ N, t < N → cnt N (fun m => decide (m = t)) + 1 = N
  | 0, h => by omega
  | N + 1, h => by
    have h0 := cnt_put (s := fun _ => false) (a := t) rfl (N + 1)
    rw [if_pos h] at h0
    have e1 : putM (fun _ => false) t = fun m => decide (m = t) := by funext m; unfold putM; rw [Bool.false_or]
    rw [e1] at h0
    have e2 : cnt (N + 1) (fun _ => false) = N + 1 := by
      unfold cnt
      rw [List.filter_eq_self.2 (by simp), List.length_range]
    omega

theorem cnt_congr {s s' : Nat → Bool} (h : ∀ m, m < N → s m = s' m) : cnt N s = cnt N s' := by
  unfold cnt
  rw [List.filter_congr fun m hm => by rw [h m (List.mem_range.1 hm)]]

theorem rfar_spec {F n m bg : Nat} {tv : Value} {h : H} (hF : 1000000 ≤ F) (gr : Gr h m tv N adj) (hm : m ≤ n) (ok : GOk N adj) (ht : t < N) (tb : TB h bg N (fun q => decide (q = t))) (f : Fr n h) :
    ∃ n' h' bd e, (R1_Far F tv (sl bg 0 N N)).run n h = some (sl bd 0 N N, n', h') ∧ TF h' bd N e ∧ FarOf adj N t e ∧ (∀ c, c < N → e c ≤ N) ∧ n ≤ bd ∧ bd < n' ∧ Ev No n h n' h' := by
  have hN := ok.few
  unfold R1_Far R1_Far_r0 R1_Far_r1
  try dsimp only
  obtain ⟨h1, e1, t1, ev1⟩ := TI.make (β := Value) (bytes := 8) (z := 0) f (show N ≤ 100000 by omega) (by decide)
  rw [gr.len, show (Value.int .i64 0) = i64 0 from rfl, e1]
  have gr1 := gr.no ev1 hm
  have hbg := TV.lt tb f
  have tb1 := tb.ev ev1 hbg (fun h => h)
  unfold R1_Far_r2
  try dsimp only
  have x1 : TF h1 n N (fun _ => 1) := t1
  obtain ⟨h2, e2, q1, x2, he2, ev2⟩ := far_l7 (F := F) (m := m) (bd := n) (bg := bg) (t := t) hF hN hm (by omega) (E := fun x0 x5 => R1_Far_k6 F x0 x5) N 0 F (n + 1) h1 (fun _ => 1) (by omega) (by omega) gr1 tb1 x1 (fun q hq => by omega) ev1.f
  rw [show (Value.int .i64 0) = i64 ((0 : Nat) : Int) from rfl, q1]
  unfold R1_Far_k6 R1_Far_r8
  try dsimp only
  have hc1 : cnt N (fun m => e2 m != 0) + 1 = N := by
    have e : cnt N (fun m => e2 m != 0) = cnt N fun m => decide (m = t) := cnt_congr fun m hm => by
      rw [he2 m hm]
      by_cases h : m = t
      · rw [if_pos h, decide_eq_true h]; rfl
      · rw [if_neg h, decide_eq_false h]; rfl
    rw [e]; exact cnt_but N ht
  have fi2 : Fi adj N t e2 := ⟨fun i hi k hk => by
    rw [he2 i hi] at hk
    split at hk
    · rename_i h; subst h
      have : k = 0 := by omega
      subst this; exact .zero
    · omega, fun i hi h0 => by
    rw [he2 i hi] at h0 ⊢
    split
    · omega
    · rename_i h; rw [if_neg h] at h0; exact absurd rfl h0, by rw [he2 t ht, if_pos rfl]⟩
  have hg : gain N e2 ≤ N * (N + 1) := sumN_le N fun i hi => by
    split
    · exact Nat.le_refl _
    · have := fi2.small i hi (by assumption); omega
  have hg2 : N * (N + 1) ≤ 600 * 601 := Nat.mul_le_mul hN (by omega)
  obtain ⟨h3, e3, p1, x3, fi3, far3, ev3⟩ := far_l1 (F := F) (lo := n) (m := m) (bd := n) hF ok ht hm (Nat.le_refl _) (E := fun x5 => R1_Far_k0 F x5) (gain N e2) F (n + 1) h2 e2 (Nat.le_refl _) (by omega) (gr1.ev ev2 (by omega) fun c hc => by omega) x2 fi2 ev2.f
  rw [show (Value.bool true) = bo true from rfl, p1]
  refine ⟨n + 1, h3, n, e3, rfl, x3, far3, fun c hc => ?_, Nat.le_refl _, by omega, ev3.f, by omega, fun c hc _ => ?_⟩
  · by_cases h0 : e3 c = 0
    · omega
    · have := fi3.small c hc h0; omega
  · rw [ev3.keep c (by omega) (by omega), ev2.keep c (by omega) (by omega), ev1.no hc]

/-! ## Walk -/

theorem walk_l3 {F bd n a : Nat} {x7 tv : Value} {m : Nat} {h : H} {far : Nat → Nat} (ok : GOk N adj) (gr : Gr h m tv N adj) (tf : TF h bd N far) (ha : a < N) (hpos : 2 ≤ far a) (hfar : ∀ c, c < N → far c ≤ 100000) {E : Value → Value → Value → Value → M Value} : ∀ j i k best, i + j = (adj a).length → j < k → Lst far ((adj a).take i) a best →
    ∃ best', (R1_Walk_l3 F E k tv (i64 (a : Nat)) (sl bd 0 N N) x7 (i64 best) (i64 (i : Nat))).run n h = (E tv (sl bd 0 N N) x7 (i64 best')).run n h ∧ Lst far (adj a) a best' := by
  have hs := ok.short a ha
  obtain ⟨rv, e1, h0, f0, k0, hr0⟩ := gr.row (β := Value) (n := n) ha
  have hr : RdI h rv (nats (adj a)) := hr0.kept f0 k0
  intro j
  induction j with
  | zero =>
    intro i k best hij hk hb
    obtain ⟨k, rfl⟩ : ∃ j, k = j + 1 := ⟨k - 1, by omega⟩
    rw [R1_Walk_l3_s]
    unfold R1_Walk_b3 R1_Walk_r7
    try dsimp only
    rw [e1, hr.lenI, nats_len, st_lss, onB_ite, run_ite, if_neg (by simp; omega)]
    rw [List.take_of_length_le (by omega)] at hb
    exact ⟨best, rfl, hb⟩
  | succ j ih =>
    intro i k best hij hk hb
    obtain ⟨k, rfl⟩ : ∃ j, k = j + 1 := ⟨k - 1, by omega⟩
    have hi : i < (adj a).length := by omega
    have hil : i < (nats (adj a)).length := by rw [nats_len]; exact hi
    rw [R1_Walk_l3_s]
    unfold R1_Walk_b3 R1_Walk_r7
    try dsimp only
    rw [e1, hr.lenI, nats_len, st_lss, onB_ite, run_ite, if_pos (by simp; omega)]
    unfold R1_Walk_r9
    try dsimp only
    rw [e1, hr.getI hil, nats_get]
    have hcN := ok.lt a ha (adj a)[i] (List.getElem_mem hi)
    have etake : (adj a).take (i + 1) = (adj a).take i ++ [(adj a)[i]] := List.take_succ_eq_append_getElem hi
    generalize (adj a)[i] = c at *
    have f1 := hfar c hcN
    have f2 := hfar a ha
    have keep : (¬ (far c + 1 = far a ∧ far c ≠ 0) ∨ ∃ b : Nat, best = (b : Int) ∧ b ≤ c) → ∃ best', (R1_Walk_k4 F (R1_Walk_l3 F E k) tv (i64 (a : Nat)) (sl bd 0 N N) x7 (i64 best) (i64 (i : Nat))).run n h = (E tv (sl bd 0 N N) x7 (i64 best')).run n h ∧ Lst far (adj a) a best' := fun hc => by
      unfold R1_Walk_k4 R1_Walk_r8
      try dsimp only
      rw [sx_add (by omega)]
      refine ih (i + 1) k best (by omega) (by omega) ?_
      rw [etake]
      rcases hb with ⟨h1, h2⟩ | ⟨b, h1, h2, h3, h4, h5⟩
      · rcases hc with hc | ⟨b, hc, _⟩
        · refine .inl ⟨h1, fun q hq => ?_⟩
          rw [List.mem_append, List.mem_singleton] at hq
          rcases hq with hq | rfl
          · exact h2 q hq
          · exact hc
        · omega
      · refine .inr ⟨b, h1, List.mem_append_left _ h2, h3, h4, fun q hq q1 q2 => ?_⟩
        rw [List.mem_append, List.mem_singleton] at hq
        rcases hq with hq | rfl
        · exact h5 q hq q1 q2
        · rcases hc with hc | ⟨b', hc, hle⟩
          · exact absurd ⟨q1, q2⟩ hc
          · omega
    have take_ : far c + 1 = far a → far c ≠ 0 → (∀ b : Nat, best = (b : Int) → c ≤ b) → ∃ best', (R1_Walk_r11 F tv (i64 (a : Nat)) (sl bd 0 N N) x7 (i64 (i : Nat)) (i64 (c : Nat)) fun x0 x1 x2 x7 x8 x9 => R1_Walk_k4 F (R1_Walk_l3 F E k) x0 x1 x2 x7 x8 x9).run n h = (E tv (sl bd 0 N N) x7 (i64 best')).run n h ∧ Lst far (adj a) a best' := fun q1 q2 q3 => by
      unfold R1_Walk_r11 R1_Walk_k4 R1_Walk_r8
      try dsimp only
      rw [sx_add (by omega)]
      refine ih (i + 1) k (c : Int) (by omega) (by omega) ?_
      rw [etake]
      refine .inr ⟨c, rfl, by simp, q1, q2, fun q hq q4 q5 => ?_⟩
      rw [List.mem_append, List.mem_singleton] at hq
      rcases hq with hq | rfl
      · rcases hb with ⟨h1, h2⟩ | ⟨b, h1, h2, h3, h4, h5⟩
        · exact absurd ⟨q4, q5⟩ (h2 q hq)
        · have := h5 q hq q4 q5
          have := q3 b h1
          omega
      · exact Nat.le_refl _
    unfold R1_Walk_r10
    try dsimp only
    rw [TI.get tf hcN, TI.get tf ha, sx_sub (by omega), st_eql, onB_ite, run_ite]
    by_cases h1 : far c + 1 = far a
    · rw [if_pos (by rw [beq_iff_eq]; omega), st_lss, onB_ite, run_ite]
      by_cases h3 : best < 0
      · rw [if_pos (by simpa using h3), onB_ite, run_ite, if_pos rfl]
        exact take_ h1 (by omega) fun b hb => by omega
      · rw [if_neg (by simpa using h3), st_lss, onB_ite, run_ite]
        by_cases h4 : (c : Int) < best
        · rw [if_pos (by simpa using h4)]
          exact take_ h1 (by omega) fun b hb => by omega
        · rw [if_neg (by simpa using h4)]
          exact keep (.inr ⟨best.toNat, by omega, by omega⟩)
    · rw [if_neg (by rw [beq_iff_eq]; omega), onB_ite, run_ite, if_neg (by decide)]
      exact keep (.inl fun q => h1 q.1)

theorem walk_l1 {F bf lo m : Nat} {tv : Value} {far : Nat → Nat} (hF : 1000000 ≤ F) (ok : GOk N adj) (hf : FarOf adj N t far) (ht : t < N) (hfar : ∀ c, c < N → far c ≤ 100000) (hbf : bf < lo ∧ m ≤ lo) {E : Value → M Value} : ∀ d k a n (h : H) v b (l : List Nat), Dst adj t a d → d < k → d ≤ 100000 → a < N → TF h bf N far → Gr h m tv N adj → GqI h v b (l ++ [a]) → (v ≠ nsl → lo ≤ b) → l.length + d ≤ 200000 → lo ≤ n → Fr n h →
    ∃ n' h' v' b' l', (R1_Walk_l1 F E k tv (i64 (a : Nat)) (sl bf 0 N N) v).run n h = (E v').run n' h' ∧ GqI h' v' b' (l ++ l') ∧ PW adj t a l' ∧ (v' ≠ nsl → lo ≤ b') ∧ Ev (fun c => lo ≤ c) n h n' h' := by
  intro d
  induction d with
  | zero =>
    intro k a n h v b l hd hk hd2 ha tf gr gq hb hl hn f
    obtain ⟨k, rfl⟩ : ∃ j, k = j + 1 := ⟨k - 1, by omega⟩
    have := hd.eq_zero
    subst this
    have hfa := (hf a ha 0).2 hd
    rw [R1_Walk_l1_s]
    unfold R1_Walk_b1 R1_Walk_r4
    try dsimp only
    rw [TI.get tf ha, st_gtr, onB_ite, run_ite, if_neg (by simp; omega)]
    exact ⟨n, h, v, b, [a], rfl, gq, .stop, hb, Ev.refl f⟩
  | succ d ih =>
    intro k a n h v b l hd hk hd2 ha tf gr gq hb hl hn f
    obtain ⟨k, rfl⟩ : ∃ j, k = j + 1 := ⟨k - 1, by omega⟩
    have hat : a ≠ t := by
      rintro rfl
      have := hd.uniq Dst.zero
      omega
    have hfa := (hf a ha (d + 1)).2 hd
    rw [R1_Walk_l1_s]
    unfold R1_Walk_b1 R1_Walk_r4
    try dsimp only
    rw [TI.get tf ha, st_gtr, onB_ite, run_ite, if_pos (by simp; omega)]
    unfold R1_Walk_r5 R1_Walk_r6
    try dsimp only
    have hsa := ok.short a ha
    obtain ⟨best, e2, hL⟩ := walk_l3 (F := F) (n := n) (x7 := v) ok gr tf ha (by omega) hfar (E := fun x0 x2 x7 x8 => R1_Walk_k2 F (R1_Walk_l1 F E k) x0 x2 x7 x8) (adj a).length 0 F (-1) (by omega) (by omega) (.inl ⟨rfl, fun c hc => by rw [List.take_zero] at hc; cases hc⟩)
    rw [show (Value.int .i64 (-1)) = i64 (-1) from rfl, show (Value.int .i64 0) = i64 ((0 : Nat) : Int) from rfl, e2]
    obtain ⟨c, rfl, hcN, hnx, hcd⟩ := hL.nxt ok hf ha hd
    unfold R1_Walk_k2 R1_Walk_r12 R1_Walk_r13
    try dsimp only
    obtain ⟨h2, v2, e3, g2, f2, k2⟩ := gq.pushN (a := c) (y := 0) f (by simp; omega)
    rw [show (Value.int .i64 0) = i64 0 from rfl, e3]
    have ev : Ev (fun c => lo ≤ c) n h (n + 2) h2 := ⟨f2, by omega, fun q hq hq2 => k2 q hq fun hv => by have := hb hv; omega⟩
    obtain ⟨n', h', v', b', l', r1, r2, r3, r4, r5⟩ := ih k c (n + 2) h2 v2 (n + 1) (l ++ [a]) hcd (by omega) (by omega) hcN (tf.ev ev (by omega) (by omega)) (gr.ev ev (by omega) fun q hq => by omega) g2 (fun _ => by omega) (by simp; omega) (by omega) f2
    refine ⟨n', h', v', b', a :: l', r1, ?_, .go hat hnx r3, r4, ev.trans r5 fun _ _ h => h⟩
    rw [List.append_assoc] at r2
    exact r2

theorem rwalk_spec {F n m bd root : Nat} {tv : Value} {h : H} {far : Nat → Nat} (hF : 1000000 ≤ F) (gr : Gr h m tv N adj) (hm : m ≤ n) (ok : GOk N adj) (hr : root < N) (ht : t < N) (tf : TF h bd N far) (hf : FarOf adj N t far) (hfar : ∀ c, c < N → far c ≤ N) (f : Fr n h) :
    ∃ n' h' v, (R1_Walk F tv (i64 (root : Nat)) (sl bd 0 N N)).run n h = some (v, n', h') ∧ Ev No n h n' h' ∧ ((v = nsl ∧ ¬ Rch adj root t) ∨ ∃ l, RdI h' v (nats l) ∧ PW adj t root l) := by
  have hN := ok.few
  have hbd := TV.lt tf f
  unfold R1_Walk R1_Walk_r0 R1_Walk_r1
  try dsimp only
  rw [TI.get tf hr, st_lss, onB_ite, run_ite]
  by_cases h0 : far root = 0
  · rw [if_pos (by simp; omega)]
    refine ⟨n, h, nsl, rfl, Ev.refl f, .inl ⟨rfl, fun r => ?_⟩⟩
    obtain ⟨k, w⟩ := wk_rch.2 r
    obtain ⟨l, _, d⟩ := Dst.of w
    have := (hf root hr l).2 d
    omega
  · rw [if_neg (by simp; omega)]
    obtain ⟨d, hd⟩ : ∃ d, far root = d + 1 := ⟨far root - 1, by omega⟩
    have hdd := (hf root hr d).1 hd
    have hsm := hfar root hr
    unfold R1_Walk_r3
    try dsimp only
    rw [run_single f rfl]
    have ev1 := Ev.new f ⟨[i64 (root : Int)], .own⟩
    obtain ⟨n', h', v', b', l', e1, q1, p1, _, ev2⟩ := walk_l1 (F := F) (bf := bd) (lo := n) (m := m) hF ok hf ht (fun c hc => by have := hfar c hc; omega) ⟨hbd, hm⟩ (E := fun x7 => R1_Walk_k0 F x7) d F root (n + 1) _ (sl n 0 1 1) n [] hdd (by omega) (by omega) hr (tf.ev ev1 hbd (fun h => h)) (gr.no ev1 hm) (Gq.own (cs := [i64 (root : Int)]) (H.get_set_same _ _ _) (by unfold U; simp)) (fun _ => Nat.le_refl _) (by simp; omega) (by omega) ev1.f
    rw [e1]
    exact ⟨n', h', v', rfl, ev1.trans ev2 fun c hc q => by omega, .inr ⟨l', Gq.rd q1, p1⟩⟩

theorem rpath_in {F n m root : Nat} {tv : Value} {h : H} (hF : 1000000 ≤ F) (gr : Gr h m tv N adj) (hm : m ≤ n) (ok : GOk N adj) (hr : root < N) (ht : t < N) (f : Fr n h) :
    ∃ n' h' v, (R1_Path F tv (i64 (root : Nat)) (i64 (t : Nat))).run n h = some (v, n', h') ∧ Ev No n h n' h' ∧ ((v = nsl ∧ ¬ Rch adj root t) ∨ ∃ l, RdI h' v (nats l) ∧ PW adj t root l) := by
  have hN := ok.few
  unfold R1_Path R1_Path_r0 R1_Path_r1
  try dsimp only
  rw [st_lss, onB_ite, run_ite, if_neg (by simp), gr.len, st_geq, onB_ite, run_ite, if_neg (by simp; omega), st_lss, onB_ite, run_ite, if_neg (by simp), gr.len, st_geq, onB_ite, run_ite, if_neg (by simp; omega)]
  unfold R1_Path_r3
  try dsimp only
  obtain ⟨h1, e1, t1, ev1⟩ := TB.make (β := Value) (bytes := 1) (z := false) f (show N ≤ 100000 by omega) (by decide)
  rw [gr.len, show (Value.bool false) = bo false from rfl, e1]
  have gr1 := gr.no ev1 hm
  unfold R1_Path_r4
  try dsimp only
  obtain ⟨h2, e2, t2, ev2⟩ := TB.set (β := Value) t1 ev1.f ht (z := true)
  rw [show (Value.bool true) = bo true from rfl, e2]
  have eq : upd (fun _ => false) t true = fun q => decide (q = t) := by
    funext q; unfold upd
    by_cases h : q = t
    · rw [if_pos h, decide_eq_true h]
    · rw [if_neg h, decide_eq_false h]
  rw [eq] at t2
  have gr2 := gr1.ev ev2 (by omega) fun c hc => by omega
  unfold R1_Path_r5
  try dsimp only
  obtain ⟨n3, h3, bd, e, e3, x3, far3, sm3, lb3, hb3, ev3⟩ := rfar_spec (F := F) hF gr2 (by omega) ok ht t2 ev2.f
  rw [run_bnd e3]
  have gr3 := gr2.no ev3 (by omega)
  have ev13 : Ev No n h n3 h3 := ⟨ev3.f, by have := ev3.le; omega, fun c hc _ => by rw [ev3.no (by omega), ev2.keep c (by omega) (by omega), ev1.no hc]⟩
  have l3 := ev13.le
  obtain ⟨n4, h4, v, e4, ev4, hv⟩ := rwalk_spec (F := F) hF gr3 (by omega) ok hr ht x3 far3 sm3 ev3.f
  rw [run_bnd e4]
  exact ⟨n4, h4, v, rfl, ev13.trans ev4 fun _ _ h => h, hv⟩

theorem rpath_out {F n m : Nat} {a b : Int} {tv : Value} {h : H} (hF : 1000000 ≤ F) (gr : Gr h m tv N adj) (hr : a < 0 ∨ (N : Int) ≤ a ∨ b < 0 ∨ (N : Int) ≤ b) : (R1_Path F tv (i64 a) (i64 b)).run n h = some (nsl, n, h) := by
  unfold R1_Path R1_Path_r0 R1_Path_r1
  try dsimp only
  rw [st_lss, onB_ite, run_ite]
  by_cases h0 : a < 0
  · rw [if_pos (by simpa using h0), onB_ite, run_ite, if_pos rfl]; rfl
  · rw [if_neg (by simpa using h0), gr.len, st_geq, onB_ite, run_ite]
    by_cases h1 : (N : Int) ≤ a
    · rw [if_pos (by simpa using h1), onB_ite, run_ite, if_pos rfl]; rfl
    · rw [if_neg (by simpa using h1), st_lss, onB_ite, run_ite]
      by_cases h2 : b < 0
      · rw [if_pos (by simpa using h2), onB_ite, run_ite, if_pos rfl]; rfl
      · rw [if_neg (by simpa using h2), gr.len, st_geq, onB_ite, run_ite, if_pos (by simp; omega)]; rfl
end

end Go.Fw
