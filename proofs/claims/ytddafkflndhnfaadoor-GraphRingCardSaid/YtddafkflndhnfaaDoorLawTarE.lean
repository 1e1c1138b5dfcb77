/-
  haruspexref1.Parts, said of the abstract machine.
-/
import Derived.Test.YtddafkflndhnfaaDoorLawTarD
set_option maxRecDepth 20000
set_option linter.unusedVariables false
namespace Go.Fw

noncomputable def propB (p : Prop) : Bool := @decide p (Classical.propDecidable p)
theorem propB_iff {p : Prop} : propB p = true ↔ p := by unfold propB; exact @decide_eq_true_iff p (Classical.propDecidable p)
theorem propB_congr {p q : Prop} (h : p ↔ q) : propB p = propB q := by rw [Bool.eq_iff_iff, propB_iff, propB_iff]; exact h
theorem propB_true {p : Prop} (h : p) : propB p = true := propB_iff.2 h
theorem propB_false {p : Prop} (h : ¬ p) : propB p = false := by
  cases hq : propB p with
  | false => rfl
  | true => exact absurd (propB_iff.1 hq) h
noncomputable abbrev rchB (adj : Nat → List Nat) (a b : Nat) : Bool := propB (Rch adj a b)

/-- Who is reached from each node: a list of tables. -/
def RR (h : H) (v : Value) (N K : Nat) (adj : Nat → List Nat) : Prop := ∃ bk : Nat → Nat, Rd h v (tab K fun k => sl (bk k) 0 N N) ∧ ∀ k, k < K → TB h (bk k) N (rchB adj k)

section
variable {n n0 : Nat} {h h' hb : H} {m N nb db : Nat} {tv rv : Value} {adj : Nat → List Nat}

theorem RR.get {K : Nat} (x : RR h rv N K adj) {k q : Nat} (hk : k < K) (hq : q < N) {Kc : Value → M Value} :
    (bnd (opIndexAddr 1 rv (i64 k)) fun a => bnd (opLoad a) fun w => bnd (opIndexAddr 1 w (i64 q)) fun a => bnd (opLoad a) Kc).run n h = (Kc (bo (rchB adj k q))).run n h := by
  obtain ⟨bk, h1, h2⟩ := x
  rw [h1.get (tab_get hk), (h2 k hk).get hq]
theorem RR.kept {K : Nat} (x : RR hb rv N K adj) (fb : Fr nb hb) (hk : ∀ c, c < nb → h.get c = hb.get c) : RR h rv N K adj := by
  obtain ⟨bk, h1, h2⟩ := x
  exact ⟨bk, h1.kept fb hk, fun k hk' => (h2 k hk').keep (hk _ (fb.lt (h2 k hk')))⟩

/-- The tables, one by one. -/
theorem rp_l11 {F : Nat} (hF : 1000000 ≤ F) (ok : GOk N adj) {E : Value → Value → M Value} : ∀ j i k n (h : H) (v : Value) (b : Nat) (bk : Nat → Nat), i + j = N → j < k → Gr h m tv N adj → m ≤ nb → nb ≤ n → Fr n h →
    Gl h v b (tab i fun k => sl (bk k) 0 N N) → (i ≠ 0 → nb ≤ b) → (∀ k, k < i → TB h (bk k) N (rchB adj k) ∧ nb ≤ bk k ∧ bk k ≠ b) →
    ∃ n' h' v', (R1_Parts_l11 F E k tv (i64 N) v (i64 i)).run n h = (E (i64 N) v').run n' h' ∧ RR h' v' N N adj ∧ Ev (fun c => nb ≤ c) n h n' h' := by
  have hN := ok.few
  intro j
  induction j with
  | zero =>
    intro i k n h v b bk hij hk gr hm hn f gl hb ht
    obtain ⟨k, rfl⟩ : ∃ j, k = j + 1 := ⟨k - 1, by omega⟩
    obtain rfl : i = N := by omega
    rw [R1_Parts_l11_s]
    unfold R1_Parts_b11 R1_Parts_r4
    try dsimp only
    rw [st_lss]
    simp only [onB_ite, run_ite, decide_eq_true_eq]
    rw [if_neg (by omega)]
    exact ⟨n, h, v, rfl, ⟨bk, gl.rd, fun k hk => (ht k hk).1⟩, Ev.refl f⟩
  | succ j ih =>
    intro i k n h v b bk hij hk gr hm hn f gl hb ht
    obtain ⟨k, rfl⟩ : ∃ j, k = j + 1 := ⟨k - 1, by omega⟩
    have hi : i < N := by omega
    rw [R1_Parts_l11_s]
    unfold R1_Parts_b11 R1_Parts_r4
    try dsimp only
    rw [st_lss]
    simp only [onB_ite, run_ite, decide_eq_true_eq]
    rw [if_pos (by omega)]
    unfold R1_Parts_r6
    try dsimp only
    obtain ⟨n1, h1, b1, seen, e1, t1, q1, l1, ev1⟩ := reach_one (F := F) (root := i) (w := -1) hF gr (by omega) ok f
    rw [show (Value.int .i64 0) = i64 0 from rfl, show (Value.int .i64 (-1)) = i64 (-1) from rfl, e1, run_single ev1.f rfl]
    have le1 := ev1.le
    have ev2 := Ev.new ev1.f ⟨[sl b1 0 N N], .own⟩
    have m2 : (h1.set n1 ⟨[sl b1 0 N N], .own⟩).get n1 = some ⟨[sl b1 0 N N], .own⟩ := H.get_set_same _ _ _
    generalize h1.set n1 ⟨[sl b1 0 N N], .own⟩ = h2 at ev2 m2
    have hb1 := ev1.f.lt t1
    have htl : ∀ k, k < i → bk k < n := fun k hk => f.lt (ht k hk).1
    have hbn : i ≠ 0 → b < n := fun h0 => gl.lt f (tab_ne.2 h0)
    have gl2 : Gl h2 v b (tab i fun k => sl (bk k) 0 N N) := gl.keep fun h0 => by
      have := hbn (tab_ne.1 h0)
      rw [ev2.no (by omega), ev1.no this]
    obtain ⟨h3, e3, gl3, f3, k3⟩ := run_append (β := Value) (bytes := 24) (km := .own) gl2 ev2.f m2 (by decide) rfl (tab_one fun _ _ => rfl) (fun h0 => by have := hbn (tab_ne.1 h0); omega) (by rw [tab_len]; omega)
    rw [e3, tab_len]
    unfold R1_Parts_r5
    try dsimp only
    rw [sx_add (by omega)]
    have et : TB h3 b1 N (rchB adj i) := by
      have e : seen = rchB adj i := by
        funext q
        rw [Bool.eq_iff_iff, q1 q, propB_iff]
        exact rchS_rch hi
      rw [← e]
      refine t1.keep ?_
      rw [k3 b1 (by omega) fun h0 => by have := hbn (tab_ne.1 h0); omega, ev2.no hb1]
    have e4 : tab i (fun k => sl (bk k) 0 N N) ++ [sl b1 0 N N] = tab (i + 1) fun k => sl (if k = i then b1 else bk k) 0 N N := by
      rw [tab_succ, if_pos rfl]
      congr 1
      exact tab_ext fun k hk => by rw [if_neg (by omega)]
    rw [e4, tab_len] at gl3
    obtain ⟨n', h', v', r1, r2, r3⟩ := ih (i + 1) k (n1 + 1 + 1) h3 _ (n1 + 1) (fun k => if k = i then b1 else bk k) (by omega) (by omega) (gr.kept fun c hc => by rw [k3 c (by omega) fun h0 => by have := hb (tab_ne.1 h0); omega, ev2.no (by omega), ev1.no (by omega)]) hm (by omega) f3 gl3 (fun _ => by omega) (fun k hk => by
      by_cases e : k = i
      · simp only [if_pos e]
        subst e
        exact ⟨et, by omega, by omega⟩
      · simp only [if_neg e]
        obtain ⟨q1, q2, q3⟩ := ht k (by omega)
        have := htl k (by omega)
        exact ⟨q1.keep (by rw [k3 _ (by omega) fun _ => q3, ev2.no (by omega), ev1.no this]), q2, by omega⟩)
    refine ⟨n', h', v', r1, r2, r3.f, by have := r3.le; omega, fun c hc hcn => ?_⟩
    rw [r3.keep c (by omega) hcn, k3 c (by omega) fun h0 => by have := hb (tab_ne.1 h0); omega, ev2.no (by omega), ev1.no hc]

/-- Is a node free? -/
theorem rp_l9 {F i : Nat} {x7 x8 : Value} {dn : Nat → Bool} (rr : RR h rv N N adj) (td : TB h db N dn) (hi : i < N) (hN : N ≤ 600) {E : Value → Value → Value → Value → Value → Value → Value → M Value} : ∀ j p k (b : Bool), p + j = N → j < k →
    (R1_Parts_l9 F E k (i64 N) rv (sl db 0 N N) x7 x8 (i64 i) (bo b) (i64 p)).run n h = (E (i64 N) rv (sl db 0 N N) x7 x8 (i64 i) (bo (b && propB (∀ q, p ≤ q → q < N → ¬ dn q = true → Rch adj q i → Rch adj i q)))).run n h := by
  intro j
  induction j with
  | zero =>
    intro p k b hpj hk
    obtain ⟨k, rfl⟩ : ∃ j, k = j + 1 := ⟨k - 1, by omega⟩
    rw [R1_Parts_l9_s]
    unfold R1_Parts_b9 R1_Parts_r17
    try dsimp only
    rw [st_lss]
    simp only [onB_ite, run_ite, decide_eq_true_eq]
    rw [if_neg (by omega), propB_true (fun q h1 h2 => by omega), Bool.and_true]
  | succ j ih =>
    intro p k b hpj hk
    obtain ⟨k, rfl⟩ : ∃ j, k = j + 1 := ⟨k - 1, by omega⟩
    have hp : p < N := by omega
    rw [R1_Parts_l9_s]
    unfold R1_Parts_b9 R1_Parts_r17
    try dsimp only
    rw [st_lss]
    simp only [onB_ite, run_ite, decide_eq_true_eq]
    rw [if_pos (by omega)]
    have next : ∀ b', (b' = (b && propB (¬ dn p = true → Rch adj p i → Rch adj i p))) → (R1_Parts_r18 F (i64 N) rv (sl db 0 N N) x7 x8 (i64 i) (bo b') (i64 p) fun x3 x4 x6 x7 x8 x9 x10 x11 => R1_Parts_l9 F E k x3 x4 x6 x7 x8 x9 x10 x11).run n h = (E (i64 N) rv (sl db 0 N N) x7 x8 (i64 i) (bo (b && propB (∀ q, p ≤ q → q < N → ¬ dn q = true → Rch adj q i → Rch adj i q)))).run n h := fun b' hb' => by
      unfold R1_Parts_r18
      try dsimp only
      rw [sx_add (by omega), show ((p : Int) + 1) = ((p + 1 : Nat) : Int) from rfl, ih (p + 1) k b' (by omega) (by omega), hb', Bool.and_assoc]
      congr 4
      rw [Bool.eq_iff_iff, Bool.and_eq_true, propB_iff, propB_iff, propB_iff]
      constructor
      · intro ⟨h1, h2⟩ q hq1 hq2
        rcases Nat.lt_or_eq_of_le hq1 with e | e
        · exact h2 q e hq2
        · subst e; exact h1
      · intro hall
        exact ⟨hall p (Nat.le_refl _) hp, fun q hq1 hq2 => hall q (by omega) hq2⟩
    unfold R1_Parts_r19
    try dsimp only
    cases b with
    | false =>
      rw [onB_ite, run_ite, if_neg (by decide)]
      exact next false (by rw [Bool.false_and])
    | true =>
      rw [onB_ite, run_ite, if_pos rfl, td.get hp, onB_ite, run_ite]
      by_cases hd : dn p = true
      · rw [if_pos hd]
        exact next true (by rw [propB_true (fun h => absurd hd h)]; rfl)
      · rw [if_neg hd, rr.get hp hi, st_not, onB_ite, run_ite]
        by_cases h1 : Rch adj p i
        · rw [show rchB adj p i = true from propB_true h1, if_neg (by decide), rr.get hi hp]
          exact next _ (by rw [Bool.true_and]; exact propB_congr ⟨fun q _ _ => q, fun q => q hd h1⟩)
        · rw [show rchB adj p i = false from propB_false h1, if_pos (by decide)]
          exact next true (by rw [propB_true (fun _ h => absurd h h1)]; rfl)

/-- The next one, if there is one: the first that is free. -/
theorem rp_l6 {F : Nat} {x7 : Value} {dn : Nat → Bool} (hF : 1000000 ≤ F) (rr : RR h rv N N adj) (td : TB h db N dn) (hN : N ≤ 600) {E : Value → Value → Value → Value → Value → M Value} : ∀ j i k, i + j = N → j + 1 < k → (∀ q, q < i → ¬ dn q = true → ¬ Free adj N (fun v => dn v = true) q) →
    ((∀ q, q < N → ¬ dn q = true → ¬ Free adj N (fun v => dn v = true) q) ∧ (R1_Parts_l6 F E k (i64 N) rv (sl db 0 N N) x7 (i64 (-1)) (i64 i)).run n h = (E (i64 N) rv (sl db 0 N N) x7 (i64 (-1))).run n h) ∨
    ∃ t : Nat, IsNext adj N (fun v => dn v = true) t ∧ (R1_Parts_l6 F E k (i64 N) rv (sl db 0 N N) x7 (i64 (-1)) (i64 i)).run n h = (E (i64 N) rv (sl db 0 N N) x7 (i64 t)).run n h := by
  intro j
  induction j with
  | zero =>
    intro i k hij hk hno
    obtain ⟨k, rfl⟩ : ∃ j, k = j + 1 := ⟨k - 1, by omega⟩
    obtain rfl : i = N := by omega
    refine .inl ⟨fun q hq => hno q hq, ?_⟩
    rw [R1_Parts_l6_s]
    unfold R1_Parts_b6 R1_Parts_r12
    try dsimp only
    rw [st_lss]
    simp only [onB_ite, run_ite, decide_eq_true_eq]
    rw [if_neg (by omega), if_neg (by decide)]
  | succ j ih =>
    intro i k hij hk hno
    obtain ⟨k, rfl⟩ : ∃ j, k = j + 1 := ⟨k - 1, by omega⟩
    have hi : i < N := by omega
    have estart : (R1_Parts_l6 F E (k + 1) (i64 N) rv (sl db 0 N N) x7 (i64 (-1)) (i64 i)).run n h = (if dn i = true then R1_Parts_k7 F (R1_Parts_l6 F E k) (i64 N) rv (sl db 0 N N) x7 (i64 (-1)) (i64 i) else R1_Parts_l9 F (fun x3 x4 x6 x7 x8 x9 x10 => R1_Parts_k8 F (R1_Parts_l6 F E k) x3 x4 x6 x7 x8 x9 x10) F (i64 N) rv (sl db 0 N N) x7 (i64 (-1)) (i64 i) (bo true) (i64 (0 : Nat))).run n h := by
      rw [R1_Parts_l6_s]
      unfold R1_Parts_b6 R1_Parts_r12
      try dsimp only
      rw [st_lss, onB_ite, run_ite, if_pos (by rw [decide_eq_true_eq]; omega), show (Value.int .i64 0) = i64 0 from rfl, st_lss]
      unfold R1_Parts_r14
      try dsimp only
      rw [onB_ite, run_ite, if_pos (by decide), td.get hi, onB_ite, run_ite, run_ite]
      rfl
    rw [estart]
    by_cases hd : dn i = true
    · rw [if_pos hd]
      unfold R1_Parts_k7 R1_Parts_r13
      try dsimp only
      rw [sx_add (by omega)]
      exact ih (i + 1) k (by omega) (by omega) fun q hq hdq => by
        rcases Nat.lt_or_eq_of_le (Nat.le_of_lt_succ hq) with e | e
        · exact hno q e hdq
        · subst e; exact absurd hd hdq
    · rw [if_neg hd, rp_l9 rr td hi hN N 0 F true (by omega) (by omega), Bool.true_and]
      have ef : propB (∀ q, 0 ≤ q → q < N → ¬ dn q = true → Rch adj q i → Rch adj i q) = propB (Free adj N (fun v => dn v = true) i) := propB_congr ⟨fun hh k hk hD => hh k (Nat.zero_le _) hk hD, fun hh q _ hq hD => hh q hq hD⟩
      rw [ef]
      unfold R1_Parts_k8 R1_Parts_r20
      try dsimp only
      rw [onB_ite, run_ite]
      by_cases hf : Free adj N (fun v => dn v = true) i
      · rw [propB_true hf, if_pos rfl]
        refine .inr ⟨i, ⟨hi, hd, hf, fun q hq hD => hno q hq hD⟩, ?_⟩
        unfold R1_Parts_r21 R1_Parts_k7 R1_Parts_r13
        try dsimp only
        rw [sx_add (by omega)]
        obtain ⟨k, rfl⟩ : ∃ j, k = j + 1 := ⟨k - 1, by omega⟩
        rw [R1_Parts_l6_s]
        unfold R1_Parts_b6 R1_Parts_r12
        try dsimp only
        rw [st_lss, onB_ite, run_ite]
        by_cases h2 : i + 1 < N
        · rw [if_pos (by rw [decide_eq_true_eq]; omega), show (Value.int .i64 0) = i64 0 from rfl, st_lss, onB_ite, run_ite, if_neg (by rw [decide_eq_true_eq]; omega)]
        · rw [if_neg (by rw [decide_eq_true_eq]; omega), onB_ite, run_ite, if_neg (by decide)]
      · rw [propB_false hf, if_neg (by decide)]
        unfold R1_Parts_k7 R1_Parts_r13
        try dsimp only
        rw [sx_add (by omega)]
        exact ih (i + 1) k (by omega) (by omega) fun q hq hdq => by
          rcases Nat.lt_or_eq_of_le (Nat.le_of_lt_succ hq) with e | e
          · exact hno q e hdq
          · subst e; exact hf


/-- The part so far, and who is done. -/
noncomputable def sccUp (adj : Nat → List Nat) (t i : Nat) : List Nat := (List.range i).filter fun v => rchB adj t v && rchB adj v t

theorem sccUp_all {t : Nat} : sccUp adj t N = sccOf adj N t := by
  unfold sccUp sccOf
  refine List.filter_congr fun v _ => ?_
  rw [Bool.eq_iff_iff, Bool.and_eq_true, propB_iff, propB_iff]
  simp only [decide_eq_true_eq]
theorem sccUp_succ {t i : Nat} : sccUp adj t (i + 1) = if (rchB adj t i && rchB adj i t) = true then sccUp adj t i ++ [i] else sccUp adj t i := by
  unfold sccUp
  rw [List.range_succ, List.filter_append]
  split
  · rename_i h
    congr 1
    exact List.filter_cons_of_pos (p := fun v => rchB adj t v && rchB adj v t) h
  · rename_i h
    have : List.filter (fun v => rchB adj t v && rchB adj v t) [i] = [] := List.filter_cons_of_neg (p := fun v => rchB adj t v && rchB adj v t) h
    rw [this, List.append_nil]
theorem sccUp_len {t i : Nat} : (sccUp adj t i).length ≤ i := by
  unfold sccUp
  exact Nat.le_trans (List.length_filter_le _ _) (by simp)

/-- A part is gathered. -/
theorem rp_l3 {F t oB : Nat} {x7 : Value} {Q : Nat → Prop} (rr : RR hb rv N N adj) (fb : Fr nb hb) (ht : t < N) (hN : N ≤ 600) (hdb : nb ≤ db) {E : Value → Value → Value → Value → Value → M Value} : ∀ j i k n (h : H) (pvv : Value) (pk : Nat) (dn : Nat → Bool), i + j = N → j < k → (∀ c, c < nb → h.get c = hb.get c) → TB h db N dn → GlI h pvv pk (nats (sccUp adj t i)) → (sccUp adj t i ≠ [] → n0 ≤ pk) → n0 ≤ n → db < n0 → nb ≤ n0 → Fr n h →
    ∃ n' h' pvv' pk' dn', (R1_Parts_l3 F E k (i64 N) rv (sl db 0 N N) x7 (i64 t) pvv (i64 i)).run n h = (E (i64 N) rv (sl db 0 N N) x7 pvv').run n' h' ∧ TB h' db N dn' ∧ (∀ v, dn' v = (dn v || (decide (i ≤ v ∧ v < N) && (rchB adj t v && rchB adj v t)))) ∧ GlI h' pvv' pk' (nats (sccUp adj t N)) ∧ (sccUp adj t N ≠ [] → n0 ≤ pk') ∧ Ev (fun c => c = db ∨ n0 ≤ c) n h n' h' := by
  intro j
  induction j with
  | zero =>
    intro i k n h pvv pk dn hij hk hk0 td gl hpk hn hdn hnb f
    obtain ⟨k, rfl⟩ : ∃ j, k = j + 1 := ⟨k - 1, by omega⟩
    obtain rfl : i = N := by omega
    rw [R1_Parts_l3_s]
    unfold R1_Parts_b3 R1_Parts_r25
    try dsimp only
    rw [st_lss]
    simp only [onB_ite, run_ite, decide_eq_true_eq]
    rw [if_neg (by omega)]
    exact ⟨n, h, pvv, pk, dn, rfl, td, fun v => by rw [decide_eq_false (by omega), Bool.false_and, Bool.or_false], gl, hpk, Ev.refl f⟩
  | succ j ih =>
    intro i k n h pvv pk dn hij hk hk0 td gl hpk hn hdn hnb f
    obtain ⟨k, rfl⟩ : ∃ j, k = j + 1 := ⟨k - 1, by omega⟩
    have hi : i < N := by omega
    have rr' := rr.kept fb hk0
    rw [R1_Parts_l3_s]
    unfold R1_Parts_b3 R1_Parts_r25
    try dsimp only
    rw [st_lss]
    simp only [onB_ite, run_ite, decide_eq_true_eq]
    rw [if_pos (by omega)]
    have hsk : (rchB adj t i && rchB adj i t) = false → ∀ (dn' : Nat → Bool) , (∀ v, dn' v = (dn v || (decide (i + 1 ≤ v ∧ v < N) && (rchB adj t v && rchB adj v t)))) → ∀ v, dn' v = (dn v || (decide (i ≤ v ∧ v < N) && (rchB adj t v && rchB adj v t))) := fun hf dn' hd v => by
      rw [hd v]
      by_cases e : v = i
      · subst e
        rw [hf, Bool.and_false, Bool.and_false]
      · have : decide (i + 1 ≤ v ∧ v < N) = decide (i ≤ v ∧ v < N) := by rw [decide_eq_decide]; omega
        rw [this]
    have skip : (rchB adj t i && rchB adj i t) = false → ∃ n' h' pvv' pk' dn', (R1_Parts_k4 F (R1_Parts_l3 F E k) (i64 N) rv (sl db 0 N N) x7 (i64 t) pvv (i64 i)).run n h = (E (i64 N) rv (sl db 0 N N) x7 pvv').run n' h' ∧ TB h' db N dn' ∧ (∀ v, dn' v = (dn v || (decide (i ≤ v ∧ v < N) && (rchB adj t v && rchB adj v t)))) ∧ GlI h' pvv' pk' (nats (sccUp adj t N)) ∧ (sccUp adj t N ≠ [] → n0 ≤ pk') ∧ Ev (fun c => c = db ∨ n0 ≤ c) n h n' h' := fun hf => by
      unfold R1_Parts_k4 R1_Parts_r26
      try dsimp only
      rw [sx_add (by omega)]
      have es : sccUp adj t (i + 1) = sccUp adj t i := by rw [sccUp_succ, if_neg (by rw [hf]; decide)]
      obtain ⟨n', h', pvv', pk', dn', r1, r2, r3, r4⟩ := ih (i + 1) k n h pvv pk dn (by omega) (by omega) hk0 td (by rw [es]; exact gl) (by rw [es]; exact hpk) hn hdn hnb f
      exact ⟨n', h', pvv', pk', dn', r1, r2, hsk hf dn' r3, r4⟩
    unfold R1_Parts_r27
    try dsimp only
    rw [rr'.get ht hi, onB_ite, run_ite]
    by_cases h1 : rchB adj t i = true
    · rw [if_pos h1, rr'.get hi ht, onB_ite, run_ite]
      by_cases h2 : rchB adj i t = true
      · rw [if_pos h2]
        unfold R1_Parts_r28
        try dsimp only
        have hbn : sccUp adj t i ≠ [] → pk < n := fun h0 => gl.lt f (by unfold nats; simpa using h0)
        obtain ⟨h3, v3, e3, g3, f3, k3⟩ := Gl.pushI (β := Value) (y := 0) (z := (i : Int)) gl f (by rw [nats_len]; have := sccUp_len (adj := adj) (t := t) (i := i); omega)
        rw [show (Value.int .i64 0) = i64 0 from rfl, e3]
        have hne : nats (sccUp adj t i) ≠ [] → sccUp adj t i ≠ [] := fun h e => h (by rw [e]; rfl)
        have k3' : ∀ c, c < n0 → h3.get c = h.get c := fun c hc => k3 c (by omega) fun h0 e => by have := hpk (hne h0); omega
        unfold R1_Parts_r29
        try dsimp only
        have td3 : TB h3 db N dn := td.keep (k3' db hdn)
        obtain ⟨h4, e4, t4, ev4⟩ := TB.set (β := Value) td3 f3 hi (z := true)
        rw [e4]
        unfold R1_Parts_k4 R1_Parts_r26
        try dsimp only
        rw [sx_add (by omega)]
        have es : sccUp adj t (i + 1) = sccUp adj t i ++ [i] := by rw [sccUp_succ, if_pos (by rw [h1, h2]; rfl)]
        obtain ⟨n', h', pvv', pk', dn', r1, r2, r3, r4, r5, r6⟩ := ih (i + 1) k (n + 2) h4 v3 (n + 1) _ (by omega) (by omega) (fun c hc => by rw [ev4.keep c (by omega) (by omega), k3' c (by omega)]; exact hk0 c hc) t4 (by
          rw [es]
          have : nats (sccUp adj t i ++ [i]) = nats (sccUp adj t i) ++ [(i : Int)] := by unfold nats; rw [List.map_append]; rfl
          rw [this]
          exact g3.keep fun _ => ev4.keep (n + 1) (by omega) (by omega)) (fun _ => by omega) (by omega) hdn hnb ev4.f
        refine ⟨n', h', pvv', pk', dn', r1, r2, fun v => ?_, r4, r5, r6.f, by have := r6.le; omega, fun c hc hcn => ?_⟩
        · rw [r3 v]
          unfold upd
          by_cases e : v = i
          · subst e
            rw [if_pos rfl, h1, h2, decide_eq_true (by omega : v ≤ v ∧ v < N)]
            simp
          · rw [if_neg e]
            have : decide (i + 1 ≤ v ∧ v < N) = decide (i ≤ v ∧ v < N) := by rw [decide_eq_decide]; omega
            rw [this]
        · rw [r6.keep c (by omega) hcn, ev4.keep c (by omega) (fun e => hcn (.inl e)), k3' c (by omega)]
      · rw [if_neg h2]
        exact skip (by rw [show rchB adj i t = false by simpa using h2, Bool.and_false])
    · rw [if_neg h1, onB_ite, run_ite, if_neg (by decide)]
      exact skip (by rw [show rchB adj t i = false by simpa using h1, Bool.false_and])

/-- Part after part, as long as there is one that is free. -/
theorem rp_l1 {F : Nat} (hF : 1000000 ≤ F) (ok : GOk N adj) (rr : RR hb rv N N adj) (fb : Fr nb hb) (hdb : nb ≤ db) {E : Value → M Value} : ∀ j k n (h : H) (dn : Nat → Bool) (ov : Value) (oB : Nat) (ivo : List Value) (L : List (List Nat)), cnt N dn ≤ j → L.length + cnt N dn ≤ N → j < k → (∀ c, c < nb → h.get c = hb.get c) → TB h db N dn → (∀ v, N ≤ v → dn v = false) →
    Gl h ov oB ivo → (ivo ≠ [] → nb ≤ oB ∧ oB ≠ db) → PartsIn h nb (sl 0 0 0 0) db ivo oB L → Fr n h → db < n → nb ≤ n →
    ∃ n' h' ov' oB' ivo' L', (R1_Parts_l1 F E k (i64 N) rv (sl db 0 N N) ov).run n h = (E ov').run n' h' ∧ Gl h' ov' oB' ivo' ∧ PartsIn h' nb (sl 0 0 0 0) db ivo' oB' (L ++ L') ∧ Topo adj N (fun v => dn v = true) L' ∧ Ev (fun c => nb ≤ c) n h n' h' := by
  have hN := ok.few
  have hlt' : ∀ a, a < N → ∀ b, b ∈ adj a → b < N := fun a ha b hb => ok.lt a ha b hb
  intro j
  induction j with
  | zero =>
    intro k n h dn ov oB ivo L hc hL hk hk0 td hout gl hob pp f hdn hn
    obtain ⟨k, rfl⟩ : ∃ j, k = j + 1 := ⟨k - 1, by omega⟩
    have hall : ∀ v, v < N → dn v = true := fun v hv => cnt_none (by omega) hv
    have rr' := rr.kept fb hk0
    rw [R1_Parts_l1_s]
    unfold R1_Parts_b1 R1_Parts_r9
    try dsimp only
    rw [gl.len, st_leq]
    simp only [onB_ite, run_ite, decide_eq_true_eq]
    rw [if_pos (by have := pp.1; omega)]
    unfold R1_Parts_r10 R1_Parts_r11
    try dsimp only
    rcases rp_l6 (n := n) (x7 := ov) hF rr' td hN (E := fun x3 x4 x6 x7 x8 => R1_Parts_k5 F E (R1_Parts_l1 F E k) x3 x4 x6 x7 x8) N 0 F (by omega) (by omega) (fun q hq => by omega) with ⟨_, e⟩ | ⟨t, hnx, _⟩
    · rw [show (Value.int .i64 (-1)) = i64 (-1) from rfl, show (Value.int .i64 0) = i64 ((0 : Nat) : Int) from rfl, e]
      unfold R1_Parts_k5 R1_Parts_r22
      try dsimp only
      rw [show (Value.int .i64 0) = i64 0 from rfl, st_lss, onB_ite, run_ite, if_pos (by decide)]
      exact ⟨n, h, ov, oB, ivo, [], rfl, gl, by rw [List.append_nil]; exact pp, .nil hall, Ev.refl f⟩
    · exact absurd (hall t hnx.lt) hnx.left
  | succ j ih =>
    intro k n h dn ov oB ivo L hc hL hk hk0 td hout gl hob pp f hdn hn
    obtain ⟨k, rfl⟩ : ∃ j, k = j + 1 := ⟨k - 1, by omega⟩
    have rr' := rr.kept fb hk0
    rw [R1_Parts_l1_s]
    unfold R1_Parts_b1 R1_Parts_r9
    try dsimp only
    rw [gl.len, st_leq]
    simp only [onB_ite, run_ite, decide_eq_true_eq]
    rw [if_pos (by have := pp.1; omega)]
    unfold R1_Parts_r10 R1_Parts_r11
    try dsimp only
    rcases rp_l6 (n := n) (x7 := ov) hF rr' td hN (E := fun x3 x4 x6 x7 x8 => R1_Parts_k5 F E (R1_Parts_l1 F E k) x3 x4 x6 x7 x8) N 0 F (by omega) (by omega) (fun q hq => by omega) with ⟨hno, e⟩ | ⟨t, hnx, e⟩
    · rw [show (Value.int .i64 (-1)) = i64 (-1) from rfl, show (Value.int .i64 0) = i64 ((0 : Nat) : Int) from rfl, e]
      unfold R1_Parts_k5 R1_Parts_r22
      try dsimp only
      rw [show (Value.int .i64 0) = i64 0 from rfl, st_lss, onB_ite, run_ite, if_pos (by decide)]
      refine ⟨n, h, ov, oB, ivo, [], rfl, gl, by rw [List.append_nil]; exact pp, .nil fun v hv => ?_, Ev.refl f⟩
      refine Classical.byContradiction fun hd => ?_
      obtain ⟨i, hi⟩ := exists_next (adj := adj) (D := fun v => dn v = true) hv hd
      exact hno i hi.lt hi.left hi.free
    · rw [show (Value.int .i64 (-1)) = i64 (-1) from rfl, show (Value.int .i64 0) = i64 ((0 : Nat) : Int) from rfl, e]
      have ht := hnx.lt
      unfold R1_Parts_k5 R1_Parts_r22
      try dsimp only
      rw [show (Value.int .i64 0) = i64 0 from rfl, st_lss, onB_ite, run_ite, if_neg (by rw [decide_eq_true_eq]; omega)]
      unfold R1_Parts_r23 R1_Parts_r24
      try dsimp only
      obtain ⟨n1, h1, pvv, pk, dn', r1, t1, d1, g1, pk1, ev1⟩ := rp_l3 (F := F) (n0 := n) (t := t) (x7 := ov) (oB := 0) (Q := fun _ => True) (db := db) rr fb ht hN hdb (E := fun x3 x4 x6 x7 x12 => R1_Parts_k2 F (R1_Parts_l1 F E k) x3 x4 x6 x7 x12) N 0 F n h nsl 0 dn (by omega) (by omega) hk0 td (.inl ⟨rfl, rfl⟩) (fun h => absurd rfl h) (Nat.le_refl _) hdn hn f
      rw [show (Value.slice none 0 0) = nsl from rfl, show (Value.int .i64 0) = i64 ((0 : Nat) : Int) from rfl, r1]
      rw [sccUp_all] at g1 pk1
      have le1 := ev1.le
      have hm : t ∈ sccOf adj N t := scc_mem.2 ⟨ht, Same2.refl⟩
      have hne : sccOf adj N t ≠ [] := List.ne_nil_of_mem hm
      have hpk := pk1 hne
      have hne' : (nats (sccOf adj N t)).map i64 ≠ [] := by unfold nats; simpa using hne
      have hpkn := g1.lt ev1.f hne'
      have k1 : ∀ c, c < n → c ≠ db → h1.get c = h.get c := fun c h1 h2 => ev1.keep c h1 fun q => q.elim h2 (by omega)
      unfold R1_Parts_k2 R1_Parts_r30
      try dsimp only
      rw [show (Value.slice none 0 0) = nsl from rfl, run_single ev1.f g1.one_v]
      have ev2 := Ev.new ev1.f ⟨[pvv], .own⟩
      have m2 : (h1.set n1 ⟨[pvv], .own⟩).get n1 = some ⟨[pvv], .own⟩ := H.get_set_same _ _ _
      generalize h1.set n1 ⟨[pvv], .own⟩ = h2 at ev2 m2
      have hobn : ivo ≠ [] → oB < n := fun h0 => gl.lt f h0
      have gl2 : Gl h2 ov oB ivo := gl.keep fun h0 => by
        have := hobn h0
        rw [ev2.no (by omega), k1 oB this (hob h0).2]
      have hall : ivo.all one = true := by
        rw [List.all_eq_true]
        intro u hu
        obtain ⟨i, hi, rfl⟩ := List.mem_iff_getElem.1 hu
        have hil := pp.1
        obtain ⟨b, gb, _⟩ := pp.2 i ivo[i] (L[i]'(by omega)) (List.getElem?_eq_getElem hi) (List.getElem?_eq_getElem (by omega))
        exact gb.one_v
      obtain ⟨h3, e3, gl3, f3, k3⟩ := run_append (β := Value) (bytes := 24) (km := .own) gl2 ev2.f m2 (by decide) g1.one_v hall (fun h0 => by have := hobn h0; omega) (by have := pp.1; omega)
      rw [e3]
      have k03 : ∀ c, c < n → c ≠ db → (ivo ≠ [] → c ≠ oB) → h3.get c = h.get c := fun c hc c1 c2 => by rw [k3 c (by omega) c2, ev2.no (by omega), k1 c hc c1]
      have hpkk : h3.get pk = h1.get pk := by rw [k3 pk (by omega) fun h0 => by have := hobn h0; omega, ev2.no (by omega)]
      have pp3 : PartsIn h3 nb (sl 0 0 0 0) db (ivo ++ [pvv]) (n1 + 1) (L ++ [sccOf adj N t]) := pp.push f (fun c c1 c2 c3 c4 => k03 c c2 (c4 (by intro e; cases e)) fun _ => c3) (g1.keep fun _ => hpkk) hne (by omega) (by omega) (by omega) (by omega) (by intro e; cases e)
      have hD : ∀ v, v < N → ((dn v = true ∨ Same2 adj t v) ↔ dn' v = true) := fun v hv => by
        rw [d1 v, decide_eq_true (by omega : 0 ≤ v ∧ v < N), Bool.true_and, Bool.or_eq_true, Bool.and_eq_true, propB_iff, propB_iff]
        exact Iff.rfl
      have hcnt : cnt N dn' + 1 ≤ cnt N dn := by
        have h1 : cnt N dn' ≤ cnt N (putM dn t) := cnt_mono (fun m hm => by
          unfold putM at hm
          rw [Bool.or_eq_true, decide_eq_true_eq] at hm
          rw [d1 m]
          rcases hm with hm | rfl
          · rw [hm]; rfl
          · rw [decide_eq_true (by omega : 0 ≤ m ∧ m < N), show rchB adj m m = true from propB_true Rch.refl]
            simp) N
        have hdt : dn t = false := by
          cases hx : dn t with
          | false => rfl
          | true => exact absurd hx hnx.left
        have h2 := cnt_put (s := dn) (a := t) hdt N
        rw [if_pos ht] at h2
        omega
      obtain ⟨n', h', ov', oB', ivo', L', q1, q2, q3, q4, q5⟩ := ih k (n1 + 1 + 1) h3 dn' _ (n1 + 1) (ivo ++ [pvv]) (L ++ [sccOf adj N t]) (by omega) (by rw [List.length_append, List.length_singleton]; omega) (by omega) (fun c hc => by rw [k03 c (by omega) (by omega) fun h0 => by have := (hob h0).1; omega]; exact hk0 c hc) (t1.keep (by rw [k3 db (by omega) fun h0 => ((hob h0).2).symm, ev2.no (by omega)])) (fun v hv => by rw [d1 v, hout v hv, decide_eq_false (by omega)]; rfl) gl3 (fun _ => ⟨by omega, by omega⟩) pp3 f3 (by omega) (by omega)
      refine ⟨n', h', ov', oB', ivo', sccOf adj N t :: L', q1, q2, by rw [List.append_assoc] at q3; exact q3, .cons hnx (q4.congr fun v hv => (hD v hv).symm), q5.f, by have := q5.le; omega, fun c hc hcn => ?_⟩
      rw [q5.keep c (by omega) hcn, k03 c hc (by omega) fun h0 => by have := (hob h0).1; omega]

/-- haruspexref1.Parts tells the parts, in their order. -/
theorem rparts_spec {F : Nat} (hF : 1000000 ≤ F) (ok : GOk N adj) (gr : Gr h m tv N adj) (hm : m ≤ n) (f : Fr n h) :
    ∃ n' h' v L, (R1_Parts F tv).run n h = some (v, n', h') ∧ RdP 0 h' v L ∧ Topo adj N (fun _ => False) L ∧ Ev No n h n' h' := by
  have hN := ok.few
  unfold R1_Parts R1_Parts_r0 R1_Parts_r1
  try dsimp only
  rw [gr.len]
  unfold R1_Parts_r2 R1_Parts_r3
  try dsimp only
  obtain ⟨n1, h1, rv, r1, rr, ev1⟩ := rp_l11 (F := F) (nb := n) hF ok (E := fun x3 x4 => R1_Parts_k10 F x3 x4) N 0 F n h nsl 0 (fun _ => 0) (by omega) (by omega) gr hm (Nat.le_refl _) f (.inl ⟨rfl, rfl⟩) (fun h => absurd rfl h) (fun k hk => by omega)
  rw [show (Value.slice none 0 0) = nsl from rfl, show (Value.int .i64 0) = i64 ((0 : Nat) : Int) from rfl, r1]
  have le1 := ev1.le
  unfold R1_Parts_k10 R1_Parts_r7
  try dsimp only
  obtain ⟨h2, e2, t2, ev2⟩ := TB.make (β := Value) (bytes := 1) (N := N) (z := false) ev1.f (by omega) (by decide)
  rw [show (Value.bool false) = bo false from rfl, e2]
  unfold R1_Parts_r8
  try dsimp only
  have hc : cnt N (fun _ => false) ≤ N := cnt_le _ _
  obtain ⟨n3, h3, ov, oB, ivo, L, r3, gl, pp, tp, ev3⟩ := rp_l1 (F := F) (nb := n1) (db := n1) hF ok rr ev1.f (Nat.le_refl _) (E := fun x7 => R1_Parts_k0 F x7) N F (n1 + 1) h2 (fun _ => false) nsl 0 [] [] hc (by simp; exact hc) (by omega) (fun c hc => ev2.no hc) t2 (fun _ _ => rfl) (.inl ⟨rfl, rfl⟩) (fun h => absurd rfl h) ⟨rfl, fun i v P hv => by simp at hv⟩ ev2.f (by omega) (by omega)
  rw [show (Value.slice none 0 0) = nsl from rfl, r3]
  unfold R1_Parts_k0 R1_Parts_r31
  try dsimp only
  rw [List.nil_append] at pp
  refine ⟨n3, h3, ov, L, rfl, ⟨ivo, gl.rd, pp.1, fun _ => Nat.zero_le _, fun i v P hv hP => ⟨?_, fun _ => Nat.zero_le _⟩⟩, tp.congr fun v _ => ⟨fun h => (by cases h), fun h => h.elim⟩, ev3.f, by have := ev3.le; omega, fun c hc _ => ?_⟩
  · obtain ⟨b, gb, _⟩ := pp.2 i v P hv hP
    exact gb.rd
  · rw [ev3.keep c (by omega) (by omega), ev2.no (by omega), ev1.keep c hc (by omega)]

end
end Go.Fw
