/-
  GraphPartsOrder, said of the abstract machine.
-/
import Derived.Test.YtddafkflndhnfaaDoorLawTC
import Derived.Test.YtddafkflndhnfaaDoorLawTLoops
import Derived.Test.YtddafkflndhnfaaDoorGenTGraphPartsOrder
set_option maxRecDepth 20000
set_option linter.unusedVariables false
namespace Go.Fw

section
variable {adj : Nat → List Nat} {N : Nat}

theorem Topo.disj {L : List (List Nat)} {D : Nat → Prop} (x : Topo adj N D L) : L.Pairwise fun P Q => ∀ v, v ∈ P → v ∉ Q := by
  have h := x.small.2
  have h2 : L.Pairwise fun P Q => hd P ≠ hd Q := by
    unfold List.Nodup at h
    rw [List.pairwise_map] at h
    exact h
  refine h2.imp_of_mem fun {P Q} hP hQ hne v hv hw => hne ?_
  rw [((x.part P hP).2 v hv).2, ((x.part Q hQ).2 v hw).2]
theorem Topo.at_one {L : List (List Nat)} {D : Nat → Prop} (x : Topo adj N D L) {j k : Nat} {P Q : List Nat} (hP : L[j]? = some P) (hQ : L[k]? = some Q) {v : Nat} (h1 : v ∈ P) (h2 : v ∈ Q) : j = k := by
  obtain ⟨hj, e1⟩ := List.getElem?_eq_some_iff.1 hP
  obtain ⟨hk, e2⟩ := List.getElem?_eq_some_iff.1 hQ
  rcases Nat.lt_trichotomy j k with h | h | h
  · have := List.pairwise_iff_getElem.1 x.disj j k hj hk h
    rw [e1, e2] at this; exact absurd h2 (this v h1)
  · exact h
  · have := List.pairwise_iff_getElem.1 x.disj k j hk hj h
    rw [e1, e2] at this; exact absurd h1 (this v h2)

theorem Topo.edge {D : Nat → Prop} {L : List (List Nat)} (x : Topo adj N D L) : ∀ a b, a < N → b < N → ¬ D a → ¬ D b → b ∈ adj a → ∀ (j : Nat) (P : List Nat), L[j]? = some P → b ∈ P → ∃ (k : Nat) (Q : List Nat), k ≤ j ∧ L[k]? = some Q ∧ a ∈ Q := by
  induction x with
  | nil h => exact fun a b ha _ hD => absurd (h a ha) hD
  | @cons D i L hn t ih =>
    intro a b ha hb hDa hDb he j P hP hm
    by_cases hsa : Same2 adj i a
    · exact ⟨0, _, Nat.zero_le _, rfl, scc_mem.2 ⟨ha, hsa⟩⟩
    · have hsb : ¬ Same2 adj i b := fun h => hsa (by
        have hr : Rch adj a i := (Rch.step .refl he).trans h.2
        exact ⟨hn.free a ha hDa hr, hr⟩)
      cases j with
      | zero =>
        simp only [List.getElem?_cons_zero, Option.some.injEq] at hP
        rw [← hP] at hm
        exact absurd (scc_mem.1 hm).2 hsb
      | succ j =>
        rw [List.getElem?_cons_succ] at hP
        obtain ⟨k, Q, h1, h2, h3⟩ := ih a b ha hb (fun h => h.elim hDa hsa) (fun h => h.elim hDb hsb) he j P hP hm
        exact ⟨k + 1, Q, by omega, by rw [List.getElem?_cons_succ]; exact h2, h3⟩

theorem ofF_topo {L : List (List Nat)} (x : Topo adj N (fun _ => False) L) : ∀ (M k : Nat) (P : List Nat), k < M → L[k]? = some P → ∀ a, a ∈ P → ofF L M a = k
  | 0, k, P, hk, _, _, _ => by omega
  | M + 1, k, P, hk, hP, a, ha => by
    unfold ofF
    by_cases e : a ∈ (L[M]?).getD []
    · rw [if_pos e]
      cases hQ : L[M]? with
      | none => rw [hQ] at e; cases e
      | some P' =>
        rw [hQ] at e
        exact x.at_one hQ hP e ha
    · rw [if_neg e]
      refine ofF_topo x M k P ?_ hP a ha
      rcases Nat.lt_or_eq_of_le (Nat.le_of_lt_succ hk) with h | h
      · exact h
      · subst h; rw [hP] at e; exact absurd ha e

theorem part_sorted {L : List (List Nat)} {D : Nat → Prop} (x : Topo adj N D L) {P : List Nat} (hP : P ∈ L) : P.Pairwise (· < ·) := by
  rw [((x.part P hP).2 _ (hd_mem (x.part P hP).1)).2]
  exact List.Pairwise.filter _ List.pairwise_lt_range

theorem flat_len {L : List (List Nat)} (x : Topo adj N (fun _ => False) L) : L.flatten.length = N := by
  have hn : L.flatten.Nodup := by
    unfold List.Nodup
    rw [List.pairwise_flatten]
    refine ⟨fun P hP => (part_sorted x hP).imp fun {a b} h e => by omega, ?_⟩
    exact x.disj.imp fun {P Q} h a ha b hb e => h a ha (by rw [e]; exact hb)
  have := ((List.perm_ext_iff_of_nodup hn (List.nodup_range (n := N))).2 fun v => by
    rw [List.mem_flatten, List.mem_range]
    constructor
    · rintro ⟨P, hP, hv⟩; exact ((x.part P hP).2 v hv).1
    · intro hv
      obtain ⟨P, hP, hm⟩ := x.cover v hv fun h => h
      exact ⟨P, hP, hm⟩).length_eq
  rw [this, List.length_range]
end

section
variable {n : Nat} {h h' hb : H} {m N lo nb g ab : Nat} {tv pv : Value} {adj : Nat → List Nat}

theorem po_l7 {F i c0 : Nat} {L : List (List Nat)} {P : List Nat} (hN : N ≤ 600) (fb : Fr nb hb) (gb : GB hb g N tv) (rp : RdP lo hb pv L) (hPi : L[i]? = some P) (hPs : P.length ≤ 1000) (hPN : ∀ a, a ∈ P → a < N) (hso : P.Pairwise (· < ·)) (hc0 : c0 ≤ 1000000) (hab : nb ≤ ab) {E : Value → Value → Value → Value → Value → M Value} : ∀ j q k n (h : H) (u : Nat → Nat), q + j = P.length → j < k → (∀ c, c < nb → h.get c = hb.get c) → TI h ab N (fun a => (u a : Int)) → Fr n h →
    ∃ h', (L5_GraphPartsOrder_l7 F E k (pt g 0) pv (sl ab 0 N N) (i64 ((c0 + q : Nat) : Int)) (i64 i) (i64 q)).run n h = (E (pt g 0) pv (sl ab 0 N N) (i64 ((c0 + P.length : Nat) : Int)) (i64 i)).run n h' ∧ TI h' ab N (fun a => ((if a ∈ P.drop q then i else u a : Nat) : Int)) ∧ Ev (fun c => c = ab) n h n h' := by
  intro j
  induction j with
  | zero =>
    intro q k n h u hq hk hk0 tu f
    obtain ⟨k, rfl⟩ : ∃ j, k = j + 1 := ⟨k - 1, by omega⟩
    obtain rfl : q = P.length := by omega
    obtain ⟨w, er, ru, _, _⟩ := rp.rowB (n := n) fb hk0 hPi
    rw [L5_GraphPartsOrder_l7_s]
    unfold L5_GraphPartsOrder_b7 L5_GraphPartsOrder_r12
    try dsimp only
    rw [er, RdI.lenN (ru.kept fb hk0), st_lss]
    simp only [onB_ite, run_ite, decide_eq_true_eq]
    rw [if_neg (by omega)]
    refine ⟨h, rfl, ?_, Ev.refl f⟩
    have e : (fun a => ((if a ∈ P.drop P.length then i else u a : Nat) : Int)) = fun a => (u a : Int) := by
      funext a; rw [List.drop_of_length_le (by omega), if_neg (by simp)]
    rw [e]; exact tu
  | succ j ih =>
    intro q k n h u hq hk hk0 tu f
    obtain ⟨k, rfl⟩ : ∃ j, k = j + 1 := ⟨k - 1, by omega⟩
    have hqP : q < P.length := by omega
    have hi : i < L.length := (List.getElem?_eq_some_iff.1 hPi).1
    have haN := hPN P[q] (List.getElem_mem hqP)
    obtain ⟨w, er, ru, _, _⟩ := rp.rowB (n := n) fb hk0 hPi
    have ru' : RdI h w (nats P) := ru.kept fb hk0
    have gbh : GB h g N tv := by unfold GB; rw [hk0 g (gb.lt fb)]; exact gb
    rw [L5_GraphPartsOrder_l7_s]
    unfold L5_GraphPartsOrder_b7 L5_GraphPartsOrder_r12
    try dsimp only
    rw [er, RdI.lenN ru', st_lss]
    simp only [onB_ite, run_ite, decide_eq_true_eq]
    rw [if_pos (by omega)]
    unfold L5_GraphPartsOrder_r14
    try dsimp only
    rw [er, RdI.getN ru' hqP, show (Value.int .i64 0) = i64 0 from rfl, st_lss, onB_ite, run_ite, if_neg (by rw [decide_eq_true_eq]; omega), er, RdI.getN ru' hqP, gbh.nn, st_geq, onB_ite, run_ite, if_neg (by rw [decide_eq_true_eq]; omega), st_gtr, onB_ite, run_ite]
    have go : ∀ b, b = false → (onB (bo b) (L5_GraphPartsOrder_r15 F fun x4 => ret x4) (L5_GraphPartsOrder_r16 F (pt g 0) pv (sl ab 0 N N) (i64 ((c0 + q : Nat) : Int)) (i64 i) (i64 q) fun x6 x7 x8 x9 x10 x11 => L5_GraphPartsOrder_r17 F x6 x7 x8 x9 x10 x11 fun x6 x7 x8 x9 x10 x11 => L5_GraphPartsOrder_r13 F x6 x7 x8 x9 x10 x11 fun x6 x7 x8 x9 x10 x11 => L5_GraphPartsOrder_l7 F E k x6 x7 x8 x9 x10 x11)).run n h = (L5_GraphPartsOrder_r16 F (pt g 0) pv (sl ab 0 N N) (i64 ((c0 + q : Nat) : Int)) (i64 i) (i64 q) fun x6 x7 x8 x9 x10 x11 => L5_GraphPartsOrder_r17 F x6 x7 x8 x9 x10 x11 fun x6 x7 x8 x9 x10 x11 => L5_GraphPartsOrder_r13 F x6 x7 x8 x9 x10 x11 fun x6 x7 x8 x9 x10 x11 => L5_GraphPartsOrder_l7 F E k x6 x7 x8 x9 x10 x11).run n h := fun b hb => by
      subst hb
      rw [onB_ite, run_ite, if_neg (by decide)]
    have step : ∃ h', (L5_GraphPartsOrder_r16 F (pt g 0) pv (sl ab 0 N N) (i64 ((c0 + q : Nat) : Int)) (i64 i) (i64 q) fun x6 x7 x8 x9 x10 x11 => L5_GraphPartsOrder_r17 F x6 x7 x8 x9 x10 x11 fun x6 x7 x8 x9 x10 x11 => L5_GraphPartsOrder_r13 F x6 x7 x8 x9 x10 x11 fun x6 x7 x8 x9 x10 x11 => L5_GraphPartsOrder_l7 F E k x6 x7 x8 x9 x10 x11).run n h = (E (pt g 0) pv (sl ab 0 N N) (i64 ((c0 + P.length : Nat) : Int)) (i64 i)).run n h' ∧ TI h' ab N (fun a => ((if a ∈ P.drop q then i else u a : Nat) : Int)) ∧ Ev (fun c => c = ab) n h n h' := by
      unfold L5_GraphPartsOrder_r16
      try dsimp only
      obtain ⟨h1, e1, t1, ev1⟩ := TI.set (β := Value) tu f haN (z := (i : Int))
      rw [er, RdI.getN ru' hqP, e1]
      unfold L5_GraphPartsOrder_r17 L5_GraphPartsOrder_r13
      try dsimp only
      rw [show (Value.int .i64 1) = i64 1 from rfl, sx_add (by omega), sx_add (by omega)]
      have e2 : upd (fun a => ((u a : Nat) : Int)) P[q] (i : Int) = fun a => ((upd u P[q] i a : Nat) : Int) := by
        funext a; unfold upd; split <;> rfl
      rw [e2] at t1
      obtain ⟨h', r1, r2, r3⟩ := ih (q + 1) k n h1 (upd u P[q] i) (by omega) (by omega) (fun c hc => by rw [ev1.keep c (by have := Fr.lt f tu; omega) (by omega)]; exact hk0 c hc) t1 ev1.f
      refine ⟨h', r1, ?_, ev1.trans r3 fun _ _ h => h⟩
      have e : (fun a => ((if a ∈ P.drop (q + 1) then i else upd u P[q] i a : Nat) : Int)) = fun a => ((if a ∈ P.drop q then i else u a : Nat) : Int) := by
        funext a
        rw [List.drop_eq_getElem_cons hqP]
        unfold upd
        by_cases h1 : a ∈ P.drop (q + 1)
        · rw [if_pos h1, if_pos (List.mem_cons_of_mem _ h1)]
        · rw [if_neg h1]
          by_cases h2 : a = P[q]
          · rw [if_pos h2, if_pos (by rw [h2]; exact List.mem_cons_self)]
          · rw [if_neg h2, if_neg fun q => (List.mem_cons.1 q).elim h2 h1]
      rw [e] at r2
      exact r2
    by_cases hq0 : (0 : Int) < (q : Int)
    · rw [if_pos (by rw [decide_eq_true_eq]; exact hq0)]
      have hlt := List.pairwise_iff_getElem.1 hso (q - 1) q (by omega) hqP (by omega)
      have eq1 : ((q : Int) - 1) = ((q - 1 : Nat) : Int) := by omega
      rw [er, RdI.getN ru' hqP, er, show (Value.int .i64 1) = i64 1 from rfl, sx_sub (by omega), eq1, RdI.getN ru' (show q - 1 < P.length by omega), st_leq]
      rw [go _ (decide_eq_false (by omega))]
      exact step
    · rw [if_neg (by rw [decide_eq_true_eq]; exact hq0), go false rfl]
      exact step

theorem po_l5 {F : Nat} {L : List (List Nat)} (hF : 1000000 ≤ F) (hN : N ≤ 600) (fb : Fr nb hb) (gb : GB hb g N tv) (rp : RdP lo hb pv L) (tp : Topo adj N (fun _ => False) L) (hab : nb ≤ ab) {E : Value → Value → Value → M Value} : ∀ j i k n (h : H), i + j = L.length → j < k → (∀ c, c < nb → h.get c = hb.get c) → TI h ab N (fun a => (ofF L i a : Int)) → Fr n h →
    ∃ h', (L5_GraphPartsOrder_l5 F E k (pt g 0) pv (sl ab 0 N N) (i64 (((L.take i).flatten.length : Nat) : Int)) (i64 i)).run n h = (E (pt g 0) (sl ab 0 N N) (i64 ((L.flatten.length : Nat) : Int))).run n h' ∧ TI h' ab N (fun a => (ofF L L.length a : Int)) ∧ Ev (fun c => c = ab) n h n h' := by
  have hLl := tp.len
  intro j
  induction j with
  | zero =>
    intro i k n h hij hk hk0 tu f
    obtain ⟨k, rfl⟩ : ∃ j, k = j + 1 := ⟨k - 1, by omega⟩
    obtain rfl : i = L.length := by omega
    rw [L5_GraphPartsOrder_l5_s]
    unfold L5_GraphPartsOrder_b5 L5_GraphPartsOrder_r9
    try dsimp only
    rw [(rp.kept fb hk0).len, st_lss]
    simp only [onB_ite, run_ite, decide_eq_true_eq]
    rw [if_neg (by omega), List.take_length]
    exact ⟨h, rfl, tu, Ev.refl f⟩
  | succ j ih =>
    intro i k n h hij hk hk0 tu f
    obtain ⟨k, rfl⟩ : ∃ j, k = j + 1 := ⟨k - 1, by omega⟩
    have hi : i < L.length := by omega
    have hPi := List.getElem?_eq_getElem hi
    have hPL : L[i] ∈ L := List.getElem_mem hi
    have hfew := tp.few _ hPL
    have hfl : (L.take i).flatten.length ≤ N := by
      have h1 := flat_len tp
      have h2 : L.flatten = (L.take i).flatten ++ (L.drop i).flatten := by rw [← List.flatten_append, List.take_append_drop]
      rw [h2, List.length_append] at h1
      omega
    rw [L5_GraphPartsOrder_l5_s]
    unfold L5_GraphPartsOrder_b5 L5_GraphPartsOrder_r9
    try dsimp only
    rw [(rp.kept fb hk0).len, st_lss]
    simp only [onB_ite, run_ite, decide_eq_true_eq]
    rw [if_pos (by omega)]
    unfold L5_GraphPartsOrder_r11
    try dsimp only
    obtain ⟨h1, r1, t1, ev1⟩ := po_l7 (F := F) (c0 := (L.take i).flatten.length) hN fb gb rp hPi (by omega) (fun a ha => ((tp.part _ hPL).2 a ha).1) (part_sorted tp hPL) (by omega) hab (E := fun x6 x7 x8 x9 x10 => L5_GraphPartsOrder_k6 F (L5_GraphPartsOrder_l5 F E k) x6 x7 x8 x9 x10) L[i].length 0 F n h (ofF L i) (by omega) (by omega) hk0 tu f
    rw [Nat.add_zero] at r1
    rw [show (Value.int .i64 0) = i64 ((0 : Nat) : Int) from rfl, r1]
    unfold L5_GraphPartsOrder_k6 L5_GraphPartsOrder_r10
    try dsimp only
    rw [show (Value.int .i64 1) = i64 1 from rfl, sx_add (by omega)]
    have e : (fun a => ((if a ∈ L[i].drop 0 then i else ofF L i a : Nat) : Int)) = fun a => (ofF L (i + 1) a : Int) := by
      funext a
      rw [List.drop_zero]
      show _ = ((if a ∈ (L[i]?).getD [] then i else ofF L i a : Nat) : Int)
      rw [hPi]
      simp only [Option.getD_some]
    rw [e] at t1
    have e2 : (L.take i).flatten.length + L[i].length = (L.take (i + 1)).flatten.length := by
      rw [List.take_succ_eq_append_getElem hi, List.flatten_append, List.length_append, List.flatten_singleton]
    rw [e2]
    obtain ⟨h', r2, r3, r4⟩ := ih (i + 1) k n h1 (by omega) (by omega) (fun c hc => by rw [ev1.keep c (by have := Fr.lt f tu; omega) (by omega)]; exact hk0 c hc) t1 ev1.f
    exact ⟨h', r2, r3, ev1.trans r4 fun _ _ h => h⟩

theorem po_l3 {F a : Nat} {x9 : Value} {u : Nat → Nat} (ok : GOk N adj) (gb : GB h g N tv) (gr : Gr h m tv N adj) (tu : TI h ab N (fun a => (u a : Int))) (ha : a < N) (hu : ∀ b, b ∈ adj a → u a ≤ u b) {E : Value → Value → Value → Value → M Value} : ∀ j q k, q + j = (adj a).length → j < k →
    (L5_GraphPartsOrder_l3 F E k (pt g 0) (sl ab 0 N N) x9 (i64 a) (i64 q)).run n h = (E (pt g 0) (sl ab 0 N N) x9 (i64 a)).run n h := by
  have hs := ok.short a ha
  obtain ⟨rv, er, hg, fg, kg, hr⟩ := gr.row (β := Value) (n := n) ha
  have rd : RdI h rv (nats (adj a)) := hr.kept fg kg
  intro j
  induction j with
  | zero =>
    intro q k hq hk
    obtain ⟨k, rfl⟩ : ∃ j, k = j + 1 := ⟨k - 1, by omega⟩
    rw [L5_GraphPartsOrder_l3_s]
    unfold L5_GraphPartsOrder_b3 L5_GraphPartsOrder_r22
    try dsimp only
    rw [gb.t, er, RdI.lenN rd, st_lss]
    simp only [onB_ite, run_ite, decide_eq_true_eq]
    rw [if_neg (by omega)]
  | succ j ih =>
    intro q k hq hk
    obtain ⟨k, rfl⟩ : ∃ j, k = j + 1 := ⟨k - 1, by omega⟩
    have hqa : q < (adj a).length := by omega
    have hm := List.getElem_mem hqa
    have hbN := ok.lt a ha _ hm
    have hle := hu _ hm
    rw [L5_GraphPartsOrder_l3_s]
    unfold L5_GraphPartsOrder_b3 L5_GraphPartsOrder_r22
    try dsimp only
    rw [gb.t, er, RdI.lenN rd, st_lss]
    simp only [onB_ite, run_ite, decide_eq_true_eq]
    rw [if_pos (by omega)]
    unfold L5_GraphPartsOrder_r24
    try dsimp only
    rw [tu.get ha, gb.t, er, RdI.getN rd hqa, tu.get hbN, st_gtr, onB_ite, run_ite, if_neg (by rw [decide_eq_true_eq]; omega)]
    unfold L5_GraphPartsOrder_r23
    try dsimp only
    rw [show (Value.int .i64 1) = i64 1 from rfl, sx_add (by omega)]
    exact ih (q + 1) k (by omega) (by omega)

theorem po_l1 {F : Nat} {x9 : Value} {u : Nat → Nat} (hF : 1000000 ≤ F) (ok : GOk N adj) (gb : GB h g N tv) (gr : Gr h m tv N adj) (tu : TI h ab N (fun a => (u a : Int))) (hu : ∀ a, a < N → ∀ b, b ∈ adj a → u a ≤ u b) {E : Value → Value → M Value} : ∀ j i k, i + j = N → j < k →
    (L5_GraphPartsOrder_l1 F E k (pt g 0) (sl ab 0 N N) x9 (i64 i)).run n h = (E (pt g 0) x9).run n h := by
  have hN := ok.few
  intro j
  induction j with
  | zero =>
    intro i k hij hk
    obtain ⟨k, rfl⟩ : ∃ j, k = j + 1 := ⟨k - 1, by omega⟩
    rw [L5_GraphPartsOrder_l1_s]
    unfold L5_GraphPartsOrder_b1 L5_GraphPartsOrder_r19
    try dsimp only
    rw [gb.nn, st_lss]
    simp only [onB_ite, run_ite, decide_eq_true_eq]
    rw [if_neg (by omega)]
  | succ j ih =>
    intro i k hij hk
    obtain ⟨k, rfl⟩ : ∃ j, k = j + 1 := ⟨k - 1, by omega⟩
    have hi : i < N := by omega
    rw [L5_GraphPartsOrder_l1_s]
    unfold L5_GraphPartsOrder_b1 L5_GraphPartsOrder_r19
    try dsimp only
    rw [gb.nn, st_lss]
    simp only [onB_ite, run_ite, decide_eq_true_eq]
    rw [if_pos (by omega)]
    unfold L5_GraphPartsOrder_r21
    try dsimp only
    rw [show (Value.int .i64 0) = i64 ((0 : Nat) : Int) from rfl, po_l3 (F := F) ok gb gr tu hi (hu i hi) (adj i).length 0 F (by omega) (by have := ok.short i hi; omega)]
    unfold L5_GraphPartsOrder_k2 L5_GraphPartsOrder_r20
    try dsimp only
    rw [show (Value.int .i64 1) = i64 1 from rfl, sx_add (by omega)]
    exact ih (i + 1) k (by omega) (by omega)
end

theorem gpo_run {F : Nat} (hF : 1000000 ≤ F) (hbg : gaveTrue ((L5_begun F).run 8 (baseH deB)) = true) (hbg0 : (((L5_begun F).run 8 (baseH deB)).map fun x => x.2.2.get 0) = some (some ⟨deB, .ro⟩)) (h : H) (us : List Value) (f : Fr 8 h) (hb : h.get 0 = some ⟨deB, .ro⟩) (ha : ArgsAre h [.int, .flat 2] us) : ∃ n' h', (L5_GraphPartsOrder_m F us).run 8 h = some (.bool true, n', h') := by
  obtain ⟨v0, v1, rfl, a0, a1⟩ := args2 ha
  obtain ⟨z, rfl, hz⟩ := a0
  obtain ⟨len, Z, hp, _, hZ⟩ := a1.pairs f
  show ∃ n' h', (L5_GraphPartsOrder F (i64 z) v1).run 8 h = _
  obtain ⟨n1, h1, e1, f1, l1, k1⟩ := run_over_true hbg hbg0 f hb
  unfold L5_GraphPartsOrder L5_GraphPartsOrder_r0 L5_GraphPartsOrder_r1
  try dsimp only
  rw [run_bnd e1]
  unfold L5_GraphPartsOrder_r2
  simp only [st_not, onB_ite, Bool.not_true, Bool.false_eq_true, if_false]
  unfold L5_GraphPartsOrder_r4
  try dsimp only
  obtain ⟨n2, h2, g, ob, O, e2, x2, ev2⟩ := made_var (F := F) hF l1 hz hZ (hp.keep k1) f1
  rw [show (Value.int .i64 0) = i64 0 from rfl, show (Value.slice none 0 0) = nsl from rfl, e2]
  generalize nodesOf z = N at *
  generalize madeL N Z (min len 80) = adj at *
  have gr2 := x2.gr ev2.f
  have hN := x2.few
  have hN1 := x2.pos
  have hgl := x2.glt
  unfold L5_GraphPartsOrder_r5
  try dsimp only
  obtain ⟨n3, h3, v3, L, e3, rp, tp, _, ev3⟩ := parts_spec (F := F) hF x2.ok hN1 gr2 (Nat.le_refl _) ev2.f
  have gb3 := x2.var.ev ev3 x2.glt (fun h => h)
  have gr3 := gr2.no ev3 (Nat.le_refl _)
  have l3 := ev3.le
  rw [x2.var.all, run_bnd e3]
  unfold L5_GraphPartsOrder_r6
  try dsimp only
  obtain ⟨h4, e4, t4, ev4⟩ := TI.make (β := Value) (bytes := 8) ev3.f (show N ≤ 100000 by omega) (by omega) (z := 0)
  rw [gb3.nn, e4]
  unfold L5_GraphPartsOrder_r7 L5_GraphPartsOrder_r8
  try dsimp only
  obtain ⟨h5, r5, t5, ev5⟩ := po_l5 (F := F) (nb := n3) (ab := n3) hF (by omega) ev3.f gb3 rp tp (Nat.le_refl _) (E := fun x6 x8 x9 => L5_GraphPartsOrder_k4 F x6 x8 x9) L.length 0 F (n3 + 1) h4 (by omega) (by have := tp.len; omega) (fun c hc => ev4.no hc) t4 ev4.f
  rw [show (L.take 0).flatten.length = 0 from rfl] at r5
  rw [show (Value.int .i64 0) = i64 ((0 : Nat) : Int) from rfl, r5, flat_len tp]
  have k5 : ∀ c, c < n3 → h5.get c = h3.get c := fun c hc => by rw [ev5.keep c (by omega) (by omega), ev4.no hc]
  have gb5 : GB h5 g N (sl ob 0 N N) := by unfold GB; rw [k5 g (by omega)]; exact gb3
  have gr5 := gr3.kept (h' := h5) fun c hc => k5 c (by omega)
  unfold L5_GraphPartsOrder_k4 L5_GraphPartsOrder_r18
  try dsimp only
  rw [show (Value.int .i64 0) = i64 ((0 : Nat) : Int) from rfl, po_l1 (F := F) hF x2.ok gb5 gr5 t5 (fun a ha b hb => by
    have hbN := x2.ok.lt a ha b hb
    obtain ⟨P, hP, hm⟩ := tp.cover b hbN fun h => h
    obtain ⟨j, hj⟩ := List.mem_iff_getElem?.1 hP
    obtain ⟨k, Q, hkj, hQ, hma⟩ := tp.edge a b ha hbN (fun h => h) (fun h => h) hb j P hj hm
    rw [ofF_topo tp L.length j P (List.getElem?_eq_some_iff.1 hj).1 hj b hm, ofF_topo tp L.length k Q (List.getElem?_eq_some_iff.1 hQ).1 hQ a hma]
    exact hkj) N 0 F (by omega) (by omega)]
  unfold L5_GraphPartsOrder_k0 L5_GraphPartsOrder_r26
  try dsimp only
  rw [gb5.nn, st_eql]
  refine ⟨n3 + 1, h5, ?_⟩
  rw [beq_self_eq_true]
  rfl

theorem gpo_law (h : H) (us : List Value) (f : Fr 8 h) (hb : h.get 0 = some ⟨deB, .ro⟩) (ha : ArgsAre h [.int, .flat 2] us) : ∃ n' h', (L5_GraphPartsOrder_m 1000000 us).run 8 h = some (.bool true, n', h') := gpo_run (Nat.le_refl _) begunT_runs begunT_keeps h us f hb ha

end Go.Fw
