/-
  graph.Path, said of the abstract machine.
-/
import Derived.Test.YtmkpboaigdnpnaaLawGrB
import Derived.Test.YtmkpboaigdnpnaaLawReach
import Derived.Test.YtmkpboaigdnpnaaFwPath
set_option maxRecDepth 20000
namespace Go.Fw

/-- The state on the way: how far, who waits. -/
structure Qs (h : H) (lo bf N : Nat) (v : Value) (far : Nat → Nat) (Q : List Nat) : Prop where
  tab : TI h bf N fun i => (far i : Int)
  que : ∃ b, GqI h v b Q ∧ (v ≠ nsl → lo ≤ b ∧ b ≠ bf)

theorem Qs.rd {h : H} {lo bf N : Nat} {v : Value} {far : Nat → Nat} {Q : List Nat} (x : Qs h lo bf N v far Q) : RdI h v (nats Q) := by
  obtain ⟨b, g, _⟩ := x.que; exact g.rd

theorem Qs.mark {h : H} {n lo bf N a c : Nat} {v : Value} {far : Nat → Nat} {Q : List Nat} (x : Qs h lo bf N v far Q) (f : Fr n h) (ha : a < N) (hlo : lo ≤ n) (hbf : bf < lo) (hl : Q.length < 100000) :
    ∃ h1 h2 v', (∀ k : Value → M Value, (bnd (opIndexAddr 1 (sl bf 0 N N) (i64 a)) fun p => bnd (opStore p (i64 (c : Int))) k).run n h = (k undef).run n h1) ∧
      (∀ k : Value → M Value, (bnd (opBuildSlice 1 (rep 1 [i64 0]) [(0, 1, false, i64 (a : Int))]) fun t => bnd (opAppend 1 8 v t) k).run n h1 = (k v').run (n + 2) h2) ∧ Qs h2 lo bf N v' (upd far a c) (Q ++ [a]) ∧ Ev (fun c => c = bf ∨ lo ≤ c) n h (n + 2) h2 := by
  obtain ⟨b, g, hb⟩ := x.que
  obtain ⟨h1, e1, t1, ev1⟩ := TI.set (β := Value) x.tab f ha (z := (c : Int))
  have g1 : GqI h1 v b Q := by
    rcases g with g | g
    · exact .inl g
    · have hv : v ≠ nsl := by obtain ⟨o, xs, kd, c, rfl, _⟩ := g; intro e; cases e
      exact Gq.keep (.inr g) fun hs => ev1.keep b (by
        rcases Nat.lt_or_ge b n with h3 | h3
        · exact h3
        · rw [f b h3] at hs; cases hs) (hb hv).2
  obtain ⟨h2, v', e2, g2, f2, k2⟩ := g1.pushN (a := a) (y := 0) ev1.f (by omega)
  have et : upd (fun i => (far i : Int)) a (c : Int) = fun i => ((upd far a c i : Nat) : Int) := by
    funext i; unfold upd; split <;> rfl
  rw [et] at t1
  refine ⟨h1, h2, v', e1, e2, ⟨t1.keep (k2 bf (by omega) fun hv => (hb hv).2.symm), n + 1, g2, fun _ => ⟨by omega, by omega⟩⟩, f2, by omega, fun c hc hn => ?_⟩
  rw [k2 c hc fun hv => by have := (hb hv).1; omega, ev1.keep c hc (by omega)]

section
variable {adj : Nat → List Nat} {N t : Nat}

theorem nzP (far : Nat → Nat) (a : Nat) : (far a != 0) = true ↔ far a ≠ 0 := by rw [bne_iff_ne]

theorem path_l8 {F bf lo b D : Nat} {x1 x2 x3 x8 rv : Value} {Q0 : List Nat} {O : Nat → Prop} {hB : H} (hN : N ≤ 600) (hb : b < N) (hbf : bf < lo) (hO : ∀ c, O c → c ≠ bf ∧ c < lo) (hr : ∀ h' : H, (∀ c, O c → h'.get c = hB.get c) → RdI h' rv (nats (turnA N adj b))) (hs : (turnA N adj b).length ≤ 700000) {E : Value → Value → Value → Value → Value → Value → M Value} : ∀ j i k n (h : H) v (far : Nat → Nat) Q1, i + j = (turnA N adj b).length → j < k → (∀ c, O c → h.get c = hB.get c) → Qs h lo bf N v far (b :: Q0 ++ Q1) → Bw adj N t far (b :: Q0) Q1 D (fun _ => False) → (b :: Q0 ++ Q1).length + cnt N (fun i => far i != 0) ≤ 2000 → (∀ a, a ∈ (turnA N adj b).take i → far a ≠ 0) → D + (if Q1 = [] then 0 else 1) + cnt N (fun i => far i != 0) + 1 ≤ N → (∀ q, far q ≤ D + 2) → lo ≤ n → Fr n h →
    ∃ n' h' v' far' Q1', (graph_Path_l8 F E k x1 x2 x3 (sl bf 0 N N) x8 v rv (i64 (turnA N adj b).length) (i64 (i : Nat))).run n h = (E x1 x2 x3 (sl bf 0 N N) x8 v').run n' h' ∧ Qs h' lo bf N v' far' (b :: Q0 ++ Q1') ∧ Bw adj N t far' (b :: Q0) Q1' D (fun _ => False) ∧ (b :: Q0 ++ Q1').length + cnt N (fun i => far' i != 0) ≤ (b :: Q0 ++ Q1).length + cnt N (fun i => far i != 0) ∧ (∀ a, a ∈ turnA N adj b → far' a ≠ 0) ∧ (∀ a, far a ≠ 0 → far' a ≠ 0) ∧ D + (if Q1' = [] then 0 else 1) + cnt N (fun i => far' i != 0) + 1 ≤ N ∧ (∀ q, far' q ≤ D + 2) ∧ Ev (fun c => c = bf ∨ lo ≤ c) n h n' h' := by
  intro j
  induction j with
  | zero =>
    intro i k n h v far Q1 hij hk hOB x B hsz hdone hD hbd hn f
    obtain ⟨k, rfl⟩ : ∃ j, k = j + 1 := ⟨k - 1, by omega⟩
    rw [graph_Path_l8_s]
    unfold graph_Path_b8 graph_Path_r10
    try dsimp only
    rw [st_lss]
    simp only [onB_ite, run_ite, decide_eq_true_eq]
    rw [if_neg (by omega)]
    rw [List.take_of_length_le (by omega)] at hdone
    exact ⟨n, h, v, far, Q1, rfl, x, B, Nat.le_refl _, hdone, fun _ h => h, hD, hbd, Ev.refl f⟩
  | succ j ih =>
    intro i k n h v far Q1 hij hk hOB x B hsz hdone hD hbd hn f
    obtain ⟨k, rfl⟩ : ∃ j, k = j + 1 := ⟨k - 1, by omega⟩
    have hi : i < (turnA N adj b).length := by omega
    rw [graph_Path_l8_s]
    unfold graph_Path_b8 graph_Path_r10
    try dsimp only
    rw [st_lss]
    simp only [onB_ite, run_ite, decide_eq_true_eq]
    rw [if_pos (by omega)]
    unfold graph_Path_r11
    try dsimp only
    have hr1 := hr h hOB
    have hil : i < (nats (turnA N adj b)).length := by unfold nats; rw [List.length_map]; exact hi
    rw [hr1.getI hil]
    have e : (nats (turnA N adj b))[i]'hil = (((turnA N adj b)[i] : Nat) : Int) := by simp [nats]
    rw [e]
    have hmem : (turnA N adj b)[i] ∈ turnA N adj b := List.getElem_mem hi
    have etake : (turnA N adj b).take (i + 1) = (turnA N adj b).take i ++ [(turnA N adj b)[i]] := List.take_succ_eq_append_getElem hi
    generalize (turnA N adj b)[i] = a at *
    obtain ⟨haN, hae⟩ := turnA_mem.1 hmem
    unfold graph_Path_r12
    try dsimp only
    rw [TI.get x.tab haN, st_eql]
    simp only [onB_ite, run_ite, beq_iff_eq]
    by_cases h0 : far a = 0
    · rw [if_pos (by omega)]
      have hfb := B.q0 b List.mem_cons_self
      have hbl := (B.exact_ b D hfb).2
      have rq := x.rd
      have r0 : 0 < (nats (b :: Q0 ++ Q1)).length := by simp [nats]
      have e0 : (nats (b :: Q0 ++ Q1))[0]'r0 = (b : Int) := rfl
      unfold graph_Path_r13
      try dsimp only
      rw [show (Value.int .i64 0) = i64 ((0 : Nat) : Int) from rfl, rq.getI r0, e0, TI.get x.tab hb, hfb, sx_add (by omega), show ((D + 1 : Nat) : Int) + 1 = ((D + 2 : Nat) : Int) by omega]
      have hlen : (b :: Q0 ++ Q1).length < 100000 := by omega
      obtain ⟨h1, h2, v2, q1, q2, x2', ev2⟩ := x.mark (c := D + 2) f haN hn hbf hlen
      rw [q1]
      unfold graph_Path_r14
      try dsimp only
      rw [show (Value.int .i64 0) = i64 0 from rfl, q2]
      unfold graph_Path_k9 graph_Path_r15
      try dsimp only
      rw [sx_add (by omega)]
      have B2 := B.mark hfb haN hae h0
      have hcnt : cnt N (fun i => upd far a (D + 2) i != 0) + 1 = cnt N (fun i => far i != 0) := by
        have h3 := cnt_put (s := fun i => far i != 0) (a := a) (by rw [h0]; rfl) N
        rw [if_pos haN] at h3
        have e3 : (fun i => upd far a (D + 2) i != 0) = putM (fun i => far i != 0) a := by
          funext q; unfold upd putM
          by_cases e4 : q = a
          · rw [if_pos e4, decide_eq_true e4, Bool.or_true]; rfl
          · rw [if_neg e4, decide_eq_false e4, Bool.or_false]
        rw [e3]; exact h3
      have hmono : ∀ q, far q ≠ 0 → upd far a (D + 2) q ≠ 0 := fun q hq => by
        unfold upd; split
        · omega
        · exact hq
      have el : b :: Q0 ++ Q1 ++ [a] = b :: Q0 ++ (Q1 ++ [a]) := List.append_assoc _ _ _
      rw [el] at x2'
      have hl2 : (b :: Q0 ++ (Q1 ++ [a])).length = (b :: Q0 ++ Q1).length + 1 := by rw [← el, List.length_append, List.length_singleton]
      obtain ⟨n', h', v', far', Q1', r1, r2, r3, r4, r5, r6, r7, r8, r9⟩ := ih (i + 1) k (n + 2) h2 v2 (upd far a (D + 2)) (Q1 ++ [a]) (by omega) (by omega) (fun c hc => by rw [ev2.keep c (by have := (hO c hc).2; omega) (by have := hO c hc; omega)]; exact hOB c hc) x2' B2 (by omega) (fun q hq => by
        rw [etake, List.mem_append, List.mem_singleton] at hq
        rcases hq with hq | rfl
        · exact hmono q (hdone q hq)
        · rw [upd_same]; omega) (by
        rw [if_neg (by simp)]
        have h5 : (if Q1 = [] then 0 else 1) ≤ 1 := by split <;> omega
        omega) (fun q => by
        unfold upd; split
        · omega
        · exact hbd q) (by omega) ev2.f
      exact ⟨n', h', v', far', Q1', r1, r2, r3, by omega, r5, fun q hq => r6 q (hmono q hq), r7, r8, ev2.trans r9 fun _ _ h => h⟩
    · rw [if_neg (by omega)]
      unfold graph_Path_k9 graph_Path_r15
      try dsimp only
      rw [sx_add (by omega)]
      refine ih (i + 1) k n h v far Q1 (by omega) (by omega) hOB x B hsz (fun q hq => ?_) hD hbd hn f
      rw [etake, List.mem_append, List.mem_singleton] at hq
      rcases hq with hq | rfl
      · exact hdone q hq
      · exact h0

theorem path_l6 {F bf lo g2 ob : Nat} {x1 x2 x3 : Value} {O : Nat → Prop} {hB : H} (hF : 1000000 ≤ F) (ok : GOk N adj) (hbf : bf < lo) (hO : ∀ c, O c → c ≠ bf ∧ c < lo) (hg2 : g2 ≠ bf ∧ g2 < lo) (gB : GB hB g2 N (sl ob 0 N N)) (xB : OL hB ob N O (fun b => nats (turnA N adj b))) {E : Value → Value → Value → Value → M Value} : ∀ j k n (h : H) v (far : Nat → Nat) Q0 Q1 D, (Q0 ++ Q1).length + cnt N (fun i => far i != 0) ≤ j → j < k → j ≤ 2000 → (∀ c, O c → h.get c = hB.get c) → h.get g2 = hB.get g2 → Qs h lo bf N v far (Q0 ++ Q1) → Bw adj N t far Q0 Q1 D (fun _ => False) → far t ≠ 0 → D + (if Q1 = [] then 0 else 1) + cnt N (fun i => far i != 0) + 1 ≤ N → (∀ q, far q ≤ D + 2) → lo ≤ n → Fr n h →
    ∃ n' h' far', (graph_Path_l6 F E k x1 x2 x3 (sl bf 0 N N) (pt g2 0) v).run n h = (E x1 x2 x3 (sl bf 0 N N)).run n' h' ∧ TI h' bf N (fun i => ((far' : Nat → Nat) i : Int)) ∧ (∀ a, a < N → ∀ k, far' a = k + 1 ↔ Dst adj t a k) ∧ (∀ q, far' q ≤ N + 2) ∧ Ev (fun c => c = bf ∨ lo ≤ c) n h n' h' := by
  have hN := ok.few
  intro j
  induction j with
  | zero =>
    intro k n h v far Q0 Q1 D hj hk hj2 hOB hgB x B ht hD hbd hn f
    obtain ⟨k, rfl⟩ : ∃ j, k = j + 1 := ⟨k - 1, by omega⟩
    have hq : Q0 ++ Q1 = [] := List.eq_nil_of_length_eq_zero (by omega)
    obtain ⟨rfl, rfl⟩ := List.append_eq_nil_iff.1 hq
    rw [graph_Path_l6_s]
    unfold graph_Path_b6 graph_Path_r7
    try dsimp only
    rw [x.rd.lenI, st_gtr]
    simp only [onB_ite, run_ite, decide_eq_true_eq]
    rw [if_neg (by decide)]
    exact ⟨n, h, far, rfl, x.tab, fun a ha k => B.done ok.lt ht ha k, fun q => by have := hbd q; omega, Ev.refl f⟩
  | succ j ih =>
    -- one who waits in front
    have main : ∀ k n (h : H) v (far : Nat → Nat) b Q0 Q1 D, (b :: Q0 ++ Q1).length + cnt N (fun i => far i != 0) ≤ j + 1 → j < k → j + 1 ≤ 2000 → (∀ c, O c → h.get c = hB.get c) → h.get g2 = hB.get g2 → Qs h lo bf N v far (b :: Q0 ++ Q1) → Bw adj N t far (b :: Q0) Q1 D (fun _ => False) → far t ≠ 0 → D + (if Q1 = [] then 0 else 1) + cnt N (fun i => far i != 0) + 1 ≤ N → (∀ q, far q ≤ D + 2) → lo ≤ n → Fr n h →
        ∃ n' h' far', (graph_Path_l6 F E (k + 1) x1 x2 x3 (sl bf 0 N N) (pt g2 0) v).run n h = (E x1 x2 x3 (sl bf 0 N N)).run n' h' ∧ TI h' bf N (fun i => ((far' : Nat → Nat) i : Int)) ∧ (∀ a, a < N → ∀ k, far' a = k + 1 ↔ Dst adj t a k) ∧ (∀ q, far' q ≤ N + 2) ∧ Ev (fun c => c = bf ∨ lo ≤ c) n h n' h' := by
      intro k n h v far b Q0 Q1 D hj hk hj2 hOB hgB x B ht hD hbd hn f
      have hfb := B.q0 b List.mem_cons_self
      have hbN := (B.exact_ b D hfb).2
      have hlen : (nats (b :: Q0 ++ Q1)).length = (b :: Q0 ++ Q1).length := by unfold nats; rw [List.length_map]
      have hpos : 0 < (b :: Q0 ++ Q1).length := by simp
      rw [graph_Path_l6_s]
      unfold graph_Path_b6 graph_Path_r7
      try dsimp only
      rw [x.rd.lenI, st_gtr]
      simp only [onB_ite, run_ite, decide_eq_true_eq]
      rw [if_pos (by omega)]
      unfold graph_Path_r9
      try dsimp only
      have gh : GB h g2 N (sl ob 0 N N) := by unfold GB; rw [hgB]; exact gB
      have xh := xB.keep hOB
      obtain ⟨rv, e1, hr⟩ := xh.row' (β := Value) (n := n) hbN
      have r0 : 0 < (nats (b :: Q0 ++ Q1)).length := by omega
      have e0 : (nats (b :: Q0 ++ Q1))[0]'r0 = (b : Int) := rfl
      have hs : (turnA N adj b).length ≤ 700000 := by
        have := turnL_len (b := b) ok N 0 (Nat.le_refl _) (.inr rfl)
        unfold turnA; omega
      have hrh := hr h fun _ _ => rfl
      rw [gh.t, show (Value.int .i64 0) = i64 ((0 : Nat) : Int) from rfl, x.rd.getI r0, e0, e1, hrh.lenI, show (nats (turnA N adj b)).length = (turnA N adj b).length by unfold nats; rw [List.length_map]]
      obtain ⟨n2, h2, v2, far2, Q12, q1, q2, q3, q4, q5, q6, q7, q9, q8⟩ := path_l8 (F := F) (t := t) (x1 := x1) (x2 := x2) (x3 := x3) (x8 := pt g2 0) (Q0 := Q0) (D := D) hN hbN hbf hO hr hs (E := fun x1 x2 x3 x7 x8 x9 => graph_Path_k7 F (graph_Path_l6 F E k) x1 x2 x3 x7 x8 x9) (turnA N adj b).length 0 F n h v far Q1 (by omega) (by omega) (fun _ _ => rfl) x B (by omega) (fun a ha => by rw [List.take_zero] at ha; cases ha) hD hbd hn f
      rw [q1]
      unfold graph_Path_k7 graph_Path_r8
      try dsimp only
      obtain ⟨bq, g, hbq⟩ := q2.que
      have g' : Gq h2 v2 bq (i64 (b : Int) :: (nats (Q0 ++ Q12)).map i64) := g
      obtain ⟨v3, e3, g3⟩ := g'.tail (β := Value)
      rw [e3]
      have hv2 : v2 ≠ nsl := by
        rintro rfl
        rcases g' with ⟨q, _⟩ | ⟨_, _, _, _, q, _⟩ <;> cases q
      have x3' : Qs h2 lo bf N v3 far2 (Q0 ++ Q12) := ⟨q2.tab, bq, g3, fun _ => hbq hv2⟩
      have B3 : Bw adj N t far2 Q0 Q12 D (fun _ => False) := ⟨q3.exact_, q3.compl, fun c hc => by
        rcases q3.cl c hc with h1 | h1 | h1
        · rw [List.cons_append, List.mem_cons] at h1
          rcases h1 with rfl | h1
          · exact .inr (.inr fun a ha he => q5 a (turnA_mem.2 ⟨ha, he⟩))
          · exact .inl h1
        · exact h1.elim
        · exact .inr (.inr h1), fun c hc => q3.q0 c (List.mem_cons_of_mem _ hc), q3.q1⟩
      have hO2 : ∀ c, O c → h2.get c = hB.get c := fun c hc => by
        rw [q8.keep c (by have := (hO c hc).2; omega) (by have := hO c hc; omega)]; exact hOB c hc
      have hg2' : h2.get g2 = hB.get g2 := by rw [q8.keep g2 (by omega) (by omega)]; exact hgB
      rw [List.cons_append, List.length_cons] at q4 hj
      obtain ⟨n', h', far', r1, r2, r3, r5, r4⟩ := ih k n2 h2 v3 far2 Q0 Q12 D (by rw [List.cons_append, List.length_cons] at q4; omega) hk (by omega) hO2 hg2' x3' B3 (q6 t ht) q7 q9 (by have := q8.le; omega) q8.f
      exact ⟨n', h', far', r1, r2, r3, r5, q8.trans r4 fun _ _ h => h⟩
    intro k n h v far Q0 Q1 D hj hk hj2 hOB hgB x B ht hD hbd hn f
    obtain ⟨k, rfl⟩ : ∃ j, k = j + 1 := ⟨k - 1, by omega⟩
    match Q0, Q1 with
    | b :: Q0, Q1 => exact main k n h v far b Q0 Q1 D hj (by omega) hj2 hOB hgB x B ht hD hbd hn f
    | [], b :: Q1 =>
      have Bs := B.shift ok.lt
      rw [if_neg (by simp)] at hD
      exact main k n h v far b Q1 [] (D + 1) (by simpa using hj) (by omega) hj2 hOB hgB (by simpa using x) Bs ht (by rw [if_pos rfl]; omega) (fun q => by have := hbd q; omega) hn f
    | [], [] =>
      rw [graph_Path_l6_s]
      unfold graph_Path_b6 graph_Path_r7
      try dsimp only
      rw [x.rd.lenI, st_gtr]
      simp only [onB_ite, run_ite, decide_eq_true_eq]
      rw [if_neg (by decide)]
      exact ⟨n, h, far, rfl, x.tab, fun a ha k => B.done ok.lt ht ha k, fun q => by have := hbd q; omega, Ev.refl f⟩
end

end Go.Fw
