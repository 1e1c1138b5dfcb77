/-
  GraphGreat, said of the abstract machine.
-/
import Derived.Test.YtddafkflndhnfaaDoorLawDReach
import Derived.Test.YtddafkflndhnfaaDoorLawDRaw
import Derived.Test.YtddafkflndhnfaaDoorFwRows
import Derived.Test.YtddafkflndhnfaaDoorGenDGraphGreat
set_option maxRecDepth 20000
set_option linter.unusedVariables false
namespace Go.Fw

/-- A line. -/
def lnA (N a : Nat) : List Nat := if a + 1 < N then [a + 1] else []

theorem lnA_mem {N a b : Nat} : b ∈ lnA N a ↔ (a + 1 < N ∧ b = a + 1) := by
  unfold lnA
  by_cases h : a + 1 < N
  · rw [if_pos h, List.mem_singleton]; exact ⟨fun q => ⟨h, q⟩, fun q => q.2⟩
  · rw [if_neg h]; exact ⟨fun q => (by cases q), fun q => absurd q.1 h⟩
theorem lnA_ok {N : Nat} (hN : N ≤ 600) : GOk N (lnA N) := ⟨hN, fun a _ b hb => by have := lnA_mem.1 hb; omega, fun a _ => by unfold lnA; split <;> simp⟩
theorem ln_rch {N a b : Nat} : Rch (lnA N) a b ↔ (b = a ∨ (a < b ∧ b < N)) := by
  constructor
  · intro r
    induction r with
    | refl => exact .inl rfl
    | @step b c _ h2 ih =>
      have := lnA_mem.1 h2
      omega
  · intro h
    have up : ∀ k, a + k < N → Rch (lnA N) a (a + k) := by
      intro k
      induction k with
      | zero => intro _; exact .refl
      | succ k ih => intro hk; exact .step (ih (by omega)) (lnA_mem.2 ⟨by omega, by omega⟩)
    rcases h with rfl | h
    · exact .refl
    · have := up (b - a) (by omega)
      rw [show a + (b - a) = b by omega] at this
      exact this
theorem ln_wk {N t a k : Nat} (w : Wk (lnA N) t a k) : a + k = t := by
  induction w with
  | zero => rfl
  | succ h _ ih =>
    have := lnA_mem.1 h
    omega

theorem ln_ord {N : Nat} {o : List Nat} (h1 : 0 < N) (x : Ord (lnA N) N 0 o) : o = List.range N := by
  have hat : ∀ i (hi : i < o.length), o[i] = i := by
    intro i
    induction i using Nat.strongRecOn with
    | _ i ih =>
      intro hi
      have e : o = o.take i ++ o[i] :: o.drop (i + 1) := by
        rw [← List.drop_eq_getElem_cons hi, List.take_append_drop]
      have htake : ∀ y, y ∈ o.take i ↔ y < i := fun y => by
        constructor
        · intro hy
          obtain ⟨j, hj, rfl⟩ := List.mem_iff_getElem.1 hy
          rw [List.length_take] at hj
          rw [List.getElem_take, ih j (by omega) (by omega)]; omega
        · intro hy
          have := ih y hy (by omega)
          rw [List.mem_iff_getElem]
          exact ⟨y, by rw [List.length_take]; omega, by rw [List.getElem_take]; exact this⟩
      have hnd : o[i] ∉ o.take i := by
        have hn := x.nodup
        rw [e, List.nodup_append] at hn
        intro hm
        exact hn.2.2 _ hm _ List.mem_cons_self rfl
      rw [htake] at hnd
      by_cases h0 : o[i] = 0
      · omega
      · obtain ⟨y, hy, hxy⟩ := x.par _ _ _ e h0
        rw [htake] at hy
        have := lnA_mem.1 hxy
        omega
  have hlen : o.length = N := by
    have h2 : o.length ≤ N := nodup_len x.nodup x.lt
    rcases Nat.lt_or_ge o.length N with h3 | h3
    · have hm : o.length ∈ o := (x.mem _).2 (ln_rch.2 (by omega))
      obtain ⟨j, hj, e⟩ := List.mem_iff_getElem.1 hm
      rw [hat j hj] at e
      omega
    · omega
  apply List.ext_getElem
  · rw [hlen, List.length_range]
  · intro i h1 h2
    rw [hat i h1, List.getElem_range]

theorem setL_lt {n : Nat} (hn : n ≤ 5120) : (setL fun q => decide (q < n)).length = n := by
  unfold setL upTo
  obtain ⟨k, hk⟩ : ∃ k, 64 * 80 = n + k := ⟨5120 - n, by omega⟩
  rw [hk, List.range_add, List.filter_append, List.length_append, List.filter_eq_self.2 (fun a ha => by rw [List.mem_range] at ha; simpa using ha), List.length_range, List.filter_eq_nil_iff.2 (fun a ha => by
    rw [List.mem_map] at ha
    obtain ⟨c, _, rfl⟩ := ha
    simp)]
  simp

/-- The rows while the line is laid. -/
def lineL (i a : Nat) : List Int := if a < i then [((a + 1 : Nat) : Int)] else []

theorem great_l3 {F N g ob lo : Nat} (hN : N ≤ 700) {E : Value → Value → M Value} : ∀ j i k n (h : H), (i + j + 1 = N ∨ (j = 0 ∧ N = 0 ∧ i = 0)) → j < k → GB h g N (sl ob 0 N N) → LRow h ob N lo (lineL i) → g < lo → g ≠ ob → lo ≤ n → Fr n h →
    ∃ n' h', (L5_GraphGreat_l3 F E k (i64 N) (pt g 0) (i64 (i : Nat))).run n h = (E (i64 N) (pt g 0)).run n' h' ∧ GB h' g N (sl ob 0 N N) ∧ LRow h' ob N lo (lineL (N - 1)) ∧ Ev (fun c => c = ob ∨ lo ≤ c) n h n' h' := by
  intro j
  induction j with
  | zero =>
    intro i k n h hij hk hg x hgl hgo hn f
    obtain ⟨k, rfl⟩ : ∃ j, k = j + 1 := ⟨k - 1, by omega⟩
    rw [L5_GraphGreat_l3_s]
    unfold L5_GraphGreat_b3 L5_GraphGreat_r8
    try dsimp only
    rw [sx_add (by omega), st_lss, onB_ite, run_ite, if_neg (by simp; omega)]
    rw [show i = N - 1 by omega] at x
    exact ⟨n, h, rfl, hg, x, Ev.refl f⟩
  | succ j ih =>
    intro i k n h hij hk hg x hgl hgo hn f
    obtain ⟨k, rfl⟩ : ∃ j, k = j + 1 := ⟨k - 1, by omega⟩
    rw [L5_GraphGreat_l3_s]
    unfold L5_GraphGreat_b3 L5_GraphGreat_r8
    try dsimp only
    rw [sx_add (by omega), st_lss, onB_ite, run_ite, if_pos (by simp; omega)]
    unfold L5_GraphGreat_r10
    try dsimp only
    rw [hg.t, sx_add (by omega)]
    have hfill : fillA (rep 1 [Value.int .i64 0]) [(0, 1, false, Value.int .i64 ((i : Int) + 1))] = some ([((i + 1 : Nat) : Int)].map i64) := by
      simp [fillA, rep, one]
    rw [run_build hfill f rfl]
    obtain ⟨h2, e2, x2, ev2⟩ := LRow.put (β := Value) x f hn (show i < N by omega) [((i + 1 : Nat) : Int)]
    rw [show (sl n 0 1 1) = sl n 0 [((i + 1 : Nat) : Int)].length [((i + 1 : Nat) : Int)].length from rfl, e2]
    unfold L5_GraphGreat_r9
    try dsimp only
    rw [sx_add (by omega)]
    have e : upd (lineL i) i [((i + 1 : Nat) : Int)] = lineL (i + 1) := by
      funext a
      unfold upd lineL
      by_cases e : a = i
      · subst e; rw [if_pos rfl, if_pos (by omega)]
      · rw [if_neg e]
        by_cases e2 : a < i
        · rw [if_pos e2, if_pos (by omega)]
        · rw [if_neg e2, if_neg (by omega)]
    rw [e] at x2
    obtain ⟨n', h', q1, q2, q3, q4⟩ := ih (i + 1) k (n + 1) h2 (by omega) (by omega) (hg.ev ev2 (hg.lt f) hgo) x2 hgl hgo (by omega) ev2.f
    exact ⟨n', h', q1, q2, q3, (ev2.mono fun c _ hc => .inl hc).trans q4 fun _ _ h => h⟩

theorem great_l1 {F N n : Nat} {x4 v : Value} {h : H} (hN : N ≤ 600) (hv : RdI h v (nats (List.range N))) {E : Value → Value → Value → M Value} : ∀ j i k, i + j = N → j < k →
    (L5_GraphGreat_l1 F E k (i64 N) x4 v (i64 (i : Nat))).run n h = (E (i64 N) x4 v).run n h := by
  intro j
  induction j with
  | zero =>
    intro i k hij hk
    obtain ⟨k, rfl⟩ : ∃ j, k = j + 1 := ⟨k - 1, by omega⟩
    rw [L5_GraphGreat_l1_s]
    unfold L5_GraphGreat_b1 L5_GraphGreat_r18
    try dsimp only
    rw [st_lss, onB_ite, run_ite, if_neg (by simp; omega)]
  | succ j ih =>
    intro i k hij hk
    obtain ⟨k, rfl⟩ : ∃ j, k = j + 1 := ⟨k - 1, by omega⟩
    rw [L5_GraphGreat_l1_s]
    unfold L5_GraphGreat_b1 L5_GraphGreat_r18
    try dsimp only
    rw [st_lss, onB_ite, run_ite, if_pos (by simp; omega)]
    unfold L5_GraphGreat_r20
    try dsimp only
    have hil : i < (nats (List.range N)).length := by rw [nats_len, List.length_range]; omega
    rw [hv.getI hil, nats_get, List.getElem_range, st_neq, onB_ite, run_ite, if_neg (by simp)]
    unfold L5_GraphGreat_r19
    try dsimp only
    rw [sx_add (by omega)]
    exact ih (i + 1) k (by omega) (by omega)

theorem great_run {F : Nat} (hF : 1000000 ≤ F) (hbg : gaveTrue ((L5_begun F).run 8 (baseH deB)) = true) (hbk : (((L5_begun F).run 8 (baseH deB)).map fun x => x.2.2.get 0) = some (some ⟨deB, .ro⟩)) (h : H) (us : List Value) (f : Fr 8 h) (hb : h.get 0 = some ⟨deB, .ro⟩) (ha : ArgsAre h [.int] us) :
    ∃ n' h', (L5_GraphGreat_m F us).run 8 h = some (.bool true, n', h') := by
  obtain ⟨_, rfl, ⟨N, rfl, hz⟩⟩ := args1 ha
  show ∃ n' h', (L5_GraphGreat F (i64 N)).run 8 h = some (.bool true, n', h')
  unfold L5_GraphGreat L5_GraphGreat_r0 L5_GraphGreat_r1
  try dsimp only
  obtain ⟨n1, h1, e1, f1, l1, k1⟩ := run_over_true hbg hbk f hb
  rw [run_bnd e1]
  unfold L5_GraphGreat_r2
  simp only [st_not, onB_ite, Bool.not_true, Bool.false_eq_true, if_false]
  unfold L5_GraphGreat_r4
  simp only [st_lss, st_gtr, onB_ite, run_ite, decide_eq_true_eq]
  by_cases q1 : N < 0
  · rw [if_pos q1]; exact ⟨_, _, rfl⟩
  rw [if_neg q1]
  by_cases q2 : 700 < N
  · rw [if_pos q2]; exact ⟨_, _, rfl⟩
  rw [if_neg q2]
  obtain ⟨N, rfl⟩ : ∃ m : Nat, N = m := ⟨N.toNat, by omega⟩
  have hN : N ≤ 700 := by omega
  unfold L5_GraphGreat_r6
  try dsimp only
  obtain ⟨h2, e2, t2, ev2⟩ := TV.make (β := Value) (bytes := 24) (v := nsl) f1 (show N ≤ 100000 by omega) (by decide) rfl
  rw [show (Value.int .i64 0) = i64 0 from rfl, show (Value.slice none 0 0) = nsl from rfl, e2, opBuild_gr rfl, ret_bnd, run_ptr ev2.f (by rfl)]
  have ev3 := Ev.new ev2.f ⟨[i64 0, nsl], .own⟩
  obtain ⟨h4, e4, g4, ev4⟩ := GB.put (β := Value) (N := N) (tv := sl n1 0 N N) (H.get_set_same h2 (n1 + 1) ⟨[i64 0, nsl], .own⟩) rfl ev3.f rfl
  rw [e4]
  have t4 := (t2.ev ev3 (by omega) (fun h => h)).ev ev4 (by omega) (by omega)
  unfold L5_GraphGreat_r7
  try dsimp only
  have x4 : LRow h4 n1 N (n1 + 1 + 1) (lineL 0) := by
    have := LRow.start (lo := n1 + 1 + 1) t4
    have e : lineL 0 = fun _ => [] := by funext a; unfold lineL; rw [if_neg (by omega)]
    rw [e]; exact this
  obtain ⟨n5, h5, e5, g5, x5, ev5⟩ := great_l3 (F := F) (lo := n1 + 1 + 1) hN (E := fun x0 x4 => L5_GraphGreat_k2 F x0 x4) (N - 1) 0 F (n1 + 1 + 1) h4 (by omega) (by omega) g4 x4 (by omega) (by omega) (Nat.le_refl _) ev4.f
  rw [show (Value.int .i64 0) = i64 ((0 : Nat) : Int) from rfl, e5]
  have l5 := ev5.le
  have gr5 : Gr h5 n5 (sl n1 0 N N) N (lnA N) := x5.gr ev5.f fun a ha => by
    unfold lineL lnA
    by_cases q : a + 1 < N
    · rw [if_pos q, if_pos (by omega)]; rfl
    · rw [if_neg q, if_neg (by omega)]; rfl
  unfold L5_GraphGreat_k2 L5_GraphGreat_r11
  try dsimp only
  rw [st_leq]
  unfold L5_GraphGreat_r12
  try dsimp only
  by_cases q6 : N ≤ 600
  · have ok := lnA_ok q6
    obtain ⟨n6, h6, e6, ev6⟩ := gmay_spec (F := F) (by omega) gr5 (Nat.le_refl _) ok ev5.f
    have l6 := ev6.le
    have g6 := g5.ev ev6 (by omega) (fun h => h)
    have gr6 := gr5.no ev6 (Nat.le_refl _)
    rw [g5.all, run_bnd e6, decide_eq_true (show (N : Int) ≤ 600 by omega), st_eqB, onB_ite, run_ite, if_neg (by decide)]
    unfold L5_GraphGreat_r14
    try dsimp only
    rw [st_not, onB_ite, run_ite, if_neg (by decide), st_eql, onB_ite, run_ite]
    by_cases q7 : N = 0
    · rw [if_pos (by rw [beq_iff_eq]; omega)]
      unfold L5_GraphGreat_r15
      try dsimp only
      obtain ⟨n7, h7, e7, ev7⟩ := order_out (F := F) (z := 0) hF gr6 (by omega) ok (.inr (by omega)) ev6.f
      rw [g6.all, show (Value.int .i64 0) = i64 0 from rfl, run_bnd e7, st_len, st_eql]
      exact ⟨n7, h7, rfl⟩
    · rw [if_neg (by rw [beq_iff_eq]; omega)]
      unfold L5_GraphGreat_r16
      try dsimp only
      have h0N : 0 < N := by omega
      obtain ⟨n7, h7, v7, b7, e7, gl7, lb7, ev7⟩ := order_in (F := F) (root := 0) hF gr6 (by omega) ok h0N ev6.f
      have l7 := ev7.le
      rw [g6.all, show (Value.int .i64 0) = i64 ((0 : Nat) : Int) from rfl, run_bnd e7]
      have eo : ordL (lnA N) F 0 = List.range N := ln_ord h0N (ord_beh (k := F) ok.lt h0N (by omega))
      rw [eo] at gl7
      have rd7 : RdI h7 v7 (nats (List.range N)) := gl7.rd
      have g7 := g6.ev ev7 (by omega) (fun h => h)
      have gr7 := gr6.no ev7 (by omega)
      unfold L5_GraphGreat_r17
      try dsimp only
      rw [show (Value.int .i64 0) = i64 ((0 : Nat) : Int) from rfl, great_l1 (F := F) q6 rd7 N 0 F (by omega) (by omega)]
      unfold L5_GraphGreat_k0 L5_GraphGreat_r22
      try dsimp only
      have hlr : (nats (List.range N)).length = N := by rw [nats_len, List.length_range]
      rw [rd7.lenI, hlr, st_eql, onB_ite, run_ite, if_pos (by simp)]
      obtain ⟨n8, h8, p, C, e8, y8, c8, ev8⟩ := greach_one (F := F) (root := 0) hF gr7 (by omega) ok h0N ev7.f
      have l8 := ev8.le
      have g8 := g7.ev ev8 (by omega) (fun h => h)
      have gr8 := gr7.no ev8 (by omega)
      rw [g7.all, show (Value.int .i64 0) = i64 0 from rfl]
      have e8' := e8
      rw [show (((0 : Nat) : Int)) = (0 : Int) from rfl] at e8'
      rw [e8']
      have eC : C = fun q => decide (q < N) := by
        funext q
        rw [Bool.eq_iff_iff, c8, ln_rch, decide_eq_true_eq]
        omega
      rw [eC] at y8
      rw [run_bnd (at_len (F := F) (n := n8) (by omega) y8), setL_lt (by omega), st_eql, onB_ite, run_ite, if_pos (by simp), g8.all, sx_sub (by omega), show ((N : Int) - 1) = ((N - 1 : Nat) : Int) by omega]
      obtain ⟨n9, h9, v9, e9, ev9, w9⟩ := path_in (F := F) (root := 0) (t := N - 1) hF gr8 (by omega) ok h0N (by omega) ev8.f
      have l9 := ev9.le
      have g9 := g8.ev ev9 (by omega) (fun h => h)
      have gr9 := gr8.no ev9 (by omega)
      rw [show i64 0 = i64 ((0 : Nat) : Int) from rfl, run_bnd e9]
      rcases w9 with ⟨_, nr⟩ | ⟨l, rd9, pw9⟩
      · exact absurd (ln_rch.2 (by omega)) nr
      · obtain ⟨d, hd, hll⟩ := pw9.len
        have hdN := ln_wk hd.1
        rw [rd9.lenI, nats_len, st_eql, onB_ite, run_ite, if_pos (by rw [beq_iff_eq]; omega), g9.all, sx_sub (by omega), show ((N : Int) - 1) = ((N - 1 : Nat) : Int) by omega]
        obtain ⟨nA, hA, vA, eA, evA, wA⟩ := path_in (F := F) (root := N - 1) (t := 0) hF gr9 (by omega) ok (by omega) h0N ev9.f
        rw [run_bnd eA]
        have nl : RdI hA nsl [] := .inl ⟨rfl, rfl⟩
        rcases wA with ⟨rfl, nr⟩ | ⟨l2, rdA, pwA⟩
        · have h1N : N ≠ 1 := by
            rintro rfl
            exact nr .refl
          rw [show (Value.slice none 0 0) = nsl from rfl, run_bnd (req_spec nl nl (by simp; omega) (by simp)), st_gtr, decide_eq_true rfl, decide_eq_true (show (1 : Int) < (N : Int) by omega), st_eqB]
          exact ⟨nA, hA, rfl⟩
        · obtain ⟨d2, hd2, hl2⟩ := pwA.len
          have := ln_wk hd2.1
          have hsm := pwA.small ok (by omega)
          rw [show (Value.slice none 0 0) = nsl from rfl, run_bnd (req_spec rdA nl (by rw [nats_len]; omega) (by rw [nats_len]; omega)), st_gtr, decide_eq_false (show ¬ nats l2 = [] from fun q => by
            have := congrArg List.length q
            rw [nats_len] at this
            simp only [List.length_nil] at this
            omega), decide_eq_false (show ¬ (1 : Int) < (N : Int) by omega), st_eqB]
          exact ⟨nA, hA, rfl⟩
  · have hno : ¬ Mayz (N : Int) N (fun a => nats (lnA N a)) := fun q => by have := q.2.1; omega
    have hsh : ∀ a, a < N → (nats (lnA N a)).length ≤ 100000 := fun a _ => by
      rw [nats_len]; unfold lnA; split <;> simp
    obtain ⟨n6, h6, e6, ev6⟩ := may_no (F := F) (z := (N : Int)) hF gr5.rg (Nat.le_refl _) (by omega) hsh hno ev5.f
    have l6 := ev6.le
    have g6 := g5.ev ev6 (by omega) (fun h => h)
    have gr6 := gr5.no ev6 (Nat.le_refl _)
    rw [g5.all, run_bnd e6, decide_eq_false (show ¬ (N : Int) ≤ 600 by omega), st_eqB, onB_ite, run_ite, if_neg (by decide)]
    unfold L5_GraphGreat_r14
    try dsimp only
    rw [st_not, onB_ite, run_ite, if_pos (by decide), onB_ite, run_ite, if_pos rfl]
    unfold L5_GraphGreat_r15
    try dsimp only
    obtain ⟨n7, h7, e7, ev7⟩ := order_no (F := F) (z := (N : Int)) (r := i64 0) hF gr6.rg (by omega) (by omega) hsh hno ev6.f
    rw [g6.all, show (Value.int .i64 0) = i64 0 from rfl, run_bnd e7, st_len, st_eql]
    exact ⟨n7, h7, rfl⟩

theorem great_law (h : H) (us : List Value) (f : Fr 8 h) (hb : h.get 0 = some ⟨deB, .ro⟩) (ha : ArgsAre h [.int] us) : ∃ n' h', (L5_GraphGreat_m 1000000 us).run 8 h = some (.bool true, n', h') := great_run (Nat.le_refl _) begunD_runs begunD_keeps h us f hb ha

end Go.Fw
