/-
  graph.Reach, said of the abstract machine.
-/
import Derived.Test.YtddafkflndhnfaaDoorLawTarE
set_option maxRecDepth 20000
set_option linter.unusedVariables false
namespace Go.Fw

/-- A list that grows by appends and is cut at the end. -/
def Gw (h : H) (v : Value) (b : Nat) (l : List Nat) : Prop :=
  (l = [] ∧ v = nsl) ∨ ∃ xs, v = sl b 0 l.length (U + 1) ∧ h.get b = some ⟨xs, .grow⟩ ∧ l.length ≤ xs.length ∧ xs.take l.length = (nats l).map i64

theorem Gw.keep {h h' : H} {v : Value} {b : Nat} {l : List Nat} (g : Gw h v b l) (hk : v ≠ nsl → h'.get b = h.get b) : Gw h' v b l := by
  rcases g with g | ⟨xs, h1, h2, h3⟩
  · exact .inl g
  · exact .inr ⟨xs, h1, by rw [hk (by rw [h1]; intro e; cases e)]; exact h2, h3⟩
theorem Gw.lt {h : H} {n : Nat} {v : Value} {b : Nat} {l : List Nat} (g : Gw h v b l) (f : Fr n h) (hv : v ≠ nsl) : b < n := by
  rcases g with g | ⟨xs, h1, h2, h3⟩
  · exact absurd g.2 hv
  · exact f.lt h2
theorem Gw.rd {h : H} {v : Value} {b : Nat} {l : List Nat} (g : Gw h v b l) : RdI h v (nats l) := by
  rcases g with ⟨rfl, rfl⟩ | ⟨xs, h1, h2, h3, h4⟩
  · exact .inl ⟨rfl, rfl⟩
  · refine .inr ⟨b, 0, U + 1, .grow, by rw [List.length_map, nats_len]; exact h1, fun _ => ⟨xs, h2, by decide, fun i hi => ?_⟩⟩
    rw [List.length_map, nats_len] at hi
    rw [Nat.zero_add, ← h4, List.getElem?_take, if_pos hi]

theorem Gw.pop {β : Type} {h : H} {v : Value} {b : Nat} {l : List Nat} {a : Nat} (g : Gw h v b (l ++ [a])) : ∃ v', (∀ k : Value → M β, bnd (opSlice 1 v none (some (i64 (l.length : Int))) none) k = k v') ∧ Gw h v' b l ∧ v ≠ nsl := by
  rcases g with ⟨g0, _⟩ | ⟨xs, h1, h2, h3, h4⟩
  · simp at g0
  · subst h1
    rw [List.length_append, List.length_singleton] at h3 h4
    have es : opSlice 1 (sl b 0 (l ++ [a]).length (U + 1)) none (some (i64 (l.length : Int))) none = ret (sl b 0 l.length (U + 1)) := by
      rw [List.length_append, List.length_singleton]
      show (if (0 : Int) ≤ 0 ∧ (0 : Int) ≤ (l.length : Int) then (if (l.length : Int) ≤ ((l.length + 1 : Nat) : Int) then (if U + 1 = U + 1 then ret (sl b (0 + (0 : Int).toNat * 1) ((l.length : Int) - 0).toNat (U + 1)) else _) else fail) else fail) = _
      rw [if_pos (by omega), if_pos (by omega), if_pos rfl]
      rw [show ((l.length : Int) - 0).toNat = l.length by omega]; rfl
    refine ⟨_, fun k => by rw [es, ret_bnd], .inr ⟨xs, rfl, h2, by omega, ?_⟩, by intro e; cases e⟩
    have := congrArg (List.take l.length) h4
    rw [List.take_take, show min l.length (l.length + 1) = l.length by omega] at this
    rw [this]
    simp [nats]

theorem Gw.push {n b a : Nat} {h : H} {v y : Value} {l : List Nat} (g : Gw h v b l) (f : Fr n h) (hl : l.length < 100000) :
    ∃ h' v', (∀ k : Value → M Value, (bnd (opBuildSlice 1 (rep 1 [y]) [(0, 1, false, i64 (a : Int))]) fun t => bnd (opAppend 1 8 v t) k).run n h = (k v').run (n + 2) h') ∧ Gw h' v' (n + 1) (l ++ [a]) ∧ Fr (n + 2) h' ∧ one v' = true ∧ v' ≠ nsl ∧ ∀ c, c < n → (v ≠ nsl → c ≠ b) → h'.get c = h.get c := by
  have f1 : Fr (n + 1) (h.set n ⟨[i64 (a : Int)], .own⟩) := f.new _
  have rdm : ∀ (K : List Value → M Value), (bnd (cellsOf 1 (sl n 0 1 1)) K).run (n + 1) (h.set n ⟨[i64 (a : Int)], .own⟩) = (K [i64 (a : Int)]).run (n + 1) (h.set n ⟨[i64 (a : Int)], .own⟩) := fun K => by
    rw [cellsOf_gl (by decide), run_rdN, H.get_set_same, ldN_some (by decide) (by simp)]; rfl
  have hln : ((nats l).map i64).length = l.length := by rw [List.length_map, nats_len]
  have hap : (nats (l ++ [a])).map i64 = (nats l).map i64 ++ [i64 (a : Int)] := by simp [nats]
  rcases g with ⟨rfl, rfl⟩ | ⟨xs, rfl, h2, h4, h5⟩
  · refine ⟨(h.set n ⟨[i64 (a : Int)], .own⟩).set (n + 1) ⟨[] ++ [i64 (a : Int)], .grow⟩, sl (n + 1) 0 1 (U + 1), fun k => ?_, .inr ⟨[i64 (a : Int)], rfl, H.get_set_same _ _ _, by simp, by simp [nats]⟩, f1.new _, rfl, (by intro e; cases e), fun c hc _ => by rw [H.get_set_ne _ _ (by omega), H.get_set_ne _ _ (by omega)]⟩
    rw [run_single f rfl]
    unfold opAppend
    simp only [if_neg (show ¬ (1 : Nat) = 0 by decide)]
    rw [if_pos (by omega), bnd_assoc, rdm, if_neg (by unfold U; omega), if_pos (by omega), bnd_assoc]
    have e1 : cellsOf 1 (.slice none 0 0) = ret [] := rfl
    rw [e1, ret_bnd, bnd_assoc, run_new f1 (by rfl)]
    rfl
  · have hbn := f.lt h2
    have hb1 : (h.set n ⟨[i64 (a : Int)], .own⟩).get b = some ⟨xs, .grow⟩ := by rw [H.get_set_ne _ _ (by omega)]; exact h2
    have olds : ∀ (K : List Value → M Value), (bnd (cellsOf 1 (sl b 0 l.length (U + 1))) K).run (n + 1) (h.set n ⟨[i64 (a : Int)], .own⟩) = (K ((nats l).map i64)).run (n + 1) (h.set n ⟨[i64 (a : Int)], .own⟩) := fun K => by
      by_cases h0 : l.length = 0
      · have : l = [] := List.eq_nil_of_length_eq_zero h0
        subst this; rfl
      · rw [cellsOf_gl h0, run_rdN, hb1, ldN_some (by decide) (by omega), Nat.mul_one, List.drop_zero, h5]
    have hall2 : ((nats l).map i64 ++ [i64 (a : Int)]).all one = true := by rw [List.all_append, allI]; rfl
    have f2 : Fr (n + 1) ((h.set n ⟨[i64 (a : Int)], .own⟩).set b dead) := f1.set _ (by omega)
    refine ⟨((h.set n ⟨[i64 (a : Int)], .own⟩).set b dead).set (n + 1) ⟨(nats l).map i64 ++ [i64 (a : Int)], .grow⟩, sl (n + 1) 0 (l.length + 1) (U + 1), fun k => ?_, .inr ⟨(nats l).map i64 ++ [i64 (a : Int)], by simp, H.get_set_same _ _ _, by simp [nats], by rw [hap]; exact List.take_of_length_le (by simp [nats])⟩, f2.new _, rfl, (by intro e; cases e), fun c hc hcb => by
      rw [H.get_set_ne _ _ (by omega), H.get_set_ne _ _ (hcb (by intro e; cases e)), H.get_set_ne _ _ (by omega)]⟩
    rw [run_single f rfl]
    unfold opAppend
    simp only [if_neg (show ¬ (1 : Nat) = 0 by decide), if_true]
    rw [if_pos (by omega), bnd_assoc, rdm, bnd_assoc, olds, bnd_assoc]
    have hkill : (kill b).run (n + 1) (h.set n ⟨[i64 (a : Int)], .own⟩) = some ((), n + 1, (h.set n ⟨[i64 (a : Int)], .own⟩).set b dead) := by
      show killF b (n + 1) _ = _
      unfold killF
      rw [hb1]
    rw [run_bnd hkill, bnd_assoc, run_new f2 hall2]
    rfl

theorem upd_putS {s : Nat → Bool} {b : Nat} : upd s b true = putS s b := by
  funext m; unfold upd putS
  by_cases h : m = b
  · rw [if_pos h, decide_eq_true h, Bool.or_true]
  · rw [if_neg h, decide_eq_false h, Bool.or_false]

/-- A search on its way: the graph's box, the set's variable, the list's variable, the set, the list. -/
structure Rst (h : H) (lo g vs vl p N : Nat) (tv : Value) (C : Nat → Bool) (L : List Nat) : Prop where
  vg : GB h g N tv
  sv : h.get vs = some ⟨[pt p 0], .own⟩
  low : lo ≤ g ∧ lo ≤ vs ∧ lo ≤ vl ∧ g ≠ vs ∧ g ≠ vl ∧ vs ≠ vl
  rest : ∃ O b v, BS h p O C ∧ h.get vl = some ⟨[v], .own⟩ ∧ one v = true ∧ Gw h v b L ∧ (∀ c, O c → lo ≤ c ∧ c ≠ g ∧ c ≠ vs ∧ c ≠ vl) ∧ (v ≠ nsl → lo ≤ b ∧ ¬ O b ∧ b ≠ g ∧ b ≠ vs ∧ b ≠ vl)

section
variable {N : Nat} {adj : Nat → List Nat}

theorem come_spec {F n lo g vs vl p : Nat} {tv : Value} {z : Int} {C : Nat → Bool} {L : List Nat} {h : H} (hF : 100 < F) (hN : N ≤ 600) (x : Rst h lo g vs vl p N tv C L) (f : Fr n h) (hn : lo ≤ n) (hl : L.length < 100000) :
    ∃ n' h' w, (graph_Reach_1 F (i64 z) (pt g 0) (pt vs 0) (pt vl 0)).run n h = some (w, n', h') ∧ Rst h' lo g vs vl p N tv (if 0 ≤ z ∧ z < (N : Int) ∧ C z.toNat = false then putS C z.toNat else C) (if 0 ≤ z ∧ z < (N : Int) ∧ C z.toNat = false then L ++ [z.toNat] else L) ∧ Ev (fun c => lo ≤ c) n h n' h' := by
  obtain ⟨l1, l2, l3, d1, d2, d3⟩ := x.low
  have same : ¬ (0 ≤ z ∧ z < (N : Int)) → Rst h lo g vs vl p N tv (if 0 ≤ z ∧ z < (N : Int) ∧ C z.toNat = false then putS C z.toNat else C) (if 0 ≤ z ∧ z < (N : Int) ∧ C z.toNat = false then L ++ [z.toNat] else L) := fun hc => by
    rw [if_neg (fun q => hc ⟨q.1, q.2.1⟩), if_neg (fun q => hc ⟨q.1, q.2.1⟩)]; exact x
  unfold graph_Reach_1 graph_Reach_1_r0
  try dsimp only
  rw [st_geq, onB_ite, run_ite]
  by_cases h1 : 0 ≤ z
  · rw [if_pos (by simpa using h1), x.vg.nn, st_lss, onB_ite, run_ite]
    by_cases h2 : z < (N : Int)
    · rw [if_pos (by simpa using h2), ld1 x.sv (by decide) rfl]
      obtain ⟨O, b, v, bs, sl_, ov, gw, hO, hb⟩ := x.rest
      obtain ⟨a, rfl⟩ : ∃ a : Nat, z = (a : Int) := ⟨z.toNat, by omega⟩
      rw [Int.toNat_natCast]
      obtain ⟨n1, h1', O', e1, bs1, f1, le1, k1, o1⟩ := add_spec (F := F) bs f (a : Int) hF
      have hcan : canAdd C (a : Int) = !C a := by
        unfold canAdd
        rw [decide_eq_true (show (0 : Int) ≤ (a : Int) ∧ (a : Int) < 5000 by omega), Bool.true_and]; rfl
      rw [run_bnd e1, onB_ite, run_ite, hcan]
      rw [hcan, Int.toNat_natCast] at bs1
      have hO' : ∀ c, O' c → lo ≤ c ∧ c ≠ g ∧ c ≠ vs ∧ c ≠ vl := fun c hc => by
        rcases o1 c hc with q | q
        · exact hO c q
        · have := x.vg.lt f; have := f.lt x.sv; have := f.lt sl_; omega
      have ev1 : Ev (fun c => lo ≤ c) n h n1 h1' := ⟨f1, le1, fun c hc hlc => k1 c hc fun q => hlc (hO c q).1⟩
      have vg1 : GB h1' g N tv := by unfold GB; rw [k1 g (x.vg.lt f) fun q => (hO g q).2.1 rfl]; exact x.vg
      have sv1 : h1'.get vs = some ⟨[pt p 0], .own⟩ := by rw [k1 vs (f.lt x.sv) fun q => (hO vs q).2.2.1 rfl]; exact x.sv
      have sl1 : h1'.get vl = some ⟨[v], .own⟩ := by rw [k1 vl (f.lt sl_) fun q => (hO vl q).2.2.2 rfl]; exact sl_
      have gw1 : Gw h1' v b L := gw.keep fun hv => k1 b (gw.lt f hv) (hb hv).2.1
      have hb1 : v ≠ nsl → lo ≤ b ∧ ¬ O' b ∧ b ≠ g ∧ b ≠ vs ∧ b ≠ vl := fun hv => ⟨(hb hv).1, fun q => by
        rcases o1 b q with q | q
        · exact (hb hv).2.1 q
        · have := gw.lt f hv; omega, (hb hv).2.2⟩
      cases hC : C a with
      | true =>
        rw [Bool.not_true, if_neg (by decide), if_neg (fun q => by cases q.2.2), if_neg (fun q => by cases q.2.2)]
        rw [hC, Bool.not_true, if_neg (by decide)] at bs1
        exact ⟨n1, h1', _, rfl, ⟨vg1, sv1, x.low, O', b, v, bs1, sl1, ov, gw1, hO', hb1⟩, ev1⟩
      | false =>
        rw [Bool.not_false, if_pos rfl, if_pos ⟨h1, h2, rfl⟩, if_pos ⟨h1, h2, rfl⟩]
        rw [hC, Bool.not_false, if_pos rfl] at bs1
        unfold graph_Reach_1_r1
        try dsimp only
        obtain ⟨h2', v2, e2, gw2, f2, ov2, nv2, k2⟩ := gw1.push (a := a) (y := i64 0) f1 hl
        have lgw : v ≠ nsl → b < n1 := fun hv => gw1.lt f1 hv
        rw [ld1 sl1 (by decide) rfl, show (Value.int .i64 0) = i64 0 from rfl, e2]
        have kk : ∀ c, c < n1 → (v ≠ nsl → c ≠ b) → h2'.get c = h1'.get c := k2
        have sl2 : h2'.get vl = some ⟨[v], .own⟩ := by rw [kk vl (f1.lt sl1) fun hv e => (hb1 hv).2.2.2.2 e.symm]; exact sl1
        rw [st1 sl2 (.inl rfl) ov2 (show 0 < [v].length by simp)]
        have hvl : vl < n1 + 2 := by have := f1.lt sl1; omega
        have f3 : Fr (n1 + 2) (h2'.set vl ⟨[v].set 0 v2, .own⟩) := f2.set _ hvl
        have gk : ∀ c, c ≠ vl → (h2'.set vl ⟨[v].set 0 v2, .own⟩).get c = h2'.get c := fun c hc => H.get_set_ne _ _ hc
        refine ⟨n1 + 2, _, _, rfl, ⟨?_, ?_, x.low, O', n1 + 1, v2, ?_, H.get_set_same _ _ _, ov2, ?_, hO', fun _ => ⟨by omega, fun q => by have := bs1.lt f1 _ q; omega, by have := vg1.lt f1; omega, by have := f1.lt sv1; omega, by have := f1.lt sl1; omega⟩⟩, ?_⟩
        · unfold GB; rw [gk g d2, kk g (vg1.lt f1) fun hv e => (hb1 hv).2.2.1 e.symm]; exact vg1
        · rw [gk vs d3, kk vs (f1.lt sv1) fun hv e => (hb1 hv).2.2.2.1 e.symm]; exact sv1
        · exact bs1.keep fun c hc => by rw [gk c (hO' c hc).2.2.2, kk c (bs1.lt f1 c hc) fun hv e => (hb1 hv).2.1 (e ▸ hc)]
        · exact gw2.keep fun _ => gk _ (by have := f1.lt sl1; omega)
        · refine ⟨f3, by omega, fun c hc hlc => ?_⟩
          rw [gk c (by omega), kk c (by omega) fun hv e => by have := (hb1 hv).1; omega]
          exact ev1.keep c hc hlc
    · rw [if_neg (by simpa using h2), onB_ite, run_ite, if_neg (by decide)]
      exact ⟨n, h, _, rfl, same fun q => h2 q.2, Ev.refl f⟩
  · rw [if_neg (by simpa using h1), onB_ite, run_ite, if_neg (by decide)]
    exact ⟨n, h, _, rfl, same fun q => h1 q.1, Ev.refl f⟩

/-- The closure that puts one in. -/
def fnv (g vs vl : Nat) : Value := .func (.func 42) #[] #[pt g 0, pt vs 0, pt vl 0]

theorem call_come {β : Type} {F g vs vl : Nat} {z : Int} {k : Value → M β} : bnd (opCall (graph_Reach_env F) (fnv g vs vl) [i64 z]) k = bnd (graph_Reach_1 F (i64 z) (pt g 0) (pt vs 0) (pt vl 0)) k := rfl

theorem come_nat {F n lo g vs vl p a : Nat} {tv : Value} {C : Nat → Bool} {L : List Nat} {h : H} (hF : 100 < F) (hN : N ≤ 600) (ha : a < N) (x : Rst h lo g vs vl p N tv C L) (f : Fr n h) (hn : lo ≤ n) (hl : L.length < 100000) :
    ∃ n' h' w, (graph_Reach_1 F (i64 (a : Int)) (pt g 0) (pt vs 0) (pt vl 0)).run n h = some (w, n', h') ∧ Rst h' lo g vs vl p N tv (if C a = false then putS C a else C) (if C a = false then L ++ [a] else L) ∧ Ev (fun c => lo ≤ c) n h n' h' := by
  obtain ⟨n', h', w, e, y, ev⟩ := come_spec (F := F) (z := (a : Int)) hF hN x f hn hl
  rw [Int.toNat_natCast] at y
  refine ⟨n', h', w, e, ?_, ev⟩
  by_cases hC : C a = false
  · rw [if_pos hC, if_pos hC]
    rw [if_pos ⟨by omega, by omega, hC⟩, if_pos ⟨by omega, by omega, hC⟩] at y
    exact y
  · rw [if_neg hC, if_neg hC]
    rw [if_neg (fun q => hC q.2.2), if_neg (fun q => hC q.2.2)] at y
    exact y

theorem greach_l2 {F m lo g vs vl p a : Nat} {tv rv : Value} {zs : List Int} (hF : 1000000 ≤ F) (ok : GOk N adj) (ha : a < N) (hml : m ≤ lo) {h0 : H} (f0 : Fr m h0) (hr : RdI h0 rv (nats (adj a))) {E : Value → Value → Value → Value → M Value} : ∀ j i k n (h : H) C L, i + j = (adj a).length → j < k → (∀ c, c < m → h.get c = h0.get c) → Rst h lo g vs vl p N tv C L → Bf adj N (stOf N zs) (-1) C L (fun x => x = a) → RchS adj (stOf N zs) (-1) a → L.length + cnt N C ≤ 2000 → (∀ b, b ∈ (adj a).take i → C b = true) → lo ≤ n → Fr n h →
    ∃ n' h' C' L', (graph_Reach_l2 F E k (pt g 0) (pt vs 0) (pt vl 0) (fnv g vs vl) rv (i64 (adj a).length) (i64 (i : Nat))).run n h = (E (pt g 0) (pt vs 0) (pt vl 0) (fnv g vs vl)).run n' h' ∧ Rst h' lo g vs vl p N tv C' L' ∧ Bf adj N (stOf N zs) (-1) C' L' (fun _ => False) ∧ L'.length + cnt N C' ≤ L.length + cnt N C ∧ (∀ b, C b = true → C' b = true) ∧ Ev (fun c => lo ≤ c) n h n' h' := by
  have hN := ok.few
  have hs := ok.short a ha
  intro j
  induction j with
  | zero =>
    intro i k n h C L hij hk hk0 x B hra hsz hdone hn f
    obtain ⟨k, rfl⟩ : ∃ j, k = j + 1 := ⟨k - 1, by omega⟩
    rw [graph_Reach_l2_s]
    unfold graph_Reach_b2 graph_Reach_r15
    try dsimp only
    rw [st_lss, onB_ite, run_ite, if_neg (by simp; omega)]
    rw [List.take_of_length_le (by omega)] at hdone
    refine ⟨n, h, C, L, rfl, x, ⟨B.snd, B.q, fun q hq => ?_⟩, Nat.le_refl _, fun _ h => h, Ev.refl f⟩
    rcases B.cl q hq with h | h | h
    · exact .inl h
    · subst h; exact .inr (.inr fun b hb _ => hdone b hb)
    · exact .inr (.inr h)
  | succ j ih =>
    intro i k n h C L hij hk hk0 x B hra hsz hdone hn f
    obtain ⟨k, rfl⟩ : ∃ j, k = j + 1 := ⟨k - 1, by omega⟩
    have hi : i < (adj a).length := by omega
    have hil : i < (nats (adj a)).length := by rw [nats_len]; exact hi
    have rd : RdI h rv (nats (adj a)) := hr.kept f0 hk0
    rw [graph_Reach_l2_s]
    unfold graph_Reach_b2 graph_Reach_r15
    try dsimp only
    rw [st_lss, onB_ite, run_ite, if_pos (by simp; omega)]
    unfold graph_Reach_r16
    try dsimp only
    have hbm : (adj a)[i] ∈ adj a := List.getElem_mem hi
    have hbN := ok.lt a ha _ hbm
    have etake : (adj a).take (i + 1) = (adj a).take i ++ [(adj a)[i]] := List.take_succ_eq_append_getElem hi
    rw [rd.getI hil, nats_get]
    generalize (adj a)[i] = b at *
    unfold graph_Reach_r17
    try dsimp only
    obtain ⟨n1, h1, w, e1, y1, ev1⟩ := come_nat (F := F) (a := b) (by omega) hN hbN x f hn (by omega)
    have l1 := ev1.le
    rw [call_come, run_bnd e1]
    unfold graph_Reach_r18
    try dsimp only
    rw [sx_add (by omega)]
    have hk1 : ∀ c, c < m → h1.get c = h0.get c := fun c hc => by rw [ev1.keep c (by omega) (by omega)]; exact hk0 c hc
    by_cases hC : C b = false
    · rw [if_pos hC, if_pos hC] at y1
      have B1 := B.mark (b := b) (.step hra hbm (by omega)) hbN
      have hcnt := Bf.cnt hbN hC
      rw [upd_putS] at B1 hcnt
      have hm : ∀ q, C q = true → putS C b q = true := fun q hq => by unfold putS; rw [hq, Bool.true_or]
      obtain ⟨n', h', C', L', q1, q2, q3, q4, q5, q6⟩ := ih (i + 1) k n1 h1 (putS C b) (L ++ [b]) (by omega) (by omega) hk1 y1 B1 hra (by rw [List.length_append, List.length_singleton]; omega) (fun q hq => by
        rw [etake, List.mem_append, List.mem_singleton] at hq
        rcases hq with hq | rfl
        · exact hm q (hdone q hq)
        · unfold putS; simp) (by omega) ev1.f
      rw [List.length_append, List.length_singleton] at q4
      exact ⟨n', h', C', L', q1, q2, q3, by omega, fun q hq => q5 q (hm q hq), ev1.trans q6 fun _ _ h => h⟩
    · rw [if_neg hC, if_neg hC] at y1
      obtain ⟨n', h', C', L', q1, q2, q3, q4, q5, q6⟩ := ih (i + 1) k n1 h1 C L (by omega) (by omega) hk1 y1 B hra hsz (fun q hq => by
        rw [etake, List.mem_append, List.mem_singleton] at hq
        rcases hq with hq | rfl
        · exact hdone q hq
        · simpa using hC) (by omega) ev1.f
      exact ⟨n', h', C', L', q1, q2, q3, q4, q5, ev1.trans q6 fun _ _ h => h⟩

theorem greach_l1 {F m lo g vs vl p : Nat} {tv : Value} {zs : List Int} (hF : 1000000 ≤ F) (ok : GOk N adj) (hml : m ≤ lo) {E : Value → M Value} : ∀ j k n (h : H) C L, L.length + cnt N C ≤ j → j < k → j ≤ 2000 → Gr h m tv N adj → Rst h lo g vs vl p N tv C L → Bf adj N (stOf N zs) (-1) C L (fun _ => False) → (∀ q, stOf N zs q → C q = true) → lo ≤ n → Fr n h →
    ∃ n' h' C' L', (graph_Reach_l1 F E k (pt g 0) (pt vs 0) (pt vl 0) (fnv g vs vl)).run n h = (E (pt vs 0)).run n' h' ∧ Rst h' lo g vs vl p N tv C' L' ∧ (∀ q, C' q = true ↔ RchS adj (stOf N zs) (-1) q) ∧ Ev (fun c => lo ≤ c) n h n' h' := by
  have fin : ∀ k n (h : H) C, Rst h lo g vs vl p N tv C [] → Bf adj N (stOf N zs) (-1) C [] (fun _ => False) → (∀ q, stOf N zs q → C q = true) → Fr n h →
      ∃ n' h' C' L', (graph_Reach_l1 F E (k + 1) (pt g 0) (pt vs 0) (pt vl 0) (fnv g vs vl)).run n h = (E (pt vs 0)).run n' h' ∧ Rst h' lo g vs vl p N tv C' L' ∧ (∀ q, C' q = true ↔ RchS adj (stOf N zs) (-1) q) ∧ Ev (fun c => lo ≤ c) n h n' h' := by
    intro k n h C x B hst f
    obtain ⟨O, b, v, bs, sl_, ov, gw, hO, hb⟩ := x.rest
    have rd := gw.rd
    rw [graph_Reach_l1_s]
    unfold graph_Reach_b1 graph_Reach_r11
    try dsimp only
    rw [ld1 sl_ (by decide) rfl, rd.lenI, st_gtr, onB_ite, run_ite, if_neg (by decide)]
    exact ⟨n, h, C, [], rfl, x, B.done fun q hq _ => hst q hq, Ev.refl f⟩
  intro j
  induction j with
  | zero =>
    intro k n h C L hj hk hj2 gr x B hst hn f
    obtain ⟨k, rfl⟩ : ∃ j, k = j + 1 := ⟨k - 1, by omega⟩
    have : L = [] := List.eq_nil_of_length_eq_zero (by omega)
    subst this
    exact fin k n h C x B hst f
  | succ j ih =>
    intro k n h C L hj hk hj2 gr x B hst hn f
    obtain ⟨k, rfl⟩ : ∃ j, k = j + 1 := ⟨k - 1, by omega⟩
    rcases List.eq_nil_or_concat L with rfl | ⟨L, a, rfl⟩
    · exact fin k n h C x B hst f
    · rw [List.concat_eq_append] at *
      have hsa := B.q a (by simp)
      obtain ⟨hra, haN⟩ := B.snd a hsa
      obtain ⟨O, b, v, bs, sl_, ov, gw, hO, hb⟩ := x.rest
      have rd : RdI h v (nats (L ++ [a])) := gw.rd
      have hlen : (nats (L ++ [a])).length = L.length + 1 := by rw [nats_len]; simp
      rw [List.length_append, List.length_singleton] at hj
      rw [graph_Reach_l1_s]
      unfold graph_Reach_b1 graph_Reach_r11
      try dsimp only
      rw [ld1 sl_ (by decide) rfl, rd.lenI, hlen, st_gtr, onB_ite, run_ite, if_pos (by simp)]
      unfold graph_Reach_r12
      try dsimp only
      have hil : L.length < (nats (L ++ [a])).length := by rw [hlen]; omega
      rw [ld1 sl_ (by decide) rfl, ld1 sl_ (by decide) rfl, rd.lenI, hlen, sx_sub (by omega), show (((L.length + 1 : Nat) : Int) - 1) = (L.length : Int) by omega, rd.getI hil, nats_get]
      have ea : (L ++ [a])[L.length]'(by simp) = a := by simp
      rw [ea]
      unfold graph_Reach_r13
      try dsimp only
      obtain ⟨v', es, gw', hv0⟩ := gw.pop (β := Value)
      rw [ld1 sl_ (by decide) rfl, ld1 sl_ (by decide) rfl, rd.lenI, hlen, sx_sub (by omega), show (((L.length + 1 : Nat) : Int) - 1) = (L.length : Int) by omega, es]
      have ov' : one v' = true := by
        rcases gw' with ⟨_, rfl⟩ | ⟨xs, rfl, _⟩ <;> rfl
      rw [st1 sl_ (.inl rfl) ov' (show 0 < [v].length by simp)]
      have hvl := f.lt sl_
      obtain ⟨l1, l2, l3, d1, d2, d3⟩ := x.low
      have gk : ∀ c, c ≠ vl → (h.set vl ⟨[v].set 0 v', .own⟩).get c = h.get c := fun c hc => H.get_set_ne _ _ hc
      have ev1 : Ev (fun c => lo ≤ c) n h n (h.set vl ⟨[v].set 0 v', .own⟩) := ⟨f.set _ hvl, Nat.le_refl _, fun c hc hlc => gk c (by omega)⟩
      have x1 : Rst (h.set vl ⟨[v].set 0 v', .own⟩) lo g vs vl p N tv C L := ⟨by unfold GB; rw [gk g d2]; exact x.vg, by rw [gk vs d3]; exact x.sv, x.low, O, b, v', bs.keep fun c hc => gk c (hO c hc).2.2.2, H.get_set_same _ _ _, ov', gw'.keep fun _ => gk b (hb hv0).2.2.2.2, hO, fun _ => hb hv0⟩
      have B1 : Bf adj N (stOf N zs) (-1) C L (fun x => x = a) := ⟨B.snd, fun m hm => B.q m (List.mem_append_left _ hm), fun m hm => by
        rcases B.cl m hm with h | h | h
        · rw [List.mem_append, List.mem_singleton] at h
          rcases h with h | h
          · exact .inl h
          · exact .inr (.inl h)
        · exact h.elim
        · exact .inr (.inr h)⟩
      have gr1 := gr.ev ev1 (by omega) fun c hc => by omega
      unfold graph_Reach_r14
      try dsimp only
      obtain ⟨rv, e2, h0, f0, k0, hr⟩ := gr1.row (β := Value) (n := n) haN
      have rdr : RdI (h.set vl ⟨[v].set 0 v', .own⟩) rv (nats (adj a)) := hr.kept f0 k0
      have hs := ok.short a haN
      rw [x1.vg.t, e2, rdr.lenI, nats_len]
      obtain ⟨n2, h2, C2, L2, q1, q2, q3, q4, q5, q6⟩ := greach_l2 (F := F) (m := m) (lo := lo) (g := g) (vs := vs) (vl := vl) (p := p) (tv := tv) (zs := zs) hF ok haN hml f0 hr (E := fun x2 x5 x6 x7 => graph_Reach_l1 F E k x2 x5 x6 x7) (adj a).length 0 F n _ C L (by omega) (by omega) k0 x1 B1 hra (by omega) (fun q hq => by rw [List.take_zero] at hq; cases hq) hn ev1.f
      rw [show (Value.int .i64 0) = i64 ((0 : Nat) : Int) from rfl, q1]
      have l6 := q6.le
      have ev2 := ev1.trans q6 fun _ _ h => h
      obtain ⟨n', h', C', L', r1, r2, r3, r4⟩ := ih k n2 h2 C2 L2 (by omega) (by omega) (by omega) (gr.ev ev2 (by omega) fun c hc => by omega) q2 q3 (fun q hq => q5 q (hst q hq)) (by omega) q6.f
      exact ⟨n', h', C', L', r1, r2, r3, ev2.trans r4 fun _ _ h => h⟩

theorem greach_l4 {F lo g vs vl p mf : Nat} {tv fv : Value} {zs : List Int} {hf : H} (hF : 1000000 ≤ F) (ok : GOk N adj) (ff : Fr mf hf) (hfv : RdI hf fv zs) (hmf : mf ≤ lo) (hz : zs.length ≤ 1000) {E : Value → Value → Value → Value → M Value} : ∀ j i k n (h : H) C L, i + j = zs.length → j < k → (∀ c, c < mf → h.get c = hf.get c) → Rst h lo g vs vl p N tv C L → Bf adj N (stOf N zs) (-1) C L (fun _ => False) → L.length + cnt N C ≤ 2000 → (∀ q, q < N → (q : Int) ∈ zs.take i → C q = true) → lo ≤ n → Fr n h →
    ∃ n' h' C' L', (graph_Reach_l4 F E k (pt g 0) (pt vs 0) (pt vl 0) (fnv g vs vl) fv (i64 zs.length) (i64 (i : Nat))).run n h = (E (pt g 0) (pt vs 0) (pt vl 0) (fnv g vs vl)).run n' h' ∧ Rst h' lo g vs vl p N tv C' L' ∧ Bf adj N (stOf N zs) (-1) C' L' (fun _ => False) ∧ L'.length + cnt N C' ≤ L.length + cnt N C ∧ (∀ q, stOf N zs q → C' q = true) ∧ Ev (fun c => lo ≤ c) n h n' h' := by
  have hN := ok.few
  intro j
  induction j with
  | zero =>
    intro i k n h C L hij hk hkf x B hsz hdone hn f
    obtain ⟨k, rfl⟩ : ∃ j, k = j + 1 := ⟨k - 1, by omega⟩
    rw [graph_Reach_l4_s]
    unfold graph_Reach_b4 graph_Reach_r7
    try dsimp only
    rw [st_lss, onB_ite, run_ite, if_neg (by simp; omega)]
    rw [List.take_of_length_le (by omega)] at hdone
    exact ⟨n, h, C, L, rfl, x, B, Nat.le_refl _, fun q hq => hdone q hq.1 hq.2, Ev.refl f⟩
  | succ j ih =>
    intro i k n h C L hij hk hkf x B hsz hdone hn f
    obtain ⟨k, rfl⟩ : ∃ j, k = j + 1 := ⟨k - 1, by omega⟩
    have hi : i < zs.length := by omega
    have rd : RdI h fv zs := hfv.kept ff hkf
    rw [graph_Reach_l4_s]
    unfold graph_Reach_b4 graph_Reach_r7
    try dsimp only
    rw [st_lss, onB_ite, run_ite, if_pos (by simp; omega)]
    unfold graph_Reach_r8
    try dsimp only
    have etake : zs.take (i + 1) = zs.take i ++ [zs[i]] := List.take_succ_eq_append_getElem hi
    have hmem : zs[i] ∈ zs := List.getElem_mem hi
    rw [rd.getI hi]
    generalize zs[i] = z at *
    unfold graph_Reach_r9
    try dsimp only
    obtain ⟨n1, h1, w, e1, y1, ev1⟩ := come_spec (F := F) (z := z) (by omega) hN x f hn (by omega)
    have l1 := ev1.le
    rw [call_come, run_bnd e1]
    unfold graph_Reach_r10
    try dsimp only
    rw [sx_add (by omega)]
    have hk1 : ∀ c, c < mf → h1.get c = hf.get c := fun c hc => by rw [ev1.keep c (by omega) (by omega)]; exact hkf c hc
    by_cases hC : 0 ≤ z ∧ z < (N : Int) ∧ C z.toNat = false
    · rw [if_pos hC, if_pos hC] at y1
      have hbN : z.toNat < N := by omega
      have B1 := B.mark (b := z.toNat) (.start ⟨hbN, by rw [Int.toNat_of_nonneg hC.1]; exact hmem⟩ (by omega)) hbN
      have hcnt := Bf.cnt hbN hC.2.2
      rw [upd_putS] at B1 hcnt
      have hm : ∀ q, C q = true → putS C z.toNat q = true := fun q hq => by unfold putS; rw [hq, Bool.true_or]
      obtain ⟨n', h', C', L', q1, q2, q3, q4, q5, q6⟩ := ih (i + 1) k n1 h1 _ _ (by omega) (by omega) hk1 y1 B1 (by rw [List.length_append, List.length_singleton]; omega) (fun q hq hz => by
        rw [etake, List.mem_append, List.mem_singleton] at hz
        rcases hz with hz | hz
        · exact hm q (hdone q hq hz)
        · unfold putS
          rw [show q = z.toNat by omega]; simp) (by omega) ev1.f
      rw [List.length_append, List.length_singleton] at q4
      exact ⟨n', h', C', L', q1, q2, q3, by omega, q5, ev1.trans q6 fun _ _ h => h⟩
    · rw [if_neg hC, if_neg hC] at y1
      obtain ⟨n', h', C', L', q1, q2, q3, q4, q5, q6⟩ := ih (i + 1) k n1 h1 _ _ (by omega) (by omega) hk1 y1 B hsz (fun q hq hz => by
        rw [etake, List.mem_append, List.mem_singleton] at hz
        rcases hz with hz | hz
        · exact hdone q hq hz
        · subst hz
          rw [Int.toNat_natCast] at hC
          cases hc : C q with
          | true => rfl
          | false => exact absurd ⟨by omega, by omega, hc⟩ hC) (by omega) ev1.f
      exact ⟨n', h', C', L', q1, q2, q3, q4, q5, ev1.trans q6 fun _ _ h => h⟩

theorem greach_spec {F n m : Nat} {tv fv : Value} {zs : List Int} {h : H} (hF : 1000000 ≤ F) (gr : Gr h m tv N adj) (hm : m ≤ n) (ok : GOk N adj) (hfv : RdI h fv zs) (hz : zs.length ≤ 1000) (f : Fr n h) :
    ∃ n' h' p C, (graph_Reach F (gv N tv) fv).run n h = some (pt p 0, n', h') ∧ SetAt h' p n n' C ∧ (∀ q, C q = true ↔ RchS adj (stOf N zs) (-1) q) ∧ Ev No n h n' h' := by
  have hN := ok.few
  unfold graph_Reach graph_Reach_r0
  try dsimp only
  obtain ⟨h1, e1, g1, ev1⟩ := GB.box (β := Value) (N := N) f gr.1
  rw [e1]
  have gr1 := gr.no ev1 hm
  unfold graph_Reach_r1
  try dsimp only
  obtain ⟨e2, x2, f2⟩ := new_set ev1.f (k := fun v14 => bnd (opPtr [.pointer none]) fun v5 => bnd (opStore v5 v14) fun _ => graph_Reach_r2 F fv (pt n 0) v5 fun x1 x2 x5 x17 => onB x17 (graph_Reach_r3 F x5 fun x4 => ret x4) (graph_Reach_r4 F x1 x2 x5 fun x1 x2 x5 x6 => graph_Reach_r5 F x1 x2 x5 x6 fun x1 x2 x5 x6 x7 => graph_Reach_r6 F x1 x2 x5 x6 x7 fun x2 x5 x6 x7 x20 x21 x22 => graph_Reach_l4 F (fun x2 x5 x6 x7 => graph_Reach_k3 F x2 x5 x6 x7) F x2 x5 x6 x7 x20 x21 x22))
  rw [show (Value.slice none 0 0) = nsl from rfl, e2]
  have ev2 : Ev No (n + 1) h1 (n + 1 + 1) (h1.set (n + 1) ⟨[nsl], .own⟩) := Ev.new ev1.f _
  generalize hh2 : h1.set (n + 1) ⟨[nsl], .own⟩ = h2 at *
  have g2 := g1.ev ev2 (by omega) (fun h => h)
  have gr2 := gr1.no ev2 (by omega)
  rw [run_ptr f2 (by rfl)]
  have ev3 := Ev.new f2 ⟨[Value.pointer none], .own⟩
  have hs3 : (h2.set (n + 1 + 1) ⟨[Value.pointer none], .own⟩).get (n + 1 + 1) = some ⟨[Value.pointer none], .own⟩ := H.get_set_same _ _ _
  rw [st1 hs3 (.inl rfl) (show one (pt (n + 1) 0) = true from rfl) (show 0 < [Value.pointer none].length by simp)]
  generalize hh4 : (h2.set (n + 1 + 1) ⟨[Value.pointer none], .own⟩).set (n + 1 + 1) ⟨[Value.pointer none].set 0 (pt (n + 1) 0), .own⟩ = h4
  have f4 : Fr (n + 3) h4 := by rw [← hh4]; exact (ev3.f).set _ (by omega)
  have k4 : ∀ c, c < n + 1 + 1 → h4.get c = h2.get c := fun c hc => by
    rw [← hh4, H.get_set_ne _ _ (by omega), H.get_set_ne _ _ (by omega)]
  have ev4 : Ev No (n + 1 + 1) h2 (n + 3) h4 := ⟨f4, by omega, fun c hc _ => k4 c hc⟩
  have sv4 : h4.get (n + 2) = some ⟨[pt (n + 1) 0], .own⟩ := by rw [← hh4]; exact H.get_set_same _ _ _
  have g4 := g2.ev ev4 (by omega) (fun h => h)
  have gr4 := gr2.no ev4 (by omega)
  have x4 : BS h4 (n + 1) (fun c => c = n + 1) (fun _ => false) := x2.keep fun c hc => k4 c (by omega)
  unfold graph_Reach_r2
  try dsimp only
  obtain ⟨n5, h5, e5, ev5⟩ := gmay_spec (F := F) (by omega) gr4 (by omega) ok f4
  have l5 := ev5.le
  rw [g4.all, run_bnd e5, st_not, onB_ite, run_ite, if_neg (by decide)]
  have g5 := g4.ev ev5 (by omega) (fun h => h)
  have gr5 := gr4.no ev5 (by omega)
  have sv5 : h5.get (n + 2) = some ⟨[pt (n + 1) 0], .own⟩ := (ev5.no (by omega)).trans sv4
  have x5 : BS h5 (n + 1) (fun c => c = n + 1) (fun _ => false) := x4.keep fun c hc => ev5.no (by omega)
  unfold graph_Reach_r4
  try dsimp only
  rw [run_ptr ev5.f (by rfl)]
  have ev6 := Ev.new ev5.f ⟨[nsl], .own⟩
  have sl6 : (h5.set n5 ⟨[nsl], .own⟩).get n5 = some ⟨[nsl], .own⟩ := H.get_set_same _ _ _
  have ev06 : Ev No n h (n5 + 1) (h5.set n5 ⟨[nsl], .own⟩) := (((ev1.trans ev2 fun _ _ h => h).trans ev4 fun _ _ h => h).trans ev5 fun _ _ h => h).trans ev6 fun _ _ h => h
  have X6 : Rst (h5.set n5 ⟨[nsl], .own⟩) n n (n + 2) n5 (n + 1) N tv (fun _ => false) [] := ⟨g5.ev ev6 (by omega) (fun h => h), (ev6.no (by omega)).trans sv5, ⟨by omega, by omega, by omega, by omega, by omega, by omega⟩, _, 0, nsl, x5.keep fun c hc => ev6.no (by omega), sl6, rfl, .inl ⟨rfl, rfl⟩, fun c hc => ⟨by omega, by omega, by omega, by omega⟩, fun h => absurd rfl h⟩
  have gr6 := gr5.no ev6 (by omega)
  unfold graph_Reach_r5
  try dsimp only
  have ef : ∀ k : Value → M Value, bnd (opFunc (.func 42) [pt n 0, pt (n + 2) 0, pt n5 0]) k = k (fnv n (n + 2) n5) := fun k => rfl
  rw [show n + 1 + 1 = n + 2 from rfl, ef]
  unfold graph_Reach_r6
  try dsimp only
  rw [hfv.lenI]
  have hc0 : cnt N (fun _ => false) ≤ N := by
    unfold cnt
    have := List.length_filter_le (fun m : Nat => !(fun _ => false) m) (List.range N)
    rwa [List.length_range] at this
  obtain ⟨n7, h7, C7, L7, e7, X7, B7, s7, st7, ev7⟩ := greach_l4 (F := F) (lo := n) (mf := n) (adj := adj) hF ok f hfv (Nat.le_refl _) hz (E := fun x2 x5 x6 x7 => graph_Reach_k3 F x2 x5 x6 x7) zs.length 0 F (n5 + 1) _ (fun _ => false) [] (by omega) (by omega) (fun c hc => ev06.no hc) X6 ⟨fun q hq => (by cases hq), fun q hq => (by cases hq), fun q hq => (by cases hq)⟩ (by simp only [List.length_nil]; omega) (fun q _ hq => by rw [List.take_zero] at hq; cases hq) (by omega) ev6.f
  rw [show (Value.int .i64 0) = i64 ((0 : Nat) : Int) from rfl, e7]
  have l7 := ev7.le
  unfold graph_Reach_k3
  simp only [List.length_nil] at s7
  obtain ⟨n8, h8, C8, L8, e8, X8, c8, ev8⟩ := greach_l1 (F := F) (m := m) (lo := n) (adj := adj) (zs := zs) hF ok hm (E := fun x5 => graph_Reach_k0 F x5) (L7.length + cnt N C7) F n7 h7 C7 L7 (Nat.le_refl _) (by omega) (by omega) (gr6.ev ev7 (by omega) fun c hc => by omega) X7 B7 st7 (by omega) ev7.f
  rw [e8]
  unfold graph_Reach_k0 graph_Reach_r19
  try dsimp only
  rw [ld1 X8.sv (by decide) rfl]
  obtain ⟨O, b, v, bs, _, _, _, hO, _⟩ := X8.rest
  refine ⟨n8, h8, n + 1, C8, rfl, ⟨O, bs, fun c hc => ⟨(hO c hc).1, bs.lt ev8.f c hc⟩⟩, c8, ev8.f, by have := ev8.le; omega, fun c hc _ => ?_⟩
  rw [ev8.keep c (by omega) (by omega), ev7.keep c (by omega) (by omega), ev06.no hc]

theorem greach_one {F n m root : Nat} {tv : Value} {h : H} (hF : 1000000 ≤ F) (gr : Gr h m tv N adj) (hm : m ≤ n) (ok : GOk N adj) (hr : root < N) (f : Fr n h) :
    ∃ n' h' p C, (∀ K : Value → M Value, (bnd (opBuildSlice 1 (rep 1 [i64 0]) [(0, 1, false, i64 (root : Int))]) fun v => bnd (graph_Reach F (gv N tv) v) K).run n h = (K (pt p 0)).run n' h') ∧ SetAt h' p n n' C ∧ (∀ q, C q = true ↔ Rch adj root q) ∧ Ev No n h n' h' := by
  have ev1 := Ev.new f ⟨[i64 (root : Int)], .own⟩
  have rd : RdI (h.set n ⟨[i64 (root : Int)], .own⟩) (sl n 0 1 1) [(root : Int)] := .inr ⟨n, 0, 1, .own, rfl, fun _ => ⟨_, H.get_set_same _ _ _, by decide, fun i hi => by rw [Nat.zero_add]; rfl⟩⟩
  obtain ⟨n', h', p, C, e, x, c, ev⟩ := greach_spec (F := F) hF (gr.no ev1 hm) (by omega) ok rd (by simp) ev1.f
  obtain ⟨O, b, o⟩ := x
  exact ⟨n', h', p, C, fun K => by rw [run_single f rfl, run_bnd e], ⟨O, b, fun q hq => ⟨by have := (o q hq).1; omega, (o q hq).2⟩⟩, fun q => (c q).trans (rchS_rch hr), ev1.trans ev fun _ _ h => h⟩
end

end Go.Fw
