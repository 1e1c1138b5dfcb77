/-
  GraphRing, said of the abstract machine.
-/
import Derived.Test.YtddafkflndhnfaaDoorLawTC
import Derived.Test.YtddafkflndhnfaaDoorLawTLoops
import Derived.Test.YtddafkflndhnfaaDoorGenTGraphRing
set_option maxRecDepth 20000
set_option linter.unusedVariables false
namespace Go.Fw

/-- Who comes next in a ring. -/
def ringA (N : Nat) (a : Nat) : List Nat := if a < N then [(a + 1) % N] else []

theorem modN {x N : Nat} (h : x < 2 * N) : x % N = if x < N then x else x - N := by
  split
  · rename_i h1; exact Nat.mod_eq_of_lt h1
  · rename_i h1
    rw [Nat.mod_eq_sub_mod (by omega), Nat.mod_eq_of_lt (by omega)]

theorem tmodN {x N : Nat} : ((x : Int)).tmod (N : Int) = ((x % N : Nat) : Int) := by
  rw [Int.tmod_eq_emod_of_nonneg (by omega)]; rfl

section
variable {N : Nat}

theorem ring_ok (hN : 1 ≤ N ∧ N ≤ 100) : GOk N (ringA N) := by
  refine ⟨by omega, fun a ha b hb => ?_, fun a ha => ?_⟩
  · unfold ringA at hb
    rw [if_pos ha, List.mem_singleton] at hb
    rw [hb]; exact Nat.mod_lt _ (by omega)
  · unfold ringA; rw [if_pos ha]; simp

theorem ring_reach (hN : 1 ≤ N) {a : Nat} (ha : a < N) : ∀ i, Rch (ringA N) a ((a + i) % N)
  | 0 => by rw [Nat.add_zero, Nat.mod_eq_of_lt ha]; exact .refl
  | i + 1 => by
    refine .step (ring_reach hN ha i) ?_
    unfold ringA
    rw [if_pos (Nat.mod_lt _ (by omega)), List.mem_singleton, Nat.mod_add_mod, Nat.add_assoc]
theorem ring_all (hN : 1 ≤ N) {a b : Nat} (ha : a < N) (hb : b < N) : Rch (ringA N) a b := by
  have := ring_reach hN ha (b + N - a)
  rw [show a + (b + N - a) = b + N by omega, Nat.add_mod_right, Nat.mod_eq_of_lt hb] at this
  exact this

theorem ring_path (hN : 1 ≤ N) {t a : Nat} (ht : t < N) {l : List Nat} (h : PW (ringA N) t a l) : a < N → l.length = (t + N - a) % N + 1 ∧ ∀ i, i < l.length → l[i]? = some ((a + i) % N) := by
  induction h with
  | stop =>
    intro ha
    refine ⟨by rw [show t + N - t = N by omega, Nat.mod_self]; rfl, fun i hi => ?_⟩
    have : i = 0 := by simp at hi; omega
    subst this
    rw [Nat.add_zero, Nat.mod_eq_of_lt ha]; rfl
  | @go a b l hne hn _ ih =>
    intro ha
    obtain ⟨k, _, hb, _⟩ := hn
    unfold ringA at hb
    rw [if_pos ha, List.mem_singleton] at hb
    have hbN : b < N := by rw [hb]; exact Nat.mod_lt _ (by omega)
    obtain ⟨h1, h2⟩ := ih hbN
    refine ⟨?_, fun i hi => ?_⟩
    · rw [List.length_cons, h1, modN (x := t + N - a) (by omega), modN (x := t + N - b) (by omega)]
      rw [modN (by omega)] at hb
      split at hb <;> split <;> split <;> omega
    · cases i with
      | zero => rw [Nat.add_zero, Nat.mod_eq_of_lt ha]; rfl
      | succ i =>
        rw [List.getElem?_cons_succ, h2 i (by simpa using hi), hb, Nat.mod_add_mod]
        congr 2
        omega

theorem ring_topo (hN : 1 ≤ N) {L : List (List Nat)} (x : Topo (ringA N) N (fun _ => False) L) : L.length = 1 := by
  cases x with
  | nil h => exact (h 0 (by omega)).elim
  | @cons _ i L hn t =>
    cases t with
    | nil _ => rfl
    | @cons _ j L hn2 _ => exact absurd (.inr ⟨ring_all hN hn.lt hn2.lt, ring_all hN hn2.lt hn.lt⟩) hn2.left
end

section
variable {n : Nat} {h h' : H} {N g ob n0 : Nat}

/-- The ring is laid. -/
theorem ring_l3 {F : Nat} {x1 x2 : Value} (hN : 1 ≤ N ∧ N ≤ 100) (hob : ob < n0) (hg : g < n0) (hgo : g ≠ ob) {E : Value → Value → Value → Value → M Value} : ∀ j i k (h : H), i + j = N → j < k → GB h g N (sl ob 0 N N) → TV h ob N (fun j => if j < i then sl (n0 + j) 0 1 1 else nsl) → (∀ j, j < i → h.get (n0 + j) = some ⟨[i64 (((j + 1) % N : Nat) : Int)], .own⟩) → Fr (n0 + i) h →
    ∃ h', (L5_GraphRing_l3 F E k (i64 N) x1 x2 (pt g 0) (i64 i)).run (n0 + i) h = (E (i64 N) x1 x2 (pt g 0)).run (n0 + N) h' ∧ GB h' g N (sl ob 0 N N) ∧ TV h' ob N (fun j => if j < N then sl (n0 + j) 0 1 1 else nsl) ∧ (∀ j, j < N → h'.get (n0 + j) = some ⟨[i64 (((j + 1) % N : Nat) : Int)], .own⟩) ∧ Fr (n0 + N) h' ∧ ∀ c, c < n0 → c ≠ ob → h'.get c = h.get c := by
  intro j
  induction j with
  | zero =>
    intro i k h hij hk gb tv rows f
    obtain ⟨k, rfl⟩ : ∃ j, k = j + 1 := ⟨k - 1, by omega⟩
    obtain rfl : i = N := by omega
    rw [L5_GraphRing_l3_s]
    unfold L5_GraphRing_b3 L5_GraphRing_r8
    try dsimp only
    rw [st_lss]
    simp only [onB_ite, run_ite, decide_eq_true_eq]
    rw [if_neg (by omega)]
    exact ⟨h, rfl, gb, tv, rows, f, fun _ _ _ => rfl⟩
  | succ j ih =>
    intro i k h hij hk gb tv rows f
    obtain ⟨k, rfl⟩ : ∃ j, k = j + 1 := ⟨k - 1, by omega⟩
    rw [L5_GraphRing_l3_s]
    unfold L5_GraphRing_b3 L5_GraphRing_r8
    try dsimp only
    rw [st_lss]
    simp only [onB_ite, run_ite, decide_eq_true_eq]
    rw [if_pos (by omega)]
    unfold L5_GraphRing_r10
    try dsimp only
    rw [gb.t, show (Value.int .i64 1) = i64 1 from rfl, sx_add (by omega), st_rem (by omega), show ((i : Int) + 1) = ((i + 1 : Nat) : Int) from rfl, tmodN, run_single f rfl]
    have f1 := f.new ⟨[i64 (((i + 1) % N : Nat) : Int)], .own⟩
    have tv1 : TV (h.set (n0 + i) ⟨[i64 (((i + 1) % N : Nat) : Int)], .own⟩) ob N (fun j => if j < i then sl (n0 + j) 0 1 1 else nsl) := tv.keep (H.get_set_ne _ _ (by omega))
    obtain ⟨h2, e2, t2, ev2⟩ := TV.set (β := Value) tv1 f1 (show i < N by omega) (c := N) (v := sl (n0 + i) 0 1 1) rfl
    rw [e2]
    unfold L5_GraphRing_r9
    try dsimp only
    rw [show (Value.int .i64 1) = i64 1 from rfl, sx_add (by omega)]
    have k2 : ∀ c, c < n0 + i → c ≠ ob → h2.get c = h.get c := fun c hc hco => by rw [ev2.keep c (by omega) hco, H.get_set_ne _ _ (by omega)]
    obtain ⟨h', r1, r2, r3, r4, r5, r6⟩ := ih (i + 1) k h2 (by omega) (by omega) (by unfold GB; rw [k2 g (by omega) hgo]; exact gb) (by
      have e : upd (fun j => if j < i then sl (n0 + j) 0 1 1 else nsl) i (sl (n0 + i) 0 1 1) = fun j => if j < i + 1 then sl (n0 + j) 0 1 1 else nsl := by
        funext j; unfold upd
        by_cases h1 : j = i
        · subst h1; rw [if_pos rfl, if_pos (by omega)]
        · rw [if_neg h1]
          show (if j < i then sl (n0 + j) 0 1 1 else nsl) = _
          by_cases h2 : j < i
          · rw [if_pos h2, if_pos (by omega)]
          · rw [if_neg h2, if_neg (by omega)]
      rw [e] at t2; exact t2) (fun j hj => by
      by_cases h1 : j = i
      · subst h1; rw [ev2.keep _ (by omega) (by omega), H.get_set_same]
      · rw [k2 _ (by omega) (by omega)]; exact rows j (by omega)) ev2.f
    exact ⟨h', r1, r2, r3, r4, r5, fun c hc hco => by rw [r6 c hc hco, k2 c (by omega) hco]⟩

/-- The way is told. -/
theorem ring_l1 {F a : Nat} {x10 : Value} {l : List Nat} (hN : 1 ≤ N ∧ N ≤ 100) (ha : a < N) (hl : l.length ≤ N) (rd : RdI h x10 (nats l)) (hw : ∀ i, i < l.length → l[i]? = some ((a + i) % N)) {E : M Value} : ∀ j i k, i + j = l.length → j < k →
    (L5_GraphRing_l1 F E k (i64 N) (i64 a) x10 (i64 i)).run n h = E.run n h := by
  intro j
  induction j with
  | zero =>
    intro i k hij hk
    obtain ⟨k, rfl⟩ : ∃ j, k = j + 1 := ⟨k - 1, by omega⟩
    rw [L5_GraphRing_l1_s]
    unfold L5_GraphRing_b1 L5_GraphRing_r15
    try dsimp only
    rw [RdI.lenN rd, st_lss]
    simp only [onB_ite, run_ite, decide_eq_true_eq]
    rw [if_neg (by omega)]
  | succ j ih =>
    intro i k hij hk
    obtain ⟨k, rfl⟩ : ∃ j, k = j + 1 := ⟨k - 1, by omega⟩
    have hi : i < l.length := by omega
    have hwi := hw i hi
    rw [List.getElem?_eq_getElem hi] at hwi
    simp only [Option.some.injEq] at hwi
    rw [L5_GraphRing_l1_s]
    unfold L5_GraphRing_b1 L5_GraphRing_r15
    try dsimp only
    rw [RdI.lenN rd, st_lss]
    simp only [onB_ite, run_ite, decide_eq_true_eq]
    rw [if_pos (by omega)]
    unfold L5_GraphRing_r17
    try dsimp only
    rw [RdI.getN rd hi, sx_add (by omega), st_rem (by omega), show ((a : Int) + (i : Int)) = ((a + i : Nat) : Int) from rfl, tmodN, st_neq, hwi, onB_ite, run_ite, if_neg (by simp)]
    unfold L5_GraphRing_r16
    try dsimp only
    rw [show (Value.int .i64 1) = i64 1 from rfl, sx_add (by omega)]
    exact ih (i + 1) k (by omega) (by omega)
end

theorem gring_run {F : Nat} (hF : 1000000 ≤ F) (hbg : gaveTrue ((L5_begun F).run 8 (baseH deB)) = true) (hbg0 : (((L5_begun F).run 8 (baseH deB)).map fun x => x.2.2.get 0) = some (some ⟨deB, .ro⟩)) (h : H) (us : List Value) (f : Fr 8 h) (hb : h.get 0 = some ⟨deB, .ro⟩) (ha : ArgsAre h [.int, .int, .int] us) : ∃ n' h', (L5_GraphRing_m F us).run 8 h = some (.bool true, n', h') := by
  obtain ⟨v0, v1, v2, rfl, a0, a1, a2⟩ := args3 ha
  obtain ⟨z, rfl, hz⟩ := a0
  obtain ⟨za, rfl, hza⟩ := a1
  obtain ⟨zb, rfl, hzb⟩ := a2
  show ∃ n' h', (L5_GraphRing F (i64 z) (i64 za) (i64 zb)).run 8 h = _
  obtain ⟨n1, h1, e1, f1, l1, k1⟩ := run_over_true hbg hbg0 f hb
  unfold L5_GraphRing L5_GraphRing_r0 L5_GraphRing_r1
  try dsimp only
  rw [run_bnd e1]
  unfold L5_GraphRing_r2
  simp only [st_not, onB_ite, Bool.not_true, Bool.false_eq_true, if_false]
  unfold L5_GraphRing_r4
  try dsimp only
  have out : ∃ n' h', (L5_GraphRing_r5 F fun x6 => ret x6).run n1 h1 = some (.bool true, n', h') := ⟨n1, h1, rfl⟩
  rw [show (Value.int .i64 1) = i64 1 from rfl, show (Value.int .i64 0) = i64 0 from rfl, show (Value.int .i64 100) = i64 100 from rfl, show (Value.bool true) = bo true from rfl]
  simp only [st_lss, st_gtr, st_geq, onB_ite, run_ite, decide_eq_true_eq, if_true]
  by_cases c1 : z < 1
  · rw [if_pos c1]; exact out
  rw [if_neg c1]
  by_cases c2 : 100 < z
  · rw [if_pos c2]; exact out
  rw [if_neg c2]
  by_cases c3 : za < 0
  · rw [if_pos c3]; exact out
  rw [if_neg c3]
  by_cases c4 : z ≤ za
  · rw [if_pos c4]; exact out
  rw [if_neg c4]
  by_cases c5 : zb < 0
  · rw [if_pos c5]; exact out
  rw [if_neg c5]
  by_cases c6 : z ≤ zb
  · rw [if_pos c6]; exact out
  rw [if_neg c6]
  obtain ⟨N, rfl⟩ : ∃ N : Nat, z = (N : Int) := ⟨z.toNat, by omega⟩
  obtain ⟨a, rfl⟩ : ∃ a : Nat, za = (a : Int) := ⟨za.toNat, by omega⟩
  obtain ⟨b, rfl⟩ : ∃ b : Nat, zb = (b : Int) := ⟨zb.toNat, by omega⟩
  have hN : 1 ≤ N ∧ N ≤ 100 := by omega
  have haN : a < N := by omega
  have hbN : b < N := by omega
  have ok := ring_ok hN
  unfold L5_GraphRing_r6
  try dsimp only
  obtain ⟨h2, e2, t2, ev2⟩ := TV.make (β := Value) (bytes := 24) (v := nsl) f1 (show N ≤ 100000 by omega) (by omega) rfl
  rw [show (Value.slice none 0 0) = nsl from rfl, e2, show (Value.int .i64 0) = i64 0 from rfl, opBuild_gr rfl, ret_bnd, run_ptr ev2.f (by rfl)]
  have ev3 := Ev.new ev2.f ⟨[i64 0, nsl], .own⟩
  obtain ⟨h4, e4, g4, ev4⟩ := GB.put (β := Value) (N := N) (tv := sl n1 0 N N) (H.get_set_same h2 (n1 + 1) ⟨[i64 0, nsl], .own⟩) rfl ev3.f rfl
  rw [e4]
  unfold L5_GraphRing_r7
  try dsimp only
  have tv4 : TV h4 n1 N (fun j => if j < 0 then sl (n1 + 1 + 1 + j) 0 1 1 else nsl) := by
    have e : (fun j => if j < 0 then sl (n1 + 1 + 1 + j) 0 1 1 else nsl) = fun _ => nsl := by funext j; rw [if_neg (by omega)]
    rw [e]
    exact t2.keep (by rw [ev4.keep n1 (by omega) (by omega), ev3.no (by omega)])
  obtain ⟨h5, r5, g5, tv5, rows5, f5, k5⟩ := ring_l3 (F := F) (x1 := i64 a) (x2 := i64 b) (n0 := n1 + 1 + 1) (g := n1 + 1) (ob := n1) hN (by omega) (by omega) (by omega) (E := fun x0 x1 x2 x8 => L5_GraphRing_k2 F x0 x1 x2 x8) N 0 F h4 (by omega) (by omega) g4 tv4 (fun j hj => by omega) ev4.f
  rw [Nat.add_zero] at r5
  rw [show (Value.int .i64 0) = i64 ((0 : Nat) : Int) from rfl, r5]
  have gr5 : Gr h5 (n1 + 1 + 1 + N) (sl n1 0 N N) N (ringA N) := by
    refine ⟨rfl, h5, f5, fun _ _ => rfl, _, tv5.rd, fun j hj => ?_⟩
    rw [if_pos hj]
    unfold ringA
    rw [if_pos hj]
    exact .inr ⟨n1 + 1 + 1 + j, 0, 1, .own, rfl, fun _ => ⟨_, rows5 j hj, by decide, fun i hi => by rw [Nat.zero_add]; rfl⟩⟩
  unfold L5_GraphRing_k2 L5_GraphRing_r11
  try dsimp only
  obtain ⟨n6, h6, v6, e6, ev6, hpw⟩ := path_in (F := F) (root := a) (t := b) hF gr5 (Nat.le_refl _) ok haN hbN f5
  rw [g5.all, run_bnd e6]
  rcases hpw with ⟨_, hno⟩ | ⟨l, rd6, pw⟩
  · exact absurd (ring_all hN.1 haN hbN) hno
  obtain ⟨hl, hw⟩ := ring_path hN.1 hbN pw haN
  have l6 := ev6.le
  have g6 := g5.ev ev6 (by omega) (fun h => h)
  have gr6 := gr5.no ev6 (Nat.le_refl _)
  unfold L5_GraphRing_r12
  try dsimp only
  have elen : (((b : Int) - (a : Int) + (N : Int)).tmod (N : Int) + 1) = ((l.length : Nat) : Int) := by
    rw [hl, show ((b : Int) - (a : Int) + (N : Int)) = ((b + N - a : Nat) : Int) by omega, tmodN]
    rfl
  have hmod := Nat.mod_lt (b + N - a) (show 0 < N by omega)
  rw [RdI.lenN rd6, sx_sub (by omega), sx_add (by omega), st_rem (by omega), show (Value.int .i64 1) = i64 1 from rfl, sx_add (by rw [elen]; omega), elen, st_neq, onB_ite, run_ite, if_neg (by simp)]
  obtain ⟨n7, h7, v7, L, e7, rp, tp, _, ev7⟩ := parts_spec (F := F) hF ok hN.1 gr6 (by omega) ev6.f
  have l7 := ev7.le
  have g7 := g6.ev ev7 (by omega) (fun h => h)
  have gr7 := gr6.no ev7 (by omega)
  rw [g6.all, run_bnd e7, rp.len, ring_topo hN.1 tp, st_neq, onB_ite, run_ite, if_neg (by simp)]
  obtain ⟨n8, h8, p8, C, e8, x8, c8, ev8⟩ := gloops_spec (F := F) hF ok hN.1 gr7 (by omega) ev7.f
  rw [g7.all, run_bnd e8, run_bnd (at_len (F := F) (by omega) x8)]
  have eC : setL C = List.range N := by
    refine sorted_ext setL_sorted List.pairwise_lt_range fun v => ?_
    rw [setL_mem x8, c8 v, List.mem_range]
    refine ⟨fun h => h.1, fun hv => ⟨hv, (v + 1) % N, ?_, ring_all hN.1 (Nat.mod_lt _ (by omega)) hv⟩⟩
    unfold ringA
    rw [if_pos hv]
    exact List.mem_singleton.2 rfl
  rw [eC, List.length_range, st_neq, bne_self_eq_false, onB_ite, run_ite, if_neg (by decide)]
  unfold L5_GraphRing_r14
  try dsimp only
  have rd8 : RdI h8 v6 (nats l) := (rd6.kept ev6.f fun c hc => ev7.no hc).kept ev7.f fun c hc => ev8.no hc
  rw [show (Value.int .i64 0) = i64 ((0 : Nat) : Int) from rfl, ring_l1 (F := F) hN haN (by omega) rd8 hw l.length 0 F (by omega) (by omega)]
  exact ⟨n8, h8, rfl⟩

theorem gring_law (h : H) (us : List Value) (f : Fr 8 h) (hb : h.get 0 = some ⟨deB, .ro⟩) (ha : ArgsAre h [.int, .int, .int] us) : ∃ n' h', (L5_GraphRing_m 1000000 us).run 8 h = some (.bool true, n', h') := gring_run (Nat.le_refl _) begunT_runs begunT_keeps h us f hb ha

end Go.Fw
