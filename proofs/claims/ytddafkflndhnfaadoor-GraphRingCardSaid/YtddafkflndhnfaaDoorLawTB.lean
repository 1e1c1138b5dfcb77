/-
  Graphs: what the functions on these come to, said of the abstract machine.
-/
import Derived.Test.YtddafkflndhnfaaDoorLawTA
import Derived.Test.YtddafkflndhnfaaDoorFwZ
import Derived.Test.YtddafkflndhnfaaDoorFwDfs
import Derived.Test.YtddafkflndhnfaaDoorFwBfs
import Derived.Test.YtddafkflndhnfaaDoorFwPath
set_option maxRecDepth 20000
set_option linter.unusedVariables false
namespace Go.Fw


/-! ## Made -/

/-- So many nodes. -/
def nodesOf (n : Int) : Nat := (1 + ((n.tmod 25 + 25).tmod 25)).toNat
theorem nodesOf_eq (n : Int) : 1 + ((n.tmod 25 + 25).tmod 25) = (nodesOf n : Int) ∧ 1 ≤ nodesOf n ∧ nodesOf n ≤ 25 := by
  have h1 := Int.tmod_lt_of_pos n (show (0 : Int) < 25 by decide)
  have h2 := Int.lt_tmod_of_pos n (show (0 : Int) < 25 by decide)
  have h3 := Int.tmod_lt_of_pos (n.tmod 25 + 25) (show (0 : Int) < 25 by decide)
  have h4 := Int.tmod_nonneg 25 (show (0 : Int) ≤ n.tmod 25 + 25 by omega)
  unfold nodesOf
  omega
/-- A number, as it goes round. -/
def wrapN (N : Nat) (z : Int) : Nat := ((z.tmod N + N).tmod N).toNat
theorem wrapN_eq {N : Nat} (hN : 1 ≤ N) (z : Int) : (z.tmod N + N).tmod N = (wrapN N z : Int) ∧ wrapN N z < N := by
  have h1 := Int.tmod_lt_of_pos z (show (0 : Int) < N by omega)
  have h2 := Int.lt_tmod_of_pos z (show (0 : Int) < N by omega)
  have h3 := Int.tmod_lt_of_pos (z.tmod N + N) (show (0 : Int) < N by omega)
  have h4 := Int.tmod_nonneg N (show (0 : Int) ≤ z.tmod N + N by omega)
  unfold wrapN
  omega

/-- The edges of the first i pairs, row by row. -/
def madeL (N : Nat) (Z : Nat → Int) (i a : Nat) : List Nat := (List.range i).filterMap fun j => if wrapN N (Z (2 * j)) = a then some (wrapN N (Z (2 * j + 1))) else none
theorem madeL_succ {N : Nat} {Z : Nat → Int} {i a : Nat} : madeL N Z (i + 1) a = if a = wrapN N (Z (2 * i)) then madeL N Z i a ++ [wrapN N (Z (2 * i + 1))] else madeL N Z i a := by
  unfold madeL
  rw [List.range_succ, List.filterMap_append]
  by_cases h : a = wrapN N (Z (2 * i))
  · rw [if_pos h]; simp [h]
  · rw [if_neg h]; simp [Ne.symm h]
theorem madeL_len {N : Nat} {Z : Nat → Int} {i a : Nat} : (madeL N Z i a).length ≤ i := by
  unfold madeL
  have := List.length_filterMap_le (fun j => if wrapN N (Z (2 * j)) = a then some (wrapN N (Z (2 * j + 1))) else none) (List.range i)
  rwa [List.length_range] at this
theorem madeL_lt {N : Nat} {Z : Nat → Int} {i a b : Nat} (hN : 1 ≤ N) (hb : b ∈ madeL N Z i a) : b < N := by
  unfold madeL at hb
  rw [List.mem_filterMap] at hb
  obtain ⟨j, _, h⟩ := hb
  split at h
  · cases h; exact (wrapN_eq hN _).2
  · cases h

theorem Pairs.get {β : Type} {n : Nat} {h : H} {v : Value} {len : Nat} {Z : Nat → Int} (w : Pairs h v len Z) {i q : Nat} (hi : i < len) (hq : q < 2) {k : Value → M β} :
    (bnd (opIndexAddr 2 v (i64 i)) fun p => bnd (opIndexAddrA 2 1 p (i64 q)) fun r => bnd (opLoad r) k).run n h = (k (i64 (Z (2 * i + q)))).run n h := by
  rcases w with ⟨h0, _⟩ | ⟨b, cap, rfl, g1, g2, g3⟩
  · omega
  · rw [st_ix, if_pos (by omega), Int.toNat_natCast, st_ixA, if_pos (by omega), Int.toNat_natCast, Nat.mul_one, Nat.zero_add]
    rw [ld1 (g3 (by omega)).2 (by decide) (tab_get (show i * 2 + q < cap * 2 by omega)), Nat.mul_comm i 2]

theorem made_l1 {F N g ob lo len : Nat} {v w4 : Value} {Z : Nat → Int} (hZ : ∀ i, Fit (Z i)) (hN : 1 ≤ N ∧ N ≤ 25) (hlo : 8 ≤ lo) {E : Value → Value → M Value} : ∀ j i k n (h : H) (O : Nat → Prop), i + j = min len 80 → j < k → Pairs h v len Z → GB h g N (sl ob 0 N N) → OL h ob N O (fun a => nats (madeL N Z i a)) → ¬ O g → (∀ c, O c → lo ≤ c) → g < n → lo ≤ n → Fr n h →
    ∃ n' h' O', (L5_Made_l1 F E k (i64 N) v w4 (pt g 0) (i64 i)).run n h = (E w4 (pt g 0)).run n' h' ∧ GB h' g N (sl ob 0 N N) ∧ OL h' ob N O' (fun a => nats (madeL N Z (min len 80) a)) ∧ (∀ c, O' c → O c ∨ n ≤ c) ∧ Ev O n h n' h' := by
  intro j
  induction j with
  | zero =>
    intro i k n h O hij hk hp hg hx hO hlO hgn hn f
    obtain ⟨k, rfl⟩ : ∃ j, k = j + 1 := ⟨k - 1, by omega⟩
    obtain rfl : i = min len 80 := by omega
    rw [L5_Made_l1_s]
    unfold L5_Made_b1 L5_Made_r4
    try dsimp only
    rw [hp.len]
    simp only [st_lss, onB_ite, run_ite, decide_eq_true_eq]
    by_cases h1 : ((min len 80 : Nat) : Int) < len
    · rw [if_pos h1, if_neg (by omega)]
      exact ⟨n, h, O, rfl, hg, hx, fun c hc => .inl hc, Ev.refl f⟩
    · rw [if_neg h1, if_neg (by decide)]
      exact ⟨n, h, O, rfl, hg, hx, fun c hc => .inl hc, Ev.refl f⟩
  | succ j ih =>
    intro i k n h O hij hk hp hg hx hO hlO hgn hn f
    obtain ⟨k, rfl⟩ : ∃ j, k = j + 1 := ⟨k - 1, by omega⟩
    have hi : i < len ∧ i < 80 := by omega
    rw [L5_Made_l1_s]
    unfold L5_Made_b1 L5_Made_r4
    try dsimp only
    rw [hp.len]
    simp only [st_lss, onB_ite, run_ite, decide_eq_true_eq]
    rw [if_pos (by omega), if_pos (by omega)]
    unfold L5_Made_r6
    try dsimp only
    obtain ⟨a1, a2⟩ := wrapN_eq hN.1 (Z (2 * i))
    obtain ⟨b1, b2⟩ := wrapN_eq hN.1 (Z (2 * i + 1))
    have r1 := Int.tmod_lt_of_pos (Z (2 * i)) (show (0 : Int) < N by omega)
    have r2 := Int.lt_tmod_of_pos (Z (2 * i)) (show (0 : Int) < N by omega)
    have r3 := Int.tmod_lt_of_pos (Z (2 * i + 1)) (show (0 : Int) < N by omega)
    have r4 := Int.lt_tmod_of_pos (Z (2 * i + 1)) (show (0 : Int) < N by omega)
    rw [show (Value.int .i64 0) = i64 ((0 : Nat) : Int) from rfl, hp.get hi.1 (by decide), Nat.add_zero, st_rem (by omega), sx_add (by omega), st_rem (by omega), a1]
    rw [show (Value.int .i64 1) = i64 ((1 : Nat) : Int) from rfl, hp.get hi.1 (by decide), st_rem (by omega), sx_add (by omega), st_rem (by omega), b1]
    unfold L5_Made_r7
    try dsimp only
    rw [st_field, Nat.zero_add, ld1 hg (by decide) rfl, hg.t]
    have hlen := madeL_len (N := N) (Z := Z) (i := i) (a := wrapN N (Z (2 * i)))
    obtain ⟨h2, h3, a, e2, ev2, e3, x3, ev3⟩ := hx.app (J := wrapN N (Z (2 * i))) (y := 0) (z := (wrapN N (Z (2 * i + 1)) : Int)) f a2 (by unfold nats; rw [List.length_map]; omega)
    rw [show (Value.int .i64 0) = i64 0 from rfl, e2]
    have hg2 := hg.ev ev2 hgn hO
    rw [run_chk (cs := [i64 N, sl ob 0 N N]) hg2 (by decide) rfl (by simp [veq]), e3]
    unfold L5_Made_r5
    try dsimp only
    rw [sx_add (by omega)]
    have el : (fun j => if j = wrapN N (Z (2 * i)) then nats (madeL N Z i j) ++ [(wrapN N (Z (2 * i + 1)) : Int)] else nats (madeL N Z i j)) = fun a => nats (madeL N Z (i + 1) a) := by
      funext j
      rw [madeL_succ]
      split
      · unfold nats; rw [List.map_append]; rfl
      · rfl
    rw [el] at x3
    obtain ⟨n', h', O', q1, q2, q3, q4, q5⟩ := ih (i + 1) k (n + 2) h3 (fun c => O c ∨ c = n + 1) (by omega) (by omega) (hp.keep fun c hc => ev3.keep c (by omega) fun hOc => by have := hlO c hOc; omega) (hg.ev ev3 hgn hO) x3 (fun hq => hq.elim hO fun e => by omega) (fun c hc => hc.elim (hlO c) fun e => by omega) (by omega) (by omega) ev3.f
    refine ⟨n', h', O', q1, q2, q3, fun c hc => ?_, ev3.trans q5 fun c hc hq => hq.elim id fun e => by omega⟩
    rcases q4 c hc with (h1 | h1) | h1
    · exact .inl h1
    · exact .inr (by omega)
    · exact .inr (by omega)

theorem opBuild_gr {N : Nat} {tv : Value} (h1 : one tv = true) : opBuild [i64 0, nsl] [(0, 1, false, i64 N), (1, 1, false, tv)] = ret (gv N tv) := by
  have hN : one (i64 N) = true := rfl
  simp [opBuild, fillA, h1, hN]

theorem run_ptr' {β : Type} {n : Nat} {h : H} {cs : List Value} {k : Value → M β} (f : Fr n h) (h1 : cs.all one = true) : (bnd (opPtr cs) k).run n h = (k (pt n 0)).run (n + 1) (h.set n ⟨cs, .own⟩) := run_ptr f h1

theorem Ev.new {n : Nat} {h : H} (f : Fr n h) (B : Blk) : Ev No n h (n + 1) (h.set n B) := ⟨f.new _, by omega, fun c hc _ => H.get_set_ne _ _ (by omega)⟩

/-- A graph of the call's own: it may be turned, and it may be read. -/
theorem made_spec {F n len : Nat} {v : Value} {z : Int} {Z : Nat → Int} {h : H} (hF : 100 < F) (hn : 8 ≤ n) (hz : Fit z) (hZ : ∀ i, Fit (Z i)) (hp : Pairs h v len Z) (f : Fr n h) :
    ∃ n' h' ob O, (L5_Made F (i64 z) v).run n h = some (gv (nodesOf z) (sl ob 0 (nodesOf z) (nodesOf z)), n', h') ∧ OL h' ob (nodesOf z) O (fun a => nats (madeL (nodesOf z) Z (min len 80) a)) ∧ (∀ c, O c → n ≤ c) ∧ Ev No n h n' h' := by
  obtain ⟨hN, hN1, hN2⟩ := nodesOf_eq z
  have r1 := Int.tmod_lt_of_pos z (show (0 : Int) < 25 by decide)
  have r2 := Int.lt_tmod_of_pos z (show (0 : Int) < 25 by decide)
  have r3 := Int.tmod_lt_of_pos (z.tmod 25 + 25) (show (0 : Int) < 25 by decide)
  have r4 := Int.tmod_nonneg 25 (show (0 : Int) ≤ z.tmod 25 + 25 by omega)
  unfold L5_Made L5_Made_r0
  try dsimp only
  rw [run_ptr f (by rfl)]
  have ev1 := Ev.new f ⟨[i64 0, nsl], .own⟩
  unfold L5_Made_r1
  try dsimp only
  rw [st_rem (by decide), sx_add (by omega), st_rem (by decide), sx_add (by omega), hN]
  generalize hNN : nodesOf z = N at *
  unfold L5_Made_r2
  try dsimp only
  obtain ⟨h2, e2, x2, ev2⟩ := OL.make (β := Value) ev1.f (show N ≤ 100000 by omega)
  rw [e2, show (Value.int .i64 0) = i64 0 from rfl, opBuild_gr rfl, ret_bnd, run_ptr ev2.f (by rfl)]
  have ev3 := Ev.new ev2.f ⟨[i64 0, nsl], .own⟩
  obtain ⟨h4, e4, g4, ev4⟩ := GB.put (β := Value) (N := N) (tv := sl (n + 1) 0 N N) (H.get_set_same h2 (n + 1 + 1) ⟨[i64 0, nsl], .own⟩) rfl ev3.f rfl
  rw [e4]
  unfold L5_Made_r3
  try dsimp only
  have x4 : OL h4 (n + 1) N (fun c => c = n + 1) (fun a => nats (madeL N Z 0 a)) := by
    have e : (fun a => nats (madeL N Z 0 a)) = fun _ => [] := by funext a; rfl
    rw [e]
    exact x2.keep fun c hc => by rw [ev4.keep c (by omega) (by omega), ev3.keep c (by omega) (by intro h; exact h)]
  have hp4 := hp.keep (h' := h4) fun c hc => by rw [ev4.keep c (by omega) (by omega), ev3.no (by omega), ev2.no (by omega), ev1.no (by omega)]
  obtain ⟨n5, h5, O5, e5, g5, x5, o5, ev5⟩ := made_l1 (F := F) (lo := n) (w4 := pt n 0) hZ ⟨hN1, hN2⟩ hn (E := fun x4 x5 => L5_Made_k0 F x4 x5) (min len 80) 0 F (n + 1 + 1 + 1) h4 (fun c => c = n + 1) (by omega) (by omega) hp4 g4 x4 (by omega) (fun c hc => by omega) (by omega) (by omega) ev4.f
  rw [show (Value.int .i64 0) = i64 ((0 : Nat) : Int) from rfl, e5]
  unfold L5_Made_k0 L5_Made_r8
  try dsimp only
  have l5 := ev5.le
  have hret : h5.get n = some ⟨[i64 0, nsl], .own⟩ := by
    rw [ev5.keep n (by omega) (by omega), ev4.keep n (by omega) (by omega), ev3.no (by omega), ev2.no (by omega), H.get_set_same]
  obtain ⟨h6, e6, g6, ev6⟩ := GB.put (β := Value) (N := N) (tv := sl (n + 1) 0 N N) hret rfl ev5.f rfl
  rw [g5.all, e6, g6.all]
  refine ⟨n5, h6, n + 1, O5, rfl, x5.keep fun c hc => ev6.keep c ?_ ?_, fun c hc => ?_, ev6.f, by omega, fun c hc _ => ?_⟩
  · exact x5.lt ev5.f hc
  · have := o5 c hc
    omega
  · rcases o5 c hc with h1 | h1 <;> omega
  · rw [ev6.keep c (by omega) (by omega), ev5.keep c (by omega) (by omega), ev4.keep c (by omega) (by omega), ev3.no (by omega), ev2.no (by omega), ev1.no hc]

/-! ## May -/

/-- A graph that may be: few nodes, edges among them, rows that are not too long. -/
structure GOk (N : Nat) (adj : Nat → List Nat) : Prop where
  few : N ≤ 600
  lt : ∀ a, a < N → ∀ b, b ∈ adj a → b < N
  short : ∀ a, a < N → (adj a).length ≤ 1000

theorem may_l3 {F N m c : Nat} {tv x24 x25 x26 rv : Value} {l : List Nat} {h h0 : H} {n g : Nat} (hg : GB h g N tv) (f0 : Fr m h0) (k0 : ∀ c, c < m → h.get c = h0.get c) (hr : RdI h0 rv (nats l)) (hl : ∀ b, b ∈ l → b < N) (hs : l.length ≤ 1000) (hN : N ≤ 600) {E : Value → Value → Value → Value → M Value} : ∀ j i k, i + j = l.length → j < k →
    (graph_May_l3 F E k (pt g 0) x24 x25 x26 rv (i64 l.length) (i64 i)).run n h = (E (pt g 0) x24 x25 x26).run n h := by
  have hr : RdI h rv (nats l) := hr.kept f0 k0
  intro j
  induction j with
  | zero =>
    intro i k hij hk
    obtain ⟨k, rfl⟩ : ∃ j, k = j + 1 := ⟨k - 1, by omega⟩
    rw [graph_May_l3_s]
    unfold graph_May_b3 graph_May_r7
    simp only [st_lss, onB_ite, run_ite, decide_eq_true_eq]
    rw [if_neg (by omega)]
  | succ j ih =>
    intro i k hij hk
    obtain ⟨k, rfl⟩ : ∃ j, k = j + 1 := ⟨k - 1, by omega⟩
    have hi : i < l.length := by omega
    rw [graph_May_l3_s]
    unfold graph_May_b3 graph_May_r7
    simp only [st_lss, onB_ite, run_ite, decide_eq_true_eq]
    rw [if_pos (by omega)]
    unfold graph_May_r8
    try dsimp only
    rw [hr.getI (show i < (nats l).length by unfold nats; rw [List.length_map]; exact hi)]
    have e : (nats l)[i]'(by unfold nats; rw [List.length_map]; exact hi) = ((l[i] : Nat) : Int) := by simp [nats]
    rw [e]
    have hb := hl l[i] (List.getElem_mem hi)
    unfold graph_May_r9
    simp only [st_lss, onB_ite, run_ite, decide_eq_true_eq]
    rw [if_neg (by omega), hg.nn, st_geq]
    simp only [onB_ite, run_ite, decide_eq_true_eq]
    rw [if_neg (by omega)]
    unfold graph_May_r11
    try dsimp only
    rw [sx_add (by omega)]
    exact ih (i + 1) k (by omega) (by omega)

theorem may_l1 {F N m : Nat} {tv : Value} {adj : Nat → List Nat} {h : H} {n g : Nat} (hF : 1000 < F) (hg : GB h g N tv) (gr : Gr h m tv N adj) (ok : GOk N adj) {E : M Value} : ∀ j i k, i + j = N → j < k →
    (graph_May_l1 F E k (pt g 0) tv (i64 N) (i64 i)).run n h = E.run n h := by
  have hN := ok.few
  intro j
  induction j with
  | zero =>
    intro i k hij hk
    obtain ⟨k, rfl⟩ : ∃ j, k = j + 1 := ⟨k - 1, by omega⟩
    rw [graph_May_l1_s]
    unfold graph_May_b1 graph_May_r4
    simp only [st_lss, onB_ite, run_ite, decide_eq_true_eq]
    rw [if_neg (by omega)]
  | succ j ih =>
    intro i k hij hk
    obtain ⟨k, rfl⟩ : ∃ j, k = j + 1 := ⟨k - 1, by omega⟩
    have hi : i < N := by omega
    rw [graph_May_l1_s]
    unfold graph_May_b1 graph_May_r4
    simp only [st_lss, onB_ite, run_ite, decide_eq_true_eq]
    rw [if_pos (by omega)]
    unfold graph_May_r5
    try dsimp only
    obtain ⟨rv, e1, h0, f0, k0, hr⟩ := gr.row (β := Value) (n := n) hi
    rw [e1]
    unfold graph_May_r6
    try dsimp only
    have hr' : RdI h rv (nats (adj i)) := hr.kept f0 k0
    have hs := ok.short i hi
    rw [hr'.lenI, show (nats (adj i)).length = (adj i).length by unfold nats; rw [List.length_map], show (Value.int .i64 0) = i64 ((0 : Nat) : Int) from rfl, may_l3 (c := 0) hg f0 k0 hr (ok.lt i hi) hs hN (adj i).length 0 F (by omega) (by omega)]
    unfold graph_May_k2 graph_May_r12
    try dsimp only
    rw [sx_add (by omega)]
    exact ih (i + 1) k (by omega) (by omega)

theorem gmay_spec {F n m N : Nat} {tv : Value} {adj : Nat → List Nat} {h : H} (hF : 1000 < F) (gr : Gr h m tv N adj) (hm : m ≤ n) (ok : GOk N adj) (f : Fr n h) :
    ∃ n' h', (graph_May F (gv N tv)).run n h = some (bo true, n', h') ∧ Ev No n h n' h' := by
  have hN := ok.few
  obtain ⟨h1, e1, g1, ev1⟩ := GB.box (β := Value) (N := N) f gr.1
  have gr1 := gr.no ev1 hm
  refine ⟨n + 1, h1, ?_, ev1⟩
  unfold graph_May graph_May_r0
  try dsimp only
  rw [e1]
  unfold graph_May_r1
  try dsimp only
  rw [g1.nn, st_lss]
  simp only [onB_ite, run_ite, decide_eq_true_eq]
  rw [if_neg (by omega), g1.nn, st_gtr]
  simp only [onB_ite, run_ite, decide_eq_true_eq]
  rw [if_neg (by omega), g1.t, gr1.len, g1.nn, st_neq]
  simp only [onB_ite, run_ite]
  rw [if_neg (by simp)]
  unfold graph_May_r3
  try dsimp only
  rw [g1.t, gr1.len, show (Value.int .i64 0) = i64 ((0 : Nat) : Int) from rfl, may_l1 hF g1 gr1 ok N 0 F (by omega) (by omega)]
  rfl

/-! ## Turn -/

/-- Who leads to b, from the rows below a and from the first i of a's row. -/
def turnL (adj : Nat → List Nat) (a i b : Nat) : List Nat := ((List.range a).flatMap fun c => (adj c).filterMap fun d => if d = b then some c else none) ++ ((adj a).take i).filterMap fun d => if d = b then some a else none

theorem turnL_row {adj : Nat → List Nat} {a i b : Nat} (hi : (adj a).length ≤ i) : turnL adj a i b = turnL adj (a + 1) 0 b := by
  unfold turnL
  rw [List.take_of_length_le hi, List.range_succ, List.flatMap_append]
  simp
theorem turnL_next {adj : Nat → List Nat} {a i b : Nat} (hi : i < (adj a).length) : turnL adj a (i + 1) b = if b = (adj a)[i] then turnL adj a i b ++ [a] else turnL adj a i b := by
  unfold turnL
  rw [List.take_succ_eq_append_getElem hi, List.filterMap_append, ← List.append_assoc]
  by_cases h : b = (adj a)[i]
  · rw [if_pos h]; simp [h]
  · rw [if_neg h]; simp [Ne.symm h]
theorem turnL_len {N : Nat} {adj : Nat → List Nat} (ok : GOk N adj) {b : Nat} : ∀ a i, a ≤ N → (a < N ∨ i = 0) → (turnL adj a i b).length ≤ 1000 * a + 1000 := by
  intro a i ha hi
  unfold turnL
  rw [List.length_append]
  have h1 : ∀ a, a ≤ N → ((List.range a).flatMap fun c => (adj c).filterMap fun d => if d = b then some c else none).length ≤ 1000 * a := by
    intro a
    induction a with
    | zero => intro _; simp
    | succ a ih =>
      intro ha
      rw [List.range_succ, List.flatMap_append, List.length_append]
      have h1 := ih (by omega)
      have h2 := ok.short a (by omega)
      have h3 := List.length_filterMap_le (fun d => if d = b then some a else none) (adj a)
      simp only [List.flatMap_cons, List.flatMap_nil, List.append_nil]
      omega
  have h2 := h1 a ha
  have h3 := List.length_filterMap_le (fun d => if d = b then some a else none) ((adj a).take i)
  rw [List.length_take] at h3
  rcases hi with hi | hi
  · have := ok.short a hi; omega
  · subst hi; omega

/-- The graph with its edges the other way round. -/
def turnA (N : Nat) (adj : Nat → List Nat) (b : Nat) : List Nat := turnL adj N 0 b
theorem turnA_mem {N : Nat} {adj : Nat → List Nat} {a b : Nat} : a ∈ turnA N adj b ↔ a < N ∧ b ∈ adj a := by
  unfold turnA turnL
  simp only [List.take_zero, List.filterMap_nil, List.append_nil, List.mem_flatMap, List.mem_range, List.mem_filterMap]
  constructor
  · rintro ⟨c, hc, d, hd, h⟩
    split at h
    · cases h; rename_i e; subst e; exact ⟨hc, hd⟩
    · cases h
  · rintro ⟨h1, h2⟩
    exact ⟨a, h1, b, h2, by rw [if_pos rfl]⟩


theorem turn_l3 {F N m g ob a : Nat} {w2 x19 x20 x21 rv : Value} {adj : Nat → List Nat} (ok : GOk N adj) (ha : a < N) {h0 : H} (f0 : Fr m h0) (hr : RdI h0 rv (nats (adj a))) {E : Value → Value → Value → Value → Value → M Value} : ∀ j i k n (h : H) (O : Nat → Prop), i + j = (adj a).length → j < k → (∀ c, c < m → h.get c = h0.get c) → GB h g N (sl ob 0 N N) → OL h ob N O (fun b => nats (turnL adj a i b)) → ¬ O g → (∀ c, O c → m ≤ c) → g < n → m ≤ n → Fr n h →
    ∃ n' h' O', (graph_Turn_l3 F E k w2 (pt g 0) (i64 a) x19 x20 x21 rv (i64 (adj a).length) (i64 i)).run n h = (E w2 (pt g 0) x19 x20 x21).run n' h' ∧ GB h' g N (sl ob 0 N N) ∧ OL h' ob N O' (fun b => nats (turnL adj (a + 1) 0 b)) ∧ (∀ c, O' c → O c ∨ n ≤ c) ∧ Ev O n h n' h' := by
  have hN := ok.few
  have hs := ok.short a ha
  intro j
  induction j with
  | zero =>
    intro i k n h O hij hk hk0 hg hx hO hlO hgn hn f
    obtain ⟨k, rfl⟩ : ∃ j, k = j + 1 := ⟨k - 1, by omega⟩
    rw [graph_Turn_l3_s]
    unfold graph_Turn_b3 graph_Turn_r8
    simp only [st_lss, onB_ite, run_ite, decide_eq_true_eq]
    rw [if_neg (by omega)]
    have e : (fun b => nats (turnL adj a i b)) = fun b => nats (turnL adj (a + 1) 0 b) := by
      funext b; rw [turnL_row (by omega)]
    rw [e] at hx
    exact ⟨n, h, O, rfl, hg, hx, fun c hc => .inl hc, Ev.refl f⟩
  | succ j ih =>
    intro i k n h O hij hk hk0 hg hx hO hlO hgn hn f
    obtain ⟨k, rfl⟩ : ∃ j, k = j + 1 := ⟨k - 1, by omega⟩
    have hi : i < (adj a).length := by omega
    rw [graph_Turn_l3_s]
    unfold graph_Turn_b3 graph_Turn_r8
    simp only [st_lss, onB_ite, run_ite, decide_eq_true_eq]
    rw [if_pos (by omega)]
    unfold graph_Turn_r9
    try dsimp only
    have hr1 : RdI h rv (nats (adj a)) := hr.kept f0 hk0
    rw [hr1.getI (show i < (nats (adj a)).length by unfold nats; rw [List.length_map]; exact hi)]
    have e : (nats (adj a))[i]'(by unfold nats; rw [List.length_map]; exact hi) = (((adj a)[i] : Nat) : Int) := by simp [nats]
    rw [e]
    have hb := ok.lt a ha (adj a)[i] (List.getElem_mem hi)
    unfold graph_Turn_r10
    try dsimp only
    rw [st_field, Nat.zero_add, ld1 hg (by decide) rfl, hg.t]
    have hlen := turnL_len (b := (adj a)[i]) ok a i (by omega) (.inl ha)
    obtain ⟨h2, h3, q, e2, ev2, e3, x3, ev3⟩ := hx.app (J := (adj a)[i]) (y := 0) (z := (a : Int)) f hb (by unfold nats; rw [List.length_map]; omega)
    rw [show (Value.int .i64 0) = i64 0 from rfl, e2]
    have hg2 := hg.ev ev2 hgn hO
    rw [run_chk (cs := [i64 N, sl ob 0 N N]) hg2 (by decide) rfl (by simp [veq]), e3]
    unfold graph_Turn_r11
    try dsimp only
    rw [sx_add (by omega)]
    have el : (fun b => if b = (adj a)[i] then nats (turnL adj a i b) ++ [(a : Int)] else nats (turnL adj a i b)) = fun b => nats (turnL adj a (i + 1) b) := by
      funext b
      rw [turnL_next hi]
      split
      · unfold nats; rw [List.map_append]; rfl
      · rfl
    rw [el] at x3
    obtain ⟨n', h', O', q1, q2, q3, q4, q5⟩ := ih (i + 1) k (n + 2) h3 (fun c => O c ∨ c = n + 1) (by omega) (by omega) (fun c hc => by rw [ev3.keep c (by omega) fun hOc => by have := hlO c hOc; omega]; exact hk0 c hc) (hg.ev ev3 hgn hO) x3 (fun hq => hq.elim hO fun e => by omega) (fun c hc => hc.elim (hlO c) fun e => by omega) (by omega) (by omega) ev3.f
    refine ⟨n', h', O', q1, q2, q3, fun c hc => ?_, ev3.trans q5 fun c hc hq => hq.elim id fun e => by omega⟩
    rcases q4 c hc with (h1 | h1) | h1
    · exact .inl h1
    · exact .inr (by omega)
    · exact .inr (by omega)

theorem turn_l1 {F N m g ob : Nat} {w2 tv : Value} {adj : Nat → List Nat} (hF : 1000 < F) (ok : GOk N adj) {E : Value → Value → M Value} : ∀ j a k n (h : H) (O : Nat → Prop), a + j = N → j < k → Gr h m tv N adj → GB h g N (sl ob 0 N N) → OL h ob N O (fun b => nats (turnL adj a 0 b)) → ¬ O g → (∀ c, O c → m ≤ c) → g < n → m ≤ n → Fr n h →
    ∃ n' h' O', (graph_Turn_l1 F E k w2 (pt g 0) tv (i64 N) (i64 a)).run n h = (E w2 (pt g 0)).run n' h' ∧ GB h' g N (sl ob 0 N N) ∧ OL h' ob N O' (fun b => nats (turnL adj N 0 b)) ∧ (∀ c, O' c → O c ∨ n ≤ c) ∧ Ev O n h n' h' := by
  have hN := ok.few
  intro j
  induction j with
  | zero =>
    intro a k n h O hij hk gr hg hx hO hlO hgn hn f
    obtain ⟨k, rfl⟩ : ∃ j, k = j + 1 := ⟨k - 1, by omega⟩
    obtain rfl : a = N := by omega
    rw [graph_Turn_l1_s]
    unfold graph_Turn_b1 graph_Turn_r5
    simp only [st_lss, onB_ite, run_ite, decide_eq_true_eq]
    rw [if_neg (by omega)]
    exact ⟨n, h, O, rfl, hg, hx, fun c hc => .inl hc, Ev.refl f⟩
  | succ j ih =>
    intro a k n h O hij hk gr hg hx hO hlO hgn hn f
    obtain ⟨k, rfl⟩ : ∃ j, k = j + 1 := ⟨k - 1, by omega⟩
    have ha : a < N := by omega
    rw [graph_Turn_l1_s]
    unfold graph_Turn_b1 graph_Turn_r5
    simp only [st_lss, onB_ite, run_ite, decide_eq_true_eq]
    rw [if_pos (by omega)]
    unfold graph_Turn_r6
    try dsimp only
    obtain ⟨rv, e1, h0, f0, k0, hr⟩ := gr.row (β := Value) (n := n) ha
    rw [e1]
    unfold graph_Turn_r7
    try dsimp only
    have hr' : RdI h rv (nats (adj a)) := hr.kept f0 k0
    have hs := ok.short a ha
    obtain ⟨n1, h1, O1, e2, g1, x1, o1, ev1⟩ := turn_l3 (F := F) (w2 := w2) (x19 := tv) (x20 := i64 N) (x21 := i64 a) ok ha f0 hr (E := fun x2 x3 x19 x20 x21 => graph_Turn_k2 F (graph_Turn_l1 F E k) x2 x3 x19 x20 x21) (adj a).length 0 F n h O (by omega) (by omega) k0 hg hx hO hlO hgn hn f
    rw [hr'.lenI, show (nats (adj a)).length = (adj a).length by unfold nats; rw [List.length_map], show (Value.int .i64 0) = i64 ((0 : Nat) : Int) from rfl, e2]
    have l1 := ev1.le
    unfold graph_Turn_k2 graph_Turn_r12
    try dsimp only
    rw [sx_add (by omega)]
    have hlO1 : ∀ c, O1 c → m ≤ c := fun c hc => (o1 c hc).elim (hlO c) fun h => by omega
    obtain ⟨n', h', O', q1, q2, q3, q4, q5⟩ := ih (a + 1) k n1 h1 O1 (by omega) (by omega) (gr.ev ev1 hn hlO) g1 x1 (fun hq => (o1 g hq).elim hO fun h => by omega) hlO1 (by omega) (by omega) ev1.f
    refine ⟨n', h', O', q1, q2, q3, fun c hc => ?_, ev1.trans q5 fun c hc hq => (o1 c hq).elim id fun h => by omega⟩
    rcases q4 c hc with h3 | h3
    · exact o1 c h3
    · exact .inr (by omega)

theorem turn_spec {F n m N : Nat} {tv : Value} {adj : Nat → List Nat} {h : H} (hF : 1000 < F) (gr : Gr h m tv N adj) (hm : m ≤ n) (ok : GOk N adj) (f : Fr n h) :
    ∃ n' h' ob O, (graph_Turn F (gv N tv)).run n h = some (gv N (sl ob 0 N N), n', h') ∧ OL h' ob N O (fun b => nats (turnA N adj b)) ∧ (∀ c, O c → n ≤ c) ∧ Ev No n h n' h' := by
  have hN := ok.few
  unfold graph_Turn graph_Turn_r0
  try dsimp only
  obtain ⟨h1, e1, g1, ev1⟩ := GB.box (β := Value) (N := N) f gr.1
  rw [e1, run_ptr ev1.f (by rfl)]
  have ev2 := Ev.new ev1.f ⟨[i64 0, nsl], .own⟩
  have hret : (h1.set (n + 1) ⟨[i64 0, nsl], .own⟩).get (n + 1) = some ⟨[i64 0, nsl], .own⟩ := H.get_set_same _ _ _
  have g2 := g1.ev ev2 (by omega) (fun h => h)
  have gr2 := (gr.no ev1 hm).no ev2 (by omega)
  unfold graph_Turn_r1
  try dsimp only
  obtain ⟨n3, h3, e3, ev3⟩ := gmay_spec (F := F) hF gr2 (by omega) ok ev2.f
  have l3 := ev3.le
  rw [g2.all, run_bnd e3, st_not]
  simp only [onB_ite, run_ite]
  rw [if_neg (by decide)]
  have g3 := g2.ev ev3 (by omega) (fun h => h)
  have gr3 := gr2.no ev3 (by omega)
  have hret3 : h3.get (n + 1) = some ⟨[i64 0, nsl], .own⟩ := by rw [ev3.no (by omega)]; exact hret
  unfold graph_Turn_r3
  try dsimp only
  obtain ⟨h4, e4, x4, ev4⟩ := OL.make (β := Value) ev3.f (show N ≤ 100000 by omega)
  rw [g3.nn, g3.nn, e4, show (Value.int .i64 0) = i64 0 from rfl, opBuild_gr rfl, ret_bnd, run_ptr ev4.f (by rfl)]
  have ev5 := Ev.new ev4.f ⟨[i64 0, nsl], .own⟩
  obtain ⟨h6, e6, g6, ev6⟩ := GB.put (β := Value) (N := N) (tv := sl n3 0 N N) (H.get_set_same h4 (n3 + 1) ⟨[i64 0, nsl], .own⟩) rfl ev5.f rfl
  rw [e6]
  have ev36 : Ev No n3 h3 (n3 + 1 + 1) h6 := (ev4.trans ev5 fun _ _ h => h).trans ev6 fun c hc e => by omega
  have g36 := g3.ev ev36 (by omega) (fun h => h)
  have gr36 := gr3.no ev36 (by omega)
  have hret6 : h6.get (n + 1) = some ⟨[i64 0, nsl], .own⟩ := by rw [ev36.no (by omega)]; exact hret3
  have x6 : OL h6 n3 N (fun c => c = n3) (fun b => nats (turnL adj 0 0 b)) := by
    have e : (fun b => nats (turnL adj 0 0 b)) = fun _ => [] := by funext b; simp [turnL]
    rw [e]
    exact x4.keep fun c hc => by rw [ev6.keep c (by omega) (by omega), ev5.no (by omega)]
  unfold graph_Turn_r4
  try dsimp only
  obtain ⟨n7, h7, O7, e7, g7, x7, o7, ev7⟩ := turn_l1 (F := F) (w2 := pt (n + 1) 0) (tv := tv) hF ok (E := fun x2 x3 => graph_Turn_k0 F x2 x3) N 0 F (n3 + 1 + 1) h6 (fun c => c = n3) (by omega) (by omega) gr36 g6 x6 (by omega) (fun c hc => by omega) (by omega) (by omega) ev6.f
  rw [g36.t, gr36.len, show (Value.int .i64 0) = i64 ((0 : Nat) : Int) from rfl, e7]
  unfold graph_Turn_k0 graph_Turn_r13
  try dsimp only
  have l7 := ev7.le
  have hret7 : h7.get (n + 1) = some ⟨[i64 0, nsl], .own⟩ := by rw [ev7.keep _ (by omega) (by omega)]; exact hret6
  obtain ⟨h8, e8, g8, ev8⟩ := GB.put (β := Value) (N := N) (tv := sl n3 0 N N) hret7 rfl ev7.f rfl
  rw [g7.all, e8, g8.all]
  have o7' : ∀ c, O7 c → n3 ≤ c := fun c hc => (o7 c hc).elim (fun h => by omega) fun h => by omega
  have e : (fun b => nats (turnL adj N 0 b)) = fun b => nats (turnA N adj b) := rfl
  rw [e] at x7
  refine ⟨n7, h8, n3, O7, rfl, x7.keep fun c hc => ev8.keep c (x7.lt ev7.f hc) (by have := o7' c hc; omega), fun c hc => by have := o7' c hc; omega, ev8.f, by omega, fun c hc _ => ?_⟩
  rw [ev8.keep c (by omega) (by omega), ev7.keep c (by omega) (by omega), ev36.no (by omega), ev3.no (by omega), ev2.no (by omega), ev1.no hc]


/-- A search in depth on its way: the set of who is met, the list of who is left; O: their blocks. -/
def DS (h : H) (p : Nat) (v : Value) (O : Nat → Prop) (s : DSt) : Prop :=
  ∃ Os b, BS h p Os s.1 ∧ GlI h v b (nats s.2) ∧ (∀ c, Os c → O c) ∧ (s.2 ≠ [] → O b ∧ ¬ Os b)

theorem DS.keep {h h' : H} {p : Nat} {v : Value} {O : Nat → Prop} {s : DSt} (x : DS h p v O s) (hk : ∀ c, O c → h'.get c = h.get c) : DS h' p v O s := by
  obtain ⟨Os, b, x, g, h1, h2⟩ := x
  exact ⟨Os, b, x.keep fun c hc => hk c (h1 c hc), g.keep fun h0 => hk b (h2 (by rintro e; exact h0 (by rw [e]; rfl))).1, h1, h2⟩

theorem putS_putM {s : Nat → Bool} {a : Nat} : putS s a = putM s a := rfl

theorem DS.add {F n p a : Nat} {h : H} {v : Value} {O : Nat → Prop} {s : DSt} (hF : 100 < F) (x : DS h p v O s) (hOn : ∀ c, O c → c < n) (f : Fr n h) (ha : a < 5000) :
    ∃ n' h' O', (bitset_Set_Add F (pt p 0) (i64 a)).run n h = some (bo (!s.1 a), n', h') ∧ DS h' p v O' (if s.1 a = true then s else (putM s.1 a, s.2)) ∧ (∀ c, O' c → (O c ∨ n ≤ c) ∧ c < n') ∧ Ev O n h n' h' := by
  obtain ⟨Os, b, x, g, h1, h2⟩ := x
  obtain ⟨n', h', Os', e, x', f', l, k, o⟩ := add_spec (F := F) x f (a : Int) hF
  have hc : canAdd s.1 (a : Int) = !s.1 a := by
    have h0 : decide ((0 : Int) ≤ (a : Int) ∧ (a : Int) < 5000) = true := decide_eq_true ⟨by omega, by omega⟩
    unfold canAdd; rw [h0, Bool.true_and]; rfl
  rw [hc] at e x'
  have hb : s.2 ≠ [] → b < n := fun h0 => g.lt f (by intro e; exact h0 (by simpa [nats] using e))
  refine ⟨n', h', fun c => O c ∨ Os' c, e, ⟨Os', b, ?_, ?_, fun c hc => .inr hc, ?_⟩, fun c hc => ⟨hc.elim .inl fun q => (o c q).imp (h1 c) id, hc.elim (fun q => by have := hOn c q; omega) fun q => x'.lt f' c q⟩, f', l, fun c hc hn => k c hc fun q => hn (h1 c q)⟩
  · cases hq : s.1 a with
    | true => rw [hq, Bool.not_true, if_neg (by decide)] at x'; rw [if_pos rfl]; exact x'
    | false => rw [hq, Bool.not_false, if_pos rfl] at x'; rw [if_neg (by decide)]; exact x'
  · have e2 : (if s.1 a = true then s else (putM s.1 a, s.2)).2 = s.2 := by split <;> rfl
    rw [e2]
    exact g.keep fun h0 => by
      have h0' : s.2 ≠ [] := by rintro e; exact h0 (by rw [e]; rfl)
      exact k b (hb h0') (h2 h0').2
  · intro h0
    have e2 : (if s.1 a = true then s else (putM s.1 a, s.2)).2 = s.2 := by split <;> rfl
    rw [e2] at h0
    refine ⟨.inl (h2 h0).1, fun q => ?_⟩
    rcases o b q with q | q
    · exact (h2 h0).2 q
    · have := hb h0; omega

theorem DS.push {n p a : Nat} {h : H} {v : Value} {O : Nat → Prop} {s : DSt} (x : DS h p v O s) (f : Fr n h) (hl : s.2.length < 100000) :
    ∃ h' v', (∀ k : Value → M Value, (bnd (opBuildSlice 1 (rep 1 [i64 0]) [(0, 1, false, i64 (a : Int))]) fun t => bnd (opAppend 1 8 v t) k).run n h = (k v').run (n + 2) h') ∧ DS h' p v' (fun c => O c ∨ c = n + 1) (s.1, s.2 ++ [a]) ∧ Ev O n h (n + 2) h' := by
  obtain ⟨Os, b, x, g, h1, h2⟩ := x
  obtain ⟨h', v', e, g', f', k⟩ := g.pushI (β := Value) (y := 0) (z := (a : Int)) f (by unfold nats; rw [List.length_map]; omega)
  have hk : ∀ c, c < n → ¬ (s.2 ≠ [] ∧ c = b) → h'.get c = h.get c := fun c hc hn => k c hc fun h0 e => hn ⟨by rintro q; exact h0 (by rw [q]; rfl), e⟩
  refine ⟨h', v', e, ⟨Os, n + 1, x.keep fun c hc => hk c (x.lt f c hc) fun q => (h2 q.1).2 (q.2 ▸ hc), by unfold nats; rw [List.map_append]; exact g', fun c hc => .inl (h1 c hc), fun _ => ⟨.inr rfl, fun q => by have := x.lt f _ q; omega⟩⟩, f', by omega, fun c hc hO => hk c hc fun q => hO (q.2 ▸ (h2 q.1).1)⟩

theorem behind_l1 {F m N g a k0 : Nat} {tv rv : Value} {adj : Nat → List Nat} (hF : 1000 < F) (ok : GOk N adj) (ha : a < N) {rec : Value → Value → Value → Value → M Value}
    (ih : ∀ b n (h : H) p v O (s : DSt), b < N → cnt N s.1 < k0 → s.2.length + cnt N s.1 ≤ 1000 → Gr h m tv N adj → DS h p v O s → m ≤ n → (∀ c, O c → m ≤ c ∧ c < n) → Fr n h →
      ∃ n' h' v' O', (rec (gv N tv) (i64 b) (pt p 0) v).run n h = some (v', n', h') ∧ DS h' p v' O' (beh adj k0 b s) ∧ (∀ c, O' c → (O c ∨ n ≤ c) ∧ c < n') ∧ Ev O n h n' h')
    {h0 : H} (f0 : Fr m h0) (hr : RdI h0 rv (nats (adj a))) {E : Value → Value → M Value} : ∀ j i k n (h : H) p v O (s : DSt), i + j = (adj a).length → j < k → cnt N s.1 < k0 → s.2.length + cnt N s.1 ≤ 1000 → (∀ c, c < m → h.get c = h0.get c) → Gr h m tv N adj → GB h g N tv → DS h p v O s → m ≤ n → (∀ c, O c → m ≤ c ∧ c < n) → ¬ O g → g < n → Fr n h →
    ∃ n' h' v' O', (graph_behind_l1 F rec E k (i64 a) (pt p 0) v (pt g 0) rv (i64 (adj a).length) (i64 i)).run n h = (E (i64 a) v').run n' h' ∧ DS h' p v' O' (((adj a).drop i).foldl (fun s b => beh adj k0 b s) s) ∧ (∀ c, O' c → (O c ∨ n ≤ c) ∧ c < n') ∧ Ev O n h n' h' := by
  have hN := ok.few
  have hs := ok.short a ha
  intro j
  induction j with
  | zero =>
    intro i k n h p v O s hij hk hc hsz hk0 gr hg x hm hO hOg hgn f
    obtain ⟨k, rfl⟩ : ∃ j, k = j + 1 := ⟨k - 1, by omega⟩
    rw [graph_behind_l1_s]
    unfold graph_behind_b1 graph_behind_r4
    simp only [st_lss, onB_ite, run_ite, decide_eq_true_eq]
    rw [if_neg (by omega), List.drop_of_length_le (by omega)]
    exact ⟨n, h, v, O, rfl, x, fun c hc => ⟨.inl hc, (hO c hc).2⟩, Ev.refl f⟩
  | succ j ih2 =>
    intro i k n h p v O s hij hk hc hsz hk0 gr hg x hm hO hOg hgn f
    obtain ⟨k, rfl⟩ : ∃ j, k = j + 1 := ⟨k - 1, by omega⟩
    have hi : i < (adj a).length := by omega
    rw [graph_behind_l1_s]
    unfold graph_behind_b1 graph_behind_r4
    simp only [st_lss, onB_ite, run_ite, decide_eq_true_eq]
    rw [if_pos (by omega)]
    unfold graph_behind_r5
    try dsimp only
    have hr1 : RdI h rv (nats (adj a)) := hr.kept f0 hk0
    rw [hr1.getI (show i < (nats (adj a)).length by unfold nats; rw [List.length_map]; exact hi)]
    have e : (nats (adj a))[i]'(by unfold nats; rw [List.length_map]; exact hi) = (((adj a)[i] : Nat) : Int) := by simp [nats]
    rw [e]
    have hb := ok.lt a ha (adj a)[i] (List.getElem_mem hi)
    unfold graph_behind_r6
    try dsimp only
    rw [hg.all]
    obtain ⟨n1, h1, v1, O1, e1, x1, o1, ev1⟩ := ih (adj a)[i] n h p v O s hb hc hsz gr x hm hO f
    rw [run_bnd e1]
    have l1 := ev1.le
    unfold graph_behind_r7
    try dsimp only
    rw [sx_add (by omega)]
    have hmono : cnt N (beh adj k0 (adj a)[i] s).1 ≤ cnt N s.1 := cnt_mono (fun q hq => beh_mono hq) N
    have hsize := (beh_full ok.lt k0 (adj a)[i] s hb hc).size
    obtain ⟨n', h', v', O', q1, q2, q3, q4⟩ := ih2 (i + 1) k n1 h1 p v1 O1 (beh adj k0 (adj a)[i] s) (by omega) (by omega) (by omega) (by omega) (fun c hc => by rw [ev1.keep c (by omega) fun q => by have := (hO c q).1; omega]; exact hk0 c hc) (gr.ev ev1 hm fun c hc => (hO c hc).1) (hg.ev ev1 hgn hOg) x1 (by omega) (fun c hc => ⟨(o1 c hc).1.elim (fun q => (hO c q).1) fun q => by omega, (o1 c hc).2⟩) (fun q => (o1 g q).1.elim hOg fun q => by omega) (by omega) ev1.f
    rw [List.drop_eq_getElem_cons hi, List.foldl_cons]
    refine ⟨n', h', v', O', q1, q2, fun c hc => ⟨(q3 c hc).1.elim (fun q => (o1 c q).1) fun q => .inr (by omega), (q3 c hc).2⟩, ev1.trans q4 fun c hc q => (o1 c q).1.elim id fun q => by omega⟩

theorem behind_spec {F m N : Nat} {tv : Value} {adj : Nat → List Nat} (hF : 1000 < F) (ok : GOk N adj) (h1v : one tv = true) : ∀ k a n (h : H) p v O (s : DSt), a < N → cnt N s.1 < k → s.2.length + cnt N s.1 ≤ 1000 → Gr h m tv N adj → DS h p v O s → m ≤ n → (∀ c, O c → m ≤ c ∧ c < n) → Fr n h →
    ∃ n' h' v' O', (graph_behind F k (gv N tv) (i64 a) (pt p 0) v).run n h = some (v', n', h') ∧ DS h' p v' O' (beh adj k a s) ∧ (∀ c, O' c → (O c ∨ n ≤ c) ∧ c < n') ∧ Ev O n h n' h' := by
  have hN := ok.few
  intro k
  induction k with
  | zero => intro a n h p v O s ha hk; omega
  | succ k ih =>
    intro a n h p v O s ha hk hsz gr x hm hO f
    show ∃ n' h' v' O', (graph_behind_s F (graph_behind F k) (gv N tv) (i64 a) (pt p 0) v).run n h = some (v', n', h') ∧ _
    unfold graph_behind_s graph_behind_r0
    try dsimp only
    obtain ⟨h1, e1, g1, ev1⟩ := GB.box (β := Value) (N := N) f h1v
    rw [e1]
    have gr1 := gr.no ev1 hm
    have x1 := x.keep (h' := h1) fun c hc => ev1.no (hO c hc).2
    unfold graph_behind_r1
    try dsimp only
    obtain ⟨n2, h2, O2, e2, x2, o2, ev2⟩ := x1.add (F := F) (a := a) (by omega) (fun c hc => by have := (hO c hc).2; omega) ev1.f (by omega)
    rw [run_bnd e2, st_not]
    have l2 := ev2.le
    have ev02 : Ev O n h n2 h2 := (ev1.mono fun _ _ h => h.elim).trans ev2 fun _ _ h => h
    simp only [onB_ite, run_ite]
    cases hsa : s.1 a with
    | true =>
      rw [Bool.not_true, Bool.not_false, if_pos rfl]
      unfold graph_behind_r2
      rw [hsa, if_pos rfl] at x2
      have eb : beh adj (k + 1) a s = s := by unfold beh; rw [if_pos hsa]
      rw [eb]
      exact ⟨n2, h2, v, O2, rfl, x2, fun c hc => ⟨(o2 c hc).1.imp id fun q => by omega, (o2 c hc).2⟩, ev02⟩
    | false =>
      rw [Bool.not_false, Bool.not_true, if_neg (by decide)]
      rw [hsa, if_neg (by decide)] at x2
      unfold graph_behind_r3
      try dsimp only
      have hOg : ¬ O n := fun q => by have := (hO n q).2; omega
      have g2 := g1.ev ev2 (by omega) hOg
      have gr2 := gr1.ev ev2 (by omega) fun c hc => (hO c hc).1
      obtain ⟨rv, e3, h0, f0, k0, hr⟩ := gr2.row (β := Value) (n := n2) ha
      have hr' : RdI h2 rv (nats (adj a)) := hr.kept f0 k0
      have hs := ok.short a ha
      rw [g2.t, e3, hr'.lenI, show (nats (adj a)).length = (adj a).length by unfold nats; rw [List.length_map]]
      have hcnt := cnt_put hsa N
      rw [if_pos ha] at hcnt
      obtain ⟨n4, h4, v4, O4, e4, x4, o4, ev4⟩ := behind_l1 (F := F) (g := n) (k0 := k) hF ok ha (rec := graph_behind F k) ih f0 hr (E := fun x1 x3 => graph_behind_k0 F (graph_behind F k) x1 x3) (adj a).length 0 F n2 h2 p v O2 (putM s.1 a, s.2) (by omega) (by omega) (by show cnt N (putM s.1 a) < k; omega) (by show s.2.length + cnt N (putM s.1 a) ≤ 1000; omega) k0 gr2 g2 x2 (by omega) (fun c hc => ⟨(o2 c hc).1.elim (fun q => (hO c q).1) fun q => by omega, (o2 c hc).2⟩) (fun q => (o2 n q).1.elim hOg fun q => by omega) (by omega) ev2.f
      rw [show (Value.int .i64 0) = i64 ((0 : Nat) : Int) from rfl, e4]
      have l4 := ev4.le
      unfold graph_behind_k0 graph_behind_r8
      try dsimp only
      rw [List.drop_zero] at x4
      have hfull := fold_full (adj := adj) (f := fun s b => beh adj k b s) (N := N) (k := k) (fun s b hb hk => beh_full ok.lt k b s hb hk) (adj a) (putM s.1 a, s.2) (ok.lt a ha) (by show cnt N (putM s.1 a) < k; omega)
      have hsz4 := hfull.size
      simp only at hsz4
      obtain ⟨h5, v5, e5, x5, ev5⟩ := x4.push (a := a) ev4.f (by omega)
      rw [show (Value.int .i64 0) = i64 0 from rfl, e5]
      have eb : beh adj (k + 1) a s = (((adj a).foldl (fun s b => beh adj k b s) (putM s.1 a, s.2)).1, ((adj a).foldl (fun s b => beh adj k b s) (putM s.1 a, s.2)).2 ++ [a]) := by
        show (if s.1 a = true then s else _) = _
        rw [if_neg (by rw [hsa]; decide)]
      rw [eb]
      have oo : ∀ c, O4 c → (O c ∨ n ≤ c) ∧ c < n4 := fun c hc => ⟨(o4 c hc).1.elim (fun q => (o2 c q).1.imp id fun q => by omega) fun q => .inr (by omega), (o4 c hc).2⟩
      refine ⟨n4 + 2, h5, v5, _, rfl, x5, fun c hc => ⟨hc.elim (fun q => (oo c q).1) fun q => .inr (by omega), hc.elim (fun q => by have := (oo c q).2; omega) fun q => by omega⟩, (ev02.trans ev4 fun c hc q => (o2 c q).1.elim id fun q => by omega).trans ev5 fun c hc q => (oo c q).1.elim id fun q => by omega⟩


theorem rev_l0 {F b L c : Nat} {u : Nat → Value} (hu : ∀ q, one (u q) = true) (hL : L ≤ 100000) {E : M Value} : ∀ j i k n (h : H), L ≤ 2 * i + j → 2 * i ≤ L + 1 → j < k → h.get b = some ⟨tab L (fun q => if q < i ∨ L ≤ q + i then u (L - 1 - q) else u q), .grow⟩ → Fr n h →
    ∃ h', (slices_Reverse_l0 F E k (sl b 0 L c) (i64 i) (i64 ((L : Int) - 1 - i))).run n h = E.run n h' ∧ h'.get b = some ⟨tab L (fun q => u (L - 1 - q)), .grow⟩ ∧ Ev (fun c => c = b) n h n h' := by
  have stop : ∀ (i k n : Nat) (h : H), ¬ ((i : Int) < (L : Int) - 1 - i) → h.get b = some ⟨tab L (fun q => if q < i ∨ L ≤ q + i then u (L - 1 - q) else u q), .grow⟩ → Fr n h →
      ∃ h', (slices_Reverse_l0 F E (k + 1) (sl b 0 L c) (i64 i) (i64 ((L : Int) - 1 - i))).run n h = E.run n h' ∧ h'.get b = some ⟨tab L (fun q => u (L - 1 - q)), .grow⟩ ∧ Ev (fun c => c = b) n h n h' := by
    intro i k n h hi hb f
    rw [slices_Reverse_l0_s]
    unfold slices_Reverse_b0 slices_Reverse_r1
    simp only [st_lss, onB_ite, run_ite, decide_eq_true_eq]
    rw [if_neg hi]
    refine ⟨h, rfl, ?_, Ev.refl f⟩
    rw [hb]
    have e : tab L (fun q => if q < i ∨ L ≤ q + i then u (L - 1 - q) else u q) = tab L (fun q => u (L - 1 - q)) := tab_ext fun q hq => by
      by_cases h1 : q < i ∨ L ≤ q + i
      · rw [if_pos h1]
      · rw [if_neg h1, show L - 1 - q = q by omega]
    rw [e]
  intro j
  induction j with
  | zero =>
    intro i k n h hij hi2 hk hb f
    obtain ⟨k, rfl⟩ : ∃ j, k = j + 1 := ⟨k - 1, by omega⟩
    exact stop i k n h (by omega) hb f
  | succ j ih =>
    intro i k n h hij hi2 hk hb f
    obtain ⟨k, rfl⟩ : ∃ j, k = j + 1 := ⟨k - 1, by omega⟩
    by_cases hi : (i : Int) < (L : Int) - 1 - i
    · rw [slices_Reverse_l0_s]
      unfold slices_Reverse_b0 slices_Reverse_r1
      simp only [st_lss, onB_ite, run_ite, decide_eq_true_eq]
      rw [if_pos hi]
      unfold slices_Reverse_r3
      try dsimp only
      have ej : (L : Int) - 1 - i = ((L - 1 - i : Nat) : Int) := by omega
      have hbn := f.lt hb
      rw [ej, ix1 (show L - 1 - i < L by omega), Nat.zero_add, ldT hb (by decide) (show L - 1 - i < L by omega), ix1 (show i < L by omega), Nat.zero_add, ldT hb (by decide) (show i < L by omega)]
      try dsimp only
      rw [if_neg (show ¬ (L - 1 - i < i ∨ L ≤ L - 1 - i + i) by omega), if_neg (show ¬ (i < i ∨ L ≤ i + i) by omega), ix1 (show i < L by omega), Nat.zero_add, stT hb (.inr rfl) (hu _) (show i < L by omega), ix1 (show L - 1 - i < L by omega), Nat.zero_add, stT (H.get_set_same _ _ _) (.inr rfl) (hu _) (show L - 1 - i < L by omega)]
      unfold slices_Reverse_r2
      try dsimp only
      rw [sx_add (by omega), sx_sub (by omega)]
      generalize hh2 : (h.set b ⟨tab L (fun i_1 => if i_1 = i then u (L - 1 - i) else if i_1 < i ∨ L ≤ i_1 + i then u (L - 1 - i_1) else u i_1), .grow⟩).set b ⟨tab L (fun i_1 => if i_1 = L - 1 - i then u i else if i_1 = i then u (L - 1 - i) else if i_1 < i ∨ L ≤ i_1 + i then u (L - 1 - i_1) else u i_1), .grow⟩ = h2
      have f2 : Fr n h2 := by rw [← hh2]; exact (f.set _ hbn).set _ hbn
      have hb2 : h2.get b = some ⟨tab L (fun q => if q < i + 1 ∨ L ≤ q + (i + 1) then u (L - 1 - q) else u q), .grow⟩ := by
        rw [← hh2, H.get_set_same]
        have e : tab L (fun i_1 => if i_1 = L - 1 - i then u i else if i_1 = i then u (L - 1 - i) else if i_1 < i ∨ L ≤ i_1 + i then u (L - 1 - i_1) else u i_1) = tab L (fun q => if q < i + 1 ∨ L ≤ q + (i + 1) then u (L - 1 - q) else u q) := tab_ext fun q hq => by
          by_cases h1 : q = L - 1 - i
          · rw [if_pos h1, if_pos (by omega), show L - 1 - q = i by omega]
          · rw [if_neg h1]
            by_cases h2 : q = i
            · rw [if_pos h2, if_pos (by omega), h2]
            · rw [if_neg h2]
              by_cases h3 : q < i ∨ L ≤ q + i
              · rw [if_pos h3, if_pos (by omega)]
              · rw [if_neg h3, if_neg (by omega)]
        rw [e]
      have k2 : ∀ c, c ≠ b → h2.get c = h.get c := fun c hc => by rw [← hh2, H.get_set_ne _ _ hc, H.get_set_ne _ _ hc]
      obtain ⟨h', q1, q2, q3⟩ := ih (i + 1) k n h2 (by omega) (by omega) (by omega) hb2 f2
      have ee : ((L - 1 - i : Nat) : Int) - 1 = (L : Int) - 1 - ((i + 1 : Nat) : Int) := by omega
      rw [ee]
      exact ⟨h', q1, q2, Ev.trans (P := fun c => c = b) ⟨f2, Nat.le_refl _, fun c _ hc => k2 c hc⟩ q3 fun c _ hc => hc⟩
    · exact stop i k n h hi hb f

theorem map_tab {l : List Nat} : (nats l).map i64 = tab l.length fun q => i64 ((l[q]?.getD 0 : Nat) : Int) := by
  apply List.ext_getElem?
  intro i
  by_cases h : i < l.length
  · rw [tab_get h]; simp [nats, h]
  · rw [tab_none (by omega)]; simp [nats]; omega

theorem rev_spec {F n b : Nat} {v : Value} {h : H} {l : List Nat} (hF : 1000000 ≤ F) (hl : l.length ≤ 100000) (h0 : l ≠ []) (g : GlI h v b (nats l)) (f : Fr n h) :
    ∃ h' w, (slices_Reverse F v).run n h = some (w, n, h') ∧ GlI h' v b (nats l.reverse) ∧ Ev (fun c => c = b) n h n h' := by
  rcases g with ⟨g0, _⟩ | ⟨_, rfl, gb⟩
  · exact absurd g0 (by simpa [nats] using h0)
  have hlen : ((nats l).map i64).length = l.length := by simp [nats]
  unfold slices_Reverse slices_Reverse_r0
  try dsimp only
  rw [hlen, st_len, sx_sub (by omega)]
  rw [map_tab] at gb
  obtain ⟨h', e1, gb', ev⟩ := rev_l0 (F := F) (b := b) (L := l.length) (c := U + 1) (u := fun q => i64 ((l[q]?.getD 0 : Nat) : Int)) (fun _ => rfl) hl (E := tupK []) l.length 0 F n h (by omega) (by omega) (by omega) (by
    rw [gb]
    have e : tab l.length (fun q => i64 ((l[q]?.getD 0 : Nat) : Int)) = tab l.length (fun q => if q < 0 ∨ l.length ≤ q + 0 then i64 ((l[l.length - 1 - q]?.getD 0 : Nat) : Int) else i64 ((l[q]?.getD 0 : Nat) : Int)) := tab_ext fun q hq => by rw [if_neg (by omega)]
    rw [e]) f
  refine ⟨h', .tuple #[], ?_, .inr ⟨by simpa [nats] using h0, by simp [nats], ?_⟩, ev⟩
  · rw [show (Value.int .i64 0) = i64 ((0 : Nat) : Int) from rfl]
    have : (l.length : Int) - 1 = (l.length : Int) - 1 - ((0 : Nat) : Int) := by omega
    rw [this]
    exact e1
  · rw [gb', map_tab, List.length_reverse]
    have e : tab l.length (fun q => i64 ((l[l.length - 1 - q]?.getD 0 : Nat) : Int)) = tab l.length fun q => i64 ((l.reverse[q]?.getD 0 : Nat) : Int) := tab_ext fun q hq => by
      rw [List.getElem?_reverse hq]
    rw [e]

/-- The order of a search in depth. -/
def ordL (adj : Nat → List Nat) (F root : Nat) : List Nat := (beh adj F root (fun _ => false, [])).2.reverse

theorem nodup_len {N : Nat} : ∀ {l : List Nat}, l.Nodup → (∀ m, m ∈ l → m < N) → l.length ≤ N := by
  induction N with
  | zero =>
    intro l _ h
    match l with
    | [] => exact Nat.le_refl _
    | a :: l => exact absurd (h a List.mem_cons_self) (Nat.not_lt_zero _)
  | succ N ih =>
    intro l hn hl
    have h1 := ih (l := l.filter (· ≠ N)) (List.Pairwise.filter _ hn) fun m hm => by
      rw [List.mem_filter] at hm
      have := hl m hm.1
      have h2 : m ≠ N := by simpa using hm.2
      omega
    have h2 : l.length ≤ (l.filter (· ≠ N)).length + 1 := by
      clear h1 hl ih
      induction l with
      | nil => simp
      | cons a l ih2 =>
        rw [List.nodup_cons] at hn
        by_cases e : a = N
        · subst e
          rw [List.filter_cons_of_neg (by simp)]
          have : l.filter (fun x => decide (x ≠ a)) = l := by
            rw [List.filter_eq_self]
            intro x hx
            simp only [decide_eq_true_eq]
            rintro rfl; exact hn.1 hx
          rw [this]; simp
        · rw [List.filter_cons_of_pos (by simpa using e), List.length_cons, List.length_cons]
          have := ih2 hn.2; omega
    omega

theorem order_in {F n m N root : Nat} {tv : Value} {adj : Nat → List Nat} {h : H} (hF : 1000000 ≤ F) (gr : Gr h m tv N adj) (hm : m ≤ n) (ok : GOk N adj) (hr : root < N) (f : Fr n h) :
    ∃ n' h' v b, (graph_Order F (gv N tv) (i64 root)).run n h = some (v, n', h') ∧ GlI h' v b (nats (ordL adj F root)) ∧ n ≤ b ∧ Ev No n h n' h' := by
  have hN := ok.few
  have ho := ord_beh (k := F) ok.lt hr (by omega)
  unfold graph_Order graph_Order_r0
  try dsimp only
  obtain ⟨h1, e1, g1, ev1⟩ := GB.box (β := Value) (N := N) f gr.1
  rw [e1]
  have gr1 := gr.no ev1 hm
  unfold graph_Order_r1
  try dsimp only
  obtain ⟨n2, h2, e2, ev2⟩ := gmay_spec (F := F) (by omega) gr1 (by omega) ok ev1.f
  have l2 := ev2.le
  have g2 := g1.ev ev2 (by omega) (fun h => h)
  have gr2 := gr1.no ev2 (by omega)
  rw [g1.all, run_bnd e2, st_not]
  simp only [onB_ite, run_ite]
  rw [if_neg (by decide), st_lss]
  simp only [onB_ite, run_ite, decide_eq_true_eq]
  rw [if_neg (by omega), g2.nn, st_geq]
  simp only [onB_ite, run_ite, decide_eq_true_eq]
  rw [if_neg (by omega)]
  unfold graph_Order_r3
  try dsimp only
  rw [g2.all]
  obtain ⟨e3, x3, f3⟩ := new_set ev2.f (k := fun v22 => bnd (graph_behind F F (gv N tv) (i64 root) v22 (.slice none 0 0)) fun v23 => graph_Order_r4 F v23 fun x5 => graph_Order_r5 F x5 fun x4 => ret x4)
  rw [show (Value.slice none 0 0) = nsl from rfl] at e3 ⊢
  rw [e3]
  have ev3 : Ev No n2 h2 (n2 + 1) (h2.set n2 ⟨[nsl], .own⟩) := Ev.new ev2.f _
  have gr3 := gr2.no ev3 (by omega)
  have hc : cnt N (fun _ => false) ≤ N := by
    unfold cnt
    have := List.length_filter_le (fun m : Nat => !(fun _ => false) m) (List.range N)
    rwa [List.length_range] at this
  obtain ⟨n4, h4, v4, O4, e4, x4, o4, ev4⟩ := behind_spec (F := F) (by omega) ok gr.1 F root (n2 + 1) _ n2 nsl (fun c => c = n2) (fun _ => false, []) hr (by show cnt N (fun _ => false) < F; omega) (by show 0 + cnt N (fun _ => false) ≤ 1000; omega) gr3 ⟨fun c => c = n2, 0, x3, .inl ⟨rfl, rfl⟩, fun c hc => hc, fun h => absurd rfl h⟩ (by omega) (fun c hc => by omega) f3
  rw [run_bnd e4]
  unfold graph_Order_r4
  try dsimp only
  obtain ⟨Os, b, _, g4, hOs, hb⟩ := x4
  have l4 := ev4.le
  have hne : (beh adj F root (fun _ => false, [])).2 ≠ [] := by
    obtain ⟨o', q⟩ := ho.first
    intro e
    rw [e] at q; cases q
  have hb1 := (o4 b (hb hne).1)
  have hlen : (beh adj F root (fun _ => false, [])).2.length ≤ N := by
    have := nodup_len ho.nodup ho.lt
    rwa [List.length_reverse] at this
  obtain ⟨h5, w5, e5, g5, ev5⟩ := rev_spec (F := F) hF (by omega) hne g4 ev4.f
  rw [run_bnd e5]
  unfold graph_Order_r5
  refine ⟨n4, h5, v4, b, rfl, g5, ?_, ev5.f, by omega, fun c hc _ => ?_⟩
  · rcases hb1.1 with h1 | h1 <;> omega
  · rw [ev5.keep c (by omega) (by rcases hb1.1 with h1 | h1 <;> omega), ev4.keep c (by omega) (by omega), ev3.no (by omega), ev2.no (by omega), ev1.no hc]

theorem order_out {F n m N : Nat} {z : Int} {tv : Value} {adj : Nat → List Nat} {h : H} (hF : 1000000 ≤ F) (gr : Gr h m tv N adj) (hm : m ≤ n) (ok : GOk N adj) (hr : z < 0 ∨ (N : Int) ≤ z) (f : Fr n h) :
    ∃ n' h', (graph_Order F (gv N tv) (i64 z)).run n h = some (nsl, n', h') ∧ Ev No n h n' h' := by
  have hN := ok.few
  unfold graph_Order graph_Order_r0
  try dsimp only
  obtain ⟨h1, e1, g1, ev1⟩ := GB.box (β := Value) (N := N) f gr.1
  rw [e1]
  have gr1 := gr.no ev1 hm
  unfold graph_Order_r1
  try dsimp only
  obtain ⟨n2, h2, e2, ev2⟩ := gmay_spec (F := F) (by omega) gr1 (by omega) ok ev1.f
  have l2 := ev2.le
  have g2 := g1.ev ev2 (by omega) (fun h => h)
  rw [g1.all, run_bnd e2, st_not]
  simp only [onB_ite, run_ite]
  rw [if_neg (by decide), st_lss]
  simp only [onB_ite, run_ite, decide_eq_true_eq]
  by_cases h0 : z < 0
  · rw [if_pos h0, if_pos trivial]
    exact ⟨n2, h2, rfl, ev1.trans ev2 fun _ _ h => h⟩
  · rw [if_neg h0, g2.nn, st_geq]
    simp only [onB_ite, run_ite, decide_eq_true_eq]
    rw [if_pos (by omega)]
    exact ⟨n2, h2, rfl, ev1.trans ev2 fun _ _ h => h⟩


section
variable {adj : Nat → List Nat} {N root : Nat} {o : List Nat} {place : Nat → Nat}

/-- What the meeting of the first i of those that lead to one comes to. -/
def Acc (adj : Nat → List Nat) (root : Nat) (up : Nat → Int) (row : List Nat) (acc : Int) : Prop :=
  (acc = -1 ∧ ∀ b, b ∈ row → up b = -1) ∨ ∃ m : Nat, acc = (m : Int) ∧ up m ≠ -1 ∧ (∀ b, b ∈ row → up b ≠ -1 → Anc up b m) ∧ ∀ d, (∀ b, b ∈ row → up b ≠ -1 → Dom adj root d b) → Dom adj root d m

theorem Acc.best {up : Nat → Int} (P : Pl adj N root o place) (I : Inv adj root o place up) (ok : GOk N adj) {a : Nat} (ha : a ∈ o) (hr : a ≠ root) (hset : ∀ y, y ∈ o → place y < place a → up y ≠ -1) {acc : Int} (h : Acc adj root up (turnA N adj a) acc) : ∃ m : Nat, acc = (m : Int) ∧ Best adj root up a m := by
  obtain ⟨y, y1, y2, y3⟩ := P.par ha hr
  rcases h with ⟨_, h2⟩ | ⟨m, h1, h2, h3, h4⟩
  · exact absurd (h2 y (turnA_mem.2 ⟨P.ord.lt y y1, y3⟩)) (hset y y1 y2)
  · exact ⟨m, h1, fun b hb e hs => h3 b (turnA_mem.2 ⟨P.ord.lt b (I.mem hs), e⟩) hs, fun d hd => h4 d fun b hb hs => hd b ((P.ord.mem b).1 (I.mem hs)) (turnA_mem.1 hb).2 hs⟩

/-- The state on the way through a pass. -/
structure Pass (adj : Nat → List Nat) (N root : Nat) (o : List Nat) (place : Nat → Nat) (k : Nat) (up0 up : Nat → Int) (t : Nat) (ch : Bool) : Prop where
  inv : Inv adj root o place up
  ck : CK adj place root up k
  cp : ∀ c d, c ∈ o → place c < t → Anc up c d → ¬ RW adj place root d (k + 1) c
  set : ∀ y, y ∈ o → place y < t → up y ≠ -1
  all : k = 0 ∨ ∀ y, y ∈ o → up y ≠ -1
  same : ch = false → up = up0 ∧ ∀ a, a ∈ o → a ≠ root → place a < t → ∃ m : Nat, up a = (m : Int) ∧ Best adj root up a m
  late : N + 1 ≤ k → ch = false

theorem Pass.next {k : Nat} {up0 up : Nat → Int} {ch : Bool} {a m : Nat} (P : Pl adj N root o place) (p : Pass adj N root o place k up0 up (place a) ch) (ha : a ∈ o) (hr : a ≠ root) (B : Best adj root up a m) :
    Pass adj N root o place k up0 (updI up a m) (place a + 1) (ch || up a != (m : Int)) := by
  obtain ⟨i1, i2, i3⟩ := p.inv.next P ha hr p.set B
  obtain ⟨c1, c2⟩ := p.ck.next P p.inv ha hr p.set p.all B p.cp
  have hset : ∀ y, up y ≠ -1 → updI up a m y ≠ -1 := fun y hy => by
    show (if y = a then (m : Int) else up y) ≠ -1
    split
    · omega
    · exact hy
  have hsame : up a = (m : Int) → updI up a m = up := fun e => by
    funext y
    show (if y = a then (m : Int) else up y) = up y
    split
    · rename_i e2; rw [e2, e]
    · rfl
  refine ⟨i1, c1, c2, fun y hy hp => ?_, p.all.imp id fun q y hy => hset y (q y hy), fun hch => ?_, fun hk => ?_⟩
  · by_cases e : y = a
    · show (if y = a then (m : Int) else up y) ≠ -1
      rw [if_pos e]; omega
    · refine hset y (p.set y hy ?_)
      rcases Nat.lt_or_ge (place y) (place a) with h1 | h1
      · exact h1
      · exact absurd (P.inj hy ha (by omega)) e
  · rw [Bool.or_eq_false_iff] at hch
    have e : up a = (m : Int) := by simpa using hch.2
    obtain ⟨e1, e2⟩ := p.same hch.1
    rw [hsame e]
    refine ⟨e1, fun c hc hcr hcp => ?_⟩
    by_cases e3 : c = a
    · subst e3; exact ⟨m, e, B⟩
    · refine e2 c hc hcr ?_
      rcases Nat.lt_or_ge (place c) (place a) with h1 | h1
      · exact h1
      · exact absurd (P.inj hc ha (by omega)) e3
  · have hall : ∀ y, y ∈ o → up y ≠ -1 := p.all.resolve_left (by omega)
    have e := CK.stable P p.inv hk hall ha hr B p.ck
    rw [p.late hk, e]; simp

end


section
variable {adj : Nat → List Nat} {N root : Nat} {o : List Nat}

end

theorem inv_start {adj : Nat → List Nat} {root : Nat} {o : List Nat} {place : Nat → Nat} (hr : root ∈ o) : Inv adj root o place (updI (fun _ => -1) root (root : Int)) := by
  have hval : ∀ a, updI (fun _ => -1) root (root : Int) a = if a = root then (root : Int) else -1 := fun a => rfl
  refine ⟨by rw [hval, if_pos rfl], fun a => ?_, fun a b ha hb => ?_, fun a b ha hb => ?_⟩
  · rw [hval]
    by_cases e : a = root
    · rw [if_pos e]; exact .inr ⟨e ▸ hr, root, rfl⟩
    · rw [if_neg e]; exact .inl rfl
  · rw [hval, if_neg ha] at hb; omega
  · rw [hval, if_neg ha] at hb; omega


abbrev GqI (h : H) (v : Value) (b : Nat) (l : List Nat) : Prop := Gq h v b ((nats l).map i64)

theorem allN {l : List Nat} : ((nats l).map i64).all one = true := allI

theorem Gq.pushN {n b a : Nat} {h : H} {v : Value} {y : Int} {l : List Nat} (g : GqI h v b l) (f : Fr n h) (hl : l.length < 100000000) :
    ∃ h' v', (∀ k : Value → M Value, (bnd (opBuildSlice 1 (rep 1 [i64 y]) [(0, 1, false, i64 (a : Int))]) fun t => bnd (opAppend 1 8 v t) k).run n h = (k v').run (n + 2) h') ∧ GqI h' v' (n + 1) (l ++ [a]) ∧ Fr (n + 2) h' ∧ ∀ c, c < n → (v ≠ nsl → c ≠ b) → h'.get c = h.get c := by
  obtain ⟨h', v', e, g', f', k⟩ := Gq.push (y := i64 y) (x := i64 (a : Int)) g f rfl allN (by simpa [nats] using hl)
  exact ⟨h', v', e, by unfold GqI nats; rw [List.map_append, List.map_append]; exact g', f', k⟩

/-- The state on the way: the table of who is seen, the list of who waits; lo: where the call's own blocks begin. -/
structure Rs (h : H) (lo bs N : Nat) (v : Value) (seen : Nat → Bool) (l : List Nat) : Prop where
  tab : TB h bs N seen
  low : lo ≤ bs
  que : ∃ b, GqI h v b l ∧ (v ≠ nsl → lo ≤ b ∧ b ≠ bs)

theorem Rs.len {β : Type} {h : H} {lo bs N : Nat} {v : Value} {seen : Nat → Bool} {l : List Nat} (x : Rs h lo bs N v seen l) {k : Value → M β} : bnd (opLen v) k = k (i64 l.length) := by
  obtain ⟨b, g, _⟩ := x.que
  have : RdI h v (nats l) := g.rd
  rw [this.lenI, show (nats l).length = l.length by unfold nats; rw [List.length_map]]

theorem Rs.mark {h : H} {n lo bs N a : Nat} {v : Value} {seen : Nat → Bool} {l : List Nat} (x : Rs h lo bs N v seen l) (f : Fr n h) (ha : a < N) (hlo : lo ≤ n) (hl : l.length < 100000) :
    ∃ h1 h2 v', (∀ k : Value → M Value, (bnd (opIndexAddr 1 (sl bs 0 N N) (i64 a)) fun p => bnd (opStore p (bo true)) k).run n h = (k undef).run n h1) ∧
      (∀ k : Value → M Value, (bnd (opBuildSlice 1 (rep 1 [i64 0]) [(0, 1, false, i64 (a : Int))]) fun t => bnd (opAppend 1 8 v t) k).run n h1 = (k v').run (n + 2) h2) ∧ Rs h2 lo bs N v' (upd seen a true) (l ++ [a]) ∧ Ev (fun c => lo ≤ c) n h (n + 2) h2 := by
  obtain ⟨b, g, hb⟩ := x.que
  obtain ⟨h1, e1, t1, ev1⟩ := TB.set (β := Value) x.tab f ha (z := true)
  have hbs := TV.lt x.tab f
  have g1 : GqI h1 v b l := by
    rcases g with g | g
    · exact .inl g
    · have hv : v ≠ nsl := by obtain ⟨o, xs, kd, c, rfl, _⟩ := g; intro e; cases e
      exact Gq.keep (.inr g) fun hs => ev1.keep b (by
        rcases Nat.lt_or_ge b n with h3 | h3
        · exact h3
        · rw [f b h3] at hs; cases hs) (hb hv).2
  obtain ⟨h2, v', e2, g2, f2, k2⟩ := g1.pushN (a := a) (y := 0) ev1.f (by omega)
  have low := x.low
  refine ⟨h1, h2, v', e1, e2, ⟨t1.keep (k2 bs hbs fun hv => (hb hv).2.symm), x.low, n + 1, g2, fun _ => ⟨by omega, by omega⟩⟩, f2, by omega, fun c hc hlo' => ?_⟩
  rw [k2 c hc fun hv => by have := (hb hv).1; omega, ev1.keep c hc (by omega)]

/-- The rest of the fields: the graph is read, the marks hold. -/
theorem reach_l2 {F N m lo bs a : Nat} {tv : Value} {w : Int} {adj : Nat → List Nat} {st : Nat → Prop} (ok : GOk N adj) (ha : a < N) (hlo : m ≤ lo) {E : Value → Value → Value → Value → M Value} : ∀ j i k n (h : H) v (seen : Nat → Bool) (l : List Nat), i + j = (adj a).length → j < k → Gr h m tv N adj → Rs h lo bs N v seen l → Bf adj N st w seen l (fun x => x = a) → RchS adj st w a → l.length + cnt N seen ≤ 2000 → (∀ q, q ∈ (adj a).take i → (q : Int) ≠ w → seen q = true) → lo ≤ n → Fr n h →
    ∃ n' h' v' seen' l', (R1_Reach_l2 F E k tv (i64 w) (sl bs 0 N N) v (i64 a) (i64 i)).run n h = (E tv (i64 w) (sl bs 0 N N) v').run n' h' ∧ Rs h' lo bs N v' seen' l' ∧ Bf adj N st w seen' l' (fun _ => False) ∧ l'.length + cnt N seen' ≤ l.length + cnt N seen ∧ (∀ q, seen q = true → seen' q = true) ∧ Ev (fun c => lo ≤ c) n h n' h' := by
  have hN := ok.few
  have hs := ok.short a ha
  intro j
  induction j with
  | zero =>
    intro i k n h v seen l hij hk gr x B hra hsz hdone hn f
    obtain ⟨k, rfl⟩ : ∃ j, k = j + 1 := ⟨k - 1, by omega⟩
    obtain ⟨rv, e1, h0, f0, k0, hr⟩ := gr.row (β := Value) (n := n) ha
    have hr' : RdI h rv (nats (adj a)) := hr.kept f0 k0
    rw [R1_Reach_l2_s]
    unfold R1_Reach_b2 R1_Reach_r14
    try dsimp only
    rw [e1, hr'.lenI, show (nats (adj a)).length = (adj a).length by unfold nats; rw [List.length_map], st_lss]
    simp only [onB_ite, run_ite, decide_eq_true_eq]
    rw [if_neg (by omega)]
    rw [List.take_of_length_le (by omega)] at hdone
    refine ⟨n, h, v, seen, l, rfl, x, ⟨B.snd, B.q, fun m hm => ?_⟩, Nat.le_refl _, fun _ h => h, Ev.refl f⟩
    rcases B.cl m hm with h1 | h1 | h1
    · exact .inl h1
    · subst h1; exact .inr (.inr hdone)
    · exact .inr (.inr h1)
  | succ j ih =>
    intro i k n h v seen l hij hk gr x B hra hsz hdone hn f
    obtain ⟨k, rfl⟩ : ∃ j, k = j + 1 := ⟨k - 1, by omega⟩
    have hi : i < (adj a).length := by omega
    obtain ⟨rv, e1, h0, f0, k0, hr⟩ := gr.row (β := Value) (n := n) ha
    have hr' : RdI h rv (nats (adj a)) := hr.kept f0 k0
    rw [R1_Reach_l2_s]
    unfold R1_Reach_b2 R1_Reach_r14
    try dsimp only
    rw [e1, hr'.lenI, show (nats (adj a)).length = (adj a).length by unfold nats; rw [List.length_map], st_lss]
    simp only [onB_ite, run_ite, decide_eq_true_eq]
    rw [if_pos (by omega)]
    unfold R1_Reach_r16
    try dsimp only
    have hil : i < (nats (adj a)).length := by unfold nats; rw [List.length_map]; exact hi
    rw [e1, hr'.getI hil]
    have e : (nats (adj a))[i]'hil = (((adj a)[i] : Nat) : Int) := by simp [nats]
    rw [e]
    have hmem : (adj a)[i] ∈ adj a := List.getElem_mem hi
    have hbN := ok.lt a ha (adj a)[i] hmem
    have etake : (adj a).take (i + 1) = (adj a).take i ++ [(adj a)[i]] := List.take_succ_eq_append_getElem hi
    unfold R1_Reach_r17
    try dsimp only
    rw [x.tab.get hbN, st_not]
    simp only [onB_ite, run_ite]
    have skip : (seen (adj a)[i] = true ∨ (((adj a)[i] : Nat) : Int) = w) → ∃ n' h' v' seen' l', (R1_Reach_k3 F (R1_Reach_l2 F E k) tv (i64 w) (sl bs 0 N N) v (i64 a) (i64 i)).run n h = (E tv (i64 w) (sl bs 0 N N) v').run n' h' ∧ Rs h' lo bs N v' seen' l' ∧ Bf adj N st w seen' l' (fun _ => False) ∧ l'.length + cnt N seen' ≤ l.length + cnt N seen ∧ (∀ q, seen q = true → seen' q = true) ∧ Ev (fun c => lo ≤ c) n h n' h' := fun hc => by
      unfold R1_Reach_k3 R1_Reach_r15
      try dsimp only
      rw [sx_add (by omega)]
      refine ih (i + 1) k n h v seen l (by omega) (by omega) gr x B hra hsz (fun q hq hw => ?_) hn f
      rw [etake, List.mem_append, List.mem_singleton] at hq
      rcases hq with hq | rfl
      · exact hdone q hq hw
      · exact hc.resolve_right hw
    by_cases hseen : seen (adj a)[i] = true
    · rw [hseen, Bool.not_true, if_neg (by decide), if_neg (by decide)]
      exact skip (.inl hseen)
    · have hseen' : seen (adj a)[i] = false := by simpa using hseen
      rw [hseen', Bool.not_false, if_pos rfl, st_neq]
      simp only [onB_ite, run_ite]
      by_cases hw : (((adj a)[i] : Nat) : Int) = w
      · rw [if_neg (by rw [bne_iff_ne]; omega)]
        exact skip (.inr hw)
      · rw [if_pos (by rw [bne_iff_ne]; exact hw)]
        unfold R1_Reach_r18
        try dsimp only
        have hcnt := Bf.cnt hbN hseen'
        obtain ⟨h1, h2, v2, q1, q2, x2, ev2⟩ := x.mark f hbN hn (by omega)
        rw [q1]
        unfold R1_Reach_r19
        try dsimp only
        rw [show (Value.int .i64 0) = i64 0 from rfl, q2]
        unfold R1_Reach_k3 R1_Reach_r15
        try dsimp only
        rw [sx_add (by omega)]
        have B2 := B.mark (.step hra hmem hw) hbN
        have hmono : ∀ q, seen q = true → upd seen (adj a)[i] true q = true := fun q hq => by
          unfold upd; split
          · rfl
          · exact hq
        obtain ⟨n', h', v', seen', l', r1, r2, r3, r4, r5, r6⟩ := ih (i + 1) k (n + 2) h2 v2 (upd seen (adj a)[i] true) (l ++ [(adj a)[i]]) (by omega) (by omega) (gr.ev ev2 (by omega) fun c hc => by omega) x2 B2 hra (by rw [List.length_append, List.length_singleton]; omega) (fun q hq hw => by
          rw [etake, List.mem_append, List.mem_singleton] at hq
          rcases hq with hq | rfl
          · exact hmono q (hdone q hq hw)
          · exact upd_same) (by omega) ev2.f
        rw [List.length_append, List.length_singleton] at r4
        exact ⟨n', h', v', seen', l', r1, r2, r3, by omega, fun q hq => r5 q (hmono q hq), ev2.trans r6 fun _ _ h => h⟩

theorem reach_l1 {F N m lo bs : Nat} {tv : Value} {w : Int} {adj : Nat → List Nat} {st : Nat → Prop} (hF : 1000000 ≤ F) (ok : GOk N adj) (hlo : m ≤ lo) {E : Value → M Value} : ∀ j k n (h : H) v (seen : Nat → Bool) (l : List Nat), l.length + cnt N seen ≤ j → j < k → j ≤ 2000 → Gr h m tv N adj → Rs h lo bs N v seen l → Bf adj N st w seen l (fun _ => False) → (∀ q, st q → (q : Int) ≠ w → seen q = true) → lo ≤ n → Fr n h →
    ∃ n' h' seen', (R1_Reach_l1 F E k tv (i64 w) (sl bs 0 N N) v).run n h = (E (sl bs 0 N N)).run n' h' ∧ TB h' bs N seen' ∧ (∀ q, seen' q = true ↔ RchS adj st w q) ∧ Ev (fun c => lo ≤ c) n h n' h' := by
  have fin : ∀ k n (h : H) v (seen : Nat → Bool), Rs h lo bs N v seen [] → Bf adj N st w seen [] (fun _ => False) → (∀ q, st q → (q : Int) ≠ w → seen q = true) → Fr n h →
      ∃ n' h' seen', (R1_Reach_l1 F E (k + 1) tv (i64 w) (sl bs 0 N N) v).run n h = (E (sl bs 0 N N)).run n' h' ∧ TB h' bs N seen' ∧ (∀ q, seen' q = true ↔ RchS adj st w q) ∧ Ev (fun c => lo ≤ c) n h n' h' := by
    intro k n h v seen x B hst f
    rw [R1_Reach_l1_s]
    unfold R1_Reach_b1 R1_Reach_r10
    try dsimp only
    rw [x.len, st_gtr]
    simp only [onB_ite, run_ite, decide_eq_true_eq]
    rw [if_neg (by decide)]
    exact ⟨n, h, seen, rfl, x.tab, B.done hst, Ev.refl f⟩
  intro j
  induction j with
  | zero =>
    intro k n h v seen l hj hk hj2 gr x B hst hn f
    obtain ⟨k, rfl⟩ : ∃ j, k = j + 1 := ⟨k - 1, by omega⟩
    have : l = [] := List.eq_nil_of_length_eq_zero (by omega)
    subst this
    exact fin k n h v seen x B hst f
  | succ j ih =>
    intro k n h v seen l hj hk hj2 gr x B hst hn f
    obtain ⟨k, rfl⟩ : ∃ j, k = j + 1 := ⟨k - 1, by omega⟩
    match l with
    | [] => exact fin k n h v seen x B hst f
    | a :: l =>
      have hsa := B.q a List.mem_cons_self
      obtain ⟨hra, haN⟩ := B.snd a hsa
      rw [R1_Reach_l1_s]
      unfold R1_Reach_b1 R1_Reach_r10
      try dsimp only
      rw [x.len, st_gtr]
      simp only [onB_ite, run_ite, decide_eq_true_eq]
      rw [if_pos (by rw [List.length_cons]; omega)]
      obtain ⟨b, g, hb⟩ := x.que
      have rd : RdI h v (nats (a :: l)) := g.rd
      unfold R1_Reach_r11
      try dsimp only
      rw [show (Value.int .i64 0) = i64 ((0 : Nat) : Int) from rfl, rd.getI (i := 0) (by simp [nats])]
      have e0 : (nats (a :: l))[0]'(by simp [nats]) = (a : Int) := rfl
      rw [e0]
      unfold R1_Reach_r12
      try dsimp only
      have g' : Gq h v b (i64 (a : Int) :: (nats l).map i64) := g
      obtain ⟨v', e1, g1⟩ := g'.tail (β := Value)
      rw [e1]
      have x1 : Rs h lo bs N v' seen l := ⟨x.tab, x.low, b, g1, fun hv' => hb (by
        rintro rfl
        rcases g' with ⟨q, _⟩ | ⟨_, _, _, _, q, _⟩ <;> cases q)⟩
      have B1 : Bf adj N st w seen l (fun x => x = a) := ⟨B.snd, fun m hm => B.q m (List.mem_cons_of_mem _ hm), fun m hm => by
        rcases B.cl m hm with h | h | h
        · rcases List.mem_cons.1 h with h | h
          · exact .inr (.inl h)
          · exact .inl h
        · exact h.elim
        · exact .inr (.inr h)⟩
      unfold R1_Reach_r13
      try dsimp only
      rw [List.length_cons] at hj
      have hs := ok.short a haN
      obtain ⟨n2, h2, v2, seen2, l2, q1, q2, q3, q4, q5, q6⟩ := reach_l2 (F := F) (bs := bs) (lo := lo) (w := w) (st := st) ok haN hlo (E := fun x0 x2 x7 x8 => R1_Reach_l1 F E k x0 x2 x7 x8) (adj a).length 0 F n h v' seen l (by omega) (by omega) gr x1 B1 hra (by omega) (fun q hq _ => by rw [List.take_zero] at hq; cases hq) hn f
      rw [show (Value.int .i64 0) = i64 ((0 : Nat) : Int) from rfl, q1]
      obtain ⟨n', h', seen', r1, r2, r3, r4⟩ := ih k n2 h2 v2 seen2 l2 (by omega) (by omega) (by omega) (gr.ev q6 (by omega) fun c hc => by omega) q2 q3 (fun q hq hw => q5 q (hst q hq hw)) (by have := q6.le; omega) q6.f
      exact ⟨n', h', seen', r1, r2, r3, q6.trans r4 fun _ _ h => h⟩

/-- Who is among those to begin with. -/
def stOf (N : Nat) (zs : List Int) (q : Nat) : Prop := q < N ∧ (q : Int) ∈ zs

theorem reach_l5 {F N m lo bs : Nat} {tv fv : Value} {w : Int} {adj : Nat → List Nat} {zs : List Int} {hf : H} {mf : Nat} (ff : Fr mf hf) (hfv : RdI hf fv zs) (hmf : mf ≤ lo) (hz : zs.length ≤ 1000) (hN : N ≤ 600) (hlo : m ≤ lo) {E : Value → Value → Value → Value → M Value} : ∀ j i k n (h : H) v (seen : Nat → Bool) (l : List Nat), i + j = zs.length → j < k → (∀ c, c < mf → h.get c = hf.get c) → Gr h m tv N adj → Rs h lo bs N v seen l → Bf adj N (stOf N zs) w seen l (fun _ => False) → l.length + cnt N seen ≤ 2000 → (∀ q, q < N → (q : Int) ∈ zs.take i → (q : Int) ≠ w → seen q = true) → lo ≤ n → Fr n h →
    ∃ n' h' v' seen' l', (R1_Reach_l5 F E k tv fv (i64 w) (sl bs 0 N N) v (i64 i)).run n h = (E tv (i64 w) (sl bs 0 N N) v').run n' h' ∧ Rs h' lo bs N v' seen' l' ∧ Bf adj N (stOf N zs) w seen' l' (fun _ => False) ∧ l'.length + cnt N seen' ≤ l.length + cnt N seen ∧ (∀ q, stOf N zs q → (q : Int) ≠ w → seen' q = true) ∧ Ev (fun c => lo ≤ c) n h n' h' := by
  intro j
  induction j with
  | zero =>
    intro i k n h v seen l hij hk hkf gr x B hsz hdone hn f
    obtain ⟨k, rfl⟩ : ∃ j, k = j + 1 := ⟨k - 1, by omega⟩
    rw [R1_Reach_l5_s]
    unfold R1_Reach_b5 R1_Reach_r4
    try dsimp only
    rw [(hfv.kept ff hkf : RdI h fv zs).lenI, st_lss]
    simp only [onB_ite, run_ite, decide_eq_true_eq]
    rw [if_neg (by omega)]
    rw [List.take_of_length_le (by omega)] at hdone
    exact ⟨n, h, v, seen, l, rfl, x, B, Nat.le_refl _, fun q hq hw => hdone q hq.1 hq.2 hw, Ev.refl f⟩
  | succ j ih =>
    intro i k n h v seen l hij hk hkf gr x B hsz hdone hn f
    obtain ⟨k, rfl⟩ : ∃ j, k = j + 1 := ⟨k - 1, by omega⟩
    have hi : i < zs.length := by omega
    have rf : RdI h fv zs := hfv.kept ff hkf
    rw [R1_Reach_l5_s]
    unfold R1_Reach_b5 R1_Reach_r4
    try dsimp only
    rw [rf.lenI, st_lss]
    simp only [onB_ite, run_ite, decide_eq_true_eq]
    rw [if_pos (by omega)]
    unfold R1_Reach_r6
    try dsimp only
    rw [rf.getI hi]
    have etake : zs.take (i + 1) = zs.take i ++ [zs[i]] := List.take_succ_eq_append_getElem hi
    have skip : (∀ q, q < N → (q : Int) = zs[i] → (q : Int) ≠ w → seen q = true) → ∃ n' h' v' seen' l', (R1_Reach_k6 F (R1_Reach_l5 F E k) tv fv (i64 w) (sl bs 0 N N) v (i64 i)).run n h = (E tv (i64 w) (sl bs 0 N N) v').run n' h' ∧ Rs h' lo bs N v' seen' l' ∧ Bf adj N (stOf N zs) w seen' l' (fun _ => False) ∧ l'.length + cnt N seen' ≤ l.length + cnt N seen ∧ (∀ q, stOf N zs q → (q : Int) ≠ w → seen' q = true) ∧ Ev (fun c => lo ≤ c) n h n' h' := fun hc => by
      unfold R1_Reach_k6 R1_Reach_r5
      try dsimp only
      rw [sx_add (by omega)]
      refine ih (i + 1) k n h v seen l (by omega) (by omega) hkf gr x B hsz (fun q hqN hq hw => ?_) hn f
      rw [etake, List.mem_append, List.mem_singleton] at hq
      rcases hq with hq | hq
      · exact hdone q hqN hq hw
      · exact hc q hqN hq hw
    unfold R1_Reach_r7
    try dsimp only
    rw [st_geq]
    simp only [onB_ite, run_ite, decide_eq_true_eq]
    by_cases h1 : 0 ≤ zs[i]
    · rw [if_pos h1, gr.len, st_lss]
      simp only [onB_ite, run_ite, decide_eq_true_eq]
      by_cases h2 : zs[i] < (N : Int)
      · rw [if_pos h2]
        obtain ⟨a, ha⟩ : ∃ a : Nat, zs[i] = (a : Int) := ⟨zs[i].toNat, by omega⟩
        rw [ha] at h2 ⊢
        have haN : a < N := by omega
        rw [x.tab.get haN, st_not]
        simp only [onB_ite, run_ite]
        by_cases hseen : seen a = true
        · rw [hseen, Bool.not_true, if_neg (by decide), if_neg (by decide)]
          exact skip fun q hq e hw => by
            have : q = a := by omega
            subst this; exact hseen
        · have hseen' : seen a = false := by simpa using hseen
          rw [hseen', Bool.not_false, if_pos rfl, st_neq]
          simp only [onB_ite, run_ite]
          by_cases hw : (a : Int) = w
          · rw [if_neg (by rw [bne_iff_ne]; omega)]
            exact skip fun q hq e hw' => by omega
          · rw [if_pos (by rw [bne_iff_ne]; exact hw)]
            unfold R1_Reach_r8
            try dsimp only
            have hcnt := Bf.cnt haN hseen'
            obtain ⟨h3, h4, v2, q1, q2, x2, ev2⟩ := x.mark f haN hn (by omega)
            rw [q1]
            unfold R1_Reach_r9
            try dsimp only
            rw [show (Value.int .i64 0) = i64 0 from rfl, q2]
            unfold R1_Reach_k6 R1_Reach_r5
            try dsimp only
            rw [sx_add (by omega)]
            have hzm : (a : Int) ∈ zs := by rw [← ha]; exact List.getElem_mem hi
            have B2 := B.mark (b := a) (.start ⟨haN, hzm⟩ hw) haN
            obtain ⟨n', h', v', seen', l', r1, r2, r3, r4, r5, r6⟩ := ih (i + 1) k (n + 2) h4 v2 (upd seen a true) (l ++ [a]) (by omega) (by omega) (fun c hc => by rw [ev2.keep c (by omega) (by omega)]; exact hkf c hc) (gr.ev ev2 (by omega) fun c hc => by omega) x2 B2 (by rw [List.length_append, List.length_singleton]; omega) (fun q hqN hq hw => by
              unfold upd
              split
              · rfl
              · rename_i hne
                rw [etake, List.mem_append, List.mem_singleton] at hq
                rcases hq with hq | hq
                · exact hdone q hqN hq hw
                · exact absurd (by omega) hne) (by omega) ev2.f
            rw [List.length_append, List.length_singleton] at r4
            exact ⟨n', h', v', seen', l', r1, r2, r3, by omega, r5, ev2.trans r6 fun _ _ h => h⟩
      · rw [if_neg h2, if_neg (by decide)]
        exact skip fun q hq e hw => by omega
    · rw [if_neg h1, if_neg (by decide)]
      exact skip fun q hq e hw => by omega

theorem reach_spec {F n m N : Nat} {tv fv : Value} {w : Int} {adj : Nat → List Nat} {zs : List Int} {h : H} (hF : 1000000 ≤ F) (gr : Gr h m tv N adj) (hm : m ≤ n) (ok : GOk N adj) (hfv : RdI h fv zs) (hz : zs.length ≤ 1000) (f : Fr n h) :
    ∃ n' h' seen, (R1_Reach F tv fv (i64 w)).run n h = some (sl n 0 N N, n', h') ∧ TB h' n N seen ∧ (∀ q, seen q = true ↔ RchS adj (stOf N zs) w q) ∧ Ev No n h n' h' := by
  have hN := ok.few
  unfold R1_Reach R1_Reach_r0 R1_Reach_r1
  try dsimp only
  obtain ⟨h1, e1, t1, ev1⟩ := TB.make (β := Value) (bytes := 1) (N := N) (z := false) f (by omega) (by decide)
  rw [gr.len, show (Value.bool false) = bo false from rfl, e1]
  unfold R1_Reach_r2 R1_Reach_r3
  try dsimp only
  have hc : cnt N (fun _ => false) ≤ N := by
    unfold cnt
    have := List.length_filter_le (fun m : Nat => !(fun _ => false) m) (List.range N)
    rwa [List.length_range] at this
  obtain ⟨n2, h2, v2, seen2, l2, q1, q2, q3, q4, q5, q6⟩ := reach_l5 (F := F) (m := m) (lo := n) (bs := n) (tv := tv) (w := w) (adj := adj) f hfv (Nat.le_refl _) hz hN hm (E := fun x0 x2 x7 x8 => R1_Reach_k4 F x0 x2 x7 x8) zs.length 0 F (n + 1) h1 nsl (fun _ => false) [] (by omega) (by omega) (fun c hc => ev1.no hc) (gr.no ev1 hm) ⟨t1, Nat.le_refl _, 0, .inl ⟨rfl, rfl⟩, fun h => absurd rfl h⟩ ⟨(fun m h => by cases h), (fun m h => by cases h), (fun m h => by cases h)⟩ (by simp; omega) (fun q _ hq => by rw [List.take_zero] at hq; cases hq) (by omega) ev1.f
  rw [show (Value.slice none 0 0) = nsl from rfl, show (Value.int .i64 0) = i64 ((0 : Nat) : Int) from rfl, q1]
  unfold R1_Reach_k4
  have le2 := q6.le
  obtain ⟨n', h', seen', r1, r2, r3, r4⟩ := reach_l1 (F := F) (st := stOf N zs) hF ok hm (E := fun x7 => R1_Reach_k0 F x7) (l2.length + cnt N seen2) F n2 h2 v2 seen2 l2 (Nat.le_refl _) (by simp at q4; omega) (by simp at q4; omega) ((gr.no ev1 hm).ev q6 (by omega) fun c hc => by omega) q2 q3 q5 (by omega) q6.f
  rw [r1]
  refine ⟨n', h', seen', rfl, r2, r3, r4.f, by have := r4.le; omega, fun c hc _ => ?_⟩
  rw [r4.keep c (by omega) (by omega), q6.keep c (by omega) (by omega), ev1.no hc]


/-- Does one stand above another? -/
noncomputable def domB (adj : Nat → List Nat) (root a b : Nat) : Bool := @decide (Dom adj root a b) (Classical.propDecidable _)
theorem domB_iff {adj : Nat → List Nat} {root a b : Nat} : domB adj root a b = true ↔ Dom adj root a b := by
  unfold domB
  rw [@decide_eq_true_eq _ (Classical.propDecidable _)]
theorem domB_false {adj : Nat → List Nat} {root a b : Nat} (h : ¬ Dom adj root a b) : domB adj root a b = false := by
  cases hq : domB adj root a b with
  | false => rfl
  | true => exact absurd (domB_iff.1 hq) h

section
variable {adj : Nat → List Nat} {N root : Nat} {o : List Nat} {place : Nat → Nat} {up : Nat → Int}

/-- A number is a node that is known. -/
def inU (N : Nat) (up : Nat → Int) (z : Int) : Bool := decide (0 ≤ z) && (decide (z < (N : Int)) && decide (0 ≤ up z.toNat))

theorem inU_nat (P : Pl adj N root o place) (D : DomT adj root o place up) (hz : ∀ a, N ≤ a → up a = -1 ∨ True) (a : Nat) : inU N up (a : Int) = decide (a ∈ o) := by
  unfold inU
  rw [Int.toNat_natCast, decide_eq_true (show (0 : Int) ≤ (a : Int) by omega), Bool.true_and]
  by_cases h : a ∈ o
  · have h1 := D.all a h
    obtain ⟨b, hb⟩ := D.inv.nat h1
    have h2 := P.ord.lt a h
    rw [decide_eq_true h, decide_eq_true (by omega), decide_eq_true (by omega)]; rfl
  · rw [decide_eq_false h]
    rw [Bool.and_eq_false_iff]
    by_cases h2 : (a : Int) < N
    · right
      rcases D.inv.dom a with h3 | h3
      · rw [h3]; rfl
      · exact absurd h3.1 h
    · left; exact decide_eq_false h2

/-! ## Depth -/

/-- So many steps up to the root. -/
inductive Stp (up : Nat → Int) (root : Nat) : Nat → Nat → Prop
  | zero : Stp up root root 0
  | succ {a b k : Nat} : a ≠ root → up a = (b : Int) → Stp up root b k → Stp up root a (k + 1)

theorem Stp.uniq {a k l : Nat} (h1 : Stp up root a k) (h2 : Stp up root a l) : k = l := by
  induction h1 generalizing l with
  | zero =>
    cases h2 with
    | zero => rfl
    | succ h _ _ => exact absurd rfl h
  | succ h1 e1 _ ih =>
    cases h2 with
    | zero => exact absurd rfl h1
    | succ _ e2 h3 =>
      rw [e1] at e2
      have := Int.ofNat.inj e2
      subst this
      rw [ih h3]

theorem stp_of (P : Pl adj N root o place) (D : DomT adj root o place up) : ∀ n a, place a ≤ n → a ∈ o → ∃ k, k ≤ place a ∧ Stp up root a k := by
  intro n
  induction n with
  | zero =>
    intro a hn ha
    have : a = root := P.inj ha P.mem_root (by rw [P.zero]; omega)
    subst this
    exact ⟨0, by omega, .zero⟩
  | succ n ih =>
    intro a hn ha
    by_cases hr : a = root
    · subst hr; exact ⟨0, by omega, .zero⟩
    · obtain ⟨x, hx⟩ := D.inv.nat (D.all a ha)
      have hd := D.inv.dec a x hr hx
      obtain ⟨k, h1, h2⟩ := ih x (by omega) (D.inv.mem hd.1)
      exact ⟨k + 1, by omega, .succ hr hx h2⟩

/-- What Depth tells. -/
def DepOf (up : Nat → Int) (root : Nat) (o : List Nat) (d : Nat → Int) (a : Nat) : Prop := (a ∉ o ∧ d a = -1) ∨ ∃ k : Nat, a ∈ o ∧ d a = (k : Int) ∧ Stp up root a k

end

/-! ## haruspexref1.Above -/

theorem rchS_rch {adj : Nat → List Nat} {N root q : Nat} (hr : root < N) : RchS adj (stOf N [(root : Int)]) (-1) q ↔ Rch adj root q := by
  constructor
  · intro r
    induction r with
    | start h _ =>
      have := h.2
      rw [List.mem_singleton] at this
      have : _ = root := Int.ofNat.inj this
      subst this; exact .refl
    | step _ h2 _ ih => exact .step ih h2
  · intro r
    induction r with
    | refl => exact .start ⟨hr, by simp⟩ (by omega)
    | step _ h2 ih => exact .step ih h2 (by omega)
theorem rchS_rchW {adj : Nat → List Nat} {N root d q : Nat} (hr : root < N) : RchS adj (stOf N [(root : Int)]) (d : Int) q ↔ RchW adj root d q := by
  constructor
  · intro r
    induction r with
    | start h h2 =>
      have := h.2
      rw [List.mem_singleton] at this
      have : _ = root := Int.ofNat.inj this
      subst this; exact .start (by omega)
    | step _ h2 h3 ih => exact .step ih h2 (by omega)
  · intro r
    induction r with
    | start h => exact .start ⟨hr, by simp⟩ (by omega)
    | step _ h2 h3 ih => exact .step ih h2 (by omega)

/-- Reach from one node alone. -/
theorem reach_one {F n m N root : Nat} {tv : Value} {w : Int} {adj : Nat → List Nat} {h : H} (hF : 1000000 ≤ F) (gr : Gr h m tv N adj) (hm : m ≤ n) (ok : GOk N adj) (f : Fr n h) :
    ∃ n' h' b seen, (∀ K : Value → M Value, (bnd (opBuildSlice 1 (rep 1 [i64 0]) [(0, 1, false, i64 (root : Int))]) fun v => bnd (R1_Reach F tv v (i64 w)) K).run n h = (K (sl b 0 N N)).run n' h') ∧ TB h' b N seen ∧ (∀ q, seen q = true ↔ RchS adj (stOf N [(root : Int)]) w q) ∧ n ≤ b ∧ Ev No n h n' h' := by
  have ev1 := Ev.new f ⟨[i64 (root : Int)], .own⟩
  have rd : RdI (h.set n ⟨[i64 (root : Int)], .own⟩) (sl n 0 1 1) [(root : Int)] := .inr ⟨n, 0, 1, .own, rfl, fun _ => ⟨_, H.get_set_same _ _ _, by decide, fun i hi => by rw [Nat.zero_add]; rfl⟩⟩
  obtain ⟨n', h', seen, e, t, q, ev⟩ := reach_spec (F := F) hF (gr.no ev1 hm) (by omega) ok rd (by simp) ev1.f (w := w)
  exact ⟨n', h', n + 1, seen, fun K => by rw [run_single f rfl, run_bnd e], t, q, by omega, ev1.trans ev fun _ _ h => h⟩


/-- A graph that is made, put into a variable. -/
structure MadeAt (n0 n : Nat) (h : H) (g N : Nat) (tv : Value) (O : Nat → Prop) (ob : Nat) (adj : Nat → List Nat) : Prop where
  var : GB h g N tv
  tv : tv = sl ob 0 N N
  rows : OL h ob N O (fun a => nats (adj a))
  low : ∀ c, O c → n0 ≤ c
  off : ¬ O g
  glow : n0 ≤ g
  glt : g < n
  ok : GOk N adj
  pos : 1 ≤ N
  few : N ≤ 25
  short : ∀ a, (adj a).length ≤ 80

theorem MadeAt.gr {n0 n : Nat} {h : H} {g N : Nat} {tv : Value} {O : Nat → Prop} {ob : Nat} {adj : Nat → List Nat} (x : MadeAt n0 n h g N tv O ob adj) (f : Fr n h) : Gr h n tv N adj := by
  rw [x.tv]; exact x.rows.gr f fun _ _ => rfl

theorem made_var {F n len : Nat} {v : Value} {z : Int} {Z : Nat → Int} {h : H} (hF : 1000000 ≤ F) (hn : 8 ≤ n) (hz : Fit z) (hZ : ∀ i, Fit (Z i)) (hp : Pairs h v len Z) (f : Fr n h) :
    ∃ n' h' g ob O, (∀ K : Value → M Value, (bnd (L5_Made F (i64 z) v) fun w => bnd (opPtr [i64 0, nsl]) fun x => bnd (opStoreN 2 x w) fun _ => K x).run n h = (K (pt g 0)).run n' h') ∧ MadeAt n n' h' g (nodesOf z) (sl ob 0 (nodesOf z) (nodesOf z)) O ob (madeL (nodesOf z) Z (min len 80)) ∧ Ev No n h n' h' := by
  obtain ⟨_, hN1, hN2⟩ := nodesOf_eq z
  obtain ⟨n1, h1, ob, O, e1, x1, o1, ev1⟩ := made_spec (F := F) (by omega) hn hz hZ hp f
  have l1 := ev1.le
  have ev2 := Ev.new ev1.f ⟨[i64 0, nsl], .own⟩
  obtain ⟨h3, e3, g3, ev3⟩ := GB.put (β := Value) (N := nodesOf z) (tv := sl ob 0 (nodesOf z) (nodesOf z)) (H.get_set_same h1 n1 ⟨[i64 0, nsl], .own⟩) rfl ev2.f rfl
  have ev13 : Ev No n1 h1 (n1 + 1) h3 := ev2.trans ev3 fun c hc q => by omega
  refine ⟨n1 + 1, h3, n1, ob, O, fun K => ?_, ⟨g3, rfl, x1.keep fun c hc => ev13.no (x1.lt ev1.f hc), o1, fun q => by have := x1.lt ev1.f q; omega, l1, by omega, ⟨by omega, fun a _ b hb => madeL_lt hN1 hb, fun a _ => ?_⟩, hN1, hN2, fun a => ?_⟩, ev1.trans ev13 fun _ _ h => h⟩
  · rw [run_bnd e1, run_ptr ev1.f (by rfl), e3]
  · have := madeL_len (N := nodesOf z) (Z := Z) (i := min len 80) (a := a); omega
  · have := madeL_len (N := nodesOf z) (Z := Z) (i := min len 80) (a := a); omega

section
variable {adj : Nat → List Nat} {N : Nat} {o : List Nat} {place : Nat → Nat} {up : Nat → Int}

end


/-- The state on the way: how far, who waits. -/
structure Qs (h : H) (lo bf N : Nat) (v : Value) (far : Nat → Nat) (Q : List Nat) : Prop where
  tab : TI h bf N fun i => (far i : Int)
  que : ∃ b, GqI h v b Q ∧ (v ≠ nsl → lo ≤ b ∧ b ≠ bf)

theorem Qs.rd {h : H} {lo bf N : Nat} {v : Value} {far : Nat → Nat} {Q : List Nat} (x : Qs h lo bf N v far Q) : RdI h v (nats Q) := by
  obtain ⟨b, g, _⟩ := x.que; exact g.rd

theorem Qs.mark {h : H} {n lo bf N a c : Nat} {v : Value} {far : Nat → Nat} {Q : List Nat} (x : Qs h lo bf N v far Q) (f : Fr n h) (ha : a < N) (hlo : lo ≤ n) (hbf : bf < lo) (hl : Q.length < 100000) :
    ∃ h1 h2 v', (∀ k : Value → M Value, (bnd (opIndexAddr 1 (sl bf 0 N N) (i64 a)) fun p => bnd (opStore p (i64 (c : Int))) k).run n h = (k undef).run n h1) ∧
      (∀ k : Value → M Value, (bnd (opBuildSlice 1 (rep 1 [i64 0]) [(0, 1, false, i64 (a : Int))]) fun t => bnd (opAppend 1 8 v t) k).run n h1 = (k v').run (n + 2) h2) ∧ Qs h2 lo bf N v' (upd far a c) (Q ++ [a]) ∧ Ev (fun c => c = bf ∨ lo ≤ c) n h (n + 2) h2 := by
  obtain ⟨b, g, hb⟩ := x.que
  obtain ⟨h1, e1, t1, ev1⟩ := TI.set (β := Value) x.tab f ha (z := (c : Int))
  have g1 : GqI h1 v b Q := by
    rcases g with g | g
    · exact .inl g
    · have hv : v ≠ nsl := by obtain ⟨o, xs, kd, c, rfl, _⟩ := g; intro e; cases e
      exact Gq.keep (.inr g) fun hs => ev1.keep b (by
        rcases Nat.lt_or_ge b n with h3 | h3
        · exact h3
        · rw [f b h3] at hs; cases hs) (hb hv).2
  obtain ⟨h2, v', e2, g2, f2, k2⟩ := g1.pushN (a := a) (y := 0) ev1.f (by omega)
  have et : upd (fun i => (far i : Int)) a (c : Int) = fun i => ((upd far a c i : Nat) : Int) := by
    funext i; unfold upd; split <;> rfl
  rw [et] at t1
  refine ⟨h1, h2, v', e1, e2, ⟨t1.keep (k2 bf (by omega) fun hv => (hb hv).2.symm), n + 1, g2, fun _ => ⟨by omega, by omega⟩⟩, f2, by omega, fun c hc hn => ?_⟩
  rw [k2 c hc fun hv => by have := (hb hv).1; omega, ev1.keep c hc (by omega)]

section
variable {adj : Nat → List Nat} {N t : Nat}

theorem nzP (far : Nat → Nat) (a : Nat) : (far a != 0) = true ↔ far a ≠ 0 := by rw [bne_iff_ne]

theorem path_l8 {F bf lo b D : Nat} {x1 x2 x3 x8 rv : Value} {Q0 : List Nat} {O : Nat → Prop} {hB : H} (hN : N ≤ 600) (hb : b < N) (hbf : bf < lo) (hO : ∀ c, O c → c ≠ bf ∧ c < lo) (hr : ∀ h' : H, (∀ c, O c → h'.get c = hB.get c) → RdI h' rv (nats (turnA N adj b))) (hs : (turnA N adj b).length ≤ 700000) {E : Value → Value → Value → Value → Value → Value → M Value} : ∀ j i k n (h : H) v (far : Nat → Nat) Q1, i + j = (turnA N adj b).length → j < k → (∀ c, O c → h.get c = hB.get c) → Qs h lo bf N v far (b :: Q0 ++ Q1) → Bw adj N t far (b :: Q0) Q1 D (fun _ => False) → (b :: Q0 ++ Q1).length + cnt N (fun i => far i != 0) ≤ 2000 → (∀ a, a ∈ (turnA N adj b).take i → far a ≠ 0) → D + (if Q1 = [] then 0 else 1) + cnt N (fun i => far i != 0) + 1 ≤ N → (∀ q, far q ≤ D + 2) → lo ≤ n → Fr n h →
    ∃ n' h' v' far' Q1', (graph_Path_l8 F E k x1 x2 x3 (sl bf 0 N N) x8 v rv (i64 (turnA N adj b).length) (i64 (i : Nat))).run n h = (E x1 x2 x3 (sl bf 0 N N) x8 v').run n' h' ∧ Qs h' lo bf N v' far' (b :: Q0 ++ Q1') ∧ Bw adj N t far' (b :: Q0) Q1' D (fun _ => False) ∧ (b :: Q0 ++ Q1').length + cnt N (fun i => far' i != 0) ≤ (b :: Q0 ++ Q1).length + cnt N (fun i => far i != 0) ∧ (∀ a, a ∈ turnA N adj b → far' a ≠ 0) ∧ (∀ a, far a ≠ 0 → far' a ≠ 0) ∧ D + (if Q1' = [] then 0 else 1) + cnt N (fun i => far' i != 0) + 1 ≤ N ∧ (∀ q, far' q ≤ D + 2) ∧ Ev (fun c => c = bf ∨ lo ≤ c) n h n' h' := by
  intro j
  induction j with
  | zero =>
    intro i k n h v far Q1 hij hk hOB x B hsz hdone hD hbd hn f
    obtain ⟨k, rfl⟩ : ∃ j, k = j + 1 := ⟨k - 1, by omega⟩
    rw [graph_Path_l8_s]
    unfold graph_Path_b8 graph_Path_r10
    try dsimp only
    rw [st_lss]
    simp only [onB_ite, run_ite, decide_eq_true_eq]
    rw [if_neg (by omega)]
    rw [List.take_of_length_le (by omega)] at hdone
    exact ⟨n, h, v, far, Q1, rfl, x, B, Nat.le_refl _, hdone, fun _ h => h, hD, hbd, Ev.refl f⟩
  | succ j ih =>
    intro i k n h v far Q1 hij hk hOB x B hsz hdone hD hbd hn f
    obtain ⟨k, rfl⟩ : ∃ j, k = j + 1 := ⟨k - 1, by omega⟩
    have hi : i < (turnA N adj b).length := by omega
    rw [graph_Path_l8_s]
    unfold graph_Path_b8 graph_Path_r10
    try dsimp only
    rw [st_lss]
    simp only [onB_ite, run_ite, decide_eq_true_eq]
    rw [if_pos (by omega)]
    unfold graph_Path_r11
    try dsimp only
    have hr1 := hr h hOB
    have hil : i < (nats (turnA N adj b)).length := by unfold nats; rw [List.length_map]; exact hi
    rw [hr1.getI hil]
    have e : (nats (turnA N adj b))[i]'hil = (((turnA N adj b)[i] : Nat) : Int) := by simp [nats]
    rw [e]
    have hmem : (turnA N adj b)[i] ∈ turnA N adj b := List.getElem_mem hi
    have etake : (turnA N adj b).take (i + 1) = (turnA N adj b).take i ++ [(turnA N adj b)[i]] := List.take_succ_eq_append_getElem hi
    generalize (turnA N adj b)[i] = a at *
    obtain ⟨haN, hae⟩ := turnA_mem.1 hmem
    unfold graph_Path_r12
    try dsimp only
    rw [TI.get x.tab haN, st_eql]
    simp only [onB_ite, run_ite, beq_iff_eq]
    by_cases h0 : far a = 0
    · rw [if_pos (by omega)]
      have hfb := B.q0 b List.mem_cons_self
      have hbl := (B.exact_ b D hfb).2
      have rq := x.rd
      have r0 : 0 < (nats (b :: Q0 ++ Q1)).length := by simp [nats]
      have e0 : (nats (b :: Q0 ++ Q1))[0]'r0 = (b : Int) := rfl
      unfold graph_Path_r13
      try dsimp only
      rw [show (Value.int .i64 0) = i64 ((0 : Nat) : Int) from rfl, rq.getI r0, e0, TI.get x.tab hb, hfb, sx_add (by omega), show ((D + 1 : Nat) : Int) + 1 = ((D + 2 : Nat) : Int) by omega]
      have hlen : (b :: Q0 ++ Q1).length < 100000 := by omega
      obtain ⟨h1, h2, v2, q1, q2, x2', ev2⟩ := x.mark (c := D + 2) f haN hn hbf hlen
      rw [q1]
      unfold graph_Path_r14
      try dsimp only
      rw [show (Value.int .i64 0) = i64 0 from rfl, q2]
      unfold graph_Path_k9 graph_Path_r15
      try dsimp only
      rw [sx_add (by omega)]
      have B2 := B.mark hfb haN hae h0
      have hcnt : cnt N (fun i => upd far a (D + 2) i != 0) + 1 = cnt N (fun i => far i != 0) := by
        have h3 := cnt_put (s := fun i => far i != 0) (a := a) (by rw [h0]; rfl) N
        rw [if_pos haN] at h3
        have e3 : (fun i => upd far a (D + 2) i != 0) = putM (fun i => far i != 0) a := by
          funext q; unfold upd putM
          by_cases e4 : q = a
          · rw [if_pos e4, decide_eq_true e4, Bool.or_true]; rfl
          · rw [if_neg e4, decide_eq_false e4, Bool.or_false]
        rw [e3]; exact h3
      have hmono : ∀ q, far q ≠ 0 → upd far a (D + 2) q ≠ 0 := fun q hq => by
        unfold upd; split
        · omega
        · exact hq
      have el : b :: Q0 ++ Q1 ++ [a] = b :: Q0 ++ (Q1 ++ [a]) := List.append_assoc _ _ _
      rw [el] at x2'
      have hl2 : (b :: Q0 ++ (Q1 ++ [a])).length = (b :: Q0 ++ Q1).length + 1 := by rw [← el, List.length_append, List.length_singleton]
      obtain ⟨n', h', v', far', Q1', r1, r2, r3, r4, r5, r6, r7, r8, r9⟩ := ih (i + 1) k (n + 2) h2 v2 (upd far a (D + 2)) (Q1 ++ [a]) (by omega) (by omega) (fun c hc => by rw [ev2.keep c (by have := (hO c hc).2; omega) (by have := hO c hc; omega)]; exact hOB c hc) x2' B2 (by omega) (fun q hq => by
        rw [etake, List.mem_append, List.mem_singleton] at hq
        rcases hq with hq | rfl
        · exact hmono q (hdone q hq)
        · rw [upd_same]; omega) (by
        rw [if_neg (by simp)]
        have h5 : (if Q1 = [] then 0 else 1) ≤ 1 := by split <;> omega
        omega) (fun q => by
        unfold upd; split
        · omega
        · exact hbd q) (by omega) ev2.f
      exact ⟨n', h', v', far', Q1', r1, r2, r3, by omega, r5, fun q hq => r6 q (hmono q hq), r7, r8, ev2.trans r9 fun _ _ h => h⟩
    · rw [if_neg (by omega)]
      unfold graph_Path_k9 graph_Path_r15
      try dsimp only
      rw [sx_add (by omega)]
      refine ih (i + 1) k n h v far Q1 (by omega) (by omega) hOB x B hsz (fun q hq => ?_) hD hbd hn f
      rw [etake, List.mem_append, List.mem_singleton] at hq
      rcases hq with hq | rfl
      · exact hdone q hq
      · exact h0

theorem path_l6 {F bf lo g2 ob : Nat} {x1 x2 x3 : Value} {O : Nat → Prop} {hB : H} (hF : 1000000 ≤ F) (ok : GOk N adj) (hbf : bf < lo) (hO : ∀ c, O c → c ≠ bf ∧ c < lo) (hg2 : g2 ≠ bf ∧ g2 < lo) (gB : GB hB g2 N (sl ob 0 N N)) (xB : OL hB ob N O (fun b => nats (turnA N adj b))) {E : Value → Value → Value → Value → M Value} : ∀ j k n (h : H) v (far : Nat → Nat) Q0 Q1 D, (Q0 ++ Q1).length + cnt N (fun i => far i != 0) ≤ j → j < k → j ≤ 2000 → (∀ c, O c → h.get c = hB.get c) → h.get g2 = hB.get g2 → Qs h lo bf N v far (Q0 ++ Q1) → Bw adj N t far Q0 Q1 D (fun _ => False) → far t ≠ 0 → D + (if Q1 = [] then 0 else 1) + cnt N (fun i => far i != 0) + 1 ≤ N → (∀ q, far q ≤ D + 2) → lo ≤ n → Fr n h →
    ∃ n' h' far', (graph_Path_l6 F E k x1 x2 x3 (sl bf 0 N N) (pt g2 0) v).run n h = (E x1 x2 x3 (sl bf 0 N N)).run n' h' ∧ TI h' bf N (fun i => ((far' : Nat → Nat) i : Int)) ∧ (∀ a, a < N → ∀ k, far' a = k + 1 ↔ Dst adj t a k) ∧ (∀ q, far' q ≤ N + 2) ∧ Ev (fun c => c = bf ∨ lo ≤ c) n h n' h' := by
  have hN := ok.few
  intro j
  induction j with
  | zero =>
    intro k n h v far Q0 Q1 D hj hk hj2 hOB hgB x B ht hD hbd hn f
    obtain ⟨k, rfl⟩ : ∃ j, k = j + 1 := ⟨k - 1, by omega⟩
    have hq : Q0 ++ Q1 = [] := List.eq_nil_of_length_eq_zero (by omega)
    obtain ⟨rfl, rfl⟩ := List.append_eq_nil_iff.1 hq
    rw [graph_Path_l6_s]
    unfold graph_Path_b6 graph_Path_r7
    try dsimp only
    rw [x.rd.lenI, st_gtr]
    simp only [onB_ite, run_ite, decide_eq_true_eq]
    rw [if_neg (by decide)]
    exact ⟨n, h, far, rfl, x.tab, fun a ha k => B.done ok.lt ht ha k, fun q => by have := hbd q; omega, Ev.refl f⟩
  | succ j ih =>
    -- one who waits in front
    have main : ∀ k n (h : H) v (far : Nat → Nat) b Q0 Q1 D, (b :: Q0 ++ Q1).length + cnt N (fun i => far i != 0) ≤ j + 1 → j < k → j + 1 ≤ 2000 → (∀ c, O c → h.get c = hB.get c) → h.get g2 = hB.get g2 → Qs h lo bf N v far (b :: Q0 ++ Q1) → Bw adj N t far (b :: Q0) Q1 D (fun _ => False) → far t ≠ 0 → D + (if Q1 = [] then 0 else 1) + cnt N (fun i => far i != 0) + 1 ≤ N → (∀ q, far q ≤ D + 2) → lo ≤ n → Fr n h →
        ∃ n' h' far', (graph_Path_l6 F E (k + 1) x1 x2 x3 (sl bf 0 N N) (pt g2 0) v).run n h = (E x1 x2 x3 (sl bf 0 N N)).run n' h' ∧ TI h' bf N (fun i => ((far' : Nat → Nat) i : Int)) ∧ (∀ a, a < N → ∀ k, far' a = k + 1 ↔ Dst adj t a k) ∧ (∀ q, far' q ≤ N + 2) ∧ Ev (fun c => c = bf ∨ lo ≤ c) n h n' h' := by
      intro k n h v far b Q0 Q1 D hj hk hj2 hOB hgB x B ht hD hbd hn f
      have hfb := B.q0 b List.mem_cons_self
      have hbN := (B.exact_ b D hfb).2
      have hlen : (nats (b :: Q0 ++ Q1)).length = (b :: Q0 ++ Q1).length := by unfold nats; rw [List.length_map]
      have hpos : 0 < (b :: Q0 ++ Q1).length := by simp
      rw [graph_Path_l6_s]
      unfold graph_Path_b6 graph_Path_r7
      try dsimp only
      rw [x.rd.lenI, st_gtr]
      simp only [onB_ite, run_ite, decide_eq_true_eq]
      rw [if_pos (by omega)]
      unfold graph_Path_r9
      try dsimp only
      have gh : GB h g2 N (sl ob 0 N N) := by unfold GB; rw [hgB]; exact gB
      have xh := xB.keep hOB
      obtain ⟨rv, e1, hr⟩ := xh.row' (β := Value) (n := n) hbN
      have r0 : 0 < (nats (b :: Q0 ++ Q1)).length := by omega
      have e0 : (nats (b :: Q0 ++ Q1))[0]'r0 = (b : Int) := rfl
      have hs : (turnA N adj b).length ≤ 700000 := by
        have := turnL_len (b := b) ok N 0 (Nat.le_refl _) (.inr rfl)
        unfold turnA; omega
      have hrh := hr h fun _ _ => rfl
      rw [gh.t, show (Value.int .i64 0) = i64 ((0 : Nat) : Int) from rfl, x.rd.getI r0, e0, e1, hrh.lenI, show (nats (turnA N adj b)).length = (turnA N adj b).length by unfold nats; rw [List.length_map]]
      obtain ⟨n2, h2, v2, far2, Q12, q1, q2, q3, q4, q5, q6, q7, q9, q8⟩ := path_l8 (F := F) (t := t) (x1 := x1) (x2 := x2) (x3 := x3) (x8 := pt g2 0) (Q0 := Q0) (D := D) hN hbN hbf hO hr hs (E := fun x1 x2 x3 x7 x8 x9 => graph_Path_k7 F (graph_Path_l6 F E k) x1 x2 x3 x7 x8 x9) (turnA N adj b).length 0 F n h v far Q1 (by omega) (by omega) (fun _ _ => rfl) x B (by omega) (fun a ha => by rw [List.take_zero] at ha; cases ha) hD hbd hn f
      rw [q1]
      unfold graph_Path_k7 graph_Path_r8
      try dsimp only
      obtain ⟨bq, g, hbq⟩ := q2.que
      have g' : Gq h2 v2 bq (i64 (b : Int) :: (nats (Q0 ++ Q12)).map i64) := g
      obtain ⟨v3, e3, g3⟩ := g'.tail (β := Value)
      rw [e3]
      have hv2 : v2 ≠ nsl := by
        rintro rfl
        rcases g' with ⟨q, _⟩ | ⟨_, _, _, _, q, _⟩ <;> cases q
      have x3' : Qs h2 lo bf N v3 far2 (Q0 ++ Q12) := ⟨q2.tab, bq, g3, fun _ => hbq hv2⟩
      have B3 : Bw adj N t far2 Q0 Q12 D (fun _ => False) := ⟨q3.exact_, q3.compl, fun c hc => by
        rcases q3.cl c hc with h1 | h1 | h1
        · rw [List.cons_append, List.mem_cons] at h1
          rcases h1 with rfl | h1
          · exact .inr (.inr fun a ha he => q5 a (turnA_mem.2 ⟨ha, he⟩))
          · exact .inl h1
        · exact h1.elim
        · exact .inr (.inr h1), fun c hc => q3.q0 c (List.mem_cons_of_mem _ hc), q3.q1⟩
      have hO2 : ∀ c, O c → h2.get c = hB.get c := fun c hc => by
        rw [q8.keep c (by have := (hO c hc).2; omega) (by have := hO c hc; omega)]; exact hOB c hc
      have hg2' : h2.get g2 = hB.get g2 := by rw [q8.keep g2 (by omega) (by omega)]; exact hgB
      rw [List.cons_append, List.length_cons] at q4 hj
      obtain ⟨n', h', far', r1, r2, r3, r5, r4⟩ := ih k n2 h2 v3 far2 Q0 Q12 D (by rw [List.cons_append, List.length_cons] at q4; omega) hk (by omega) hO2 hg2' x3' B3 (q6 t ht) q7 q9 (by have := q8.le; omega) q8.f
      exact ⟨n', h', far', r1, r2, r3, r5, q8.trans r4 fun _ _ h => h⟩
    intro k n h v far Q0 Q1 D hj hk hj2 hOB hgB x B ht hD hbd hn f
    obtain ⟨k, rfl⟩ : ∃ j, k = j + 1 := ⟨k - 1, by omega⟩
    match Q0, Q1 with
    | b :: Q0, Q1 => exact main k n h v far b Q0 Q1 D hj (by omega) hj2 hOB hgB x B ht hD hbd hn f
    | [], b :: Q1 =>
      have Bs := B.shift ok.lt
      rw [if_neg (by simp)] at hD
      exact main k n h v far b Q1 [] (D + 1) (by simpa using hj) (by omega) hj2 hOB hgB (by simpa using x) Bs ht (by rw [if_pos rfl]; omega) (fun q => by have := hbd q; omega) hn f
    | [], [] =>
      rw [graph_Path_l6_s]
      unfold graph_Path_b6 graph_Path_r7
      try dsimp only
      rw [x.rd.lenI, st_gtr]
      simp only [onB_ite, run_ite, decide_eq_true_eq]
      rw [if_neg (by decide)]
      exact ⟨n, h, far, rfl, x.tab, fun a ha k => B.done ok.lt ht ha k, fun q => by have := hbd q; omega, Ev.refl f⟩
end


section
variable {adj : Nat → List Nat} {N t : Nat}

/-- far is how far it is, and one; nought: no way leads there. -/
def FarOf (adj : Nat → List Nat) (N t : Nat) (far : Nat → Nat) : Prop := ∀ a, a < N → ∀ k, far a = k + 1 ↔ Dst adj t a k

/-- The least one so far of those that are nearer. -/
def Lst (far : Nat → Nat) (row : List Nat) (a : Nat) (best : Int) : Prop :=
  (best = -1 ∧ ∀ c, c ∈ row → ¬ (far c + 1 = far a ∧ far c ≠ 0)) ∨ ∃ b : Nat, best = (b : Int) ∧ b ∈ row ∧ far b + 1 = far a ∧ far b ≠ 0 ∧ ∀ c, c ∈ row → far c + 1 = far a → far c ≠ 0 → b ≤ c

theorem path_l3 {F bf n a : Nat} {x2 x3 x12 rv : Value} {h : H} {far : Nat → Nat} {row : List Nat} (tf : TI h bf N fun i => (far i : Int)) (ha : a < N) (hr : RdI h rv (nats row)) (hrow : ∀ c, c ∈ row → c < N) (hs : row.length ≤ 1000) (hfar : ∀ c, c < N → far c ≤ 100000) {E : Value → Value → Value → Value → Value → M Value} : ∀ j i k best, i + j = row.length → j < k → Lst far (row.take i) a best →
    ∃ best', (graph_Path_l3 F E k x2 x3 (sl bf 0 N N) x12 (i64 (a : Nat)) (i64 best) rv (i64 row.length) (i64 (i : Nat))).run n h = (E x2 x3 (sl bf 0 N N) x12 (i64 best')).run n h ∧ Lst far row a best' := by
  intro j
  induction j with
  | zero =>
    intro i k best hij hk hb
    obtain ⟨k, rfl⟩ : ∃ j, k = j + 1 := ⟨k - 1, by omega⟩
    rw [graph_Path_l3_s]
    unfold graph_Path_b3 graph_Path_r23
    try dsimp only
    rw [st_lss]
    simp only [onB_ite, run_ite, decide_eq_true_eq]
    rw [if_neg (by omega)]
    rw [List.take_of_length_le (by omega)] at hb
    exact ⟨best, rfl, hb⟩
  | succ j ih =>
    intro i k best hij hk hb
    obtain ⟨k, rfl⟩ : ∃ j, k = j + 1 := ⟨k - 1, by omega⟩
    have hi : i < row.length := by omega
    rw [graph_Path_l3_s]
    unfold graph_Path_b3 graph_Path_r23
    try dsimp only
    rw [st_lss]
    simp only [onB_ite, run_ite, decide_eq_true_eq]
    rw [if_pos (by omega)]
    unfold graph_Path_r24
    try dsimp only
    have hil : i < (nats row).length := by unfold nats; rw [List.length_map]; exact hi
    rw [hr.getI hil]
    have e : (nats row)[i]'hil = ((row[i] : Nat) : Int) := by simp [nats]
    rw [e]
    have hcN := hrow row[i] (List.getElem_mem hi)
    have etake : row.take (i + 1) = row.take i ++ [row[i]] := List.take_succ_eq_append_getElem hi
    generalize row[i] = c at *
    have f1 := hfar c hcN
    have f2 := hfar a ha
    have keep : (¬ (far c + 1 = far a ∧ far c ≠ 0) ∨ ∃ b : Nat, best = (b : Int) ∧ b ≤ c) → ∃ best', (graph_Path_k4 F (graph_Path_l3 F E k) x2 x3 (sl bf 0 N N) x12 (i64 (a : Nat)) (i64 best) rv (i64 row.length) (i64 (i : Nat))).run n h = (E x2 x3 (sl bf 0 N N) x12 (i64 best')).run n h ∧ Lst far row a best' := fun hc => by
      unfold graph_Path_k4 graph_Path_r27
      try dsimp only
      rw [sx_add (by omega)]
      refine ih (i + 1) k best (by omega) (by omega) ?_
      rw [etake]
      rcases hb with ⟨h1, h2⟩ | ⟨b, h1, h2, h3, h4, h5⟩
      · rcases hc with hc | ⟨b, hc, _⟩
        · refine .inl ⟨h1, fun q hq => ?_⟩
          rw [List.mem_append, List.mem_singleton] at hq
          rcases hq with hq | rfl
          · exact h2 q hq
          · exact hc
        · omega
      · refine .inr ⟨b, h1, List.mem_append_left _ h2, h3, h4, fun q hq q1 q2 => ?_⟩
        rw [List.mem_append, List.mem_singleton] at hq
        rcases hq with hq | rfl
        · exact h5 q hq q1 q2
        · rcases hc with hc | ⟨b', hc, hle⟩
          · exact absurd ⟨q1, q2⟩ hc
          · omega
    have take_ : far c + 1 = far a → far c ≠ 0 → (∀ b : Nat, best = (b : Int) → c ≤ b) → ∃ best', (graph_Path_r26 F x2 x3 (sl bf 0 N N) x12 (i64 (a : Nat)) (i64 (c : Nat)) rv (i64 row.length) (i64 (i : Nat)) fun x2 x3 x7 x12 x13 x14 x102 x103 x104 => graph_Path_k4 F (graph_Path_l3 F E k) x2 x3 x7 x12 x13 x14 x102 x103 x104).run n h = (E x2 x3 (sl bf 0 N N) x12 (i64 best')).run n h ∧ Lst far row a best' := fun q1 q2 q3 => by
      unfold graph_Path_r26 graph_Path_k4 graph_Path_r27
      try dsimp only
      rw [sx_add (by omega)]
      refine ih (i + 1) k (c : Int) (by omega) (by omega) ?_
      rw [etake]
      refine .inr ⟨c, rfl, by simp, q1, q2, fun q hq q4 q5 => ?_⟩
      rw [List.mem_append, List.mem_singleton] at hq
      rcases hq with hq | rfl
      · rcases hb with ⟨h1, h2⟩ | ⟨b, h1, h2, h3, h4, h5⟩
        · exact absurd ⟨q4, q5⟩ (h2 q hq)
        · have := h5 q hq q4 q5
          have := q3 b h1
          omega
      · exact Nat.le_refl _
    unfold graph_Path_r25
    try dsimp only
    rw [TI.get tf hcN, TI.get tf ha, sx_sub (by omega), st_eql]
    simp only [onB_ite, run_ite, beq_iff_eq]
    by_cases h1 : far c + 1 = far a
    · rw [if_pos (by omega), TI.get tf hcN, st_gtr]
      simp only [onB_ite, run_ite, decide_eq_true_eq]
      by_cases h2 : far c = 0
      · rw [if_neg (by omega), if_neg (by decide)]
        exact keep (.inl fun q => q.2 h2)
      · rw [if_pos (by omega), st_lss]
        simp only [onB_ite, run_ite, decide_eq_true_eq]
        by_cases h3 : best < 0
        · rw [if_pos h3, if_pos trivial]
          exact take_ h1 h2 fun b hb => by omega
        · rw [if_neg h3, st_lss]
          simp only [onB_ite, run_ite, decide_eq_true_eq]
          by_cases h4 : (c : Int) < best
          · rw [if_pos h4]
            exact take_ h1 h2 fun b hb => by omega
          · rw [if_neg h4]
            exact keep (.inr ⟨best.toNat, by omega, by omega⟩)
    · rw [if_neg (by omega), if_neg (by decide)]
      exact keep (.inl fun q => h1 q.1)

theorem Lst.nxt {far : Nat → Nat} (ok : GOk N adj) (hf : FarOf adj N t far) {a k : Nat} (ha : a < N) (hd : Dst adj t a (k + 1)) {best : Int} (h : Lst far (adj a) a best) : ∃ b : Nat, best = (b : Int) ∧ b < N ∧ IsNxt adj t a b ∧ Dst adj t b k := by
  have hfa := (hf a ha (k + 1)).2 hd
  rcases h with ⟨_, h2⟩ | ⟨b, h1, h2, h3, h4, h5⟩
  · obtain ⟨b, e, hb⟩ := hd.next
    have := (hf b (ok.lt a ha b e) k).2 hb
    exact absurd ⟨by omega, by omega⟩ (h2 b e)
  · have hbN := ok.lt a ha b h2
    have hbd : Dst adj t b k := (hf b hbN k).1 (by omega)
    refine ⟨b, h1, hbN, ⟨k, hd, h2, hbd, fun c hc hcd => ?_⟩, hbd⟩
    have := (hf c (ok.lt a ha c hc) k).2 hcd
    exact h5 c hc (by omega) (by omega)

theorem path_l1 {F bf g lo m : Nat} {tv : Value} {far : Nat → Nat} (hF : 1000000 ≤ F) (ok : GOk N adj) (hf : FarOf adj N t far) (ht : t < N) (hfar : ∀ c, c < N → far c ≤ 100000) (hbf : bf < lo ∧ g < lo ∧ m ≤ lo) {E : Value → M Value} : ∀ d k a n (h : H) v b (l : List Nat), Dst adj t a d → d < k → d ≤ 100000 → a < N → TI h bf N (fun i => (far i : Int)) → GB h g N tv → Gr h m tv N adj → GqI h v b (l ++ [a]) → (v ≠ nsl → lo ≤ b) → l.length + d ≤ 200000 → lo ≤ n → Fr n h →
    ∃ n' h' v' b' l', (graph_Path_l1 F E k (i64 (t : Nat)) (pt g 0) (sl bf 0 N N) v (i64 (a : Nat))).run n h = (E v').run n' h' ∧ GqI h' v' b' (l ++ l') ∧ PW adj t a l' ∧ (v' ≠ nsl → lo ≤ b') ∧ Ev (fun c => lo ≤ c) n h n' h' := by
  intro d
  induction d with
  | zero =>
    intro k a n h v b l hd hk hd2 ha tf hg gr gq hb hl hn f
    obtain ⟨k, rfl⟩ : ∃ j, k = j + 1 := ⟨k - 1, by omega⟩
    have := hd.eq_zero
    subst this
    rw [graph_Path_l1_s]
    unfold graph_Path_b1 graph_Path_r20
    try dsimp only
    rw [st_neq]
    simp only [onB_ite, run_ite]
    rw [if_neg (by simp)]
    exact ⟨n, h, v, b, [a], rfl, gq, .stop, hb, Ev.refl f⟩
  | succ d ih =>
    intro k a n h v b l hd hk hd2 ha tf hg gr gq hb hl hn f
    obtain ⟨k, rfl⟩ : ∃ j, k = j + 1 := ⟨k - 1, by omega⟩
    have hat : a ≠ t := by
      rintro rfl
      have := hd.uniq Dst.zero
      omega
    rw [graph_Path_l1_s]
    unfold graph_Path_b1 graph_Path_r20
    try dsimp only
    rw [st_neq]
    simp only [onB_ite, run_ite]
    rw [if_pos (by rw [bne_iff_ne]; omega)]
    unfold graph_Path_r21 graph_Path_r22
    try dsimp only
    obtain ⟨rv, e1, h0, f0, k0, hr⟩ := gr.row (β := Value) (n := n) ha
    have hr' : RdI h rv (nats (adj a)) := hr.kept f0 k0
    rw [hg.t, e1, hr'.lenI, show (nats (adj a)).length = (adj a).length by unfold nats; rw [List.length_map]]
    have hsa := ok.short a ha
    obtain ⟨best, e2, hL⟩ := path_l3 (F := F) (n := n) (x2 := i64 (t : Nat)) (x3 := pt g 0) (x12 := v) tf ha hr' (ok.lt a ha) hsa hfar (E := fun x2 x3 x7 x12 x14 => graph_Path_k2 F (graph_Path_l1 F E k) x2 x3 x7 x12 x14) (adj a).length 0 F (-1) (by omega) (by omega) (.inl ⟨rfl, fun c hc => by rw [List.take_zero] at hc; cases hc⟩)
    rw [show (Value.int .i64 (-1)) = i64 (-1) from rfl, show (Value.int .i64 0) = i64 ((0 : Nat) : Int) from rfl, e2]
    obtain ⟨c, rfl, hcN, hnx, hcd⟩ := hL.nxt ok hf ha hd
    unfold graph_Path_k2 graph_Path_r28 graph_Path_r29
    try dsimp only
    obtain ⟨h2, v2, e3, g2, f2, k2⟩ := gq.pushN (a := c) (y := 0) f (by simp; omega)
    rw [show (Value.int .i64 0) = i64 0 from rfl, e3]
    have ev : Ev (fun c => lo ≤ c) n h (n + 2) h2 := ⟨f2, by omega, fun q hq hq2 => k2 q hq fun hv => by have := hb hv; omega⟩
    have hbl : bf < n ∧ g < n := by omega
    obtain ⟨n', h', v', b', l', r1, r2, r3, r4, r5⟩ := ih k c (n + 2) h2 v2 (n + 1) (l ++ [a]) hcd (by omega) (by omega) hcN (tf.ev ev hbl.1 (by omega)) (hg.ev ev hbl.2 (by omega)) (gr.ev ev (by omega) fun q hq => by omega) g2 (fun _ => by omega) (by simp; omega) (by omega) f2
    refine ⟨n', h', v', b', a :: l', r1, ?_, .go hat hnx r3, r4, ev.trans r5 fun _ _ h => h⟩
    rw [List.append_assoc] at r2
    exact r2
end

/-- The way that Path tells; none: nothing. -/
theorem path_in {F n m N root t : Nat} {tv : Value} {adj : Nat → List Nat} {h : H} (hF : 1000000 ≤ F) (gr : Gr h m tv N adj) (hm : m ≤ n) (ok : GOk N adj) (hr : root < N) (ht : t < N) (f : Fr n h) :
    ∃ n' h' v, (graph_Path F (gv N tv) (i64 (root : Nat)) (i64 (t : Nat))).run n h = some (v, n', h') ∧ Ev No n h n' h' ∧ ((v = nsl ∧ ¬ Rch adj root t) ∨ ∃ l, RdI h' v (nats l) ∧ PW adj t root l) := by
  have hN := ok.few
  unfold graph_Path graph_Path_r0
  try dsimp only
  obtain ⟨h1, e1, g1, ev1⟩ := GB.box (β := Value) (N := N) f gr.1
  rw [e1]
  have gr1 := gr.no ev1 hm
  unfold graph_Path_r1
  try dsimp only
  obtain ⟨n2, h2, e2, ev2⟩ := gmay_spec (F := F) (by omega) gr1 (by omega) ok ev1.f
  have l2 := ev2.le
  have g2 := g1.ev ev2 (by omega) (fun h => h)
  have gr2 := gr1.no ev2 (by omega)
  rw [g1.all, run_bnd e2, st_not, onB_ite, run_ite, if_neg (by decide), st_lss, onB_ite, run_ite, if_neg (by simp), g2.nn, st_geq, onB_ite, run_ite, if_neg (by simp; omega), st_lss, onB_ite, run_ite, if_neg (by simp), g2.nn, st_geq]
  rw [onB_ite, run_ite, if_neg (by simp; omega)]
  unfold graph_Path_r3
  try dsimp only
  obtain ⟨h3, e3, t3, ev3⟩ := TI.make (β := Value) (bytes := 8) (N := N) (z := 0) ev2.f (by omega) (by decide)
  rw [g2.nn, show (Value.int .i64 0) = i64 0 from rfl, e3]
  have g3 := g2.ev ev3 (by omega) (fun h => h)
  have gr3 := gr2.no ev3 (by omega)
  unfold graph_Path_r4
  try dsimp only
  obtain ⟨h4, e4, t4, ev4⟩ := TI.set (β := Value) t3 ev3.f ht (z := 1)
  rw [show (Value.int .i64 1) = i64 1 from rfl, e4]
  have g4 := g3.ev ev4 (by omega) (by omega)
  have gr4 := gr3.ev ev4 (by omega) fun c hc => by omega
  unfold graph_Path_r5
  try dsimp only
  obtain ⟨n5, h5, ob, O, e5, x5, o5, ev5⟩ := turn_spec (F := F) (by omega) gr4 (by omega) ok ev4.f
  have l5 := ev5.le
  rw [g4.all, run_bnd e5, run_ptr ev5.f (by rfl)]
  have ev6 := Ev.new ev5.f ⟨[i64 0, nsl], .own⟩
  obtain ⟨h7, e7, g7, ev7⟩ := GB.put (β := Value) (N := N) (tv := sl ob 0 N N) (H.get_set_same h5 n5 ⟨[i64 0, nsl], .own⟩) rfl ev6.f rfl
  rw [show (Value.int .i64 0) = i64 0 from rfl, show (Value.slice none 0 0) = nsl from rfl, e7]
  have ev57 : Ev No n5 h5 (n5 + 1) h7 := ev6.trans ev7 fun c hc q => by omega
  have x7 := x5.keep (h' := h7) fun c hc => ev57.no (x5.lt ev5.f hc)
  have hO7 : ∀ c, O c → c < n5 := fun c hc => x5.lt ev5.f hc
  unfold graph_Path_r6
  try dsimp only
  rw [run_single ev7.f rfl]
  have ev8 := Ev.new ev7.f ⟨[i64 (t : Int)], .own⟩
  have g8 := g7.ev ev8 (by omega) (fun h => h)
  have x8 := x7.keep (h' := h7.set (n5 + 1) ⟨[i64 (t : Int)], .own⟩) fun c hc => ev8.no (by have := hO7 c hc; omega)
  have ev48 : Ev No (n2 + 1) h4 (n5 + 1 + 1) (h7.set (n5 + 1) ⟨[i64 (t : Int)], .own⟩) := (ev5.trans ev57 fun _ _ h => h).trans ev8 fun _ _ h => h
  have t8 := t4.ev ev48 (by omega) (fun h => h)
  have gr8 := gr4.no ev48 (by omega)
  have gb8 := g4.ev ev48 (by omega) (fun h => h)
  have q8 : Qs (h7.set (n5 + 1) ⟨[i64 (t : Int)], .own⟩) (n5 + 1) n2 N (sl (n5 + 1) 0 1 1) (upd (fun _ => 0) t 1) ([t] ++ []) := by
    refine ⟨?_, n5 + 1, Gq.own (cs := [i64 (t : Int)]) (H.get_set_same _ _ _) (by unfold U; simp), fun _ => ⟨Nat.le_refl _, by omega⟩⟩
    have e : upd (fun _ => (0 : Int)) t 1 = fun i => ((upd (fun _ => 0) t 1 i : Nat) : Int) := by
      funext i; unfold upd; split <;> rfl
    rw [e] at t8
    exact t8
  have hft : upd (fun _ => 0) t 1 t = 1 := upd_same
  have hfo : ∀ c, c ≠ t → upd (fun _ => 0) t 1 c = 0 := fun c hc => upd_ne hc
  have B8 : Bw adj N t (upd (fun _ => 0) t 1) [t] [] 0 (fun _ => False) := by
    refine ⟨fun a k hk => ?_, fun a k ha hw hk => ?_, fun b hb => ?_, fun b hb => ?_, fun b hb => by cases hb⟩
    · by_cases e : a = t
      · subst e
        rw [hft] at hk
        have : k = 0 := by omega
        subst this
        exact ⟨Dst.zero, ht⟩
      · rw [hfo a e] at hk; omega
    · have : k = 0 := by omega
      subst this
      cases hw
      rw [hft]; decide
    · by_cases e : b = t
      · subst e; exact .inl (by simp)
      · exact absurd (hfo b e) hb
    · rw [List.mem_singleton] at hb
      subst hb; exact hft
  have hcnt : cnt N (fun i => upd (fun _ => 0) t 1 i != 0) + 1 ≤ N := by
    have h3 := cnt_put (s := fun _ => false) (a := t) rfl N
    rw [if_pos ht] at h3
    have e3 : (fun i => upd (fun _ => 0) t 1 i != 0) = putM (fun _ => false) t := by
      funext q; unfold upd putM
      by_cases e4 : q = t
      · rw [if_pos e4, decide_eq_true e4]; rfl
      · rw [if_neg e4, decide_eq_false e4]; rfl
    rw [e3]
    have hc : cnt N (fun _ => false) ≤ N := by
      unfold cnt
      have := List.length_filter_le (fun m : Nat => !(fun _ => false) m) (List.range N)
      rwa [List.length_range] at this
    omega
  obtain ⟨n9, h9, far, e9, t9, hf, hfb, ev9⟩ := path_l6 (F := F) (t := t) (bf := n2) (lo := n5 + 1) (g2 := n5) (x1 := i64 (root : Nat)) (x2 := i64 (t : Nat)) (x3 := pt n 0) hF ok (by omega) (fun c hc => ⟨by have := o5 c hc; omega, by have := hO7 c hc; omega⟩) ⟨by omega, by omega⟩ g8 x8 (E := fun x1 x2 x3 x7 => graph_Path_k5 F x1 x2 x3 x7) 1000 F (n5 + 1 + 1) _ _ _ [t] [] 0 (by simp; omega) (by omega) (by omega) (fun _ _ => rfl) rfl q8 B8 (by rw [hft]; decide) (by rw [if_pos rfl]; omega) (fun q => by
    by_cases e : q = t
    · rw [e, hft]; omega
    · rw [hfo q e]; omega) (by omega) ev8.f
  have hsm : (sl (n5 + 1) 0 1 1) = sl (n5 + 1) 0 1 1 := rfl
  rw [e9]
  have l9 := ev9.le
  have gb9 := gb8.ev ev9 (by omega) (by omega)
  have gr9 := gr8.ev ev9 (by omega) fun c hc => by omega
  have evall : ∀ c, c < n → h9.get c = h.get c := fun c hc => by
    rw [ev9.keep c (by omega) (by omega), ev48.no (by omega), ev4.keep c (by omega) (by omega), ev3.no (by omega), ev2.no (by omega), ev1.no hc]
  unfold graph_Path_k5 graph_Path_r16
  try dsimp only
  rw [TI.get t9 hr, st_eql]
  simp only [onB_ite, run_ite, beq_iff_eq]
  by_cases h0 : far root = 0
  · rw [if_pos (by omega)]
    refine ⟨n9, h9, nsl, rfl, ⟨ev9.f, by omega, fun c hc _ => evall c hc⟩, .inl ⟨rfl, fun hrc => ?_⟩⟩
    obtain ⟨k, hk⟩ := wk_rch.2 hrc
    obtain ⟨l, _, hl⟩ := Dst.of hk
    have := (hf root hr l).2 hl
    omega
  · rw [if_neg (by omega)]
    obtain ⟨d, hd⟩ : ∃ d, far root = d + 1 := ⟨far root - 1, by omega⟩
    have hdd := (hf root hr d).1 hd
    have hfar : ∀ c, c < N → far c ≤ 100000 := fun c hc => by
      have := hfb c; omega
    unfold graph_Path_r18
    try dsimp only
    rw [run_single ev9.f rfl]
    have ev10 := Ev.new ev9.f ⟨[i64 (root : Int)], .own⟩
    unfold graph_Path_r19
    try dsimp only
    have t10 := TV.ev t9 ev10 (by omega) (fun h => h)
    obtain ⟨n11, h11, v11, b11, l', e11, q11, p11, _, ev11⟩ := path_l1 (F := F) (bf := n2) (g := n) (lo := n9) (m := m) hF ok hf ht hfar ⟨by omega, by omega, by omega⟩ (E := fun x12 => graph_Path_k0 F x12) d F root (n9 + 1) _ (sl n9 0 1 1) n9 [] hdd (by have := hfar root hr; omega) (by have := hfar root hr; omega) hr t10 (gb9.ev ev10 (by omega) (fun h => h)) (gr9.no ev10 (by omega)) (Gq.own (cs := [i64 (root : Int)]) (H.get_set_same _ _ _) (by unfold U; simp)) (fun _ => Nat.le_refl _) (by have := hfar root hr; simp; omega) (by omega) ev10.f
    rw [e11]
    refine ⟨n11, h11, v11, rfl, ⟨ev11.f, by have := ev11.le; omega, fun c hc _ => ?_⟩, .inr ⟨l', by rw [List.nil_append] at q11; exact q11.rd, p11⟩⟩
    rw [ev11.keep c (by omega) (by omega), ev10.no (by omega), evall c hc]

/-- Where an end is no node, nothing is told. -/
theorem path_out {F n m N : Nat} {a b : Int} {tv : Value} {adj : Nat → List Nat} {h : H} (hF : 1000000 ≤ F) (gr : Gr h m tv N adj) (hm : m ≤ n) (ok : GOk N adj) (hr : a < 0 ∨ (N : Int) ≤ a ∨ b < 0 ∨ (N : Int) ≤ b) (f : Fr n h) :
    ∃ n' h', (graph_Path F (gv N tv) (i64 a) (i64 b)).run n h = some (nsl, n', h') ∧ Ev No n h n' h' := by
  have hN := ok.few
  unfold graph_Path graph_Path_r0
  try dsimp only
  obtain ⟨h1, e1, g1, ev1⟩ := GB.box (β := Value) (N := N) f gr.1
  rw [e1]
  have gr1 := gr.no ev1 hm
  unfold graph_Path_r1
  try dsimp only
  obtain ⟨n2, h2, e2, ev2⟩ := gmay_spec (F := F) (by omega) gr1 (by omega) ok ev1.f
  have g2 := g1.ev ev2 (by omega) (fun h => h)
  have ev := ev1.trans ev2 fun _ _ h => h
  rw [g1.all, run_bnd e2, st_not, onB_ite, run_ite, if_neg (by decide), st_lss, onB_ite, run_ite]
  by_cases q1 : a < 0
  · rw [if_pos (by simpa using q1)]; exact ⟨n2, h2, rfl, ev⟩
  rw [if_neg (by simpa using q1), g2.nn, st_geq, onB_ite, run_ite]
  by_cases q2 : (N : Int) ≤ a
  · rw [if_pos (by simpa using q2)]; exact ⟨n2, h2, rfl, ev⟩
  rw [if_neg (by simpa using q2), st_lss, onB_ite, run_ite]
  by_cases q3 : b < 0
  · rw [if_pos (by simpa using q3)]; exact ⟨n2, h2, rfl, ev⟩
  rw [if_neg (by simpa using q3), g2.nn, st_geq, onB_ite, run_ite, if_pos (by simp; omega)]
  exact ⟨n2, h2, rfl, ev⟩


theorem Gr.kept {h h' : H} {m N : Nat} {tv : Value} {adj : Nat → List Nat} (g : Gr h m tv N adj) (hk : ∀ c, c < m → h'.get c = h.get c) : Gr h' m tv N adj := by
  obtain ⟨h1, h0, f0, k0, q⟩ := g
  exact ⟨h1, h0, f0, fun c hc => (hk c hc).trans (k0 c hc), q⟩

theorem TI.rdI {h : H} {b N : Nat} {u : Nat → Int} (t : TI h b N u) : RdI h (sl b 0 N N) ((List.range N).map u) := by
  have := TV.rd t
  unfold RdI
  rw [List.map_map]
  exact this

section
variable {adj : Nat → List Nat} {N root : Nat} {o : List Nat} {place : Nat → Nat} {up : Nat → Int}

/-- What stays as it is while the law looks at all. -/
structure DU (adj : Nat → List Nat) (N : Nat) (up : Nat → Int) (h : H) (m g bu bw bd : Nat) (tv : Value) (u d : Nat → Int) : Prop where
  gr : Gr h m tv N adj
  gb : GB h g N tv
  tu : TI h bu N up
  tw : TI h bw N u
  td : TI h bd N d
  lt : g < m ∧ bu < m ∧ bw < m ∧ bd < m
  vq : veq tv tv = true

theorem DU.kept {h h' : H} {m g bu bw bd : Nat} {tv : Value} {u d : Nat → Int} (x : DU adj N up h m g bu bw bd tv u d) (hk : ∀ c, c < m → h'.get c = h.get c) : DU adj N up h' m g bu bw bd tv u d :=
  ⟨x.gr.kept hk, by unfold GB; rw [hk g x.lt.1]; exact x.gb, x.tu.keep (hk _ x.lt.2.1), x.tw.keep (hk _ x.lt.2.2.1), x.td.keep (hk _ x.lt.2.2.2), x.lt, x.vq⟩

end


section
variable {adj : Nat → List Nat} {N root : Nat} {o : List Nat} {place : Nat → Nat} {up : Nat → Int}

theorem PW.mem_lt {t a : Nat} {l : List Nat} (ok : GOk N adj) (h : PW adj t a l) (ha : a < N) : ∀ x, x ∈ l → x < N := by
  induction h with
  | stop => intro x hx; rw [List.mem_singleton] at hx; omega
  | go _ n _ ih =>
    obtain ⟨_, _, e, _, _⟩ := n
    intro x hx
    rcases List.mem_cons.1 hx with rfl | hx
    · exact ha
    · exact ih (ok.lt _ ha _ e) x hx

theorem PW.short {t a : Nat} {l : List Nat} (h : PW adj t a l) : l.Nodup := by
  induction h with
  | stop => simp
  | @go a b l hne n p ih =>
    rw [List.nodup_cons]
    refine ⟨fun hm => ?_, ih⟩
    obtain ⟨k, d1, _, d2, _⟩ := n
    have key : ∀ x l, PW adj t x l → ∀ j, Dst adj t x j → ∀ y, y ∈ l → ∃ i, i ≤ j ∧ Dst adj t y i := by
      intro x l p
      induction p with
      | stop =>
        intro j hj y hy
        rw [List.mem_singleton] at hy
        subst hy
        exact ⟨j, Nat.le_refl _, hj⟩
      | go _ n _ ih =>
        obtain ⟨k, e1, _, e2, _⟩ := n
        intro j hj y hy
        rcases List.mem_cons.1 hy with rfl | hy
        · exact ⟨j, Nat.le_refl _, hj⟩
        · have := e1.uniq hj
          obtain ⟨i, h1, h2⟩ := ih k e2 y hy
          exact ⟨i, by omega, h2⟩
    obtain ⟨i, h1, h2⟩ := key b l p k d2 a hm
    have := h2.uniq d1
    omega

theorem PW.small {t a : Nat} {l : List Nat} (ok : GOk N adj) (h : PW adj t a l) (ha : a < N) : l.length ≤ N := nodup_len h.short (h.mem_lt ok ha)

end


end Go.Fw
