/-
  haruspexlaw5.Made, graph.May, graph.Turn, said of the abstract machine.
-/
import Derived.Test.YtmkpboaigdnpnaaGenC
import Derived.Test.YtmkpboaigdnpnaaFwZ
import Derived.Test.YtmkpboaigdnpnaaFwT
set_option maxRecDepth 20000
namespace Go.Fw

/-! ## Made -/

/-- So many nodes. -/
def nodesOf (n : Int) : Nat := (1 + ((n.tmod 25 + 25).tmod 25)).toNat
theorem nodesOf_eq (n : Int) : 1 + ((n.tmod 25 + 25).tmod 25) = (nodesOf n : Int) ∧ 1 ≤ nodesOf n ∧ nodesOf n ≤ 25 := by
  have h1 := Int.tmod_lt_of_pos n (show (0 : Int) < 25 by decide)
  have h2 := Int.lt_tmod_of_pos n (show (0 : Int) < 25 by decide)
  have h3 := Int.tmod_lt_of_pos (n.tmod 25 + 25) (show (0 : Int) < 25 by decide)
  have h4 := Int.tmod_nonneg 25 (show (0 : Int) ≤ n.tmod 25 + 25 by omega)
  unfold nodesOf
  omega
/-- A number, as it goes round. -/
def wrapN (N : Nat) (z : Int) : Nat := ((z.tmod N + N).tmod N).toNat
theorem wrapN_eq {N : Nat} (hN : 1 ≤ N) (z : Int) : (z.tmod N + N).tmod N = (wrapN N z : Int) ∧ wrapN N z < N := by
  have h1 := Int.tmod_lt_of_pos z (show (0 : Int) < N by omega)
  have h2 := Int.lt_tmod_of_pos z (show (0 : Int) < N by omega)
  have h3 := Int.tmod_lt_of_pos (z.tmod N + N) (show (0 : Int) < N by omega)
  have h4 := Int.tmod_nonneg N (show (0 : Int) ≤ z.tmod N + N by omega)
  unfold wrapN
  omega

/-- The edges of the first i pairs, row by row. -/
def madeL (N : Nat) (Z : Nat → Int) (i a : Nat) : List Nat := (List.range i).filterMap fun j => if wrapN N (Z (2 * j)) = a then some (wrapN N (Z (2 * j + 1))) else none
theorem madeL_succ {N : Nat} {Z : Nat → Int} {i a : Nat} : madeL N Z (i + 1) a = if a = wrapN N (Z (2 * i)) then madeL N Z i a ++ [wrapN N (Z (2 * i + 1))] else madeL N Z i a := by
  unfold madeL
  rw [List.range_succ, List.filterMap_append]
  by_cases h : a = wrapN N (Z (2 * i))
  · rw [if_pos h]; simp [h]
  · rw [if_neg h]; simp [Ne.symm h]
theorem madeL_len {N : Nat} {Z : Nat → Int} {i a : Nat} : (madeL N Z i a).length ≤ i := by
  unfold madeL
  have := List.length_filterMap_le (fun j => if wrapN N (Z (2 * j)) = a then some (wrapN N (Z (2 * j + 1))) else none) (List.range i)
  rwa [List.length_range] at this
theorem madeL_lt {N : Nat} {Z : Nat → Int} {i a b : Nat} (hN : 1 ≤ N) (hb : b ∈ madeL N Z i a) : b < N := by
  unfold madeL at hb
  rw [List.mem_filterMap] at hb
  obtain ⟨j, _, h⟩ := hb
  split at h
  · cases h; exact (wrapN_eq hN _).2
  · cases h

theorem Pairs.get {β : Type} {n : Nat} {h : H} {v : Value} {len : Nat} {Z : Nat → Int} (w : Pairs h v len Z) {i q : Nat} (hi : i < len) (hq : q < 2) {k : Value → M β} :
    (bnd (opIndexAddr 2 v (i64 i)) fun p => bnd (opIndexAddrA 2 1 p (i64 q)) fun r => bnd (opLoad r) k).run n h = (k (i64 (Z (2 * i + q)))).run n h := by
  rcases w with ⟨h0, _⟩ | ⟨b, cap, rfl, g1, g2, g3⟩
  · omega
  · rw [st_ix, if_pos (by omega), Int.toNat_natCast, st_ixA, if_pos (by omega), Int.toNat_natCast, Nat.mul_one, Nat.zero_add]
    rw [ld1 (g3 (by omega)).2 (by decide) (tab_get (show i * 2 + q < cap * 2 by omega)), Nat.mul_comm i 2]

theorem made_l1 {F N g ob lo len : Nat} {v w4 : Value} {Z : Nat → Int} (hZ : ∀ i, Fit (Z i)) (hN : 1 ≤ N ∧ N ≤ 25) (hlo : 8 ≤ lo) {E : Value → Value → M Value} : ∀ j i k n (h : H) (O : Nat → Prop), i + j = min len 80 → j < k → Pairs h v len Z → GB h g N (sl ob 0 N N) → OL h ob N O (fun a => nats (madeL N Z i a)) → ¬ O g → (∀ c, O c → lo ≤ c) → g < n → lo ≤ n → Fr n h →
    ∃ n' h' O', (L5_Made_l1 F E k (i64 N) v w4 (pt g 0) (i64 i)).run n h = (E w4 (pt g 0)).run n' h' ∧ GB h' g N (sl ob 0 N N) ∧ OL h' ob N O' (fun a => nats (madeL N Z (min len 80) a)) ∧ (∀ c, O' c → O c ∨ n ≤ c) ∧ Ev O n h n' h' := by
  intro j
  induction j with
  | zero =>
    intro i k n h O hij hk hp hg hx hO hlO hgn hn f
    obtain ⟨k, rfl⟩ : ∃ j, k = j + 1 := ⟨k - 1, by omega⟩
    obtain rfl : i = min len 80 := by omega
    rw [L5_Made_l1_s]
    unfold L5_Made_b1 L5_Made_r4
    try dsimp only
    rw [hp.len]
    simp only [st_lss, onB_ite, run_ite, decide_eq_true_eq]
    by_cases h1 : ((min len 80 : Nat) : Int) < len
    · rw [if_pos h1, if_neg (by omega)]
      exact ⟨n, h, O, rfl, hg, hx, fun c hc => .inl hc, Ev.refl f⟩
    · rw [if_neg h1, if_neg (by decide)]
      exact ⟨n, h, O, rfl, hg, hx, fun c hc => .inl hc, Ev.refl f⟩
  | succ j ih =>
    intro i k n h O hij hk hp hg hx hO hlO hgn hn f
    obtain ⟨k, rfl⟩ : ∃ j, k = j + 1 := ⟨k - 1, by omega⟩
    have hi : i < len ∧ i < 80 := by omega
    rw [L5_Made_l1_s]
    unfold L5_Made_b1 L5_Made_r4
    try dsimp only
    rw [hp.len]
    simp only [st_lss, onB_ite, run_ite, decide_eq_true_eq]
    rw [if_pos (by omega), if_pos (by omega)]
    unfold L5_Made_r6
    try dsimp only
    obtain ⟨a1, a2⟩ := wrapN_eq hN.1 (Z (2 * i))
    obtain ⟨b1, b2⟩ := wrapN_eq hN.1 (Z (2 * i + 1))
    have r1 := Int.tmod_lt_of_pos (Z (2 * i)) (show (0 : Int) < N by omega)
    have r2 := Int.lt_tmod_of_pos (Z (2 * i)) (show (0 : Int) < N by omega)
    have r3 := Int.tmod_lt_of_pos (Z (2 * i + 1)) (show (0 : Int) < N by omega)
    have r4 := Int.lt_tmod_of_pos (Z (2 * i + 1)) (show (0 : Int) < N by omega)
    rw [show (Value.int .i64 0) = i64 ((0 : Nat) : Int) from rfl, hp.get hi.1 (by decide), Nat.add_zero, st_rem (by omega), sx_add (by omega), st_rem (by omega), a1]
    rw [show (Value.int .i64 1) = i64 ((1 : Nat) : Int) from rfl, hp.get hi.1 (by decide), st_rem (by omega), sx_add (by omega), st_rem (by omega), b1]
    unfold L5_Made_r7
    try dsimp only
    rw [st_field, Nat.zero_add, ld1 hg (by decide) rfl, hg.t]
    have hlen := madeL_len (N := N) (Z := Z) (i := i) (a := wrapN N (Z (2 * i)))
    obtain ⟨h2, h3, a, e2, ev2, e3, x3, ev3⟩ := hx.app (J := wrapN N (Z (2 * i))) (y := 0) (z := (wrapN N (Z (2 * i + 1)) : Int)) f a2 (by unfold nats; rw [List.length_map]; omega)
    rw [show (Value.int .i64 0) = i64 0 from rfl, e2]
    have hg2 := hg.ev ev2 hgn hO
    rw [run_chk (cs := [i64 N, sl ob 0 N N]) hg2 (by decide) rfl (by simp [veq]), e3]
    unfold L5_Made_r5
    try dsimp only
    rw [sx_add (by omega)]
    have el : (fun j => if j = wrapN N (Z (2 * i)) then nats (madeL N Z i j) ++ [(wrapN N (Z (2 * i + 1)) : Int)] else nats (madeL N Z i j)) = fun a => nats (madeL N Z (i + 1) a) := by
      funext j
      rw [madeL_succ]
      split
      · unfold nats; rw [List.map_append]; rfl
      · rfl
    rw [el] at x3
    obtain ⟨n', h', O', q1, q2, q3, q4, q5⟩ := ih (i + 1) k (n + 2) h3 (fun c => O c ∨ c = n + 1) (by omega) (by omega) (hp.keep fun c hc => ev3.keep c (by omega) fun hOc => by have := hlO c hOc; omega) (hg.ev ev3 hgn hO) x3 (fun hq => hq.elim hO fun e => by omega) (fun c hc => hc.elim (hlO c) fun e => by omega) (by omega) (by omega) ev3.f
    refine ⟨n', h', O', q1, q2, q3, fun c hc => ?_, ev3.trans q5 fun c hc hq => hq.elim id fun e => by omega⟩
    rcases q4 c hc with (h1 | h1) | h1
    · exact .inl h1
    · exact .inr (by omega)
    · exact .inr (by omega)

theorem opBuild_gr {N : Nat} {tv : Value} (h1 : one tv = true) : opBuild [i64 0, nsl] [(0, 1, false, i64 N), (1, 1, false, tv)] = ret (gv N tv) := by
  have hN : one (i64 N) = true := rfl
  simp [opBuild, fillA, h1, hN]

theorem run_ptr' {β : Type} {n : Nat} {h : H} {cs : List Value} {k : Value → M β} (f : Fr n h) (h1 : cs.all one = true) : (bnd (opPtr cs) k).run n h = (k (pt n 0)).run (n + 1) (h.set n ⟨cs, .own⟩) := run_ptr f h1

theorem Ev.new {n : Nat} {h : H} (f : Fr n h) (B : Blk) : Ev No n h (n + 1) (h.set n B) := ⟨f.new _, by omega, fun c hc _ => H.get_set_ne _ _ (by omega)⟩

/-- A graph of the call's own: it may be turned, and it may be read. -/
theorem made_spec {F n len : Nat} {v : Value} {z : Int} {Z : Nat → Int} {h : H} (hF : 100 < F) (hn : 8 ≤ n) (hz : Fit z) (hZ : ∀ i, Fit (Z i)) (hp : Pairs h v len Z) (f : Fr n h) :
    ∃ n' h' ob O, (L5_Made F (i64 z) v).run n h = some (gv (nodesOf z) (sl ob 0 (nodesOf z) (nodesOf z)), n', h') ∧ OL h' ob (nodesOf z) O (fun a => nats (madeL (nodesOf z) Z (min len 80) a)) ∧ (∀ c, O c → n ≤ c) ∧ Ev No n h n' h' := by
  obtain ⟨hN, hN1, hN2⟩ := nodesOf_eq z
  have r1 := Int.tmod_lt_of_pos z (show (0 : Int) < 25 by decide)
  have r2 := Int.lt_tmod_of_pos z (show (0 : Int) < 25 by decide)
  have r3 := Int.tmod_lt_of_pos (z.tmod 25 + 25) (show (0 : Int) < 25 by decide)
  have r4 := Int.tmod_nonneg 25 (show (0 : Int) ≤ z.tmod 25 + 25 by omega)
  unfold L5_Made L5_Made_r0
  try dsimp only
  rw [run_ptr f (by rfl)]
  have ev1 := Ev.new f ⟨[i64 0, nsl], .own⟩
  unfold L5_Made_r1
  try dsimp only
  rw [st_rem (by decide), sx_add (by omega), st_rem (by decide), sx_add (by omega), hN]
  generalize hNN : nodesOf z = N at *
  unfold L5_Made_r2
  try dsimp only
  obtain ⟨h2, e2, x2, ev2⟩ := OL.make (β := Value) ev1.f (show N ≤ 100000 by omega)
  rw [e2, show (Value.int .i64 0) = i64 0 from rfl, opBuild_gr rfl, ret_bnd, run_ptr ev2.f (by rfl)]
  have ev3 := Ev.new ev2.f ⟨[i64 0, nsl], .own⟩
  obtain ⟨h4, e4, g4, ev4⟩ := GB.put (β := Value) (N := N) (tv := sl (n + 1) 0 N N) (H.get_set_same h2 (n + 1 + 1) ⟨[i64 0, nsl], .own⟩) rfl ev3.f rfl
  rw [e4]
  unfold L5_Made_r3
  try dsimp only
  have x4 : OL h4 (n + 1) N (fun c => c = n + 1) (fun a => nats (madeL N Z 0 a)) := by
    have e : (fun a => nats (madeL N Z 0 a)) = fun _ => [] := by funext a; rfl
    rw [e]
    exact x2.keep fun c hc => by rw [ev4.keep c (by omega) (by omega), ev3.keep c (by omega) (by intro h; exact h)]
  have hp4 := hp.keep (h' := h4) fun c hc => by rw [ev4.keep c (by omega) (by omega), ev3.no (by omega), ev2.no (by omega), ev1.no (by omega)]
  obtain ⟨n5, h5, O5, e5, g5, x5, o5, ev5⟩ := made_l1 (F := F) (lo := n) (w4 := pt n 0) hZ ⟨hN1, hN2⟩ hn (E := fun x4 x5 => L5_Made_k0 F x4 x5) (min len 80) 0 F (n + 1 + 1 + 1) h4 (fun c => c = n + 1) (by omega) (by omega) hp4 g4 x4 (by omega) (fun c hc => by omega) (by omega) (by omega) ev4.f
  rw [show (Value.int .i64 0) = i64 ((0 : Nat) : Int) from rfl, e5]
  unfold L5_Made_k0 L5_Made_r8
  try dsimp only
  have l5 := ev5.le
  have hret : h5.get n = some ⟨[i64 0, nsl], .own⟩ := by
    rw [ev5.keep n (by omega) (by omega), ev4.keep n (by omega) (by omega), ev3.no (by omega), ev2.no (by omega), H.get_set_same]
  obtain ⟨h6, e6, g6, ev6⟩ := GB.put (β := Value) (N := N) (tv := sl (n + 1) 0 N N) hret rfl ev5.f rfl
  rw [g5.all, e6, g6.all]
  refine ⟨n5, h6, n + 1, O5, rfl, x5.keep fun c hc => ev6.keep c ?_ ?_, fun c hc => ?_, ev6.f, by omega, fun c hc _ => ?_⟩
  · exact x5.lt ev5.f hc
  · have := o5 c hc
    omega
  · rcases o5 c hc with h1 | h1 <;> omega
  · rw [ev6.keep c (by omega) (by omega), ev5.keep c (by omega) (by omega), ev4.keep c (by omega) (by omega), ev3.no (by omega), ev2.no (by omega), ev1.no hc]

/-! ## May -/

/-- A graph that may be: few nodes, edges among them, rows that are not too long. -/
structure GOk (N : Nat) (adj : Nat → List Nat) : Prop where
  few : N ≤ 600
  lt : ∀ a, a < N → ∀ b, b ∈ adj a → b < N
  short : ∀ a, a < N → (adj a).length ≤ 1000

theorem may_l3 {F N m c : Nat} {tv x24 x25 x26 rv : Value} {l : List Nat} {h h0 : H} {n g : Nat} (hg : GB h g N tv) (f0 : Fr m h0) (k0 : ∀ c, c < m → h.get c = h0.get c) (hr : RdI h0 rv (nats l)) (hl : ∀ b, b ∈ l → b < N) (hs : l.length ≤ 1000) (hN : N ≤ 600) {E : Value → Value → Value → Value → M Value} : ∀ j i k, i + j = l.length → j < k →
    (graph_May_l3 F E k (pt g 0) x24 x25 x26 rv (i64 l.length) (i64 i)).run n h = (E (pt g 0) x24 x25 x26).run n h := by
  have hr : RdI h rv (nats l) := hr.kept f0 k0
  intro j
  induction j with
  | zero =>
    intro i k hij hk
    obtain ⟨k, rfl⟩ : ∃ j, k = j + 1 := ⟨k - 1, by omega⟩
    rw [graph_May_l3_s]
    unfold graph_May_b3 graph_May_r7
    simp only [st_lss, onB_ite, run_ite, decide_eq_true_eq]
    rw [if_neg (by omega)]
  | succ j ih =>
    intro i k hij hk
    obtain ⟨k, rfl⟩ : ∃ j, k = j + 1 := ⟨k - 1, by omega⟩
    have hi : i < l.length := by omega
    rw [graph_May_l3_s]
    unfold graph_May_b3 graph_May_r7
    simp only [st_lss, onB_ite, run_ite, decide_eq_true_eq]
    rw [if_pos (by omega)]
    unfold graph_May_r8
    try dsimp only
    rw [hr.getI (show i < (nats l).length by unfold nats; rw [List.length_map]; exact hi)]
    have e : (nats l)[i]'(by unfold nats; rw [List.length_map]; exact hi) = ((l[i] : Nat) : Int) := by simp [nats]
    rw [e]
    have hb := hl l[i] (List.getElem_mem hi)
    unfold graph_May_r9
    simp only [st_lss, onB_ite, run_ite, decide_eq_true_eq]
    rw [if_neg (by omega), hg.nn, st_geq]
    simp only [onB_ite, run_ite, decide_eq_true_eq]
    rw [if_neg (by omega)]
    unfold graph_May_r11
    try dsimp only
    rw [sx_add (by omega)]
    exact ih (i + 1) k (by omega) (by omega)

theorem may_l1 {F N m : Nat} {tv : Value} {adj : Nat → List Nat} {h : H} {n g : Nat} (hF : 1000 < F) (hg : GB h g N tv) (gr : Gr h m tv N adj) (ok : GOk N adj) {E : M Value} : ∀ j i k, i + j = N → j < k →
    (graph_May_l1 F E k (pt g 0) tv (i64 N) (i64 i)).run n h = E.run n h := by
  have hN := ok.few
  intro j
  induction j with
  | zero =>
    intro i k hij hk
    obtain ⟨k, rfl⟩ : ∃ j, k = j + 1 := ⟨k - 1, by omega⟩
    rw [graph_May_l1_s]
    unfold graph_May_b1 graph_May_r4
    simp only [st_lss, onB_ite, run_ite, decide_eq_true_eq]
    rw [if_neg (by omega)]
  | succ j ih =>
    intro i k hij hk
    obtain ⟨k, rfl⟩ : ∃ j, k = j + 1 := ⟨k - 1, by omega⟩
    have hi : i < N := by omega
    rw [graph_May_l1_s]
    unfold graph_May_b1 graph_May_r4
    simp only [st_lss, onB_ite, run_ite, decide_eq_true_eq]
    rw [if_pos (by omega)]
    unfold graph_May_r5
    try dsimp only
    obtain ⟨rv, e1, h0, f0, k0, hr⟩ := gr.row (β := Value) (n := n) hi
    rw [e1]
    unfold graph_May_r6
    try dsimp only
    have hr' : RdI h rv (nats (adj i)) := hr.kept f0 k0
    have hs := ok.short i hi
    rw [hr'.lenI, show (nats (adj i)).length = (adj i).length by unfold nats; rw [List.length_map], show (Value.int .i64 0) = i64 ((0 : Nat) : Int) from rfl, may_l3 (c := 0) hg f0 k0 hr (ok.lt i hi) hs hN (adj i).length 0 F (by omega) (by omega)]
    unfold graph_May_k2 graph_May_r12
    try dsimp only
    rw [sx_add (by omega)]
    exact ih (i + 1) k (by omega) (by omega)

theorem gmay_spec {F n m N : Nat} {tv : Value} {adj : Nat → List Nat} {h : H} (hF : 1000 < F) (gr : Gr h m tv N adj) (hm : m ≤ n) (ok : GOk N adj) (f : Fr n h) :
    ∃ n' h', (graph_May F (gv N tv)).run n h = some (bo true, n', h') ∧ Ev No n h n' h' := by
  have hN := ok.few
  obtain ⟨h1, e1, g1, ev1⟩ := GB.box (β := Value) (N := N) f gr.1
  have gr1 := gr.no ev1 hm
  refine ⟨n + 1, h1, ?_, ev1⟩
  unfold graph_May graph_May_r0
  try dsimp only
  rw [e1]
  unfold graph_May_r1
  try dsimp only
  rw [g1.nn, st_lss]
  simp only [onB_ite, run_ite, decide_eq_true_eq]
  rw [if_neg (by omega), g1.nn, st_gtr]
  simp only [onB_ite, run_ite, decide_eq_true_eq]
  rw [if_neg (by omega), g1.t, gr1.len, g1.nn, st_neq]
  simp only [onB_ite, run_ite]
  rw [if_neg (by simp)]
  unfold graph_May_r3
  try dsimp only
  rw [g1.t, gr1.len, show (Value.int .i64 0) = i64 ((0 : Nat) : Int) from rfl, may_l1 hF g1 gr1 ok N 0 F (by omega) (by omega)]
  rfl

/-! ## Turn -/

/-- Who leads to b, from the rows below a and from the first i of a's row. -/
def turnL (adj : Nat → List Nat) (a i b : Nat) : List Nat := ((List.range a).flatMap fun c => (adj c).filterMap fun d => if d = b then some c else none) ++ ((adj a).take i).filterMap fun d => if d = b then some a else none

theorem turnL_row {adj : Nat → List Nat} {a i b : Nat} (hi : (adj a).length ≤ i) : turnL adj a i b = turnL adj (a + 1) 0 b := by
  unfold turnL
  rw [List.take_of_length_le hi, List.range_succ, List.flatMap_append]
  simp
theorem turnL_next {adj : Nat → List Nat} {a i b : Nat} (hi : i < (adj a).length) : turnL adj a (i + 1) b = if b = (adj a)[i] then turnL adj a i b ++ [a] else turnL adj a i b := by
  unfold turnL
  rw [List.take_succ_eq_append_getElem hi, List.filterMap_append, ← List.append_assoc]
  by_cases h : b = (adj a)[i]
  · rw [if_pos h]; simp [h]
  · rw [if_neg h]; simp [Ne.symm h]
theorem turnL_len {N : Nat} {adj : Nat → List Nat} (ok : GOk N adj) {b : Nat} : ∀ a i, a ≤ N → (a < N ∨ i = 0) → (turnL adj a i b).length ≤ 1000 * a + 1000 := by
  intro a i ha hi
  unfold turnL
  rw [List.length_append]
  have h1 : ∀ a, a ≤ N → ((List.range a).flatMap fun c => (adj c).filterMap fun d => if d = b then some c else none).length ≤ 1000 * a := by
    intro a
    induction a with
    | zero => intro _; simp
    | succ a ih =>
      intro ha
      rw [List.range_succ, List.flatMap_append, List.length_append]
      have h1 := ih (by omega)
      have h2 := ok.short a (by omega)
      have h3 := List.length_filterMap_le (fun d => if d = b then some a else none) (adj a)
      simp only [List.flatMap_cons, List.flatMap_nil, List.append_nil]
      omega
  have h2 := h1 a ha
  have h3 := List.length_filterMap_le (fun d => if d = b then some a else none) ((adj a).take i)
  rw [List.length_take] at h3
  rcases hi with hi | hi
  · have := ok.short a hi; omega
  · subst hi; omega

/-- The graph with its edges the other way round. -/
def turnA (N : Nat) (adj : Nat → List Nat) (b : Nat) : List Nat := turnL adj N 0 b
theorem turnA_mem {N : Nat} {adj : Nat → List Nat} {a b : Nat} : a ∈ turnA N adj b ↔ a < N ∧ b ∈ adj a := by
  unfold turnA turnL
  simp only [List.take_zero, List.filterMap_nil, List.append_nil, List.mem_flatMap, List.mem_range, List.mem_filterMap]
  constructor
  · rintro ⟨c, hc, d, hd, h⟩
    split at h
    · cases h; rename_i e; subst e; exact ⟨hc, hd⟩
    · cases h
  · rintro ⟨h1, h2⟩
    exact ⟨a, h1, b, h2, by rw [if_pos rfl]⟩

end Go.Fw
