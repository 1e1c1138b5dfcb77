/-
  Graphs: what the functions on these come to, said of the abstract machine.
-/
import Derived.Test.YtmkpboaigdnpnaaDoorLawFA
import Derived.Test.YtmkpboaigdnpnaaDoorFwZ
import Derived.Test.YtmkpboaigdnpnaaDoorFwPath
set_option maxRecDepth 20000
set_option linter.unusedVariables false
namespace Go.Fw


/-! ## Made -/

/-- So many nodes. -/
def nodesOf (n : Int) : Nat := (1 + ((n.tmod 25 + 25).tmod 25)).toNat
theorem nodesOf_eq (n : Int) : 1 + ((n.tmod 25 + 25).tmod 25) = (nodesOf n : Int) ∧ 1 ≤ nodesOf n ∧ nodesOf n ≤ 25 := by
  have h1 := Int.tmod_lt_of_pos n (show (0 : Int) < 25 by decide)
  have h2 := Int.lt_tmod_of_pos n (show (0 : Int) < 25 by decide)
  have h3 := Int.tmod_lt_of_pos (n.tmod 25 + 25) (show (0 : Int) < 25 by decide)
  have h4 := Int.tmod_nonneg 25 (show (0 : Int) ≤ n.tmod 25 + 25 by omega)
  unfold nodesOf
  omega
/-- A number, as it goes round. -/
def wrapN (N : Nat) (z : Int) : Nat := ((z.tmod N + N).tmod N).toNat
theorem wrapN_eq {N : Nat} (hN : 1 ≤ N) (z : Int) : (z.tmod N + N).tmod N = (wrapN N z : Int) ∧ wrapN N z < N := by
  have h1 := Int.tmod_lt_of_pos z (show (0 : Int) < N by omega)
  have h2 := Int.lt_tmod_of_pos z (show (0 : Int) < N by omega)
  have h3 := Int.tmod_lt_of_pos (z.tmod N + N) (show (0 : Int) < N by omega)
  have h4 := Int.tmod_nonneg N (show (0 : Int) ≤ z.tmod N + N by omega)
  unfold wrapN
  omega

/-- The edges of the first i pairs, row by row. -/
def madeL (N : Nat) (Z : Nat → Int) (i a : Nat) : List Nat := (List.range i).filterMap fun j => if wrapN N (Z (2 * j)) = a then some (wrapN N (Z (2 * j + 1))) else none
theorem madeL_succ {N : Nat} {Z : Nat → Int} {i a : Nat} : madeL N Z (i + 1) a = if a = wrapN N (Z (2 * i)) then madeL N Z i a ++ [wrapN N (Z (2 * i + 1))] else madeL N Z i a := by
  unfold madeL
  rw [List.range_succ, List.filterMap_append]
  by_cases h : a = wrapN N (Z (2 * i))
  · rw [if_pos h]; simp [h]
  · rw [if_neg h]; simp [Ne.symm h]
theorem madeL_len {N : Nat} {Z : Nat → Int} {i a : Nat} : (madeL N Z i a).length ≤ i := by
  unfold madeL
  have := List.length_filterMap_le (fun j => if wrapN N (Z (2 * j)) = a then some (wrapN N (Z (2 * j + 1))) else none) (List.range i)
  rwa [List.length_range] at this
theorem madeL_lt {N : Nat} {Z : Nat → Int} {i a b : Nat} (hN : 1 ≤ N) (hb : b ∈ madeL N Z i a) : b < N := by
  unfold madeL at hb
  rw [List.mem_filterMap] at hb
  obtain ⟨j, _, h⟩ := hb
  split at h
  · cases h; exact (wrapN_eq hN _).2
  · cases h

theorem Pairs.get {β : Type} {n : Nat} {h : H} {v : Value} {len : Nat} {Z : Nat → Int} (w : Pairs h v len Z) {i q : Nat} (hi : i < len) (hq : q < 2) {k : Value → M β} :
    (bnd (opIndexAddr 2 v (i64 i)) fun p => bnd (opIndexAddrA 2 1 p (i64 q)) fun r => bnd (opLoad r) k).run n h = (k (i64 (Z (2 * i + q)))).run n h := by
  rcases w with ⟨h0, _⟩ | ⟨b, cap, rfl, g1, g2, g3⟩
  · omega
  · rw [st_ix, if_pos (by omega), Int.toNat_natCast, st_ixA, if_pos (by omega), Int.toNat_natCast, Nat.mul_one, Nat.zero_add]
    rw [ld1 (g3 (by omega)).2 (by decide) (tab_get (show i * 2 + q < cap * 2 by omega)), Nat.mul_comm i 2]

theorem made_l1 {F N g ob lo len : Nat} {v w4 : Value} {Z : Nat → Int} (hZ : ∀ i, Fit (Z i)) (hN : 1 ≤ N ∧ N ≤ 25) (hlo : 8 ≤ lo) {E : Value → Value → M Value} : ∀ j i k n (h : H) (O : Nat → Prop), i + j = min len 80 → j < k → Pairs h v len Z → GB h g N (sl ob 0 N N) → OL h ob N O (fun a => nats (madeL N Z i a)) → ¬ O g → (∀ c, O c → lo ≤ c) → g < n → lo ≤ n → Fr n h →
    ∃ n' h' O', (L5_Made_l1 F E k (i64 N) v w4 (pt g 0) (i64 i)).run n h = (E w4 (pt g 0)).run n' h' ∧ GB h' g N (sl ob 0 N N) ∧ OL h' ob N O' (fun a => nats (madeL N Z (min len 80) a)) ∧ (∀ c, O' c → O c ∨ n ≤ c) ∧ Ev O n h n' h' := by
  intro j
  induction j with
  | zero =>
    intro i k n h O hij hk hp hg hx hO hlO hgn hn f
    obtain ⟨k, rfl⟩ : ∃ j, k = j + 1 := ⟨k - 1, by omega⟩
    obtain rfl : i = min len 80 := by omega
    rw [L5_Made_l1_s]
    unfold L5_Made_b1 L5_Made_r4
    try dsimp only
    rw [hp.len]
    simp only [st_lss, onB_ite, run_ite, decide_eq_true_eq]
    by_cases h1 : ((min len 80 : Nat) : Int) < len
    · rw [if_pos h1, if_neg (by omega)]
      exact ⟨n, h, O, rfl, hg, hx, fun c hc => .inl hc, Ev.refl f⟩
    · rw [if_neg h1, if_neg (by decide)]
      exact ⟨n, h, O, rfl, hg, hx, fun c hc => .inl hc, Ev.refl f⟩
  | succ j ih =>
    intro i k n h O hij hk hp hg hx hO hlO hgn hn f
    obtain ⟨k, rfl⟩ : ∃ j, k = j + 1 := ⟨k - 1, by omega⟩
    have hi : i < len ∧ i < 80 := by omega
    rw [L5_Made_l1_s]
    unfold L5_Made_b1 L5_Made_r4
    try dsimp only
    rw [hp.len]
    simp only [st_lss, onB_ite, run_ite, decide_eq_true_eq]
    rw [if_pos (by omega), if_pos (by omega)]
    unfold L5_Made_r6
    try dsimp only
    obtain ⟨a1, a2⟩ := wrapN_eq hN.1 (Z (2 * i))
    obtain ⟨b1, b2⟩ := wrapN_eq hN.1 (Z (2 * i + 1))
    have r1 := Int.tmod_lt_of_pos (Z (2 * i)) (show (0 : Int) < N by omega)
    have r2 := Int.lt_tmod_of_pos (Z (2 * i)) (show (0 : Int) < N by omega)
    have r3 := Int.tmod_lt_of_pos (Z (2 * i + 1)) (show (0 : Int) < N by omega)
    have r4 := Int.lt_tmod_of_pos (Z (2 * i + 1)) (show (0 : Int) < N by omega)
    rw [show (Value.int .i64 0) = i64 ((0 : Nat) : Int) from rfl, hp.get hi.1 (by decide), Nat.add_zero, st_rem (by omega), sx_add (by omega), st_rem (by omega), a1]
    rw [show (Value.int .i64 1) = i64 ((1 : Nat) : Int) from rfl, hp.get hi.1 (by decide), st_rem (by omega), sx_add (by omega), st_rem (by omega), b1]
    unfold L5_Made_r7
    try dsimp only
    rw [st_field, Nat.zero_add, ld1 hg (by decide) rfl, hg.t]
    have hlen := madeL_len (N := N) (Z := Z) (i := i) (a := wrapN N (Z (2 * i)))
    obtain ⟨h2, h3, a, e2, ev2, e3, x3, ev3⟩ := hx.app (J := wrapN N (Z (2 * i))) (y := 0) (z := (wrapN N (Z (2 * i + 1)) : Int)) f a2 (by unfold nats; rw [List.length_map]; omega)
    rw [show (Value.int .i64 0) = i64 0 from rfl, e2]
    have hg2 := hg.ev ev2 hgn hO
    rw [run_chk (cs := [i64 N, sl ob 0 N N]) hg2 (by decide) rfl (by simp [veq]), e3]
    unfold L5_Made_r5
    try dsimp only
    rw [sx_add (by omega)]
    have el : (fun j => if j = wrapN N (Z (2 * i)) then nats (madeL N Z i j) ++ [(wrapN N (Z (2 * i + 1)) : Int)] else nats (madeL N Z i j)) = fun a => nats (madeL N Z (i + 1) a) := by
      funext j
      rw [madeL_succ]
      split
      · unfold nats; rw [List.map_append]; rfl
      · rfl
    rw [el] at x3
    obtain ⟨n', h', O', q1, q2, q3, q4, q5⟩ := ih (i + 1) k (n + 2) h3 (fun c => O c ∨ c = n + 1) (by omega) (by omega) (hp.keep fun c hc => ev3.keep c (by omega) fun hOc => by have := hlO c hOc; omega) (hg.ev ev3 hgn hO) x3 (fun hq => hq.elim hO fun e => by omega) (fun c hc => hc.elim (hlO c) fun e => by omega) (by omega) (by omega) ev3.f
    refine ⟨n', h', O', q1, q2, q3, fun c hc => ?_, ev3.trans q5 fun c hc hq => hq.elim id fun e => by omega⟩
    rcases q4 c hc with (h1 | h1) | h1
    · exact .inl h1
    · exact .inr (by omega)
    · exact .inr (by omega)

theorem opBuild_gr {N : Nat} {tv : Value} (h1 : one tv = true) : opBuild [i64 0, nsl] [(0, 1, false, i64 N), (1, 1, false, tv)] = ret (gv N tv) := by
  have hN : one (i64 N) = true := rfl
  simp [opBuild, fillA, h1, hN]

theorem run_ptr' {β : Type} {n : Nat} {h : H} {cs : List Value} {k : Value → M β} (f : Fr n h) (h1 : cs.all one = true) : (bnd (opPtr cs) k).run n h = (k (pt n 0)).run (n + 1) (h.set n ⟨cs, .own⟩) := run_ptr f h1

theorem Ev.new {n : Nat} {h : H} (f : Fr n h) (B : Blk) : Ev No n h (n + 1) (h.set n B) := ⟨f.new _, by omega, fun c hc _ => H.get_set_ne _ _ (by omega)⟩

/-- A graph of the call's own: it may be turned, and it may be read. -/
theorem made_spec {F n len : Nat} {v : Value} {z : Int} {Z : Nat → Int} {h : H} (hF : 100 < F) (hn : 8 ≤ n) (hz : Fit z) (hZ : ∀ i, Fit (Z i)) (hp : Pairs h v len Z) (f : Fr n h) :
    ∃ n' h' ob O, (L5_Made F (i64 z) v).run n h = some (gv (nodesOf z) (sl ob 0 (nodesOf z) (nodesOf z)), n', h') ∧ OL h' ob (nodesOf z) O (fun a => nats (madeL (nodesOf z) Z (min len 80) a)) ∧ (∀ c, O c → n ≤ c) ∧ Ev No n h n' h' := by
  obtain ⟨hN, hN1, hN2⟩ := nodesOf_eq z
  have r1 := Int.tmod_lt_of_pos z (show (0 : Int) < 25 by decide)
  have r2 := Int.lt_tmod_of_pos z (show (0 : Int) < 25 by decide)
  have r3 := Int.tmod_lt_of_pos (z.tmod 25 + 25) (show (0 : Int) < 25 by decide)
  have r4 := Int.tmod_nonneg 25 (show (0 : Int) ≤ z.tmod 25 + 25 by omega)
  unfold L5_Made L5_Made_r0
  try dsimp only
  rw [run_ptr f (by rfl)]
  have ev1 := Ev.new f ⟨[i64 0, nsl], .own⟩
  unfold L5_Made_r1
  try dsimp only
  rw [st_rem (by decide), sx_add (by omega), st_rem (by decide), sx_add (by omega), hN]
  generalize hNN : nodesOf z = N at *
  unfold L5_Made_r2
  try dsimp only
  obtain ⟨h2, e2, x2, ev2⟩ := OL.make (β := Value) ev1.f (show N ≤ 100000 by omega)
  rw [e2, show (Value.int .i64 0) = i64 0 from rfl, opBuild_gr rfl, ret_bnd, run_ptr ev2.f (by rfl)]
  have ev3 := Ev.new ev2.f ⟨[i64 0, nsl], .own⟩
  obtain ⟨h4, e4, g4, ev4⟩ := GB.put (β := Value) (N := N) (tv := sl (n + 1) 0 N N) (H.get_set_same h2 (n + 1 + 1) ⟨[i64 0, nsl], .own⟩) rfl ev3.f rfl
  rw [e4]
  unfold L5_Made_r3
  try dsimp only
  have x4 : OL h4 (n + 1) N (fun c => c = n + 1) (fun a => nats (madeL N Z 0 a)) := by
    have e : (fun a => nats (madeL N Z 0 a)) = fun _ => [] := by funext a; rfl
    rw [e]
    exact x2.keep fun c hc => by rw [ev4.keep c (by omega) (by omega), ev3.keep c (by omega) (by intro h; exact h)]
  have hp4 := hp.keep (h' := h4) fun c hc => by rw [ev4.keep c (by omega) (by omega), ev3.no (by omega), ev2.no (by omega), ev1.no (by omega)]
  obtain ⟨n5, h5, O5, e5, g5, x5, o5, ev5⟩ := made_l1 (F := F) (lo := n) (w4 := pt n 0) hZ ⟨hN1, hN2⟩ hn (E := fun x4 x5 => L5_Made_k0 F x4 x5) (min len 80) 0 F (n + 1 + 1 + 1) h4 (fun c => c = n + 1) (by omega) (by omega) hp4 g4 x4 (by omega) (fun c hc => by omega) (by omega) (by omega) ev4.f
  rw [show (Value.int .i64 0) = i64 ((0 : Nat) : Int) from rfl, e5]
  unfold L5_Made_k0 L5_Made_r8
  try dsimp only
  have l5 := ev5.le
  have hret : h5.get n = some ⟨[i64 0, nsl], .own⟩ := by
    rw [ev5.keep n (by omega) (by omega), ev4.keep n (by omega) (by omega), ev3.no (by omega), ev2.no (by omega), H.get_set_same]
  obtain ⟨h6, e6, g6, ev6⟩ := GB.put (β := Value) (N := N) (tv := sl (n + 1) 0 N N) hret rfl ev5.f rfl
  rw [g5.all, e6, g6.all]
  refine ⟨n5, h6, n + 1, O5, rfl, x5.keep fun c hc => ev6.keep c ?_ ?_, fun c hc => ?_, ev6.f, by omega, fun c hc _ => ?_⟩
  · exact x5.lt ev5.f hc
  · have := o5 c hc
    omega
  · rcases o5 c hc with h1 | h1 <;> omega
  · rw [ev6.keep c (by omega) (by omega), ev5.keep c (by omega) (by omega), ev4.keep c (by omega) (by omega), ev3.no (by omega), ev2.no (by omega), ev1.no hc]

/-! ## May -/

/-- A graph that may be: few nodes, edges among them, rows that are not too long. -/
structure GOk (N : Nat) (adj : Nat → List Nat) : Prop where
  few : N ≤ 600
  lt : ∀ a, a < N → ∀ b, b ∈ adj a → b < N
  short : ∀ a, a < N → (adj a).length ≤ 1000

theorem may_l3 {F N m c : Nat} {tv x24 x25 x26 rv : Value} {l : List Nat} {h h0 : H} {n g : Nat} (hg : GB h g N tv) (f0 : Fr m h0) (k0 : ∀ c, c < m → h.get c = h0.get c) (hr : RdI h0 rv (nats l)) (hl : ∀ b, b ∈ l → b < N) (hs : l.length ≤ 1000) (hN : N ≤ 600) {E : Value → Value → Value → Value → M Value} : ∀ j i k, i + j = l.length → j < k →
    (graph_May_l3 F E k (pt g 0) x24 x25 x26 rv (i64 l.length) (i64 i)).run n h = (E (pt g 0) x24 x25 x26).run n h := by
  have hr : RdI h rv (nats l) := hr.kept f0 k0
  intro j
  induction j with
  | zero =>
    intro i k hij hk
    obtain ⟨k, rfl⟩ : ∃ j, k = j + 1 := ⟨k - 1, by omega⟩
    rw [graph_May_l3_s]
    unfold graph_May_b3 graph_May_r7
    simp only [st_lss, onB_ite, run_ite, decide_eq_true_eq]
    rw [if_neg (by omega)]
  | succ j ih =>
    intro i k hij hk
    obtain ⟨k, rfl⟩ : ∃ j, k = j + 1 := ⟨k - 1, by omega⟩
    have hi : i < l.length := by omega
    rw [graph_May_l3_s]
    unfold graph_May_b3 graph_May_r7
    simp only [st_lss, onB_ite, run_ite, decide_eq_true_eq]
    rw [if_pos (by omega)]
    unfold graph_May_r8
    try dsimp only
    rw [hr.getI (show i < (nats l).length by unfold nats; rw [List.length_map]; exact hi)]
    have e : (nats l)[i]'(by unfold nats; rw [List.length_map]; exact hi) = ((l[i] : Nat) : Int) := by simp [nats]
    rw [e]
    have hb := hl l[i] (List.getElem_mem hi)
    unfold graph_May_r9
    simp only [st_lss, onB_ite, run_ite, decide_eq_true_eq]
    rw [if_neg (by omega), hg.nn, st_geq]
    simp only [onB_ite, run_ite, decide_eq_true_eq]
    rw [if_neg (by omega)]
    unfold graph_May_r11
    try dsimp only
    rw [sx_add (by omega)]
    exact ih (i + 1) k (by omega) (by omega)

theorem may_l1 {F N m : Nat} {tv : Value} {adj : Nat → List Nat} {h : H} {n g : Nat} (hF : 1000 < F) (hg : GB h g N tv) (gr : Gr h m tv N adj) (ok : GOk N adj) {E : M Value} : ∀ j i k, i + j = N → j < k →
    (graph_May_l1 F E k (pt g 0) tv (i64 N) (i64 i)).run n h = E.run n h := by
  have hN := ok.few
  intro j
  induction j with
  | zero =>
    intro i k hij hk
    obtain ⟨k, rfl⟩ : ∃ j, k = j + 1 := ⟨k - 1, by omega⟩
    rw [graph_May_l1_s]
    unfold graph_May_b1 graph_May_r4
    simp only [st_lss, onB_ite, run_ite, decide_eq_true_eq]
    rw [if_neg (by omega)]
  | succ j ih =>
    intro i k hij hk
    obtain ⟨k, rfl⟩ : ∃ j, k = j + 1 := ⟨k - 1, by omega⟩
    have hi : i < N := by omega
    rw [graph_May_l1_s]
    unfold graph_May_b1 graph_May_r4
    simp only [st_lss, onB_ite, run_ite, decide_eq_true_eq]
    rw [if_pos (by omega)]
    unfold graph_May_r5
    try dsimp only
    obtain ⟨rv, e1, h0, f0, k0, hr⟩ := gr.row (β := Value) (n := n) hi
    rw [e1]
    unfold graph_May_r6
    try dsimp only
    have hr' : RdI h rv (nats (adj i)) := hr.kept f0 k0
    have hs := ok.short i hi
    rw [hr'.lenI, show (nats (adj i)).length = (adj i).length by unfold nats; rw [List.length_map], show (Value.int .i64 0) = i64 ((0 : Nat) : Int) from rfl, may_l3 (c := 0) hg f0 k0 hr (ok.lt i hi) hs hN (adj i).length 0 F (by omega) (by omega)]
    unfold graph_May_k2 graph_May_r12
    try dsimp only
    rw [sx_add (by omega)]
    exact ih (i + 1) k (by omega) (by omega)

theorem gmay_spec {F n m N : Nat} {tv : Value} {adj : Nat → List Nat} {h : H} (hF : 1000 < F) (gr : Gr h m tv N adj) (hm : m ≤ n) (ok : GOk N adj) (f : Fr n h) :
    ∃ n' h', (graph_May F (gv N tv)).run n h = some (bo true, n', h') ∧ Ev No n h n' h' := by
  have hN := ok.few
  obtain ⟨h1, e1, g1, ev1⟩ := GB.box (β := Value) (N := N) f gr.1
  have gr1 := gr.no ev1 hm
  refine ⟨n + 1, h1, ?_, ev1⟩
  unfold graph_May graph_May_r0
  try dsimp only
  rw [e1]
  unfold graph_May_r1
  try dsimp only
  rw [g1.nn, st_lss]
  simp only [onB_ite, run_ite, decide_eq_true_eq]
  rw [if_neg (by omega), g1.nn, st_gtr]
  simp only [onB_ite, run_ite, decide_eq_true_eq]
  rw [if_neg (by omega), g1.t, gr1.len, g1.nn, st_neq]
  simp only [onB_ite, run_ite]
  rw [if_neg (by simp)]
  unfold graph_May_r3
  try dsimp only
  rw [g1.t, gr1.len, show (Value.int .i64 0) = i64 ((0 : Nat) : Int) from rfl, may_l1 hF g1 gr1 ok N 0 F (by omega) (by omega)]
  rfl

/-! ## Turn -/

/-- Who leads to b, from the rows below a and from the first i of a's row. -/
def turnL (adj : Nat → List Nat) (a i b : Nat) : List Nat := ((List.range a).flatMap fun c => (adj c).filterMap fun d => if d = b then some c else none) ++ ((adj a).take i).filterMap fun d => if d = b then some a else none

theorem turnL_row {adj : Nat → List Nat} {a i b : Nat} (hi : (adj a).length ≤ i) : turnL adj a i b = turnL adj (a + 1) 0 b := by
  unfold turnL
  rw [List.take_of_length_le hi, List.range_succ, List.flatMap_append]
  simp
theorem turnL_next {adj : Nat → List Nat} {a i b : Nat} (hi : i < (adj a).length) : turnL adj a (i + 1) b = if b = (adj a)[i] then turnL adj a i b ++ [a] else turnL adj a i b := by
  unfold turnL
  rw [List.take_succ_eq_append_getElem hi, List.filterMap_append, ← List.append_assoc]
  by_cases h : b = (adj a)[i]
  · rw [if_pos h]; simp [h]
  · rw [if_neg h]; simp [Ne.symm h]
theorem turnL_len {N : Nat} {adj : Nat → List Nat} (ok : GOk N adj) {b : Nat} : ∀ a i, a ≤ N → (a < N ∨ i = 0) → (turnL adj a i b).length ≤ 1000 * a + 1000 := by
  intro a i ha hi
  unfold turnL
  rw [List.length_append]
  have h1 : ∀ a, a ≤ N → ((List.range a).flatMap fun c => (adj c).filterMap fun d => if d = b then some c else none).length ≤ 1000 * a := by
    intro a
    induction a with
    | zero => intro _; simp
    | succ a ih =>
      intro ha
      rw [List.range_succ, List.flatMap_append, List.length_append]
      have h1 := ih (by omega)
      have h2 := ok.short a (by omega)
      have h3 := List.length_filterMap_le (fun d => if d = b then some a else none) (adj a)
      simp only [List.flatMap_cons, List.flatMap_nil, List.append_nil]
      omega
  have h2 := h1 a ha
  have h3 := List.length_filterMap_le (fun d => if d = b then some a else none) ((adj a).take i)
  rw [List.length_take] at h3
  rcases hi with hi | hi
  · have := ok.short a hi; omega
  · subst hi; omega

/-- The graph with its edges the other way round. -/
def turnA (N : Nat) (adj : Nat → List Nat) (b : Nat) : List Nat := turnL adj N 0 b
theorem turnA_mem {N : Nat} {adj : Nat → List Nat} {a b : Nat} : a ∈ turnA N adj b ↔ a < N ∧ b ∈ adj a := by
  unfold turnA turnL
  simp only [List.take_zero, List.filterMap_nil, List.append_nil, List.mem_flatMap, List.mem_range, List.mem_filterMap]
  constructor
  · rintro ⟨c, hc, d, hd, h⟩
    split at h
    · cases h; rename_i e; subst e; exact ⟨hc, hd⟩
    · cases h
  · rintro ⟨h1, h2⟩
    exact ⟨a, h1, b, h2, by rw [if_pos rfl]⟩


theorem turn_l3 {F N m g ob a : Nat} {w2 x19 x20 x21 rv : Value} {adj : Nat → List Nat} (ok : GOk N adj) (ha : a < N) {h0 : H} (f0 : Fr m h0) (hr : RdI h0 rv (nats (adj a))) {E : Value → Value → Value → Value → Value → M Value} : ∀ j i k n (h : H) (O : Nat → Prop), i + j = (adj a).length → j < k → (∀ c, c < m → h.get c = h0.get c) → GB h g N (sl ob 0 N N) → OL h ob N O (fun b => nats (turnL adj a i b)) → ¬ O g → (∀ c, O c → m ≤ c) → g < n → m ≤ n → Fr n h →
    ∃ n' h' O', (graph_Turn_l3 F E k w2 (pt g 0) (i64 a) x19 x20 x21 rv (i64 (adj a).length) (i64 i)).run n h = (E w2 (pt g 0) x19 x20 x21).run n' h' ∧ GB h' g N (sl ob 0 N N) ∧ OL h' ob N O' (fun b => nats (turnL adj (a + 1) 0 b)) ∧ (∀ c, O' c → O c ∨ n ≤ c) ∧ Ev O n h n' h' := by
  have hN := ok.few
  have hs := ok.short a ha
  intro j
  induction j with
  | zero =>
    intro i k n h O hij hk hk0 hg hx hO hlO hgn hn f
    obtain ⟨k, rfl⟩ : ∃ j, k = j + 1 := ⟨k - 1, by omega⟩
    rw [graph_Turn_l3_s]
    unfold graph_Turn_b3 graph_Turn_r8
    simp only [st_lss, onB_ite, run_ite, decide_eq_true_eq]
    rw [if_neg (by omega)]
    have e : (fun b => nats (turnL adj a i b)) = fun b => nats (turnL adj (a + 1) 0 b) := by
      funext b; rw [turnL_row (by omega)]
    rw [e] at hx
    exact ⟨n, h, O, rfl, hg, hx, fun c hc => .inl hc, Ev.refl f⟩
  | succ j ih =>
    intro i k n h O hij hk hk0 hg hx hO hlO hgn hn f
    obtain ⟨k, rfl⟩ : ∃ j, k = j + 1 := ⟨k - 1, by omega⟩
    have hi : i < (adj a).length := by omega
    rw [graph_Turn_l3_s]
    unfold graph_Turn_b3 graph_Turn_r8
    simp only [st_lss, onB_ite, run_ite, decide_eq_true_eq]
    rw [if_pos (by omega)]
    unfold graph_Turn_r9
    try dsimp only
    have hr1 : RdI h rv (nats (adj a)) := hr.kept f0 hk0
    rw [hr1.getI (show i < (nats (adj a)).length by unfold nats; rw [List.length_map]; exact hi)]
    have e : (nats (adj a))[i]'(by unfold nats; rw [List.length_map]; exact hi) = (((adj a)[i] : Nat) : Int) := by simp [nats]
    rw [e]
    have hb := ok.lt a ha (adj a)[i] (List.getElem_mem hi)
    unfold graph_Turn_r10
    try dsimp only
    rw [st_field, Nat.zero_add, ld1 hg (by decide) rfl, hg.t]
    have hlen := turnL_len (b := (adj a)[i]) ok a i (by omega) (.inl ha)
    obtain ⟨h2, h3, q, e2, ev2, e3, x3, ev3⟩ := hx.app (J := (adj a)[i]) (y := 0) (z := (a : Int)) f hb (by unfold nats; rw [List.length_map]; omega)
    rw [show (Value.int .i64 0) = i64 0 from rfl, e2]
    have hg2 := hg.ev ev2 hgn hO
    rw [run_chk (cs := [i64 N, sl ob 0 N N]) hg2 (by decide) rfl (by simp [veq]), e3]
    unfold graph_Turn_r11
    try dsimp only
    rw [sx_add (by omega)]
    have el : (fun b => if b = (adj a)[i] then nats (turnL adj a i b) ++ [(a : Int)] else nats (turnL adj a i b)) = fun b => nats (turnL adj a (i + 1) b) := by
      funext b
      rw [turnL_next hi]
      split
      · unfold nats; rw [List.map_append]; rfl
      · rfl
    rw [el] at x3
    obtain ⟨n', h', O', q1, q2, q3, q4, q5⟩ := ih (i + 1) k (n + 2) h3 (fun c => O c ∨ c = n + 1) (by omega) (by omega) (fun c hc => by rw [ev3.keep c (by omega) fun hOc => by have := hlO c hOc; omega]; exact hk0 c hc) (hg.ev ev3 hgn hO) x3 (fun hq => hq.elim hO fun e => by omega) (fun c hc => hc.elim (hlO c) fun e => by omega) (by omega) (by omega) ev3.f
    refine ⟨n', h', O', q1, q2, q3, fun c hc => ?_, ev3.trans q5 fun c hc hq => hq.elim id fun e => by omega⟩
    rcases q4 c hc with (h1 | h1) | h1
    · exact .inl h1
    · exact .inr (by omega)
    · exact .inr (by omega)

theorem turn_l1 {F N m g ob : Nat} {w2 tv : Value} {adj : Nat → List Nat} (hF : 1000 < F) (ok : GOk N adj) {E : Value → Value → M Value} : ∀ j a k n (h : H) (O : Nat → Prop), a + j = N → j < k → Gr h m tv N adj → GB h g N (sl ob 0 N N) → OL h ob N O (fun b => nats (turnL adj a 0 b)) → ¬ O g → (∀ c, O c → m ≤ c) → g < n → m ≤ n → Fr n h →
    ∃ n' h' O', (graph_Turn_l1 F E k w2 (pt g 0) tv (i64 N) (i64 a)).run n h = (E w2 (pt g 0)).run n' h' ∧ GB h' g N (sl ob 0 N N) ∧ OL h' ob N O' (fun b => nats (turnL adj N 0 b)) ∧ (∀ c, O' c → O c ∨ n ≤ c) ∧ Ev O n h n' h' := by
  have hN := ok.few
  intro j
  induction j with
  | zero =>
    intro a k n h O hij hk gr hg hx hO hlO hgn hn f
    obtain ⟨k, rfl⟩ : ∃ j, k = j + 1 := ⟨k - 1, by omega⟩
    obtain rfl : a = N := by omega
    rw [graph_Turn_l1_s]
    unfold graph_Turn_b1 graph_Turn_r5
    simp only [st_lss, onB_ite, run_ite, decide_eq_true_eq]
    rw [if_neg (by omega)]
    exact ⟨n, h, O, rfl, hg, hx, fun c hc => .inl hc, Ev.refl f⟩
  | succ j ih =>
    intro a k n h O hij hk gr hg hx hO hlO hgn hn f
    obtain ⟨k, rfl⟩ : ∃ j, k = j + 1 := ⟨k - 1, by omega⟩
    have ha : a < N := by omega
    rw [graph_Turn_l1_s]
    unfold graph_Turn_b1 graph_Turn_r5
    simp only [st_lss, onB_ite, run_ite, decide_eq_true_eq]
    rw [if_pos (by omega)]
    unfold graph_Turn_r6
    try dsimp only
    obtain ⟨rv, e1, h0, f0, k0, hr⟩ := gr.row (β := Value) (n := n) ha
    rw [e1]
    unfold graph_Turn_r7
    try dsimp only
    have hr' : RdI h rv (nats (adj a)) := hr.kept f0 k0
    have hs := ok.short a ha
    obtain ⟨n1, h1, O1, e2, g1, x1, o1, ev1⟩ := turn_l3 (F := F) (w2 := w2) (x19 := tv) (x20 := i64 N) (x21 := i64 a) ok ha f0 hr (E := fun x2 x3 x19 x20 x21 => graph_Turn_k2 F (graph_Turn_l1 F E k) x2 x3 x19 x20 x21) (adj a).length 0 F n h O (by omega) (by omega) k0 hg hx hO hlO hgn hn f
    rw [hr'.lenI, show (nats (adj a)).length = (adj a).length by unfold nats; rw [List.length_map], show (Value.int .i64 0) = i64 ((0 : Nat) : Int) from rfl, e2]
    have l1 := ev1.le
    unfold graph_Turn_k2 graph_Turn_r12
    try dsimp only
    rw [sx_add (by omega)]
    have hlO1 : ∀ c, O1 c → m ≤ c := fun c hc => (o1 c hc).elim (hlO c) fun h => by omega
    obtain ⟨n', h', O', q1, q2, q3, q4, q5⟩ := ih (a + 1) k n1 h1 O1 (by omega) (by omega) (gr.ev ev1 hn hlO) g1 x1 (fun hq => (o1 g hq).elim hO fun h => by omega) hlO1 (by omega) (by omega) ev1.f
    refine ⟨n', h', O', q1, q2, q3, fun c hc => ?_, ev1.trans q5 fun c hc hq => (o1 c hq).elim id fun h => by omega⟩
    rcases q4 c hc with h3 | h3
    · exact o1 c h3
    · exact .inr (by omega)

theorem turn_spec {F n m N : Nat} {tv : Value} {adj : Nat → List Nat} {h : H} (hF : 1000 < F) (gr : Gr h m tv N adj) (hm : m ≤ n) (ok : GOk N adj) (f : Fr n h) :
    ∃ n' h' ob O, (graph_Turn F (gv N tv)).run n h = some (gv N (sl ob 0 N N), n', h') ∧ OL h' ob N O (fun b => nats (turnA N adj b)) ∧ (∀ c, O c → n ≤ c) ∧ Ev No n h n' h' := by
  have hN := ok.few
  unfold graph_Turn graph_Turn_r0
  try dsimp only
  obtain ⟨h1, e1, g1, ev1⟩ := GB.box (β := Value) (N := N) f gr.1
  rw [e1, run_ptr ev1.f (by rfl)]
  have ev2 := Ev.new ev1.f ⟨[i64 0, nsl], .own⟩
  have hret : (h1.set (n + 1) ⟨[i64 0, nsl], .own⟩).get (n + 1) = some ⟨[i64 0, nsl], .own⟩ := H.get_set_same _ _ _
  have g2 := g1.ev ev2 (by omega) (fun h => h)
  have gr2 := (gr.no ev1 hm).no ev2 (by omega)
  unfold graph_Turn_r1
  try dsimp only
  obtain ⟨n3, h3, e3, ev3⟩ := gmay_spec (F := F) hF gr2 (by omega) ok ev2.f
  have l3 := ev3.le
  rw [g2.all, run_bnd e3, st_not]
  simp only [onB_ite, run_ite]
  rw [if_neg (by decide)]
  have g3 := g2.ev ev3 (by omega) (fun h => h)
  have gr3 := gr2.no ev3 (by omega)
  have hret3 : h3.get (n + 1) = some ⟨[i64 0, nsl], .own⟩ := by rw [ev3.no (by omega)]; exact hret
  unfold graph_Turn_r3
  try dsimp only
  obtain ⟨h4, e4, x4, ev4⟩ := OL.make (β := Value) ev3.f (show N ≤ 100000 by omega)
  rw [g3.nn, g3.nn, e4, show (Value.int .i64 0) = i64 0 from rfl, opBuild_gr rfl, ret_bnd, run_ptr ev4.f (by rfl)]
  have ev5 := Ev.new ev4.f ⟨[i64 0, nsl], .own⟩
  obtain ⟨h6, e6, g6, ev6⟩ := GB.put (β := Value) (N := N) (tv := sl n3 0 N N) (H.get_set_same h4 (n3 + 1) ⟨[i64 0, nsl], .own⟩) rfl ev5.f rfl
  rw [e6]
  have ev36 : Ev No n3 h3 (n3 + 1 + 1) h6 := (ev4.trans ev5 fun _ _ h => h).trans ev6 fun c hc e => by omega
  have g36 := g3.ev ev36 (by omega) (fun h => h)
  have gr36 := gr3.no ev36 (by omega)
  have hret6 : h6.get (n + 1) = some ⟨[i64 0, nsl], .own⟩ := by rw [ev36.no (by omega)]; exact hret3
  have x6 : OL h6 n3 N (fun c => c = n3) (fun b => nats (turnL adj 0 0 b)) := by
    have e : (fun b => nats (turnL adj 0 0 b)) = fun _ => [] := by funext b; simp [turnL]
    rw [e]
    exact x4.keep fun c hc => by rw [ev6.keep c (by omega) (by omega), ev5.no (by omega)]
  unfold graph_Turn_r4
  try dsimp only
  obtain ⟨n7, h7, O7, e7, g7, x7, o7, ev7⟩ := turn_l1 (F := F) (w2 := pt (n + 1) 0) (tv := tv) hF ok (E := fun x2 x3 => graph_Turn_k0 F x2 x3) N 0 F (n3 + 1 + 1) h6 (fun c => c = n3) (by omega) (by omega) gr36 g6 x6 (by omega) (fun c hc => by omega) (by omega) (by omega) ev6.f
  rw [g36.t, gr36.len, show (Value.int .i64 0) = i64 ((0 : Nat) : Int) from rfl, e7]
  unfold graph_Turn_k0 graph_Turn_r13
  try dsimp only
  have l7 := ev7.le
  have hret7 : h7.get (n + 1) = some ⟨[i64 0, nsl], .own⟩ := by rw [ev7.keep _ (by omega) (by omega)]; exact hret6
  obtain ⟨h8, e8, g8, ev8⟩ := GB.put (β := Value) (N := N) (tv := sl n3 0 N N) hret7 rfl ev7.f rfl
  rw [g7.all, e8, g8.all]
  have o7' : ∀ c, O7 c → n3 ≤ c := fun c hc => (o7 c hc).elim (fun h => by omega) fun h => by omega
  have e : (fun b => nats (turnL adj N 0 b)) = fun b => nats (turnA N adj b) := rfl
  rw [e] at x7
  refine ⟨n7, h8, n3, O7, rfl, x7.keep fun c hc => ev8.keep c (x7.lt ev7.f hc) (by have := o7' c hc; omega), fun c hc => by have := o7' c hc; omega, ev8.f, by omega, fun c hc _ => ?_⟩
  rw [ev8.keep c (by omega) (by omega), ev7.keep c (by omega) (by omega), ev36.no (by omega), ev3.no (by omega), ev2.no (by omega), ev1.no hc]


/-- A search in depth on its way: the set of who is met, the list of who is left; O: their blocks. -/
def DS (h : H) (p : Nat) (v : Value) (O : Nat → Prop) (s : DSt) : Prop :=
  ∃ Os b, BS h p Os s.1 ∧ GlI h v b (nats s.2) ∧ (∀ c, Os c → O c) ∧ (s.2 ≠ [] → O b ∧ ¬ Os b)

theorem DS.keep {h h' : H} {p : Nat} {v : Value} {O : Nat → Prop} {s : DSt} (x : DS h p v O s) (hk : ∀ c, O c → h'.get c = h.get c) : DS h' p v O s := by
  obtain ⟨Os, b, x, g, h1, h2⟩ := x
  exact ⟨Os, b, x.keep fun c hc => hk c (h1 c hc), g.keep fun h0 => hk b (h2 (by rintro e; exact h0 (by rw [e]; rfl))).1, h1, h2⟩

theorem putS_putM {s : Nat → Bool} {a : Nat} : putS s a = putM s a := rfl

theorem DS.add {F n p a : Nat} {h : H} {v : Value} {O : Nat → Prop} {s : DSt} (hF : 100 < F) (x : DS h p v O s) (hOn : ∀ c, O c → c < n) (f : Fr n h) (ha : a < 5000) :
    ∃ n' h' O', (bitset_Set_Add F (pt p 0) (i64 a)).run n h = some (bo (!s.1 a), n', h') ∧ DS h' p v O' (if s.1 a = true then s else (putM s.1 a, s.2)) ∧ (∀ c, O' c → (O c ∨ n ≤ c) ∧ c < n') ∧ Ev O n h n' h' := by
  obtain ⟨Os, b, x, g, h1, h2⟩ := x
  obtain ⟨n', h', Os', e, x', f', l, k, o⟩ := add_spec (F := F) x f (a : Int) hF
  have hc : canAdd s.1 (a : Int) = !s.1 a := by
    have h0 : decide ((0 : Int) ≤ (a : Int) ∧ (a : Int) < 5000) = true := decide_eq_true ⟨by omega, by omega⟩
    unfold canAdd; rw [h0, Bool.true_and]; rfl
  rw [hc] at e x'
  have hb : s.2 ≠ [] → b < n := fun h0 => g.lt f (by intro e; exact h0 (by simpa [nats] using e))
  refine ⟨n', h', fun c => O c ∨ Os' c, e, ⟨Os', b, ?_, ?_, fun c hc => .inr hc, ?_⟩, fun c hc => ⟨hc.elim .inl fun q => (o c q).imp (h1 c) id, hc.elim (fun q => by have := hOn c q; omega) fun q => x'.lt f' c q⟩, f', l, fun c hc hn => k c hc fun q => hn (h1 c q)⟩
  · cases hq : s.1 a with
    | true => rw [hq, Bool.not_true, if_neg (by decide)] at x'; rw [if_pos rfl]; exact x'
    | false => rw [hq, Bool.not_false, if_pos rfl] at x'; rw [if_neg (by decide)]; exact x'
  · have e2 : (if s.1 a = true then s else (putM s.1 a, s.2)).2 = s.2 := by split <;> rfl
    rw [e2]
    exact g.keep fun h0 => by
      have h0' : s.2 ≠ [] := by rintro e; exact h0 (by rw [e]; rfl)
      exact k b (hb h0') (h2 h0').2
  · intro h0
    have e2 : (if s.1 a = true then s else (putM s.1 a, s.2)).2 = s.2 := by split <;> rfl
    rw [e2] at h0
    refine ⟨.inl (h2 h0).1, fun q => ?_⟩
    rcases o b q with q | q
    · exact (h2 h0).2 q
    · have := hb h0; omega

theorem DS.push {n p a : Nat} {h : H} {v : Value} {O : Nat → Prop} {s : DSt} (x : DS h p v O s) (f : Fr n h) (hl : s.2.length < 100000) :
    ∃ h' v', (∀ k : Value → M Value, (bnd (opBuildSlice 1 (rep 1 [i64 0]) [(0, 1, false, i64 (a : Int))]) fun t => bnd (opAppend 1 8 v t) k).run n h = (k v').run (n + 2) h') ∧ DS h' p v' (fun c => O c ∨ c = n + 1) (s.1, s.2 ++ [a]) ∧ Ev O n h (n + 2) h' := by
  obtain ⟨Os, b, x, g, h1, h2⟩ := x
  obtain ⟨h', v', e, g', f', k⟩ := g.pushI (β := Value) (y := 0) (z := (a : Int)) f (by unfold nats; rw [List.length_map]; omega)
  have hk : ∀ c, c < n → ¬ (s.2 ≠ [] ∧ c = b) → h'.get c = h.get c := fun c hc hn => k c hc fun h0 e => hn ⟨by rintro q; exact h0 (by rw [q]; rfl), e⟩
  refine ⟨h', v', e, ⟨Os, n + 1, x.keep fun c hc => hk c (x.lt f c hc) fun q => (h2 q.1).2 (q.2 ▸ hc), by unfold nats; rw [List.map_append]; exact g', fun c hc => .inl (h1 c hc), fun _ => ⟨.inr rfl, fun q => by have := x.lt f _ q; omega⟩⟩, f', by omega, fun c hc hO => hk c hc fun q => hO (q.2 ▸ (h2 q.1).1)⟩

theorem behind_l1 {F m N g a k0 : Nat} {tv rv : Value} {adj : Nat → List Nat} (hF : 1000 < F) (ok : GOk N adj) (ha : a < N) {rec : Value → Value → Value → Value → M Value}
    (ih : ∀ b n (h : H) p v O (s : DSt), b < N → cnt N s.1 < k0 → s.2.length + cnt N s.1 ≤ 1000 → Gr h m tv N adj → DS h p v O s → m ≤ n → (∀ c, O c → m ≤ c ∧ c < n) → Fr n h →
      ∃ n' h' v' O', (rec (gv N tv) (i64 b) (pt p 0) v).run n h = some (v', n', h') ∧ DS h' p v' O' (beh adj k0 b s) ∧ (∀ c, O' c → (O c ∨ n ≤ c) ∧ c < n') ∧ Ev O n h n' h')
    {h0 : H} (f0 : Fr m h0) (hr : RdI h0 rv (nats (adj a))) {E : Value → Value → M Value} : ∀ j i k n (h : H) p v O (s : DSt), i + j = (adj a).length → j < k → cnt N s.1 < k0 → s.2.length + cnt N s.1 ≤ 1000 → (∀ c, c < m → h.get c = h0.get c) → Gr h m tv N adj → GB h g N tv → DS h p v O s → m ≤ n → (∀ c, O c → m ≤ c ∧ c < n) → ¬ O g → g < n → Fr n h →
    ∃ n' h' v' O', (graph_behind_l1 F rec E k (i64 a) (pt p 0) v (pt g 0) rv (i64 (adj a).length) (i64 i)).run n h = (E (i64 a) v').run n' h' ∧ DS h' p v' O' (((adj a).drop i).foldl (fun s b => beh adj k0 b s) s) ∧ (∀ c, O' c → (O c ∨ n ≤ c) ∧ c < n') ∧ Ev O n h n' h' := by
  have hN := ok.few
  have hs := ok.short a ha
  intro j
  induction j with
  | zero =>
    intro i k n h p v O s hij hk hc hsz hk0 gr hg x hm hO hOg hgn f
    obtain ⟨k, rfl⟩ : ∃ j, k = j + 1 := ⟨k - 1, by omega⟩
    rw [graph_behind_l1_s]
    unfold graph_behind_b1 graph_behind_r4
    simp only [st_lss, onB_ite, run_ite, decide_eq_true_eq]
    rw [if_neg (by omega), List.drop_of_length_le (by omega)]
    exact ⟨n, h, v, O, rfl, x, fun c hc => ⟨.inl hc, (hO c hc).2⟩, Ev.refl f⟩
  | succ j ih2 =>
    intro i k n h p v O s hij hk hc hsz hk0 gr hg x hm hO hOg hgn f
    obtain ⟨k, rfl⟩ : ∃ j, k = j + 1 := ⟨k - 1, by omega⟩
    have hi : i < (adj a).length := by omega
    rw [graph_behind_l1_s]
    unfold graph_behind_b1 graph_behind_r4
    simp only [st_lss, onB_ite, run_ite, decide_eq_true_eq]
    rw [if_pos (by omega)]
    unfold graph_behind_r5
    try dsimp only
    have hr1 : RdI h rv (nats (adj a)) := hr.kept f0 hk0
    rw [hr1.getI (show i < (nats (adj a)).length by unfold nats; rw [List.length_map]; exact hi)]
    have e : (nats (adj a))[i]'(by unfold nats; rw [List.length_map]; exact hi) = (((adj a)[i] : Nat) : Int) := by simp [nats]
    rw [e]
    have hb := ok.lt a ha (adj a)[i] (List.getElem_mem hi)
    unfold graph_behind_r6
    try dsimp only
    rw [hg.all]
    obtain ⟨n1, h1, v1, O1, e1, x1, o1, ev1⟩ := ih (adj a)[i] n h p v O s hb hc hsz gr x hm hO f
    rw [run_bnd e1]
    have l1 := ev1.le
    unfold graph_behind_r7
    try dsimp only
    rw [sx_add (by omega)]
    have hmono : cnt N (beh adj k0 (adj a)[i] s).1 ≤ cnt N s.1 := cnt_mono (fun q hq => beh_mono hq) N
    have hsize := (beh_full ok.lt k0 (adj a)[i] s hb hc).size
    obtain ⟨n', h', v', O', q1, q2, q3, q4⟩ := ih2 (i + 1) k n1 h1 p v1 O1 (beh adj k0 (adj a)[i] s) (by omega) (by omega) (by omega) (by omega) (fun c hc => by rw [ev1.keep c (by omega) fun q => by have := (hO c q).1; omega]; exact hk0 c hc) (gr.ev ev1 hm fun c hc => (hO c hc).1) (hg.ev ev1 hgn hOg) x1 (by omega) (fun c hc => ⟨(o1 c hc).1.elim (fun q => (hO c q).1) fun q => by omega, (o1 c hc).2⟩) (fun q => (o1 g q).1.elim hOg fun q => by omega) (by omega) ev1.f
    rw [List.drop_eq_getElem_cons hi, List.foldl_cons]
    refine ⟨n', h', v', O', q1, q2, fun c hc => ⟨(q3 c hc).1.elim (fun q => (o1 c q).1) fun q => .inr (by omega), (q3 c hc).2⟩, ev1.trans q4 fun c hc q => (o1 c q).1.elim id fun q => by omega⟩

theorem behind_spec {F m N : Nat} {tv : Value} {adj : Nat → List Nat} (hF : 1000 < F) (ok : GOk N adj) (h1v : one tv = true) : ∀ k a n (h : H) p v O (s : DSt), a < N → cnt N s.1 < k → s.2.length + cnt N s.1 ≤ 1000 → Gr h m tv N adj → DS h p v O s → m ≤ n → (∀ c, O c → m ≤ c ∧ c < n) → Fr n h →
    ∃ n' h' v' O', (graph_behind F k (gv N tv) (i64 a) (pt p 0) v).run n h = some (v', n', h') ∧ DS h' p v' O' (beh adj k a s) ∧ (∀ c, O' c → (O c ∨ n ≤ c) ∧ c < n') ∧ Ev O n h n' h' := by
  have hN := ok.few
  intro k
  induction k with
  | zero => intro a n h p v O s ha hk; omega
  | succ k ih =>
    intro a n h p v O s ha hk hsz gr x hm hO f
    show ∃ n' h' v' O', (graph_behind_s F (graph_behind F k) (gv N tv) (i64 a) (pt p 0) v).run n h = some (v', n', h') ∧ _
    unfold graph_behind_s graph_behind_r0
    try dsimp only
    obtain ⟨h1, e1, g1, ev1⟩ := GB.box (β := Value) (N := N) f h1v
    rw [e1]
    have gr1 := gr.no ev1 hm
    have x1 := x.keep (h' := h1) fun c hc => ev1.no (hO c hc).2
    unfold graph_behind_r1
    try dsimp only
    obtain ⟨n2, h2, O2, e2, x2, o2, ev2⟩ := x1.add (F := F) (a := a) (by omega) (fun c hc => by have := (hO c hc).2; omega) ev1.f (by omega)
    rw [run_bnd e2, st_not]
    have l2 := ev2.le
    have ev02 : Ev O n h n2 h2 := (ev1.mono fun _ _ h => h.elim).trans ev2 fun _ _ h => h
    simp only [onB_ite, run_ite]
    cases hsa : s.1 a with
    | true =>
      rw [Bool.not_true, Bool.not_false, if_pos rfl]
      unfold graph_behind_r2
      rw [hsa, if_pos rfl] at x2
      have eb : beh adj (k + 1) a s = s := by unfold beh; rw [if_pos hsa]
      rw [eb]
      exact ⟨n2, h2, v, O2, rfl, x2, fun c hc => ⟨(o2 c hc).1.imp id fun q => by omega, (o2 c hc).2⟩, ev02⟩
    | false =>
      rw [Bool.not_false, Bool.not_true, if_neg (by decide)]
      rw [hsa, if_neg (by decide)] at x2
      unfold graph_behind_r3
      try dsimp only
      have hOg : ¬ O n := fun q => by have := (hO n q).2; omega
      have g2 := g1.ev ev2 (by omega) hOg
      have gr2 := gr1.ev ev2 (by omega) fun c hc => (hO c hc).1
      obtain ⟨rv, e3, h0, f0, k0, hr⟩ := gr2.row (β := Value) (n := n2) ha
      have hr' : RdI h2 rv (nats (adj a)) := hr.kept f0 k0
      have hs := ok.short a ha
      rw [g2.t, e3, hr'.lenI, show (nats (adj a)).length = (adj a).length by unfold nats; rw [List.length_map]]
      have hcnt := cnt_put hsa N
      rw [if_pos ha] at hcnt
      obtain ⟨n4, h4, v4, O4, e4, x4, o4, ev4⟩ := behind_l1 (F := F) (g := n) (k0 := k) hF ok ha (rec := graph_behind F k) ih f0 hr (E := fun x1 x3 => graph_behind_k0 F (graph_behind F k) x1 x3) (adj a).length 0 F n2 h2 p v O2 (putM s.1 a, s.2) (by omega) (by omega) (by show cnt N (putM s.1 a) < k; omega) (by show s.2.length + cnt N (putM s.1 a) ≤ 1000; omega) k0 gr2 g2 x2 (by omega) (fun c hc => ⟨(o2 c hc).1.elim (fun q => (hO c q).1) fun q => by omega, (o2 c hc).2⟩) (fun q => (o2 n q).1.elim hOg fun q => by omega) (by omega) ev2.f
      rw [show (Value.int .i64 0) = i64 ((0 : Nat) : Int) from rfl, e4]
      have l4 := ev4.le
      unfold graph_behind_k0 graph_behind_r8
      try dsimp only
      rw [List.drop_zero] at x4
      have hfull := fold_full (adj := adj) (f := fun s b => beh adj k b s) (N := N) (k := k) (fun s b hb hk => beh_full ok.lt k b s hb hk) (adj a) (putM s.1 a, s.2) (ok.lt a ha) (by show cnt N (putM s.1 a) < k; omega)
      have hsz4 := hfull.size
      simp only at hsz4
      obtain ⟨h5, v5, e5, x5, ev5⟩ := x4.push (a := a) ev4.f (by omega)
      rw [show (Value.int .i64 0) = i64 0 from rfl, e5]
      have eb : beh adj (k + 1) a s = (((adj a).foldl (fun s b => beh adj k b s) (putM s.1 a, s.2)).1, ((adj a).foldl (fun s b => beh adj k b s) (putM s.1 a, s.2)).2 ++ [a]) := by
        show (if s.1 a = true then s else _) = _
        rw [if_neg (by rw [hsa]; decide)]
      rw [eb]
      have oo : ∀ c, O4 c → (O c ∨ n ≤ c) ∧ c < n4 := fun c hc => ⟨(o4 c hc).1.elim (fun q => (o2 c q).1.imp id fun q => by omega) fun q => .inr (by omega), (o4 c hc).2⟩
      refine ⟨n4 + 2, h5, v5, _, rfl, x5, fun c hc => ⟨hc.elim (fun q => (oo c q).1) fun q => .inr (by omega), hc.elim (fun q => by have := (oo c q).2; omega) fun q => by omega⟩, (ev02.trans ev4 fun c hc q => (o2 c q).1.elim id fun q => by omega).trans ev5 fun c hc q => (oo c q).1.elim id fun q => by omega⟩


theorem rev_l0 {F b L c : Nat} {u : Nat → Value} (hu : ∀ q, one (u q) = true) (hL : L ≤ 100000) {E : M Value} : ∀ j i k n (h : H), L ≤ 2 * i + j → 2 * i ≤ L + 1 → j < k → h.get b = some ⟨tab L (fun q => if q < i ∨ L ≤ q + i then u (L - 1 - q) else u q), .grow⟩ → Fr n h →
    ∃ h', (slices_Reverse_l0 F E k (sl b 0 L c) (i64 i) (i64 ((L : Int) - 1 - i))).run n h = E.run n h' ∧ h'.get b = some ⟨tab L (fun q => u (L - 1 - q)), .grow⟩ ∧ Ev (fun c => c = b) n h n h' := by
  have stop : ∀ (i k n : Nat) (h : H), ¬ ((i : Int) < (L : Int) - 1 - i) → h.get b = some ⟨tab L (fun q => if q < i ∨ L ≤ q + i then u (L - 1 - q) else u q), .grow⟩ → Fr n h →
      ∃ h', (slices_Reverse_l0 F E (k + 1) (sl b 0 L c) (i64 i) (i64 ((L : Int) - 1 - i))).run n h = E.run n h' ∧ h'.get b = some ⟨tab L (fun q => u (L - 1 - q)), .grow⟩ ∧ Ev (fun c => c = b) n h n h' := by
    intro i k n h hi hb f
    rw [slices_Reverse_l0_s]
    unfold slices_Reverse_b0 slices_Reverse_r1
    simp only [st_lss, onB_ite, run_ite, decide_eq_true_eq]
    rw [if_neg hi]
    refine ⟨h, rfl, ?_, Ev.refl f⟩
    rw [hb]
    have e : tab L (fun q => if q < i ∨ L ≤ q + i then u (L - 1 - q) else u q) = tab L (fun q => u (L - 1 - q)) := tab_ext fun q hq => by
      by_cases h1 : q < i ∨ L ≤ q + i
      · rw [if_pos h1]
      · rw [if_neg h1, show L - 1 - q = q by omega]
    rw [e]
  intro j
  induction j with
  | zero =>
    intro i k n h hij hi2 hk hb f
    obtain ⟨k, rfl⟩ : ∃ j, k = j + 1 := ⟨k - 1, by omega⟩
    exact stop i k n h (by omega) hb f
  | succ j ih =>
    intro i k n h hij hi2 hk hb f
    obtain ⟨k, rfl⟩ : ∃ j, k = j + 1 := ⟨k - 1, by omega⟩
    by_cases hi : (i : Int) < (L : Int) - 1 - i
    · rw [slices_Reverse_l0_s]
      unfold slices_Reverse_b0 slices_Reverse_r1
      simp only [st_lss, onB_ite, run_ite, decide_eq_true_eq]
      rw [if_pos hi]
      unfold slices_Reverse_r3
      try dsimp only
      have ej : (L : Int) - 1 - i = ((L - 1 - i : Nat) : Int) := by omega
      have hbn := f.lt hb
      rw [ej, ix1 (show L - 1 - i < L by omega), Nat.zero_add, ldT hb (by decide) (show L - 1 - i < L by omega), ix1 (show i < L by omega), Nat.zero_add, ldT hb (by decide) (show i < L by omega)]
      try dsimp only
      rw [if_neg (show ¬ (L - 1 - i < i ∨ L ≤ L - 1 - i + i) by omega), if_neg (show ¬ (i < i ∨ L ≤ i + i) by omega), ix1 (show i < L by omega), Nat.zero_add, stT hb (.inr rfl) (hu _) (show i < L by omega), ix1 (show L - 1 - i < L by omega), Nat.zero_add, stT (H.get_set_same _ _ _) (.inr rfl) (hu _) (show L - 1 - i < L by omega)]
      unfold slices_Reverse_r2
      try dsimp only
      rw [sx_add (by omega), sx_sub (by omega)]
      generalize hh2 : (h.set b ⟨tab L (fun i_1 => if i_1 = i then u (L - 1 - i) else if i_1 < i ∨ L ≤ i_1 + i then u (L - 1 - i_1) else u i_1), .grow⟩).set b ⟨tab L (fun i_1 => if i_1 = L - 1 - i then u i else if i_1 = i then u (L - 1 - i) else if i_1 < i ∨ L ≤ i_1 + i then u (L - 1 - i_1) else u i_1), .grow⟩ = h2
      have f2 : Fr n h2 := by rw [← hh2]; exact (f.set _ hbn).set _ hbn
      have hb2 : h2.get b = some ⟨tab L (fun q => if q < i + 1 ∨ L ≤ q + (i + 1) then u (L - 1 - q) else u q), .grow⟩ := by
        rw [← hh2, H.get_set_same]
        have e : tab L (fun i_1 => if i_1 = L - 1 - i then u i else if i_1 = i then u (L - 1 - i) else if i_1 < i ∨ L ≤ i_1 + i then u (L - 1 - i_1) else u i_1) = tab L (fun q => if q < i + 1 ∨ L ≤ q + (i + 1) then u (L - 1 - q) else u q) := tab_ext fun q hq => by
          by_cases h1 : q = L - 1 - i
          · rw [if_pos h1, if_pos (by omega), show L - 1 - q = i by omega]
          · rw [if_neg h1]
            by_cases h2 : q = i
            · rw [if_pos h2, if_pos (by omega), h2]
            · rw [if_neg h2]
              by_cases h3 : q < i ∨ L ≤ q + i
              · rw [if_pos h3, if_pos (by omega)]
              · rw [if_neg h3, if_neg (by omega)]
        rw [e]
      have k2 : ∀ c, c ≠ b → h2.get c = h.get c := fun c hc => by rw [← hh2, H.get_set_ne _ _ hc, H.get_set_ne _ _ hc]
      obtain ⟨h', q1, q2, q3⟩ := ih (i + 1) k n h2 (by omega) (by omega) (by omega) hb2 f2
      have ee : ((L - 1 - i : Nat) : Int) - 1 = (L : Int) - 1 - ((i + 1 : Nat) : Int) := by omega
      rw [ee]
      exact ⟨h', q1, q2, Ev.trans (P := fun c => c = b) ⟨f2, Nat.le_refl _, fun c _ hc => k2 c hc⟩ q3 fun c _ hc => hc⟩
    · exact stop i k n h hi hb f

theorem map_tab {l : List Nat} : (nats l).map i64 = tab l.length fun q => i64 ((l[q]?.getD 0 : Nat) : Int) := by
  apply List.ext_getElem?
  intro i
  by_cases h : i < l.length
  · rw [tab_get h]; simp [nats, h]
  · rw [tab_none (by omega)]; simp [nats]; omega

theorem rev_spec {F n b : Nat} {v : Value} {h : H} {l : List Nat} (hF : 1000000 ≤ F) (hl : l.length ≤ 100000) (h0 : l ≠ []) (g : GlI h v b (nats l)) (f : Fr n h) :
    ∃ h' w, (slices_Reverse F v).run n h = some (w, n, h') ∧ GlI h' v b (nats l.reverse) ∧ Ev (fun c => c = b) n h n h' := by
  rcases g with ⟨g0, _⟩ | ⟨_, rfl, gb⟩
  · exact absurd g0 (by simpa [nats] using h0)
  have hlen : ((nats l).map i64).length = l.length := by simp [nats]
  unfold slices_Reverse slices_Reverse_r0
  try dsimp only
  rw [hlen, st_len, sx_sub (by omega)]
  rw [map_tab] at gb
  obtain ⟨h', e1, gb', ev⟩ := rev_l0 (F := F) (b := b) (L := l.length) (c := U + 1) (u := fun q => i64 ((l[q]?.getD 0 : Nat) : Int)) (fun _ => rfl) hl (E := tupK []) l.length 0 F n h (by omega) (by omega) (by omega) (by
    rw [gb]
    have e : tab l.length (fun q => i64 ((l[q]?.getD 0 : Nat) : Int)) = tab l.length (fun q => if q < 0 ∨ l.length ≤ q + 0 then i64 ((l[l.length - 1 - q]?.getD 0 : Nat) : Int) else i64 ((l[q]?.getD 0 : Nat) : Int)) := tab_ext fun q hq => by rw [if_neg (by omega)]
    rw [e]) f
  refine ⟨h', .tuple #[], ?_, .inr ⟨by simpa [nats] using h0, by simp [nats], ?_⟩, ev⟩
  · rw [show (Value.int .i64 0) = i64 ((0 : Nat) : Int) from rfl]
    have : (l.length : Int) - 1 = (l.length : Int) - 1 - ((0 : Nat) : Int) := by omega
    rw [this]
    exact e1
  · rw [gb', map_tab, List.length_reverse]
    have e : tab l.length (fun q => i64 ((l[l.length - 1 - q]?.getD 0 : Nat) : Int)) = tab l.length fun q => i64 ((l.reverse[q]?.getD 0 : Nat) : Int) := tab_ext fun q hq => by
      rw [List.getElem?_reverse hq]
    rw [e]

/-- The order of a search in depth. -/
def ordL (adj : Nat → List Nat) (F root : Nat) : List Nat := (beh adj F root (fun _ => false, [])).2.reverse

theorem nodup_len {N : Nat} : ∀ {l : List Nat}, l.Nodup → (∀ m, m ∈ l → m < N) → l.length ≤ N := by
  induction N with
  | zero =>
    intro l _ h
    match l with
    | [] => exact Nat.le_refl _
    | a :: l => exact absurd (h a List.mem_cons_self) (Nat.not_lt_zero _)
  | succ N ih =>
    intro l hn hl
    have h1 := ih (l := l.filter (· ≠ N)) (List.Pairwise.filter _ hn) fun m hm => by
      rw [List.mem_filter] at hm
      have := hl m hm.1
      have h2 : m ≠ N := by simpa using hm.2
      omega
    have h2 : l.length ≤ (l.filter (· ≠ N)).length + 1 := by
      clear h1 hl ih
      induction l with
      | nil => simp
      | cons a l ih2 =>
        rw [List.nodup_cons] at hn
        by_cases e : a = N
        · subst e
          rw [List.filter_cons_of_neg (by simp)]
          have : l.filter (fun x => decide (x ≠ a)) = l := by
            rw [List.filter_eq_self]
            intro x hx
            simp only [decide_eq_true_eq]
            rintro rfl; exact hn.1 hx
          rw [this]; simp
        · rw [List.filter_cons_of_pos (by simpa using e), List.length_cons, List.length_cons]
          have := ih2 hn.2; omega
    omega

theorem order_in {F n m N root : Nat} {tv : Value} {adj : Nat → List Nat} {h : H} (hF : 1000000 ≤ F) (gr : Gr h m tv N adj) (hm : m ≤ n) (ok : GOk N adj) (hr : root < N) (f : Fr n h) :
    ∃ n' h' v b, (graph_Order F (gv N tv) (i64 root)).run n h = some (v, n', h') ∧ GlI h' v b (nats (ordL adj F root)) ∧ n ≤ b ∧ Ev No n h n' h' := by
  have hN := ok.few
  have ho := ord_beh (k := F) ok.lt hr (by omega)
  unfold graph_Order graph_Order_r0
  try dsimp only
  obtain ⟨h1, e1, g1, ev1⟩ := GB.box (β := Value) (N := N) f gr.1
  rw [e1]
  have gr1 := gr.no ev1 hm
  unfold graph_Order_r1
  try dsimp only
  obtain ⟨n2, h2, e2, ev2⟩ := gmay_spec (F := F) (by omega) gr1 (by omega) ok ev1.f
  have l2 := ev2.le
  have g2 := g1.ev ev2 (by omega) (fun h => h)
  have gr2 := gr1.no ev2 (by omega)
  rw [g1.all, run_bnd e2, st_not]
  simp only [onB_ite, run_ite]
  rw [if_neg (by decide), st_lss]
  simp only [onB_ite, run_ite, decide_eq_true_eq]
  rw [if_neg (by omega), g2.nn, st_geq]
  simp only [onB_ite, run_ite, decide_eq_true_eq]
  rw [if_neg (by omega)]
  unfold graph_Order_r3
  try dsimp only
  rw [g2.all]
  obtain ⟨e3, x3, f3⟩ := new_set ev2.f (k := fun v22 => bnd (graph_behind F F (gv N tv) (i64 root) v22 (.slice none 0 0)) fun v23 => graph_Order_r4 F v23 fun x5 => graph_Order_r5 F x5 fun x4 => ret x4)
  rw [show (Value.slice none 0 0) = nsl from rfl] at e3 ⊢
  rw [e3]
  have ev3 : Ev No n2 h2 (n2 + 1) (h2.set n2 ⟨[nsl], .own⟩) := Ev.new ev2.f _
  have gr3 := gr2.no ev3 (by omega)
  have hc : cnt N (fun _ => false) ≤ N := by
    unfold cnt
    have := List.length_filter_le (fun m : Nat => !(fun _ => false) m) (List.range N)
    rwa [List.length_range] at this
  obtain ⟨n4, h4, v4, O4, e4, x4, o4, ev4⟩ := behind_spec (F := F) (by omega) ok gr.1 F root (n2 + 1) _ n2 nsl (fun c => c = n2) (fun _ => false, []) hr (by show cnt N (fun _ => false) < F; omega) (by show 0 + cnt N (fun _ => false) ≤ 1000; omega) gr3 ⟨fun c => c = n2, 0, x3, .inl ⟨rfl, rfl⟩, fun c hc => hc, fun h => absurd rfl h⟩ (by omega) (fun c hc => by omega) f3
  rw [run_bnd e4]
  unfold graph_Order_r4
  try dsimp only
  obtain ⟨Os, b, _, g4, hOs, hb⟩ := x4
  have l4 := ev4.le
  have hne : (beh adj F root (fun _ => false, [])).2 ≠ [] := by
    obtain ⟨o', q⟩ := ho.first
    intro e
    rw [e] at q; cases q
  have hb1 := (o4 b (hb hne).1)
  have hlen : (beh adj F root (fun _ => false, [])).2.length ≤ N := by
    have := nodup_len ho.nodup ho.lt
    rwa [List.length_reverse] at this
  obtain ⟨h5, w5, e5, g5, ev5⟩ := rev_spec (F := F) hF (by omega) hne g4 ev4.f
  rw [run_bnd e5]
  unfold graph_Order_r5
  refine ⟨n4, h5, v4, b, rfl, g5, ?_, ev5.f, by omega, fun c hc _ => ?_⟩
  · rcases hb1.1 with h1 | h1 <;> omega
  · rw [ev5.keep c (by omega) (by rcases hb1.1 with h1 | h1 <;> omega), ev4.keep c (by omega) (by omega), ev3.no (by omega), ev2.no (by omega), ev1.no hc]

theorem order_out {F n m N : Nat} {z : Int} {tv : Value} {adj : Nat → List Nat} {h : H} (hF : 1000000 ≤ F) (gr : Gr h m tv N adj) (hm : m ≤ n) (ok : GOk N adj) (hr : z < 0 ∨ (N : Int) ≤ z) (f : Fr n h) :
    ∃ n' h', (graph_Order F (gv N tv) (i64 z)).run n h = some (nsl, n', h') ∧ Ev No n h n' h' := by
  have hN := ok.few
  unfold graph_Order graph_Order_r0
  try dsimp only
  obtain ⟨h1, e1, g1, ev1⟩ := GB.box (β := Value) (N := N) f gr.1
  rw [e1]
  have gr1 := gr.no ev1 hm
  unfold graph_Order_r1
  try dsimp only
  obtain ⟨n2, h2, e2, ev2⟩ := gmay_spec (F := F) (by omega) gr1 (by omega) ok ev1.f
  have l2 := ev2.le
  have g2 := g1.ev ev2 (by omega) (fun h => h)
  rw [g1.all, run_bnd e2, st_not]
  simp only [onB_ite, run_ite]
  rw [if_neg (by decide), st_lss]
  simp only [onB_ite, run_ite, decide_eq_true_eq]
  by_cases h0 : z < 0
  · rw [if_pos h0, if_pos trivial]
    exact ⟨n2, h2, rfl, ev1.trans ev2 fun _ _ h => h⟩
  · rw [if_neg h0, g2.nn, st_geq]
    simp only [onB_ite, run_ite, decide_eq_true_eq]
    rw [if_pos (by omega)]
    exact ⟨n2, h2, rfl, ev1.trans ev2 fun _ _ h => h⟩


section
variable {adj : Nat → List Nat} {N root : Nat} {o : List Nat} {place : Nat → Nat}

theorem dmeet_l1 {F bu bp n : Nat} {h : H} {up : Nat → Int} (P : Pl adj N root o place) (I : Inv adj root o place up) (tu : TI h bu N up) (tp : TI h bp N fun i => (place i : Int)) {E : Value → M Value} : ∀ j k a b, place a + place b ≤ j → j < k → up a ≠ -1 → up b ≠ -1 →
    ∃ m : Nat, (dom_meet_l1 F E k (sl bu 0 N N) (sl bp 0 N N) (i64 a) (i64 b)).run n h = (E (i64 m)).run n h ∧ up m ≠ -1 ∧ Anc up a m ∧ Anc up b m ∧ ∀ d, Dom adj root d a → Dom adj root d b → Dom adj root d m := by
  have stop : ∀ k a, up a ≠ -1 → ∃ m : Nat, (dom_meet_l1 F E (k + 1) (sl bu 0 N N) (sl bp 0 N N) (i64 a) (i64 a)).run n h = (E (i64 m)).run n h ∧ up m ≠ -1 ∧ Anc up a m ∧ Anc up a m ∧ ∀ d, Dom adj root d a → Dom adj root d a → Dom adj root d m := by
    intro k a ha
    rw [dom_meet_l1_s]
    unfold dom_meet_b1 dom_meet_r3
    simp only [st_neq, onB_ite, run_ite]
    rw [if_neg (by simp)]
    exact ⟨a, rfl, ha, .refl, .refl, fun d h _ => h⟩
  intro j
  induction j with
  | zero =>
    intro k a b hj hk ha hb
    obtain ⟨k, rfl⟩ : ∃ j, k = j + 1 := ⟨k - 1, by omega⟩
    have e : a = b := P.inj (I.mem ha) (I.mem hb) (by omega)
    subst e
    exact stop k a ha
  | succ j ih =>
    intro k a b hj hk ha hb
    obtain ⟨k, rfl⟩ : ∃ j, k = j + 1 := ⟨k - 1, by omega⟩
    by_cases e : a = b
    · subst e; exact stop k a ha
    have hao := I.mem ha
    have hbo := I.mem hb
    have haN := P.ord.lt a hao
    have hbN := P.ord.lt b hbo
    have hpl : place a ≠ place b := fun q => e (P.inj hao hbo q)
    rw [dom_meet_l1_s]
    unfold dom_meet_b1 dom_meet_r3
    simp only [st_neq, onB_ite, run_ite]
    rw [if_pos (by rw [bne_iff_ne]; omega)]
    unfold dom_meet_r4
    try dsimp only
    rw [tp.get haN, tp.get hbN, st_gtr]
    simp only [onB_ite, run_ite, decide_eq_true_eq]
    by_cases hlt : place b < place a
    · rw [if_pos (by omega)]
      have har : a ≠ root := by rintro rfl; rw [P.zero] at hlt; omega
      obtain ⟨x, hx⟩ := I.nat ha
      have hd := I.dec a x har hx
      unfold dom_meet_r5
      try dsimp only
      rw [tu.get haN, hx]
      obtain ⟨m, q1, q2, q3, q4, q5⟩ := ih k x b (by omega) (by omega) hd.1 hb
      exact ⟨m, q1, q2, Anc.head hx q3, q4, fun d h1 h2 => q5 d (I.snd a x har hx d h1 (by
        rintro rfl
        have := I.dom_le hb h2
        omega)) h2⟩
    · rw [if_neg (by omega)]
      have hbr : b ≠ root := by
        rintro rfl
        rw [P.zero] at hlt hpl
        omega
      obtain ⟨x, hx⟩ := I.nat hb
      have hd := I.dec b x hbr hx
      unfold dom_meet_r6
      try dsimp only
      rw [tu.get hbN, hx]
      obtain ⟨m, q1, q2, q3, q4, q5⟩ := ih k a x (by omega) (by omega) ha hd.1
      exact ⟨m, q1, q2, q3, Anc.head hx q4, fun d h1 h2 => q5 d h1 (I.snd b x hbr hx d h2 (by
        rintro rfl
        have := I.dom_le ha h1
        omega))⟩

theorem dmeet_spec {F bu bp n : Nat} {h : H} {up : Nat → Int} (hF : 1000000 ≤ F) (hN : N ≤ 600) (P : Pl adj N root o place) (I : Inv adj root o place up) (tu : TI h bu N up) (tp : TI h bp N fun i => (place i : Int)) {a b : Nat} (ha : up a ≠ -1) (hb : up b ≠ -1) :
    ∃ m : Nat, (dom_meet F (sl bu 0 N N) (sl bp 0 N N) (i64 a) (i64 b)).run n h = some (i64 m, n, h) ∧ up m ≠ -1 ∧ Anc up a m ∧ Anc up b m ∧ ∀ d, Dom adj root d a → Dom adj root d b → Dom adj root d m := by
  have hl := nodup_len P.ord.nodup P.ord.lt
  obtain ⟨p1, _⟩ := P.at_ (I.mem ha)
  obtain ⟨p2, _⟩ := P.at_ (I.mem hb)
  obtain ⟨m, q1, q2⟩ := dmeet_l1 (F := F) (n := n) P I tu tp (E := fun x2 => dom_meet_k0 F x2) (place a + place b) F a b (Nat.le_refl _) (by omega) ha hb
  refine ⟨m, ?_, q2⟩
  unfold dom_meet dom_meet_r0 dom_meet_r1
  simp only [st_lss, onB_ite, run_ite, decide_eq_true_eq]
  rw [if_neg (by omega), q1]
  rfl

/-- What the meeting of the first i of those that lead to one comes to. -/
def Acc (adj : Nat → List Nat) (root : Nat) (up : Nat → Int) (row : List Nat) (acc : Int) : Prop :=
  (acc = -1 ∧ ∀ b, b ∈ row → up b = -1) ∨ ∃ m : Nat, acc = (m : Int) ∧ up m ≠ -1 ∧ (∀ b, b ∈ row → up b ≠ -1 → Anc up b m) ∧ ∀ d, (∀ b, b ∈ row → up b ≠ -1 → Dom adj root d b) → Dom adj root d m

theorem up_l5 {F bu bp n : Nat} {h h0 : H} {m : Nat} {up : Nat → Int} {rv x5 x11 x12 x14 x59 x60 x61 : Value} {row : List Nat} (hF : 1000000 ≤ F) (hN : N ≤ 600) (P : Pl adj N root o place) (I : Inv adj root o place up) (tu : TI h bu N up) (tp : TI h bp N fun i => (place i : Int)) (f0 : Fr m h0) (k0 : ∀ c, c < m → h.get c = h0.get c) (hr : RdI h0 rv (nats row)) (hrow : ∀ b, b ∈ row → b < N) (hs : row.length ≤ 700000) {E : Value → Value → Value → Value → Value → Value → Value → Value → Value → Value → M Value} : ∀ j i k acc, i + j = row.length → j < k → Acc adj root up (row.take i) acc →
    ∃ acc', (dom_Up_l5 F E k x5 (sl bu 0 N N) (sl bp 0 N N) x11 x12 x14 (i64 acc) x59 x60 x61 rv (i64 row.length) (i64 i)).run n h = (E x5 (sl bu 0 N N) (sl bp 0 N N) x11 x12 x14 (i64 acc') x59 x60 x61).run n h ∧ Acc adj root up row acc' := by
  have hr : RdI h rv (nats row) := hr.kept f0 k0
  intro j
  induction j with
  | zero =>
    intro i k acc hij hk hacc
    obtain ⟨k, rfl⟩ : ∃ j, k = j + 1 := ⟨k - 1, by omega⟩
    rw [dom_Up_l5_s]
    unfold dom_Up_b5 dom_Up_r25
    simp only [st_lss, onB_ite, run_ite, decide_eq_true_eq]
    rw [if_neg (by omega)]
    rw [List.take_of_length_le (by omega)] at hacc
    exact ⟨acc, rfl, hacc⟩
  | succ j ih =>
    intro i k acc hij hk hacc
    obtain ⟨k, rfl⟩ : ∃ j, k = j + 1 := ⟨k - 1, by omega⟩
    have hi : i < row.length := by omega
    rw [dom_Up_l5_s]
    unfold dom_Up_b5 dom_Up_r25
    simp only [st_lss, onB_ite, run_ite, decide_eq_true_eq]
    rw [if_pos (by omega)]
    unfold dom_Up_r26
    try dsimp only
    rw [hr.getI (show i < (nats row).length by unfold nats; rw [List.length_map]; exact hi)]
    have e : (nats row)[i]'(by unfold nats; rw [List.length_map]; exact hi) = ((row[i] : Nat) : Int) := by simp [nats]
    rw [e]
    have hbN := hrow row[i] (List.getElem_mem hi)
    unfold dom_Up_r27
    try dsimp only
    rw [tu.get hbN, st_geq]
    simp only [onB_ite, run_ite, decide_eq_true_eq]
    have etake : row.take (i + 1) = row.take i ++ [row[i]] := List.take_succ_eq_append_getElem hi
    by_cases hb : up row[i] = -1
    · rw [if_neg (by omega)]
      unfold dom_Up_k6 dom_Up_r29
      try dsimp only
      rw [sx_add (by omega)]
      refine ih (i + 1) k acc (by omega) (by omega) ?_
      rw [etake]
      rcases hacc with ⟨h1, h2⟩ | ⟨m, h1, h2, h3, h4⟩
      · refine .inl ⟨h1, fun b hb' => ?_⟩
        rw [List.mem_append, List.mem_singleton] at hb'
        rcases hb' with hb' | rfl
        · exact h2 b hb'
        · exact hb
      · refine .inr ⟨m, h1, h2, fun b hb' hs => ?_, fun d hd => h4 d fun b hb' => hd b (List.mem_append_left _ hb')⟩
        rw [List.mem_append, List.mem_singleton] at hb'
        rcases hb' with hb' | rfl
        · exact h3 b hb' hs
        · exact absurd hb hs
    · obtain ⟨y, hy⟩ := I.nat hb
      rw [if_pos (by omega)]
      unfold dom_Up_r28
      try dsimp only
      rcases hacc with ⟨h1, h2⟩ | ⟨m, h1, h2, h3, h4⟩
      · subst h1
        have e2 : (dom_meet F (sl bu 0 N N) (sl bp 0 N N) (i64 (-1)) (i64 (row[i] : Nat))).run n h = some (i64 (row[i] : Nat), n, h) := by
          unfold dom_meet dom_meet_r0 dom_meet_r1
          simp only [st_lss, onB_ite, run_ite, decide_eq_true_eq]
          rw [if_pos (by decide)]
          rfl
        rw [run_bnd e2]
        unfold dom_Up_k6 dom_Up_r29
        try dsimp only
        rw [sx_add (by omega)]
        refine ih (i + 1) k _ (by omega) (by omega) ?_
        rw [etake]
        refine .inr ⟨row[i], rfl, hb, fun b hb' hs => ?_, fun d hd => hd _ (by rw [List.mem_append, List.mem_singleton]; exact .inr rfl) hb⟩
        rw [List.mem_append, List.mem_singleton] at hb'
        rcases hb' with hb' | rfl
        · exact absurd (h2 b hb') hs
        · exact .refl
      · subst h1
        obtain ⟨m', q1, q2, q3, q4, q5⟩ := dmeet_spec (F := F) (n := n) hF hN P I tu tp h2 hb
        rw [run_bnd q1]
        unfold dom_Up_k6 dom_Up_r29
        try dsimp only
        rw [sx_add (by omega)]
        refine ih (i + 1) k _ (by omega) (by omega) ?_
        rw [etake]
        refine .inr ⟨m', rfl, q2, fun b hb' hs => ?_, fun d hd => ?_⟩
        · rw [List.mem_append, List.mem_singleton] at hb'
          rcases hb' with hb' | rfl
          · exact (h3 b hb' hs).trans q3
          · exact q4
        · exact q5 d (h4 d fun b hb' hs => hd b (List.mem_append_left _ hb') hs) (hd _ (by rw [List.mem_append, List.mem_singleton]; exact .inr rfl) hb)

theorem Acc.best {up : Nat → Int} (P : Pl adj N root o place) (I : Inv adj root o place up) (ok : GOk N adj) {a : Nat} (ha : a ∈ o) (hr : a ≠ root) (hset : ∀ y, y ∈ o → place y < place a → up y ≠ -1) {acc : Int} (h : Acc adj root up (turnA N adj a) acc) : ∃ m : Nat, acc = (m : Int) ∧ Best adj root up a m := by
  obtain ⟨y, y1, y2, y3⟩ := P.par ha hr
  rcases h with ⟨_, h2⟩ | ⟨m, h1, h2, h3, h4⟩
  · exact absurd (h2 y (turnA_mem.2 ⟨P.ord.lt y y1, y3⟩)) (hset y y1 y2)
  · exact ⟨m, h1, fun b hb e hs => h3 b (turnA_mem.2 ⟨P.ord.lt b (I.mem hs), e⟩) hs, fun d hd => h4 d fun b hb hs => hd b ((P.ord.mem b).1 (I.mem hs)) (turnA_mem.1 hb).2 hs⟩

/-- The state on the way through a pass. -/
structure Pass (adj : Nat → List Nat) (N root : Nat) (o : List Nat) (place : Nat → Nat) (k : Nat) (up0 up : Nat → Int) (t : Nat) (ch : Bool) : Prop where
  inv : Inv adj root o place up
  ck : CK adj place root up k
  cp : ∀ c d, c ∈ o → place c < t → Anc up c d → ¬ RW adj place root d (k + 1) c
  set : ∀ y, y ∈ o → place y < t → up y ≠ -1
  all : k = 0 ∨ ∀ y, y ∈ o → up y ≠ -1
  same : ch = false → up = up0 ∧ ∀ a, a ∈ o → a ≠ root → place a < t → ∃ m : Nat, up a = (m : Int) ∧ Best adj root up a m
  late : N + 1 ≤ k → ch = false

theorem Pass.next {k : Nat} {up0 up : Nat → Int} {ch : Bool} {a m : Nat} (P : Pl adj N root o place) (p : Pass adj N root o place k up0 up (place a) ch) (ha : a ∈ o) (hr : a ≠ root) (B : Best adj root up a m) :
    Pass adj N root o place k up0 (updI up a m) (place a + 1) (ch || up a != (m : Int)) := by
  obtain ⟨i1, i2, i3⟩ := p.inv.next P ha hr p.set B
  obtain ⟨c1, c2⟩ := p.ck.next P p.inv ha hr p.set p.all B p.cp
  have hset : ∀ y, up y ≠ -1 → updI up a m y ≠ -1 := fun y hy => by
    show (if y = a then (m : Int) else up y) ≠ -1
    split
    · omega
    · exact hy
  have hsame : up a = (m : Int) → updI up a m = up := fun e => by
    funext y
    show (if y = a then (m : Int) else up y) = up y
    split
    · rename_i e2; rw [e2, e]
    · rfl
  refine ⟨i1, c1, c2, fun y hy hp => ?_, p.all.imp id fun q y hy => hset y (q y hy), fun hch => ?_, fun hk => ?_⟩
  · by_cases e : y = a
    · show (if y = a then (m : Int) else up y) ≠ -1
      rw [if_pos e]; omega
    · refine hset y (p.set y hy ?_)
      rcases Nat.lt_or_ge (place y) (place a) with h1 | h1
      · exact h1
      · exact absurd (P.inj hy ha (by omega)) e
  · rw [Bool.or_eq_false_iff] at hch
    have e : up a = (m : Int) := by simpa using hch.2
    obtain ⟨e1, e2⟩ := p.same hch.1
    rw [hsame e]
    refine ⟨e1, fun c hc hcr hcp => ?_⟩
    by_cases e3 : c = a
    · subst e3; exact ⟨m, e, B⟩
    · refine e2 c hc hcr ?_
      rcases Nat.lt_or_ge (place c) (place a) with h1 | h1
      · exact h1
      · exact absurd (P.inj hc ha (by omega)) e3
  · have hall : ∀ y, y ∈ o → up y ≠ -1 := p.all.resolve_left (by omega)
    have e := CK.stable P p.inv hk hall ha hr B p.ck
    rw [p.late hk, e]; simp

theorem up_l2 {F m bu bp g k0 ob : Nat} {x59 : Value} {O : Nat → Prop} {up0 : Nat → Int} (hF : 1000000 ≤ F) (ok : GOk N adj) (P : Pl adj N root o place) {x5 : Value} {hg0 : H} (fo : Fr m hg0) (ho : RdI hg0 x59 (nats o.tail)) {E : Value → Value → Value → Value → Value → M Value} : ∀ j i k n (h : H) up ch, i + j + 1 = o.length → j < k → (∀ c, c < m → h.get c = hg0.get c) → OL h ob N O (fun b => nats (turnA N adj b)) → GB h g N (sl ob 0 N N) → TI h bu N up → TI h bp N (fun i => (place i : Int)) → Pass adj N root o place k0 up0 up (i + 1) ch → m ≤ bu → ¬ O bu → g ≠ bu → bp ≠ bu → g < n → bp < n → Fr n h →
    ∃ h' up' ch', (dom_Up_l2 F E k x5 (sl bu 0 N N) (sl bp 0 N N) (pt g 0) (bo ch) x59 (i64 ((o.length : Int) - 1)) (i64 i)).run n h = (E x5 (sl bu 0 N N) (sl bp 0 N N) (pt g 0) (bo ch')).run n h' ∧ TI h' bu N up' ∧ Pass adj N root o place k0 up0 up' o.length ch' ∧ Ev (fun c => c = bu) n h n h' := by
  have hN := ok.few
  have hol := nodup_len P.ord.nodup P.ord.lt
  intro j
  induction j with
  | zero =>
    intro i k n h up ch hij hk hk0 gr hg tu tp p h1 h2 h3 h4 h5 h6 f
    obtain ⟨k, rfl⟩ : ∃ j, k = j + 1 := ⟨k - 1, by omega⟩
    rw [dom_Up_l2_s]
    unfold dom_Up_b2 dom_Up_r21
    simp only [st_lss, onB_ite, run_ite, decide_eq_true_eq]
    rw [if_neg (by omega)]
    rw [show i + 1 = o.length by omega] at p
    exact ⟨h, up, ch, rfl, tu, p, Ev.refl f⟩
  | succ j ih =>
    intro i k n h up ch hij hk hk0 gr hg tu tp p h1 h2 h3 h4 h5 h6 f
    obtain ⟨k, rfl⟩ : ∃ j, k = j + 1 := ⟨k - 1, by omega⟩
    have hi : i + 1 < o.length := by omega
    rw [dom_Up_l2_s]
    unfold dom_Up_b2 dom_Up_r21
    simp only [st_lss, onB_ite, run_ite, decide_eq_true_eq]
    rw [if_pos (by omega)]
    unfold dom_Up_r22
    try dsimp only
    have ho1 : RdI h x59 (nats o.tail) := ho.kept fo hk0
    have hil : i < (nats o.tail).length := by unfold nats; rw [List.length_map, List.length_tail]; omega
    rw [ho1.getI hil]
    have e : (nats o.tail)[i]'hil = ((o[i + 1] : Nat) : Int) := by simp [nats]
    rw [e]
    have ha : o[i + 1] ∈ o := List.getElem_mem hi
    have hpl : place o[i + 1] = i + 1 := P.pl (i + 1) hi
    generalize o[i + 1] = a at *
    have haN := P.ord.lt a ha
    have har : a ≠ root := by rintro rfl; rw [P.zero] at hpl; omega
    unfold dom_Up_r23 dom_Up_r24
    try dsimp only
    obtain ⟨rv, e1, hr'⟩ := gr.row (β := Value) (n := n) haN
    have hs : (turnA N adj a).length ≤ 700000 := by
      have := turnL_len (b := a) ok N 0 (Nat.le_refl _) (.inr rfl)
      unfold turnA; omega
    rw [hg.t, e1, hr'.lenI, show (nats (turnA N adj a)).length = (turnA N adj a).length by unfold nats; rw [List.length_map]]
    obtain ⟨acc, e2, hacc⟩ := up_l5 (F := F) (n := n) (x5 := x5) (x11 := pt g 0) (x12 := bo ch) (x14 := i64 a) (x59 := x59) (x60 := i64 ((o.length : Int) - 1)) (x61 := i64 i) hF hN P p.inv tu tp f (fun _ _ => rfl) hr' (fun b hb => (turnA_mem.1 hb).1) hs (E := fun x5 x6 x7 x11 x12 x14 x15 x59 x60 x61 => dom_Up_k4 F (dom_Up_l2 F E k) x5 x6 x7 x11 x12 x14 x15 x59 x60 x61) (turnA N adj a).length 0 F (-1) (by omega) (by omega) (.inl ⟨rfl, fun b hb => by rw [List.take_zero] at hb; cases hb⟩)
    rw [show (Value.int .i64 0) = i64 ((0 : Nat) : Int) from rfl, e2]
    rw [← hpl] at p
    obtain ⟨q, rfl, B⟩ := hacc.best P p.inv ok ha har p.set
    have pn := p.next P ha har B
    unfold dom_Up_k4 dom_Up_r30
    try dsimp only
    -- the store, whatever the flag
    have fin : ∃ h' up' ch', (dom_Up_r31 F x5 (sl bu 0 N N) (sl bp 0 N N) (pt g 0) (bo (ch || up a != (q : Int))) (i64 a) (i64 q) x59 (i64 ((o.length : Int) - 1)) (i64 i) fun x5 x6 x7 x11 x12 x59 x60 x61 => dom_Up_k3 F (dom_Up_l2 F E k) x5 x6 x7 x11 x12 x59 x60 x61).run n h = (E x5 (sl bu 0 N N) (sl bp 0 N N) (pt g 0) (bo ch')).run n h' ∧ TI h' bu N up' ∧ Pass adj N root o place k0 up0 up' o.length ch' ∧ Ev (fun c => c = bu) n h n h' := by
      unfold dom_Up_r31
      try dsimp only
      obtain ⟨h3', e3, t3, ev3⟩ := TI.set (β := Value) tu f haN (z := (q : Int))
      rw [e3]
      unfold dom_Up_k3 dom_Up_r32
      try dsimp only
      rw [sx_add (by omega)]
      rw [hpl] at pn
      obtain ⟨h', up', ch', r1, r2, r3, r4⟩ := ih (i + 1) k n h3' (updI up a q) (ch || up a != (q : Int)) (by omega) (by omega) (fun c hc => by rw [ev3.keep c (by have := TV.lt tu f; omega) (by omega)]; exact hk0 c hc) (gr.keep fun c hc => ev3.keep c (gr.lt f hc) fun e => h2 (e ▸ hc)) (hg.ev ev3 h5 h3) t3 (tp.ev ev3 h6 h4) pn h1 h2 h3 h4 h5 h6 ev3.f
      exact ⟨h', up', ch', r1, r2, r3, ev3.trans r4 fun _ _ h => h⟩
    simp only [onB_ite, run_ite]
    cases ch with
    | true => rw [if_pos rfl]; exact fin
    | false =>
      rw [if_neg (by decide), tu.get haN, st_neq]
      exact fin

theorem up_l1 {F m bu bp g ob gb : Nat} {O : Nat → Prop} (hF : 1000000 ≤ F) (ok : GOk N adj) (P : Pl adj N root o place) {hg0 : H} (fo : Fr m hg0) (ho : GlI hg0 (sl ob 0 o.length (U + 1)) ob (nats o)) {E : Value → M Value} : ∀ j k0 k n (h : H) up ch, N + 2 ≤ k0 + j → j < k → (∀ c, c < m → h.get c = hg0.get c) → OL h gb N O (fun b => nats (turnA N adj b)) → GB h g N (sl gb 0 N N) → TI h bu N up → TI h bp N (fun i => (place i : Int)) → Inv adj root o place up → CK adj place root up k0 → (k0 = 0 ∨ ∀ y, y ∈ o → up y ≠ -1) → (ch = false → DomT adj root o place up) → (N + 2 ≤ k0 → ch = false) → m ≤ bu → ¬ O bu → g ≠ bu → bp ≠ bu → g < n → bp < n → Fr n h →
    ∃ h' up', (dom_Up_l1 F E k (sl ob 0 o.length (U + 1)) (sl bu 0 N N) (sl bp 0 N N) (pt g 0) (bo ch)).run n h = (E (sl bu 0 N N)).run n h' ∧ TI h' bu N up' ∧ DomT adj root o place up' ∧ Ev (fun c => c = bu) n h n h' := by
  have hN := ok.few
  have hol := nodup_len P.ord.nodup P.ord.lt
  obtain ⟨o', eo⟩ := P.ord.first
  have hpos : 0 < o.length := by rw [eo]; simp
  intro j
  induction j with
  | zero =>
    intro k0 k n h up ch hj hk hk0 gr hg tu tp I c1 hall hd hlate h1 h2 h3 h4 h5 h6 f
    obtain ⟨k, rfl⟩ : ∃ j, k = j + 1 := ⟨k - 1, by omega⟩
    rw [dom_Up_l1_s]
    unfold dom_Up_b1 dom_Up_r18
    try dsimp only
    have := hlate (by omega)
    subst this
    simp only [onB_ite, run_ite]
    rw [if_neg (by decide)]
    exact ⟨h, up, rfl, tu, hd rfl, Ev.refl f⟩
  | succ j ih =>
    intro k0 k n h up ch hj hk hk0 gr hg tu tp I c1 hall hd hlate h1 h2 h3 h4 h5 h6 f
    obtain ⟨k, rfl⟩ : ∃ j, k = j + 1 := ⟨k - 1, by omega⟩
    rw [dom_Up_l1_s]
    unfold dom_Up_b1 dom_Up_r18
    simp only [onB_ite, run_ite]
    cases ch with
    | false =>
      rw [if_neg (by decide)]
      exact ⟨h, up, rfl, tu, hd rfl, Ev.refl f⟩
    | true =>
      rw [if_pos rfl]
      unfold dom_Up_r19 dom_Up_r20
      try dsimp only
      have es : opSlice 1 (sl ob 0 o.length (U + 1)) (some (.int .i64 1)) none none = ret (sl ob 1 (o.length - 1) (U + 1)) := by
        show (if (0 : Int) ≤ 1 ∧ (1 : Int) ≤ (o.length : Int) then (if (o.length : Int) ≤ (o.length : Int) then (if U + 1 = U + 1 then ret (sl ob (0 + (1 : Int).toNat * 1) ((o.length : Int) - 1).toNat (U + 1)) else _) else fail) else fail) = _
        rw [if_pos (by omega), if_pos (by omega), if_pos rfl, show ((o.length : Int) - 1).toNat = o.length - 1 by omega]
        rfl
      rw [es, ret_bnd, st_len, show ((o.length - 1 : Nat) : Int) = (o.length : Int) - 1 by omega]
      have hot : RdI hg0 (sl ob 1 (o.length - 1) (U + 1)) (nats o.tail) := by
        rcases ho with ⟨g0, _⟩ | ⟨_, _, g1⟩
        · rw [eo] at g0; simp [nats] at g0
        · refine .inr ⟨ob, 1, U + 1, .grow, by simp [nats], fun _ => ⟨_, g1, by decide, fun i hi => ?_⟩⟩
          have e : (nats o).map i64 = i64 (root : Int) :: (nats o.tail).map i64 := by rw [eo]; rfl
          rw [e, show 1 + i = i + 1 by omega, List.getElem?_cons_succ]
      have p0 : Pass adj N root o place k0 up up (0 + 1) false := by
        refine ⟨I, c1, fun c d hc hp h hw => ?_, fun y hy hp => ?_, hall, fun _ => ⟨rfl, fun a ha har hp => ?_⟩, fun _ => rfl⟩
        · have e : c = root := P.inj hc P.mem_root (by rw [P.zero]; omega)
          subst e
          have := I.anc_root h
          subst this
          exact hw.ne rfl
        · have e : y = root := P.inj hy P.mem_root (by rw [P.zero]; omega)
          subst e
          rw [I.rt]; omega
        · have := P.pos ha har
          omega
      obtain ⟨h', up', ch', r1, r2, r3, r4⟩ := up_l2 (F := F) (m := m) (x59 := sl ob 1 (o.length - 1) (U + 1)) (x5 := sl ob 0 o.length (U + 1)) hF ok P fo hot (E := fun x5 x6 x7 x11 x12 => dom_Up_l1 F E k x5 x6 x7 x11 x12) (o.length - 1) 0 F n h up false (by omega) (by omega) hk0 gr hg tu tp p0 h1 h2 h3 h4 h5 h6 f
      rw [show (Value.int .i64 0) = i64 ((0 : Nat) : Int) from rfl, show (Value.bool false) = bo false from rfl, r1]
      have plt : ∀ y, y ∈ o → place y < o.length := fun y hy => (P.at_ hy).1
      obtain ⟨h'', up'', s1, s2, s3, s4⟩ := ih (k0 + 1) k n h' up' ch' (by omega) (by omega) (fun c hc => by rw [r4.keep c (by have := TV.lt tu f; omega) (by omega)]; exact hk0 c hc) (gr.keep fun c hc => r4.keep c (gr.lt f hc) fun e => h2 (e ▸ hc)) (hg.ev r4 h5 h3) r2 (tp.ev r4 h6 h4) r3.inv (fun c d hc h => r3.cp c d (r3.inv.mem hc) (plt c (r3.inv.mem hc)) h) (.inr fun y hy => r3.set y hy (plt y hy)) (fun e => by
        obtain ⟨e1, e2⟩ := r3.same e
        exact DomT.fix P r3.inv (fun y hy => r3.set y hy (plt y hy)) fun a ha har => e2 a ha har (plt a ha)) (fun e => r3.late (by omega)) h1 h2 h3 h4 h5 h6 r4.f
      exact ⟨h'', up'', s1, s2, s3, r4.trans s4 fun _ _ h => h⟩
end


section
variable {adj : Nat → List Nat} {N root : Nat} {o : List Nat}

theorem up_l10 {F bu : Nat} {x1 x2 x5 x7 : Value} (hN : N ≤ 600) {E : Value → Value → Value → Value → Value → M Value} : ∀ j i k n (h : H) u, i + j = N → j < k → TI h bu N u → (∀ q, q < i → u q = -1) → Fr n h →
    ∃ h' u', (dom_Up_l10 F E k x1 x2 x5 (sl bu 0 N N) x7 (i64 N) (i64 i)).run n h = (E x1 x2 x5 (sl bu 0 N N) x7).run n h' ∧ TI h' bu N u' ∧ (∀ q, q < N → u' q = -1) ∧ Ev (fun c => c = bu) n h n h' := by
  intro j
  induction j with
  | zero =>
    intro i k n h u hij hk t hu f
    obtain ⟨k, rfl⟩ : ∃ j, k = j + 1 := ⟨k - 1, by omega⟩
    rw [dom_Up_l10_s]
    unfold dom_Up_b10 dom_Up_r6
    simp only [st_lss, onB_ite, run_ite, decide_eq_true_eq]
    rw [if_neg (by omega)]
    exact ⟨h, u, rfl, t, fun q hq => hu q (by omega), Ev.refl f⟩
  | succ j ih =>
    intro i k n h u hij hk t hu f
    obtain ⟨k, rfl⟩ : ∃ j, k = j + 1 := ⟨k - 1, by omega⟩
    rw [dom_Up_l10_s]
    unfold dom_Up_b10 dom_Up_r6
    simp only [st_lss, onB_ite, run_ite, decide_eq_true_eq]
    rw [if_pos (by omega)]
    unfold dom_Up_r7 dom_Up_r8
    try dsimp only
    obtain ⟨h1, e1, t1, ev1⟩ := TI.set (β := Value) t f (show i < N by omega) (z := -1)
    rw [e1]
    unfold dom_Up_r9
    try dsimp only
    rw [sx_add (by omega)]
    obtain ⟨h', u', q1, q2, q3, q4⟩ := ih (i + 1) k n h1 (upd u i (-1)) (by omega) (by omega) t1 (fun q hq => by
      unfold upd
      split
      · rfl
      · exact hu q (by omega)) ev1.f
    exact ⟨h', u', q1, q2, q3, ev1.trans q4 fun _ _ h => h⟩

theorem up_l8 {F bp m : Nat} {x1 x2 x6 v : Value} (hl : o.length ≤ 600) (hlt : ∀ a, a ∈ o → a < N) (hn : o.Nodup) {h0 : H} (f0 : Fr m h0) (ho : RdI h0 v (nats o)) (hm : m ≤ bp) {E : Value → Value → Value → Value → Value → M Value} : ∀ j i k n (h : H) (pf : Nat → Nat), i + j = o.length → j < k → (∀ c, c < m → h.get c = h0.get c) → TI h bp N (fun q => (pf q : Int)) → (∀ q (hq : q < o.length), q < i → pf o[q] = q) → Fr n h →
    ∃ h' pf', (dom_Up_l8 F E k x1 x2 v x6 (sl bp 0 N N) v (i64 o.length) (i64 i)).run n h = (E x1 x2 v x6 (sl bp 0 N N)).run n h' ∧ TI h' bp N (fun q => ((pf' : Nat → Nat) q : Int)) ∧ (∀ q (hq : q < o.length), pf' o[q] = q) ∧ Ev (fun c => c = bp) n h n h' := by
  intro j
  induction j with
  | zero =>
    intro i k n h pf hij hk hk0 t hp f
    obtain ⟨k, rfl⟩ : ∃ j, k = j + 1 := ⟨k - 1, by omega⟩
    rw [dom_Up_l8_s]
    unfold dom_Up_b8 dom_Up_r11
    simp only [st_lss, onB_ite, run_ite, decide_eq_true_eq]
    rw [if_neg (by omega)]
    exact ⟨h, pf, rfl, t, fun q hq => hp q hq (by omega), Ev.refl f⟩
  | succ j ih =>
    intro i k n h pf hij hk hk0 t hp f
    obtain ⟨k, rfl⟩ : ∃ j, k = j + 1 := ⟨k - 1, by omega⟩
    have hi : i < o.length := by omega
    rw [dom_Up_l8_s]
    unfold dom_Up_b8 dom_Up_r11
    simp only [st_lss, onB_ite, run_ite, decide_eq_true_eq]
    rw [if_pos (by omega)]
    unfold dom_Up_r12
    try dsimp only
    have ho1 : RdI h v (nats o) := ho.kept f0 hk0
    have hil : i < (nats o).length := by unfold nats; rw [List.length_map]; exact hi
    rw [ho1.getI hil]
    have e : (nats o)[i]'hil = ((o[i] : Nat) : Int) := by simp [nats]
    rw [e]
    unfold dom_Up_r13
    try dsimp only
    obtain ⟨h1, e1, t1, ev1⟩ := TI.set (β := Value) t f (hlt o[i] (List.getElem_mem hi)) (z := (i : Int))
    rw [e1]
    unfold dom_Up_r14
    try dsimp only
    rw [sx_add (by omega)]
    have et : (upd (fun q => (pf q : Int)) o[i] (i : Int)) = fun q => ((upd pf o[i] i q : Nat) : Int) := by
      funext q; unfold upd; split <;> rfl
    rw [et] at t1
    obtain ⟨h', pf', q1, q2, q3, q4⟩ := ih (i + 1) k n h1 (upd pf o[i] i) (by omega) (by omega) (fun c hc => by rw [ev1.keep c (by have := t.lt f; omega) (by omega)]; exact hk0 c hc) t1 (fun q hq hqi => by
      unfold upd
      by_cases e : q = i
      · subst e; rw [if_pos rfl]
      · rw [if_neg (List.pairwise_iff_getElem.1 hn q i hq hi (by omega))]
        exact hp q hq (by omega)) ev1.f
    exact ⟨h', pf', q1, q2, q3, ev1.trans q4 fun _ _ h => h⟩
end

theorem inv_start {adj : Nat → List Nat} {root : Nat} {o : List Nat} {place : Nat → Nat} (hr : root ∈ o) : Inv adj root o place (updI (fun _ => -1) root (root : Int)) := by
  have hval : ∀ a, updI (fun _ => -1) root (root : Int) a = if a = root then (root : Int) else -1 := fun a => rfl
  refine ⟨by rw [hval, if_pos rfl], fun a => ?_, fun a b ha hb => ?_, fun a b ha hb => ?_⟩
  · rw [hval]
    by_cases e : a = root
    · rw [if_pos e]; exact .inr ⟨e ▸ hr, root, rfl⟩
    · rw [if_neg e]; exact .inl rfl
  · rw [hval, if_neg ha] at hb; omega
  · rw [hval, if_neg ha] at hb; omega

theorem up_in {F n m N root : Nat} {tv : Value} {adj : Nat → List Nat} {h : H} (hF : 1000000 ≤ F) (gr : Gr h m tv N adj) (hm : m ≤ n) (ok : GOk N adj) (hr : root < N) (f : Fr n h) :
    ∃ n' h' bu up o place, (dom_Up F (gv N tv) (i64 root)).run n h = some (sl bu 0 N N, n', h') ∧ TI h' bu N up ∧ Pl adj N root o place ∧ DomT adj root o place up ∧ n ≤ bu ∧ Ev No n h n' h' := by
  have hN := ok.few
  have ho := ord_beh (k := F) ok.lt hr (by omega)
  unfold dom_Up dom_Up_r0
  try dsimp only
  obtain ⟨h1, e1, g1, ev1⟩ := GB.box (β := Value) (N := N) f gr.1
  rw [e1]
  have gr1 := gr.no ev1 hm
  unfold dom_Up_r1
  try dsimp only
  obtain ⟨n2, h2, v2, b2, e2, o2, lb2, ev2⟩ := order_in (F := F) hF gr1 (by omega) ok hr ev1.f
  have l2 := ev2.le
  have hoe : (beh adj F root (fun _ => false, [])).2.reverse = ordL adj F root := rfl
  rw [hoe] at ho
  generalize ordL adj F root = o at *
  have hol := nodup_len ho.nodup ho.lt
  obtain ⟨o', eo⟩ := ho.first
  have hpos : 0 < o.length := by rw [eo]; simp
  have g2 := g1.ev ev2 (by omega) (fun h => h)
  have gr2 := gr1.no ev2 (by omega)
  have hv2 : v2 = sl b2 0 o.length (U + 1) := by
    rcases o2 with ⟨g0, _⟩ | ⟨_, e, _⟩
    · rw [eo] at g0; simp [nats] at g0
    · rw [e]; simp [nats]
  have rd2 : RdI h2 v2 (nats o) := o2.rd
  unfold dom_Up_r2
  try dsimp only
  rw [g1.all, run_bnd e2, rd2.lenI, show (nats o).length = o.length by unfold nats; rw [List.length_map], st_eql]
  simp only [onB_ite, run_ite, beq_iff_eq]
  rw [if_neg (by omega)]
  unfold dom_Up_r4
  try dsimp only
  rw [g2.nn, g2.nn]
  obtain ⟨h3, e3, t3, ev3⟩ := TI.make (β := Value) (bytes := 8) (z := 0) ev2.f (show N ≤ 100000 by omega) (by decide)
  rw [show (Value.int .i64 0) = i64 0 from rfl, e3]
  obtain ⟨h4, e4, t4, ev4⟩ := TI.make (β := Value) (bytes := 8) (z := 0) ev3.f (show N ≤ 100000 by omega) (by decide)
  rw [e4]
  have t3 := t3.ev ev4 (by omega) (fun h => h)
  have ev24 : Ev No n2 h2 (n2 + 1 + 1) h4 := ev3.trans ev4 fun _ _ h => h
  unfold dom_Up_r5
  try dsimp only
  rw [st_len]
  obtain ⟨h5, u5, e5, t5, u5e, ev5⟩ := up_l10 (F := F) (bu := n2) (x1 := i64 root) (x2 := pt n 0) (x5 := v2) (x7 := sl (n2 + 1) 0 N N) hN (E := fun x1 x2 x5 x6 x7 => dom_Up_k9 F x1 x2 x5 x6 x7) N 0 F (n2 + 1 + 1) h4 _ (by omega) (by omega) t3 (fun q hq => by omega) ev4.f
  rw [show (Value.int .i64 0) = i64 ((0 : Nat) : Int) from rfl, e5]
  have t4 := t4.ev ev5 (by omega) (by omega)
  have ev25 : Ev No n2 h2 (n2 + 1 + 1) h5 := ev24.trans ev5 fun c hc q => by omega
  unfold dom_Up_k9 dom_Up_r10
  try dsimp only
  rw [(rd2.kept ev2.f fun c hc => ev25.no hc : RdI h5 v2 (nats o)).lenI, show (nats o).length = o.length by unfold nats; rw [List.length_map]]
  obtain ⟨h6, pf, e6, t6, pfe, ev6⟩ := up_l8 (F := F) (bp := n2 + 1) (m := n2) (N := N) (x1 := i64 root) (x2 := pt n 0) (x6 := sl n2 0 N N) (v := v2) (by omega) ho.lt ho.nodup ev2.f rd2 (by omega) (E := fun x1 x2 x5 x6 x7 => dom_Up_k7 F x1 x2 x5 x6 x7) o.length 0 F (n2 + 1 + 1) h5 (fun _ => 0) (by omega) (by omega) (fun c hc => ev25.no hc) t4 (fun q hq h => by omega) ev5.f
  rw [show (Value.int .i64 0) = i64 ((0 : Nat) : Int) from rfl, e6]
  have t5 := t5.ev ev6 (by omega) (by omega)
  have ev26 : Ev No n2 h2 (n2 + 1 + 1) h6 := ev25.trans ev6 fun c hc q => by omega
  have g6 := g2.ev ev26 (by omega) (fun h => h)
  have gr6 := gr2.no ev26 (by omega)
  have P : Pl adj N root o pf := ⟨ho, pfe⟩
  unfold dom_Up_k7 dom_Up_r15
  try dsimp only
  obtain ⟨n7, h7, ob7, O7, e7, x7, o7, ev7⟩ := turn_spec (F := F) (by omega) gr6 (by omega) ok ev6.f
  have l7 := ev7.le
  rw [g6.all, run_bnd e7, run_ptr ev7.f (by rfl)]
  have ev8 := Ev.new ev7.f ⟨[i64 0, nsl], .own⟩
  obtain ⟨h9, e9, g9, ev9⟩ := GB.put (β := Value) (N := N) (tv := sl ob7 0 N N) (H.get_set_same h7 n7 ⟨[i64 0, nsl], .own⟩) rfl ev8.f rfl
  rw [show (Value.int .i64 0) = i64 0 from rfl, show (Value.slice none 0 0) = nsl from rfl, e9]
  have ev79 : Ev No n7 h7 (n7 + 1) h9 := ev8.trans ev9 fun c hc q => by omega
  have ev69 : Ev No (n2 + 1 + 1) h6 (n7 + 1) h9 := ev7.trans ev79 fun _ _ h => h
  have t5 := t5.ev ev69 (by omega) (fun h => h)
  have t6 := t6.ev ev69 (by omega) (fun h => h)
  have x9 : OL h9 ob7 N O7 (fun b => nats (turnA N adj b)) := x7.keep fun c hc => ev79.no (x7.lt ev7.f hc)
  unfold dom_Up_r16
  try dsimp only
  obtain ⟨h10, e10, t10, ev10⟩ := TI.set (β := Value) t5 ev9.f hr (z := (root : Int))
  rw [e10]
  have t10' : TI h10 n2 N (updI (fun _ => -1) root (root : Int)) := by
    have e : tab N (fun i => i64 (upd u5 root (root : Int) i)) = tab N fun i => i64 (updI (fun _ => -1) root (root : Int) i) := tab_ext fun q hq => by
      unfold upd
      show i64 (if q = root then (root : Int) else u5 q) = i64 (if q = root then (root : Int) else -1)
      rw [u5e q hq]
    unfold TI TV at t10 ⊢
    rw [t10, e]
  -- the second boundary: everything ahead of n7 but the table is kept
  unfold dom_Up_r17
  try dsimp only
  have ev2t : Ev No n2 h2 (n7 + 1) h10 := (ev26.trans ev69 fun _ _ h => h).trans ev10 fun c hc q => by omega
  have hbu : ¬ O7 n2 := fun q => by have := o7 n2 q; omega
  have x10 : OL h10 ob7 N O7 (fun b => nats (turnA N adj b)) := x9.keep fun c hc => ev10.keep c (x9.lt ev9.f hc) fun e => hbu (e ▸ hc)
  have t6 := t6.ev ev10 (by omega) (by omega)
  have g10 := g9.ev ev10 (by omega) (by omega)
  rw [hv2] at o2 ⊢
  obtain ⟨h11, up, e11, t11, D, ev11⟩ := up_l1 (F := F) (m := n2) (bu := n2) (bp := n2 + 1) (g := n7) (ob := b2) (gb := ob7) (O := O7) hF ok P ev2.f o2 (E := fun x6 => dom_Up_k0 F x6) (N + 2) 0 F (n7 + 1) h10 _ true (by omega) (by omega) (fun c hc => ev2t.no hc) x10 g10 t10' t6 (inv_start P.mem_root) (fun a d _ _ h => h.none) (.inl rfl) (fun h => by cases h) (fun h => by omega) (Nat.le_refl _) hbu (by omega) (by omega) (by omega) (by omega) ev10.f
  rw [show (Value.bool true) = bo true from rfl, e11]
  refine ⟨n7 + 1, h11, n2, up, o, pf, rfl, t11, P, D, by omega, ev11.f, by omega, fun c hc _ => ?_⟩
  rw [ev11.keep c (by omega) (by omega), ev2t.no (by omega), ev2.no (by omega), ev1.no hc]

theorem up_out {F n m N : Nat} {z : Int} {tv : Value} {adj : Nat → List Nat} {h : H} (hF : 1000000 ≤ F) (gr : Gr h m tv N adj) (hm : m ≤ n) (ok : GOk N adj) (hr : z < 0 ∨ (N : Int) ≤ z) (f : Fr n h) :
    ∃ n' h', (dom_Up F (gv N tv) (i64 z)).run n h = some (nsl, n', h') ∧ Ev No n h n' h' := by
  unfold dom_Up dom_Up_r0
  try dsimp only
  obtain ⟨h1, e1, g1, ev1⟩ := GB.box (β := Value) (N := N) f gr.1
  rw [e1]
  have gr1 := gr.no ev1 hm
  unfold dom_Up_r1
  try dsimp only
  obtain ⟨n2, h2, e2, ev2⟩ := order_out (F := F) hF gr1 (by omega) ok hr ev1.f
  rw [g1.all, run_bnd e2]
  unfold dom_Up_r2
  try dsimp only
  rw [st_len, st_eql]
  simp only [onB_ite, run_ite]
  rw [if_pos (by decide)]
  exact ⟨n2, h2, rfl, ev1.trans ev2 fun _ _ h => h⟩


abbrev GqI (h : H) (v : Value) (b : Nat) (l : List Nat) : Prop := Gq h v b ((nats l).map i64)

theorem allN {l : List Nat} : ((nats l).map i64).all one = true := allI

theorem Gq.pushN {n b a : Nat} {h : H} {v : Value} {y : Int} {l : List Nat} (g : GqI h v b l) (f : Fr n h) (hl : l.length < 100000000) :
    ∃ h' v', (∀ k : Value → M Value, (bnd (opBuildSlice 1 (rep 1 [i64 y]) [(0, 1, false, i64 (a : Int))]) fun t => bnd (opAppend 1 8 v t) k).run n h = (k v').run (n + 2) h') ∧ GqI h' v' (n + 1) (l ++ [a]) ∧ Fr (n + 2) h' ∧ ∀ c, c < n → (v ≠ nsl → c ≠ b) → h'.get c = h.get c := by
  obtain ⟨h', v', e, g', f', k⟩ := Gq.push (y := i64 y) (x := i64 (a : Int)) g f rfl allN (by simpa [nats] using hl)
  exact ⟨h', v', e, by unfold GqI nats; rw [List.map_append, List.map_append]; exact g', f', k⟩

/-- The state on the way: the table of who is seen, the list of who waits; lo: where the call's own blocks begin. -/
structure Rs (h : H) (lo bs N : Nat) (v : Value) (seen : Nat → Bool) (l : List Nat) : Prop where
  tab : TB h bs N seen
  low : lo ≤ bs
  que : ∃ b, GqI h v b l ∧ (v ≠ nsl → lo ≤ b ∧ b ≠ bs)

theorem Rs.len {β : Type} {h : H} {lo bs N : Nat} {v : Value} {seen : Nat → Bool} {l : List Nat} (x : Rs h lo bs N v seen l) {k : Value → M β} : bnd (opLen v) k = k (i64 l.length) := by
  obtain ⟨b, g, _⟩ := x.que
  have : RdI h v (nats l) := g.rd
  rw [this.lenI, show (nats l).length = l.length by unfold nats; rw [List.length_map]]

theorem Rs.mark {h : H} {n lo bs N a : Nat} {v : Value} {seen : Nat → Bool} {l : List Nat} (x : Rs h lo bs N v seen l) (f : Fr n h) (ha : a < N) (hlo : lo ≤ n) (hl : l.length < 100000) :
    ∃ h1 h2 v', (∀ k : Value → M Value, (bnd (opIndexAddr 1 (sl bs 0 N N) (i64 a)) fun p => bnd (opStore p (bo true)) k).run n h = (k undef).run n h1) ∧
      (∀ k : Value → M Value, (bnd (opBuildSlice 1 (rep 1 [i64 0]) [(0, 1, false, i64 (a : Int))]) fun t => bnd (opAppend 1 8 v t) k).run n h1 = (k v').run (n + 2) h2) ∧ Rs h2 lo bs N v' (upd seen a true) (l ++ [a]) ∧ Ev (fun c => lo ≤ c) n h (n + 2) h2 := by
  obtain ⟨b, g, hb⟩ := x.que
  obtain ⟨h1, e1, t1, ev1⟩ := TB.set (β := Value) x.tab f ha (z := true)
  have hbs := TV.lt x.tab f
  have g1 : GqI h1 v b l := by
    rcases g with g | g
    · exact .inl g
    · have hv : v ≠ nsl := by obtain ⟨o, xs, kd, c, rfl, _⟩ := g; intro e; cases e
      exact Gq.keep (.inr g) fun hs => ev1.keep b (by
        rcases Nat.lt_or_ge b n with h3 | h3
        · exact h3
        · rw [f b h3] at hs; cases hs) (hb hv).2
  obtain ⟨h2, v', e2, g2, f2, k2⟩ := g1.pushN (a := a) (y := 0) ev1.f (by omega)
  have low := x.low
  refine ⟨h1, h2, v', e1, e2, ⟨t1.keep (k2 bs hbs fun hv => (hb hv).2.symm), x.low, n + 1, g2, fun _ => ⟨by omega, by omega⟩⟩, f2, by omega, fun c hc hlo' => ?_⟩
  rw [k2 c hc fun hv => by have := (hb hv).1; omega, ev1.keep c hc (by omega)]

/-- The rest of the fields: the graph is read, the marks hold. -/
theorem reach_l2 {F N m lo bs a : Nat} {tv : Value} {w : Int} {adj : Nat → List Nat} {st : Nat → Prop} (ok : GOk N adj) (ha : a < N) (hlo : m ≤ lo) {E : Value → Value → Value → Value → M Value} : ∀ j i k n (h : H) v (seen : Nat → Bool) (l : List Nat), i + j = (adj a).length → j < k → Gr h m tv N adj → Rs h lo bs N v seen l → Bf adj N st w seen l (fun x => x = a) → RchS adj st w a → l.length + cnt N seen ≤ 2000 → (∀ q, q ∈ (adj a).take i → (q : Int) ≠ w → seen q = true) → lo ≤ n → Fr n h →
    ∃ n' h' v' seen' l', (R1_Reach_l2 F E k tv (i64 w) (sl bs 0 N N) v (i64 a) (i64 i)).run n h = (E tv (i64 w) (sl bs 0 N N) v').run n' h' ∧ Rs h' lo bs N v' seen' l' ∧ Bf adj N st w seen' l' (fun _ => False) ∧ l'.length + cnt N seen' ≤ l.length + cnt N seen ∧ (∀ q, seen q = true → seen' q = true) ∧ Ev (fun c => lo ≤ c) n h n' h' := by
  have hN := ok.few
  have hs := ok.short a ha
  intro j
  induction j with
  | zero =>
    intro i k n h v seen l hij hk gr x B hra hsz hdone hn f
    obtain ⟨k, rfl⟩ : ∃ j, k = j + 1 := ⟨k - 1, by omega⟩
    obtain ⟨rv, e1, h0, f0, k0, hr⟩ := gr.row (β := Value) (n := n) ha
    have hr' : RdI h rv (nats (adj a)) := hr.kept f0 k0
    rw [R1_Reach_l2_s]
    unfold R1_Reach_b2 R1_Reach_r14
    try dsimp only
    rw [e1, hr'.lenI, show (nats (adj a)).length = (adj a).length by unfold nats; rw [List.length_map], st_lss]
    simp only [onB_ite, run_ite, decide_eq_true_eq]
    rw [if_neg (by omega)]
    rw [List.take_of_length_le (by omega)] at hdone
    refine ⟨n, h, v, seen, l, rfl, x, ⟨B.snd, B.q, fun m hm => ?_⟩, Nat.le_refl _, fun _ h => h, Ev.refl f⟩
    rcases B.cl m hm with h1 | h1 | h1
    · exact .inl h1
    · subst h1; exact .inr (.inr hdone)
    · exact .inr (.inr h1)
  | succ j ih =>
    intro i k n h v seen l hij hk gr x B hra hsz hdone hn f
    obtain ⟨k, rfl⟩ : ∃ j, k = j + 1 := ⟨k - 1, by omega⟩
    have hi : i < (adj a).length := by omega
    obtain ⟨rv, e1, h0, f0, k0, hr⟩ := gr.row (β := Value) (n := n) ha
    have hr' : RdI h rv (nats (adj a)) := hr.kept f0 k0
    rw [R1_Reach_l2_s]
    unfold R1_Reach_b2 R1_Reach_r14
    try dsimp only
    rw [e1, hr'.lenI, show (nats (adj a)).length = (adj a).length by unfold nats; rw [List.length_map], st_lss]
    simp only [onB_ite, run_ite, decide_eq_true_eq]
    rw [if_pos (by omega)]
    unfold R1_Reach_r16
    try dsimp only
    have hil : i < (nats (adj a)).length := by unfold nats; rw [List.length_map]; exact hi
    rw [e1, hr'.getI hil]
    have e : (nats (adj a))[i]'hil = (((adj a)[i] : Nat) : Int) := by simp [nats]
    rw [e]
    have hmem : (adj a)[i] ∈ adj a := List.getElem_mem hi
    have hbN := ok.lt a ha (adj a)[i] hmem
    have etake : (adj a).take (i + 1) = (adj a).take i ++ [(adj a)[i]] := List.take_succ_eq_append_getElem hi
    unfold R1_Reach_r17
    try dsimp only
    rw [x.tab.get hbN, st_not]
    simp only [onB_ite, run_ite]
    have skip : (seen (adj a)[i] = true ∨ (((adj a)[i] : Nat) : Int) = w) → ∃ n' h' v' seen' l', (R1_Reach_k3 F (R1_Reach_l2 F E k) tv (i64 w) (sl bs 0 N N) v (i64 a) (i64 i)).run n h = (E tv (i64 w) (sl bs 0 N N) v').run n' h' ∧ Rs h' lo bs N v' seen' l' ∧ Bf adj N st w seen' l' (fun _ => False) ∧ l'.length + cnt N seen' ≤ l.length + cnt N seen ∧ (∀ q, seen q = true → seen' q = true) ∧ Ev (fun c => lo ≤ c) n h n' h' := fun hc => by
      unfold R1_Reach_k3 R1_Reach_r15
      try dsimp only
      rw [sx_add (by omega)]
      refine ih (i + 1) k n h v seen l (by omega) (by omega) gr x B hra hsz (fun q hq hw => ?_) hn f
      rw [etake, List.mem_append, List.mem_singleton] at hq
      rcases hq with hq | rfl
      · exact hdone q hq hw
      · exact hc.resolve_right hw
    by_cases hseen : seen (adj a)[i] = true
    · rw [hseen, Bool.not_true, if_neg (by decide), if_neg (by decide)]
      exact skip (.inl hseen)
    · have hseen' : seen (adj a)[i] = false := by simpa using hseen
      rw [hseen', Bool.not_false, if_pos rfl, st_neq]
      simp only [onB_ite, run_ite]
      by_cases hw : (((adj a)[i] : Nat) : Int) = w
      · rw [if_neg (by rw [bne_iff_ne]; omega)]
        exact skip (.inr hw)
      · rw [if_pos (by rw [bne_iff_ne]; exact hw)]
        unfold R1_Reach_r18
        try dsimp only
        have hcnt := Bf.cnt hbN hseen'
        obtain ⟨h1, h2, v2, q1, q2, x2, ev2⟩ := x.mark f hbN hn (by omega)
        rw [q1]
        unfold R1_Reach_r19
        try dsimp only
        rw [show (Value.int .i64 0) = i64 0 from rfl, q2]
        unfold R1_Reach_k3 R1_Reach_r15
        try dsimp only
        rw [sx_add (by omega)]
        have B2 := B.mark (.step hra hmem hw) hbN
        have hmono : ∀ q, seen q = true → upd seen (adj a)[i] true q = true := fun q hq => by
          unfold upd; split
          · rfl
          · exact hq
        obtain ⟨n', h', v', seen', l', r1, r2, r3, r4, r5, r6⟩ := ih (i + 1) k (n + 2) h2 v2 (upd seen (adj a)[i] true) (l ++ [(adj a)[i]]) (by omega) (by omega) (gr.ev ev2 (by omega) fun c hc => by omega) x2 B2 hra (by rw [List.length_append, List.length_singleton]; omega) (fun q hq hw => by
          rw [etake, List.mem_append, List.mem_singleton] at hq
          rcases hq with hq | rfl
          · exact hmono q (hdone q hq hw)
          · exact upd_same) (by omega) ev2.f
        rw [List.length_append, List.length_singleton] at r4
        exact ⟨n', h', v', seen', l', r1, r2, r3, by omega, fun q hq => r5 q (hmono q hq), ev2.trans r6 fun _ _ h => h⟩

theorem reach_l1 {F N m lo bs : Nat} {tv : Value} {w : Int} {adj : Nat → List Nat} {st : Nat → Prop} (hF : 1000000 ≤ F) (ok : GOk N adj) (hlo : m ≤ lo) {E : Value → M Value} : ∀ j k n (h : H) v (seen : Nat → Bool) (l : List Nat), l.length + cnt N seen ≤ j → j < k → j ≤ 2000 → Gr h m tv N adj → Rs h lo bs N v seen l → Bf adj N st w seen l (fun _ => False) → (∀ q, st q → (q : Int) ≠ w → seen q = true) → lo ≤ n → Fr n h →
    ∃ n' h' seen', (R1_Reach_l1 F E k tv (i64 w) (sl bs 0 N N) v).run n h = (E (sl bs 0 N N)).run n' h' ∧ TB h' bs N seen' ∧ (∀ q, seen' q = true ↔ RchS adj st w q) ∧ Ev (fun c => lo ≤ c) n h n' h' := by
  have fin : ∀ k n (h : H) v (seen : Nat → Bool), Rs h lo bs N v seen [] → Bf adj N st w seen [] (fun _ => False) → (∀ q, st q → (q : Int) ≠ w → seen q = true) → Fr n h →
      ∃ n' h' seen', (R1_Reach_l1 F E (k + 1) tv (i64 w) (sl bs 0 N N) v).run n h = (E (sl bs 0 N N)).run n' h' ∧ TB h' bs N seen' ∧ (∀ q, seen' q = true ↔ RchS adj st w q) ∧ Ev (fun c => lo ≤ c) n h n' h' := by
    intro k n h v seen x B hst f
    rw [R1_Reach_l1_s]
    unfold R1_Reach_b1 R1_Reach_r10
    try dsimp only
    rw [x.len, st_gtr]
    simp only [onB_ite, run_ite, decide_eq_true_eq]
    rw [if_neg (by decide)]
    exact ⟨n, h, seen, rfl, x.tab, B.done hst, Ev.refl f⟩
  intro j
  induction j with
  | zero =>
    intro k n h v seen l hj hk hj2 gr x B hst hn f
    obtain ⟨k, rfl⟩ : ∃ j, k = j + 1 := ⟨k - 1, by omega⟩
    have : l = [] := List.eq_nil_of_length_eq_zero (by omega)
    subst this
    exact fin k n h v seen x B hst f
  | succ j ih =>
    intro k n h v seen l hj hk hj2 gr x B hst hn f
    obtain ⟨k, rfl⟩ : ∃ j, k = j + 1 := ⟨k - 1, by omega⟩
    match l with
    | [] => exact fin k n h v seen x B hst f
    | a :: l =>
      have hsa := B.q a List.mem_cons_self
      obtain ⟨hra, haN⟩ := B.snd a hsa
      rw [R1_Reach_l1_s]
      unfold R1_Reach_b1 R1_Reach_r10
      try dsimp only
      rw [x.len, st_gtr]
      simp only [onB_ite, run_ite, decide_eq_true_eq]
      rw [if_pos (by rw [List.length_cons]; omega)]
      obtain ⟨b, g, hb⟩ := x.que
      have rd : RdI h v (nats (a :: l)) := g.rd
      unfold R1_Reach_r11
      try dsimp only
      rw [show (Value.int .i64 0) = i64 ((0 : Nat) : Int) from rfl, rd.getI (i := 0) (by simp [nats])]
      have e0 : (nats (a :: l))[0]'(by simp [nats]) = (a : Int) := rfl
      rw [e0]
      unfold R1_Reach_r12
      try dsimp only
      have g' : Gq h v b (i64 (a : Int) :: (nats l).map i64) := g
      obtain ⟨v', e1, g1⟩ := g'.tail (β := Value)
      rw [e1]
      have x1 : Rs h lo bs N v' seen l := ⟨x.tab, x.low, b, g1, fun hv' => hb (by
        rintro rfl
        rcases g' with ⟨q, _⟩ | ⟨_, _, _, _, q, _⟩ <;> cases q)⟩
      have B1 : Bf adj N st w seen l (fun x => x = a) := ⟨B.snd, fun m hm => B.q m (List.mem_cons_of_mem _ hm), fun m hm => by
        rcases B.cl m hm with h | h | h
        · rcases List.mem_cons.1 h with h | h
          · exact .inr (.inl h)
          · exact .inl h
        · exact h.elim
        · exact .inr (.inr h)⟩
      unfold R1_Reach_r13
      try dsimp only
      rw [List.length_cons] at hj
      have hs := ok.short a haN
      obtain ⟨n2, h2, v2, seen2, l2, q1, q2, q3, q4, q5, q6⟩ := reach_l2 (F := F) (bs := bs) (lo := lo) (w := w) (st := st) ok haN hlo (E := fun x0 x2 x7 x8 => R1_Reach_l1 F E k x0 x2 x7 x8) (adj a).length 0 F n h v' seen l (by omega) (by omega) gr x1 B1 hra (by omega) (fun q hq _ => by rw [List.take_zero] at hq; cases hq) hn f
      rw [show (Value.int .i64 0) = i64 ((0 : Nat) : Int) from rfl, q1]
      obtain ⟨n', h', seen', r1, r2, r3, r4⟩ := ih k n2 h2 v2 seen2 l2 (by omega) (by omega) (by omega) (gr.ev q6 (by omega) fun c hc => by omega) q2 q3 (fun q hq hw => q5 q (hst q hq hw)) (by have := q6.le; omega) q6.f
      exact ⟨n', h', seen', r1, r2, r3, q6.trans r4 fun _ _ h => h⟩

/-- Who is among those to begin with. -/
def stOf (N : Nat) (zs : List Int) (q : Nat) : Prop := q < N ∧ (q : Int) ∈ zs

theorem reach_l5 {F N m lo bs : Nat} {tv fv : Value} {w : Int} {adj : Nat → List Nat} {zs : List Int} {hf : H} {mf : Nat} (ff : Fr mf hf) (hfv : RdI hf fv zs) (hmf : mf ≤ lo) (hz : zs.length ≤ 1000) (hN : N ≤ 600) (hlo : m ≤ lo) {E : Value → Value → Value → Value → M Value} : ∀ j i k n (h : H) v (seen : Nat → Bool) (l : List Nat), i + j = zs.length → j < k → (∀ c, c < mf → h.get c = hf.get c) → Gr h m tv N adj → Rs h lo bs N v seen l → Bf adj N (stOf N zs) w seen l (fun _ => False) → l.length + cnt N seen ≤ 2000 → (∀ q, q < N → (q : Int) ∈ zs.take i → (q : Int) ≠ w → seen q = true) → lo ≤ n → Fr n h →
    ∃ n' h' v' seen' l', (R1_Reach_l5 F E k tv fv (i64 w) (sl bs 0 N N) v (i64 i)).run n h = (E tv (i64 w) (sl bs 0 N N) v').run n' h' ∧ Rs h' lo bs N v' seen' l' ∧ Bf adj N (stOf N zs) w seen' l' (fun _ => False) ∧ l'.length + cnt N seen' ≤ l.length + cnt N seen ∧ (∀ q, stOf N zs q → (q : Int) ≠ w → seen' q = true) ∧ Ev (fun c => lo ≤ c) n h n' h' := by
  intro j
  induction j with
  | zero =>
    intro i k n h v seen l hij hk hkf gr x B hsz hdone hn f
    obtain ⟨k, rfl⟩ : ∃ j, k = j + 1 := ⟨k - 1, by omega⟩
    rw [R1_Reach_l5_s]
    unfold R1_Reach_b5 R1_Reach_r4
    try dsimp only
    rw [(hfv.kept ff hkf : RdI h fv zs).lenI, st_lss]
    simp only [onB_ite, run_ite, decide_eq_true_eq]
    rw [if_neg (by omega)]
    rw [List.take_of_length_le (by omega)] at hdone
    exact ⟨n, h, v, seen, l, rfl, x, B, Nat.le_refl _, fun q hq hw => hdone q hq.1 hq.2 hw, Ev.refl f⟩
  | succ j ih =>
    intro i k n h v seen l hij hk hkf gr x B hsz hdone hn f
    obtain ⟨k, rfl⟩ : ∃ j, k = j + 1 := ⟨k - 1, by omega⟩
    have hi : i < zs.length := by omega
    have rf : RdI h fv zs := hfv.kept ff hkf
    rw [R1_Reach_l5_s]
    unfold R1_Reach_b5 R1_Reach_r4
    try dsimp only
    rw [rf.lenI, st_lss]
    simp only [onB_ite, run_ite, decide_eq_true_eq]
    rw [if_pos (by omega)]
    unfold R1_Reach_r6
    try dsimp only
    rw [rf.getI hi]
    have etake : zs.take (i + 1) = zs.take i ++ [zs[i]] := List.take_succ_eq_append_getElem hi
    have skip : (∀ q, q < N → (q : Int) = zs[i] → (q : Int) ≠ w → seen q = true) → ∃ n' h' v' seen' l', (R1_Reach_k6 F (R1_Reach_l5 F E k) tv fv (i64 w) (sl bs 0 N N) v (i64 i)).run n h = (E tv (i64 w) (sl bs 0 N N) v').run n' h' ∧ Rs h' lo bs N v' seen' l' ∧ Bf adj N (stOf N zs) w seen' l' (fun _ => False) ∧ l'.length + cnt N seen' ≤ l.length + cnt N seen ∧ (∀ q, stOf N zs q → (q : Int) ≠ w → seen' q = true) ∧ Ev (fun c => lo ≤ c) n h n' h' := fun hc => by
      unfold R1_Reach_k6 R1_Reach_r5
      try dsimp only
      rw [sx_add (by omega)]
      refine ih (i + 1) k n h v seen l (by omega) (by omega) hkf gr x B hsz (fun q hqN hq hw => ?_) hn f
      rw [etake, List.mem_append, List.mem_singleton] at hq
      rcases hq with hq | hq
      · exact hdone q hqN hq hw
      · exact hc q hqN hq hw
    unfold R1_Reach_r7
    try dsimp only
    rw [st_geq]
    simp only [onB_ite, run_ite, decide_eq_true_eq]
    by_cases h1 : 0 ≤ zs[i]
    · rw [if_pos h1, gr.len, st_lss]
      simp only [onB_ite, run_ite, decide_eq_true_eq]
      by_cases h2 : zs[i] < (N : Int)
      · rw [if_pos h2]
        obtain ⟨a, ha⟩ : ∃ a : Nat, zs[i] = (a : Int) := ⟨zs[i].toNat, by omega⟩
        rw [ha] at h2 ⊢
        have haN : a < N := by omega
        rw [x.tab.get haN, st_not]
        simp only [onB_ite, run_ite]
        by_cases hseen : seen a = true
        · rw [hseen, Bool.not_true, if_neg (by decide), if_neg (by decide)]
          exact skip fun q hq e hw => by
            have : q = a := by omega
            subst this; exact hseen
        · have hseen' : seen a = false := by simpa using hseen
          rw [hseen', Bool.not_false, if_pos rfl, st_neq]
          simp only [onB_ite, run_ite]
          by_cases hw : (a : Int) = w
          · rw [if_neg (by rw [bne_iff_ne]; omega)]
            exact skip fun q hq e hw' => by omega
          · rw [if_pos (by rw [bne_iff_ne]; exact hw)]
            unfold R1_Reach_r8
            try dsimp only
            have hcnt := Bf.cnt haN hseen'
            obtain ⟨h3, h4, v2, q1, q2, x2, ev2⟩ := x.mark f haN hn (by omega)
            rw [q1]
            unfold R1_Reach_r9
            try dsimp only
            rw [show (Value.int .i64 0) = i64 0 from rfl, q2]
            unfold R1_Reach_k6 R1_Reach_r5
            try dsimp only
            rw [sx_add (by omega)]
            have hzm : (a : Int) ∈ zs := by rw [← ha]; exact List.getElem_mem hi
            have B2 := B.mark (b := a) (.start ⟨haN, hzm⟩ hw) haN
            obtain ⟨n', h', v', seen', l', r1, r2, r3, r4, r5, r6⟩ := ih (i + 1) k (n + 2) h4 v2 (upd seen a true) (l ++ [a]) (by omega) (by omega) (fun c hc => by rw [ev2.keep c (by omega) (by omega)]; exact hkf c hc) (gr.ev ev2 (by omega) fun c hc => by omega) x2 B2 (by rw [List.length_append, List.length_singleton]; omega) (fun q hqN hq hw => by
              unfold upd
              split
              · rfl
              · rename_i hne
                rw [etake, List.mem_append, List.mem_singleton] at hq
                rcases hq with hq | hq
                · exact hdone q hqN hq hw
                · exact absurd (by omega) hne) (by omega) ev2.f
            rw [List.length_append, List.length_singleton] at r4
            exact ⟨n', h', v', seen', l', r1, r2, r3, by omega, r5, ev2.trans r6 fun _ _ h => h⟩
      · rw [if_neg h2, if_neg (by decide)]
        exact skip fun q hq e hw => by omega
    · rw [if_neg h1, if_neg (by decide)]
      exact skip fun q hq e hw => by omega

theorem reach_spec {F n m N : Nat} {tv fv : Value} {w : Int} {adj : Nat → List Nat} {zs : List Int} {h : H} (hF : 1000000 ≤ F) (gr : Gr h m tv N adj) (hm : m ≤ n) (ok : GOk N adj) (hfv : RdI h fv zs) (hz : zs.length ≤ 1000) (f : Fr n h) :
    ∃ n' h' seen, (R1_Reach F tv fv (i64 w)).run n h = some (sl n 0 N N, n', h') ∧ TB h' n N seen ∧ (∀ q, seen q = true ↔ RchS adj (stOf N zs) w q) ∧ Ev No n h n' h' := by
  have hN := ok.few
  unfold R1_Reach R1_Reach_r0 R1_Reach_r1
  try dsimp only
  obtain ⟨h1, e1, t1, ev1⟩ := TB.make (β := Value) (bytes := 1) (N := N) (z := false) f (by omega) (by decide)
  rw [gr.len, show (Value.bool false) = bo false from rfl, e1]
  unfold R1_Reach_r2 R1_Reach_r3
  try dsimp only
  have hc : cnt N (fun _ => false) ≤ N := by
    unfold cnt
    have := List.length_filter_le (fun m : Nat => !(fun _ => false) m) (List.range N)
    rwa [List.length_range] at this
  obtain ⟨n2, h2, v2, seen2, l2, q1, q2, q3, q4, q5, q6⟩ := reach_l5 (F := F) (m := m) (lo := n) (bs := n) (tv := tv) (w := w) (adj := adj) f hfv (Nat.le_refl _) hz hN hm (E := fun x0 x2 x7 x8 => R1_Reach_k4 F x0 x2 x7 x8) zs.length 0 F (n + 1) h1 nsl (fun _ => false) [] (by omega) (by omega) (fun c hc => ev1.no hc) (gr.no ev1 hm) ⟨t1, Nat.le_refl _, 0, .inl ⟨rfl, rfl⟩, fun h => absurd rfl h⟩ ⟨(fun m h => by cases h), (fun m h => by cases h), (fun m h => by cases h)⟩ (by simp; omega) (fun q _ hq => by rw [List.take_zero] at hq; cases hq) (by omega) ev1.f
  rw [show (Value.slice none 0 0) = nsl from rfl, show (Value.int .i64 0) = i64 ((0 : Nat) : Int) from rfl, q1]
  unfold R1_Reach_k4
  have le2 := q6.le
  obtain ⟨n', h', seen', r1, r2, r3, r4⟩ := reach_l1 (F := F) (st := stOf N zs) hF ok hm (E := fun x7 => R1_Reach_k0 F x7) (l2.length + cnt N seen2) F n2 h2 v2 seen2 l2 (Nat.le_refl _) (by simp at q4; omega) (by simp at q4; omega) ((gr.no ev1 hm).ev q6 (by omega) fun c hc => by omega) q2 q3 q5 (by omega) q6.f
  rw [r1]
  refine ⟨n', h', seen', rfl, r2, r3, r4.f, by have := r4.le; omega, fun c hc _ => ?_⟩
  rw [r4.keep c (by omega) (by omega), q6.keep c (by omega) (by omega), ev1.no hc]


/-- Does one stand above another? -/
noncomputable def domB (adj : Nat → List Nat) (root a b : Nat) : Bool := @decide (Dom adj root a b) (Classical.propDecidable _)
theorem domB_iff {adj : Nat → List Nat} {root a b : Nat} : domB adj root a b = true ↔ Dom adj root a b := by
  unfold domB
  rw [@decide_eq_true_eq _ (Classical.propDecidable _)]
theorem domB_false {adj : Nat → List Nat} {root a b : Nat} (h : ¬ Dom adj root a b) : domB adj root a b = false := by
  cases hq : domB adj root a b with
  | false => rfl
  | true => exact absurd (domB_iff.1 hq) h

section
variable {adj : Nat → List Nat} {N root : Nat} {o : List Nat} {place : Nat → Nat} {up : Nat → Int}

/-- A number is a node that is known. -/
def inU (N : Nat) (up : Nat → Int) (z : Int) : Bool := decide (0 ≤ z) && (decide (z < (N : Int)) && decide (0 ≤ up z.toNat))

theorem in_spec' {F bu n : Nat} {h : H} (tu : TI h bu N up) (z : Int) : (dom_in F (sl bu 0 N N) (i64 z)).run n h = some (bo (inU N up z), n, h) := by
  unfold dom_in dom_in_r0 dom_in_r1
  try dsimp only
  rw [st_geq]
  simp only [onB_ite, run_ite, decide_eq_true_eq]
  unfold inU
  by_cases h1 : 0 ≤ z
  · rw [if_pos h1, decide_eq_true h1, st_len, st_lss]
    simp only [onB_ite, run_ite, decide_eq_true_eq]
    by_cases h2 : z < (N : Int)
    · rw [if_pos h2, decide_eq_true h2]
      obtain ⟨a, rfl⟩ : ∃ a : Nat, z = (a : Int) := ⟨z.toNat, by omega⟩
      rw [tu.get (by omega), st_geq]
      rfl
    · rw [if_neg h2, decide_eq_false h2]; rfl
  · rw [if_neg h1, decide_eq_false h1]; rfl

theorem inU_nat (P : Pl adj N root o place) (D : DomT adj root o place up) (hz : ∀ a, N ≤ a → up a = -1 ∨ True) (a : Nat) : inU N up (a : Int) = decide (a ∈ o) := by
  unfold inU
  rw [Int.toNat_natCast, decide_eq_true (show (0 : Int) ≤ (a : Int) by omega), Bool.true_and]
  by_cases h : a ∈ o
  · have h1 := D.all a h
    obtain ⟨b, hb⟩ := D.inv.nat h1
    have h2 := P.ord.lt a h
    rw [decide_eq_true h, decide_eq_true (by omega), decide_eq_true (by omega)]; rfl
  · rw [decide_eq_false h]
    rw [Bool.and_eq_false_iff]
    by_cases h2 : (a : Int) < N
    · right
      rcases D.inv.dom a with h3 | h3
      · rw [h3]; rfl
      · exact absurd h3.1 h
    · left; exact decide_eq_false h2

theorem above_l1 {F bu n : Nat} {h : H} {a : Nat} (P : Pl adj N root o place) (D : DomT adj root o place up) (tu : TI h bu N up) (hN : N ≤ 600) {E : M Value} (hE : E.run n h = some (bo false, n, h)) : ∀ j i k b, i + j = N → j < k → b ∈ o → (place b < j ∨ (b = root ∧ a ≠ root)) →
    (dom_Above_l1 F E k (sl bu 0 N N) (i64 (a : Int)) (i64 (b : Int)) (i64 N) (i64 (i : Nat))).run n h = some (bo (domB adj root a b), n, h) := by
  intro j
  induction j with
  | zero =>
    intro i k b hij hk hb hp
    obtain ⟨k, rfl⟩ : ∃ j, k = j + 1 := ⟨k - 1, by omega⟩
    rw [dom_Above_l1_s]
    unfold dom_Above_b1 dom_Above_r4
    try dsimp only
    rw [st_lss]
    simp only [onB_ite, run_ite, decide_eq_true_eq]
    rw [if_neg (by omega)]
    rcases hp with hp | ⟨rfl, hp⟩
    · omega
    · rw [domB_false fun q => hp q.of_root]; exact hE
  | succ j ih =>
    intro i k b hij hk hb hp
    obtain ⟨k, rfl⟩ : ∃ j, k = j + 1 := ⟨k - 1, by omega⟩
    rw [dom_Above_l1_s]
    unfold dom_Above_b1 dom_Above_r4
    try dsimp only
    rw [st_lss]
    simp only [onB_ite, run_ite, decide_eq_true_eq]
    rw [if_pos (by omega)]
    unfold dom_Above_r5
    try dsimp only
    rw [run_bnd (in_spec' tu _), inU_nat P D (fun _ _ => .inr trivial), decide_eq_true hb, st_not]
    simp only [onB_ite, run_ite]
    rw [if_neg (by decide)]
    unfold dom_Above_r7
    try dsimp only
    rw [st_eql]
    simp only [onB_ite, run_ite, beq_iff_eq]
    by_cases e : (b : Int) = a
    · rw [if_pos e]
      have : b = a := by omega
      subst this
      unfold dom_Above_r8
      rw [domB_iff.2 (Dom.self ((P.ord.mem b).1 hb))]
      rfl
    · rw [if_neg e]
      have hba : a ≠ b := by omega
      have hbN := P.ord.lt b hb
      unfold dom_Above_r9 dom_Above_r10
      try dsimp only
      rw [tu.get hbN]
      by_cases hr : b = root
      · subst hr
        rw [D.inv.rt, sx_add (by omega)]
        exact ih (i + 1) k b (by omega) (by omega) hb (.inr ⟨rfl, hba⟩)
      · obtain ⟨x, hx⟩ := D.inv.nat (D.all b hb)
        have hd := D.inv.dec b x hr hx
        rw [hx, sx_add (by omega)]
        have := ih (i + 1) k x (by omega) (by omega) (D.inv.mem hd.1) (by
          rcases hp with hp | ⟨hp, _⟩
          · left; omega
          · exact absurd hp hr)
        have e2 : domB adj root a x = domB adj root a b := by
          rw [Bool.eq_iff_iff, domB_iff, domB_iff]
          constructor
          · intro q; exact q.trans (D.next P hb hr hx).1
          · intro q; exact D.inv.snd b x hr hx a q hba
        rw [← e2]
        exact this

theorem above_nat {F bu n : Nat} {h : H} (hF : 1000000 ≤ F) (P : Pl adj N root o place) (D : DomT adj root o place up) (tu : TI h bu N up) (hN : N ≤ 600) (a b : Nat) : (dom_Above F (sl bu 0 N N) (i64 (a : Int)) (i64 (b : Int))).run n h = some (bo (domB adj root a b), n, h) := by
  unfold dom_Above dom_Above_r0 dom_Above_r1
  try dsimp only
  rw [run_bnd (in_spec' tu _), inU_nat P D (fun _ _ => .inr trivial), st_not]
  simp only [onB_ite, run_ite]
  by_cases ha : a ∈ o
  · rw [decide_eq_true ha, if_neg (by decide)]
    unfold dom_Above_r3
    try dsimp only
    rw [st_len]
    by_cases hb : b ∈ o
    · have hol := nodup_len P.ord.nodup P.ord.lt
      obtain ⟨p1, _⟩ := P.at_ hb
      exact above_l1 (F := F) (n := n) P D tu hN (E := dom_Above_k0 F) rfl N 0 F b (by omega) (by omega) hb (.inl (by omega))
    · rw [domB_false fun q => hb ((P.ord.mem b).2 q.1)]
      have haN := P.ord.lt a ha
      obtain ⟨k, rfl⟩ : ∃ j, F = j + 1 := ⟨F - 1, by omega⟩
      rw [dom_Above_l1_s]
      unfold dom_Above_b1 dom_Above_r4
      try dsimp only
      rw [st_lss]
      simp only [onB_ite, run_ite, decide_eq_true_eq]
      rw [if_pos (by omega)]
      unfold dom_Above_r5
      try dsimp only
      rw [run_bnd (in_spec' tu _), inU_nat P D (fun _ _ => .inr trivial), decide_eq_false hb, st_not]
      simp only [onB_ite, run_ite]
      rw [if_pos (by decide)]
      rfl
  · rw [decide_eq_false ha, if_pos (by decide), domB_false fun q => ha ((P.ord.mem a).2 q.rch)]
    rfl

theorem above_neg {F bu n : Nat} {h : H} (tu : TI h bu N up) (w : Int) : (dom_Above F (sl bu 0 N N) (i64 (-1)) (i64 w)).run n h = some (bo false, n, h) := by
  unfold dom_Above dom_Above_r0 dom_Above_r1
  try dsimp only
  rw [run_bnd (in_spec' tu _), st_not]
  have : inU N up (-1) = false := rfl
  rw [this]
  simp only [onB_ite, run_ite]
  rw [if_pos (by decide)]
  rfl

/-! ## Depth -/

/-- So many steps up to the root. -/
inductive Stp (up : Nat → Int) (root : Nat) : Nat → Nat → Prop
  | zero : Stp up root root 0
  | succ {a b k : Nat} : a ≠ root → up a = (b : Int) → Stp up root b k → Stp up root a (k + 1)

theorem Stp.uniq {a k l : Nat} (h1 : Stp up root a k) (h2 : Stp up root a l) : k = l := by
  induction h1 generalizing l with
  | zero =>
    cases h2 with
    | zero => rfl
    | succ h _ _ => exact absurd rfl h
  | succ h1 e1 _ ih =>
    cases h2 with
    | zero => exact absurd rfl h1
    | succ _ e2 h3 =>
      rw [e1] at e2
      have := Int.ofNat.inj e2
      subst this
      rw [ih h3]

theorem stp_of (P : Pl adj N root o place) (D : DomT adj root o place up) : ∀ n a, place a ≤ n → a ∈ o → ∃ k, k ≤ place a ∧ Stp up root a k := by
  intro n
  induction n with
  | zero =>
    intro a hn ha
    have : a = root := P.inj ha P.mem_root (by rw [P.zero]; omega)
    subst this
    exact ⟨0, by omega, .zero⟩
  | succ n ih =>
    intro a hn ha
    by_cases hr : a = root
    · subst hr; exact ⟨0, by omega, .zero⟩
    · obtain ⟨x, hx⟩ := D.inv.nat (D.all a ha)
      have hd := D.inv.dec a x hr hx
      obtain ⟨k, h1, h2⟩ := ih x (by omega) (D.inv.mem hd.1)
      exact ⟨k + 1, by omega, .succ hr hx h2⟩

/-- What Depth tells. -/
def DepOf (up : Nat → Int) (root : Nat) (o : List Nat) (d : Nat → Int) (a : Nat) : Prop := (a ∉ o ∧ d a = -1) ∨ ∃ k : Nat, a ∈ o ∧ d a = (k : Int) ∧ Stp up root a k

end

/-! ## haruspexref1.Above -/

theorem rchS_rch {adj : Nat → List Nat} {N root q : Nat} (hr : root < N) : RchS adj (stOf N [(root : Int)]) (-1) q ↔ Rch adj root q := by
  constructor
  · intro r
    induction r with
    | start h _ =>
      have := h.2
      rw [List.mem_singleton] at this
      have : _ = root := Int.ofNat.inj this
      subst this; exact .refl
    | step _ h2 _ ih => exact .step ih h2
  · intro r
    induction r with
    | refl => exact .start ⟨hr, by simp⟩ (by omega)
    | step _ h2 ih => exact .step ih h2 (by omega)
theorem rchS_rchW {adj : Nat → List Nat} {N root d q : Nat} (hr : root < N) : RchS adj (stOf N [(root : Int)]) (d : Int) q ↔ RchW adj root d q := by
  constructor
  · intro r
    induction r with
    | start h h2 =>
      have := h.2
      rw [List.mem_singleton] at this
      have : _ = root := Int.ofNat.inj this
      subst this; exact .start (by omega)
    | step _ h2 h3 ih => exact .step ih h2 (by omega)
  · intro r
    induction r with
    | start h => exact .start ⟨hr, by simp⟩ (by omega)
    | step _ h2 h3 ih => exact .step ih h2 (by omega)

/-- Reach from one node alone. -/
theorem reach_one {F n m N root : Nat} {tv : Value} {w : Int} {adj : Nat → List Nat} {h : H} (hF : 1000000 ≤ F) (gr : Gr h m tv N adj) (hm : m ≤ n) (ok : GOk N adj) (f : Fr n h) :
    ∃ n' h' b seen, (∀ K : Value → M Value, (bnd (opBuildSlice 1 (rep 1 [i64 0]) [(0, 1, false, i64 (root : Int))]) fun v => bnd (R1_Reach F tv v (i64 w)) K).run n h = (K (sl b 0 N N)).run n' h') ∧ TB h' b N seen ∧ (∀ q, seen q = true ↔ RchS adj (stOf N [(root : Int)]) w q) ∧ n ≤ b ∧ Ev No n h n' h' := by
  have ev1 := Ev.new f ⟨[i64 (root : Int)], .own⟩
  have rd : RdI (h.set n ⟨[i64 (root : Int)], .own⟩) (sl n 0 1 1) [(root : Int)] := .inr ⟨n, 0, 1, .own, rfl, fun _ => ⟨_, H.get_set_same _ _ _, by decide, fun i hi => by rw [Nat.zero_add]; rfl⟩⟩
  obtain ⟨n', h', seen, e, t, q, ev⟩ := reach_spec (F := F) hF (gr.no ev1 hm) (by omega) ok rd (by simp) ev1.f (w := w)
  exact ⟨n', h', n + 1, seen, fun K => by rw [run_single f rfl, run_bnd e], t, q, by omega, ev1.trans ev fun _ _ h => h⟩

theorem rabove_spec {F n m N root a b : Nat} {tv : Value} {adj : Nat → List Nat} {h : H} (hF : 1000000 ≤ F) (gr : Gr h m tv N adj) (hm : m ≤ n) (ok : GOk N adj) (hr : root < N) (ha : a < N) (hb : b < N) (f : Fr n h) :
    ∃ n' h', (R1_Above F tv (i64 (root : Int)) (i64 (a : Int)) (i64 (b : Int))).run n h = some (bo (domB adj root a b), n', h') ∧ Ev No n h n' h' := by
  unfold R1_Above R1_Above_r0 R1_Above_r1
  try dsimp only
  obtain ⟨n1, h1, b1, seen1, e1, t1, q1, lb1, ev1⟩ := reach_one (F := F) (root := root) (w := -1) hF gr hm ok f
  have l1 := ev1.le
  rw [show (Value.int .i64 0) = i64 0 from rfl, e1]
  unfold R1_Above_r2
  try dsimp only
  rw [t1.get ha, st_not]
  simp only [onB_ite, run_ite]
  by_cases hra : Rch adj root a
  · rw [(q1 a).2 ((rchS_rch hr).2 hra), if_neg (by decide), t1.get hb, st_not]
    by_cases hrb : Rch adj root b
    · rw [(q1 b).2 ((rchS_rch hr).2 hrb)]
      simp only [onB_ite, run_ite]
      rw [if_neg (by decide)]
      unfold R1_Above_r4
      try dsimp only
      rw [st_eql]
      simp only [onB_ite, run_ite, beq_iff_eq]
      by_cases e : (a : Int) = b
      · rw [if_pos e]
        have : a = b := by omega
        subst this
        rw [domB_iff.2 (Dom.self hra)]
        exact ⟨n1, h1, rfl, ev1⟩
      · rw [if_neg e]
        obtain ⟨n2, h2, b2, seen2, e2, t2, q2, lb2, ev2⟩ := reach_one (F := F) (root := root) (w := (a : Int)) hF (gr.no ev1 hm) (by omega) ok ev1.f
        rw [show (Value.int .i64 0) = i64 0 from rfl, e2, t2.get hb, st_not]
        have : (!seen2 b) = domB adj root a b := by
          rw [Bool.eq_iff_iff, domB_iff]
          constructor
          · intro h3
            refine ⟨hrb, fun hw => ?_⟩
            rw [(q2 b).2 ((rchS_rchW hr).2 hw)] at h3; cases h3
          · intro h3
            cases hs : seen2 b with
            | false => rfl
            | true => exact absurd ((rchS_rchW hr).1 ((q2 b).1 hs)) h3.2
        rw [this]
        exact ⟨n2, h2, rfl, ev1.trans ev2 fun _ _ h => h⟩
    · have hsb : seen1 b = false := by
        cases hs : seen1 b with
        | false => rfl
        | true => exact absurd ((rchS_rch hr).1 ((q1 b).1 hs)) hrb
      rw [hsb]
      simp only [onB_ite, run_ite]
      rw [if_pos (by decide), domB_false fun q => hrb q.1]
      exact ⟨n1, h1, rfl, ev1⟩
  · have hsa : seen1 a = false := by
      cases hs : seen1 a with
      | false => rfl
      | true => exact absurd ((rchS_rch hr).1 ((q1 a).1 hs)) hra
    rw [hsa, if_pos (by decide)]
    try simp only [onB_ite, run_ite]
    rw [if_pos (by decide), domB_false fun q => hra q.rch]
    exact ⟨n1, h1, rfl, ev1⟩


/-- A graph that is made, put into a variable. -/
structure MadeAt (n0 n : Nat) (h : H) (g N : Nat) (tv : Value) (O : Nat → Prop) (ob : Nat) (adj : Nat → List Nat) : Prop where
  var : GB h g N tv
  tv : tv = sl ob 0 N N
  rows : OL h ob N O (fun a => nats (adj a))
  low : ∀ c, O c → n0 ≤ c
  off : ¬ O g
  glow : n0 ≤ g
  glt : g < n
  ok : GOk N adj
  pos : 1 ≤ N
  few : N ≤ 25
  short : ∀ a, (adj a).length ≤ 80

theorem MadeAt.gr {n0 n : Nat} {h : H} {g N : Nat} {tv : Value} {O : Nat → Prop} {ob : Nat} {adj : Nat → List Nat} (x : MadeAt n0 n h g N tv O ob adj) (f : Fr n h) : Gr h n tv N adj := by
  rw [x.tv]; exact x.rows.gr f fun _ _ => rfl

theorem made_var {F n len : Nat} {v : Value} {z : Int} {Z : Nat → Int} {h : H} (hF : 1000000 ≤ F) (hn : 8 ≤ n) (hz : Fit z) (hZ : ∀ i, Fit (Z i)) (hp : Pairs h v len Z) (f : Fr n h) :
    ∃ n' h' g ob O, (∀ K : Value → M Value, (bnd (L5_Made F (i64 z) v) fun w => bnd (opPtr [i64 0, nsl]) fun x => bnd (opStoreN 2 x w) fun _ => K x).run n h = (K (pt g 0)).run n' h') ∧ MadeAt n n' h' g (nodesOf z) (sl ob 0 (nodesOf z) (nodesOf z)) O ob (madeL (nodesOf z) Z (min len 80)) ∧ Ev No n h n' h' := by
  obtain ⟨_, hN1, hN2⟩ := nodesOf_eq z
  obtain ⟨n1, h1, ob, O, e1, x1, o1, ev1⟩ := made_spec (F := F) (by omega) hn hz hZ hp f
  have l1 := ev1.le
  have ev2 := Ev.new ev1.f ⟨[i64 0, nsl], .own⟩
  obtain ⟨h3, e3, g3, ev3⟩ := GB.put (β := Value) (N := nodesOf z) (tv := sl ob 0 (nodesOf z) (nodesOf z)) (H.get_set_same h1 n1 ⟨[i64 0, nsl], .own⟩) rfl ev2.f rfl
  have ev13 : Ev No n1 h1 (n1 + 1) h3 := ev2.trans ev3 fun c hc q => by omega
  refine ⟨n1 + 1, h3, n1, ob, O, fun K => ?_, ⟨g3, rfl, x1.keep fun c hc => ev13.no (x1.lt ev1.f hc), o1, fun q => by have := x1.lt ev1.f q; omega, l1, by omega, ⟨by omega, fun a _ b hb => madeL_lt hN1 hb, fun a _ => ?_⟩, hN1, hN2, fun a => ?_⟩, ev1.trans ev13 fun _ _ h => h⟩
  · rw [run_bnd e1, run_ptr ev1.f (by rfl), e3]
  · have := madeL_len (N := nodesOf z) (Z := Z) (i := min len 80) (a := a); omega
  · have := madeL_len (N := nodesOf z) (Z := Z) (i := min len 80) (a := a); omega

section
variable {adj : Nat → List Nat} {N : Nat} {o : List Nat} {place : Nat → Nat} {up : Nat → Int}

end


/-- The state on the way: how far, who waits. -/
structure Qs (h : H) (lo bf N : Nat) (v : Value) (far : Nat → Nat) (Q : List Nat) : Prop where
  tab : TI h bf N fun i => (far i : Int)
  que : ∃ b, GqI h v b Q ∧ (v ≠ nsl → lo ≤ b ∧ b ≠ bf)

theorem Qs.rd {h : H} {lo bf N : Nat} {v : Value} {far : Nat → Nat} {Q : List Nat} (x : Qs h lo bf N v far Q) : RdI h v (nats Q) := by
  obtain ⟨b, g, _⟩ := x.que; exact g.rd

theorem Qs.mark {h : H} {n lo bf N a c : Nat} {v : Value} {far : Nat → Nat} {Q : List Nat} (x : Qs h lo bf N v far Q) (f : Fr n h) (ha : a < N) (hlo : lo ≤ n) (hbf : bf < lo) (hl : Q.length < 100000) :
    ∃ h1 h2 v', (∀ k : Value → M Value, (bnd (opIndexAddr 1 (sl bf 0 N N) (i64 a)) fun p => bnd (opStore p (i64 (c : Int))) k).run n h = (k undef).run n h1) ∧
      (∀ k : Value → M Value, (bnd (opBuildSlice 1 (rep 1 [i64 0]) [(0, 1, false, i64 (a : Int))]) fun t => bnd (opAppend 1 8 v t) k).run n h1 = (k v').run (n + 2) h2) ∧ Qs h2 lo bf N v' (upd far a c) (Q ++ [a]) ∧ Ev (fun c => c = bf ∨ lo ≤ c) n h (n + 2) h2 := by
  obtain ⟨b, g, hb⟩ := x.que
  obtain ⟨h1, e1, t1, ev1⟩ := TI.set (β := Value) x.tab f ha (z := (c : Int))
  have g1 : GqI h1 v b Q := by
    rcases g with g | g
    · exact .inl g
    · have hv : v ≠ nsl := by obtain ⟨o, xs, kd, c, rfl, _⟩ := g; intro e; cases e
      exact Gq.keep (.inr g) fun hs => ev1.keep b (by
        rcases Nat.lt_or_ge b n with h3 | h3
        · exact h3
        · rw [f b h3] at hs; cases hs) (hb hv).2
  obtain ⟨h2, v', e2, g2, f2, k2⟩ := g1.pushN (a := a) (y := 0) ev1.f (by omega)
  have et : upd (fun i => (far i : Int)) a (c : Int) = fun i => ((upd far a c i : Nat) : Int) := by
    funext i; unfold upd; split <;> rfl
  rw [et] at t1
  refine ⟨h1, h2, v', e1, e2, ⟨t1.keep (k2 bf (by omega) fun hv => (hb hv).2.symm), n + 1, g2, fun _ => ⟨by omega, by omega⟩⟩, f2, by omega, fun c hc hn => ?_⟩
  rw [k2 c hc fun hv => by have := (hb hv).1; omega, ev1.keep c hc (by omega)]

section
variable {adj : Nat → List Nat} {N t : Nat}

theorem nzP (far : Nat → Nat) (a : Nat) : (far a != 0) = true ↔ far a ≠ 0 := by rw [bne_iff_ne]

end


section
variable {adj : Nat → List Nat} {N t : Nat}

/-- far is how far it is, and one; nought: no way leads there. -/
def FarOf (adj : Nat → List Nat) (N t : Nat) (far : Nat → Nat) : Prop := ∀ a, a < N → ∀ k, far a = k + 1 ↔ Dst adj t a k

/-- The least one so far of those that are nearer. -/
def Lst (far : Nat → Nat) (row : List Nat) (a : Nat) (best : Int) : Prop :=
  (best = -1 ∧ ∀ c, c ∈ row → ¬ (far c + 1 = far a ∧ far c ≠ 0)) ∨ ∃ b : Nat, best = (b : Int) ∧ b ∈ row ∧ far b + 1 = far a ∧ far b ≠ 0 ∧ ∀ c, c ∈ row → far c + 1 = far a → far c ≠ 0 → b ≤ c

theorem Lst.nxt {far : Nat → Nat} (ok : GOk N adj) (hf : FarOf adj N t far) {a k : Nat} (ha : a < N) (hd : Dst adj t a (k + 1)) {best : Int} (h : Lst far (adj a) a best) : ∃ b : Nat, best = (b : Int) ∧ b < N ∧ IsNxt adj t a b ∧ Dst adj t b k := by
  have hfa := (hf a ha (k + 1)).2 hd
  rcases h with ⟨_, h2⟩ | ⟨b, h1, h2, h3, h4, h5⟩
  · obtain ⟨b, e, hb⟩ := hd.next
    have := (hf b (ok.lt a ha b e) k).2 hb
    exact absurd ⟨by omega, by omega⟩ (h2 b e)
  · have hbN := ok.lt a ha b h2
    have hbd : Dst adj t b k := (hf b hbN k).1 (by omega)
    refine ⟨b, h1, hbN, ⟨k, hd, h2, hbd, fun c hc hcd => ?_⟩, hbd⟩
    have := (hf c (ok.lt a ha c hc) k).2 hcd
    exact h5 c hc (by omega) (by omega)

end


theorem Gr.kept {h h' : H} {m N : Nat} {tv : Value} {adj : Nat → List Nat} (g : Gr h m tv N adj) (hk : ∀ c, c < m → h'.get c = h.get c) : Gr h' m tv N adj := by
  obtain ⟨h1, h0, f0, k0, q⟩ := g
  exact ⟨h1, h0, f0, fun c hc => (hk c hc).trans (k0 c hc), q⟩

theorem TI.rdI {h : H} {b N : Nat} {u : Nat → Int} (t : TI h b N u) : RdI h (sl b 0 N N) ((List.range N).map u) := by
  have := TV.rd t
  unfold RdI
  rw [List.map_map]
  exact this

section
variable {adj : Nat → List Nat} {N root : Nat} {o : List Nat} {place : Nat → Nat} {up : Nat → Int}

/-- What stays as it is while the law looks at all. -/
structure DU (adj : Nat → List Nat) (N : Nat) (up : Nat → Int) (h : H) (m g bu bw bd : Nat) (tv : Value) (u d : Nat → Int) : Prop where
  gr : Gr h m tv N adj
  gb : GB h g N tv
  tu : TI h bu N up
  tw : TI h bw N u
  td : TI h bd N d
  lt : g < m ∧ bu < m ∧ bw < m ∧ bd < m
  vq : veq tv tv = true

theorem DU.kept {h h' : H} {m g bu bw bd : Nat} {tv : Value} {u d : Nat → Int} (x : DU adj N up h m g bu bw bd tv u d) (hk : ∀ c, c < m → h'.get c = h.get c) : DU adj N up h' m g bu bw bd tv u d :=
  ⟨x.gr.kept hk, by unfold GB; rw [hk g x.lt.1]; exact x.gb, x.tu.keep (hk _ x.lt.2.1), x.tw.keep (hk _ x.lt.2.2.1), x.td.keep (hk _ x.lt.2.2.2), x.lt, x.vq⟩

end


section
variable {adj : Nat → List Nat} {N root : Nat} {o : List Nat} {place : Nat → Nat} {up : Nat → Int}

theorem PW.mem_lt {t a : Nat} {l : List Nat} (ok : GOk N adj) (h : PW adj t a l) (ha : a < N) : ∀ x, x ∈ l → x < N := by
  induction h with
  | stop => intro x hx; rw [List.mem_singleton] at hx; omega
  | go _ n _ ih =>
    obtain ⟨_, _, e, _, _⟩ := n
    intro x hx
    rcases List.mem_cons.1 hx with rfl | hx
    · exact ha
    · exact ih (ok.lt _ ha _ e) x hx

theorem PW.short {t a : Nat} {l : List Nat} (h : PW adj t a l) : l.Nodup := by
  induction h with
  | stop => simp
  | @go a b l hne n p ih =>
    rw [List.nodup_cons]
    refine ⟨fun hm => ?_, ih⟩
    obtain ⟨k, d1, _, d2, _⟩ := n
    have key : ∀ x l, PW adj t x l → ∀ j, Dst adj t x j → ∀ y, y ∈ l → ∃ i, i ≤ j ∧ Dst adj t y i := by
      intro x l p
      induction p with
      | stop =>
        intro j hj y hy
        rw [List.mem_singleton] at hy
        subst hy
        exact ⟨j, Nat.le_refl _, hj⟩
      | go _ n _ ih =>
        obtain ⟨k, e1, _, e2, _⟩ := n
        intro j hj y hy
        rcases List.mem_cons.1 hy with rfl | hy
        · exact ⟨j, Nat.le_refl _, hj⟩
        · have := e1.uniq hj
          obtain ⟨i, h1, h2⟩ := ih k e2 y hy
          exact ⟨i, by omega, h2⟩
    obtain ⟨i, h1, h2⟩ := key b l p k d2 a hm
    have := h2.uniq d1
    omega

theorem PW.small {t a : Nat} {l : List Nat} (ok : GOk N adj) (h : PW adj t a l) (ha : a < N) : l.length ≤ N := nodup_len h.short (h.mem_lt ok ha)

end


end Go.Fw
