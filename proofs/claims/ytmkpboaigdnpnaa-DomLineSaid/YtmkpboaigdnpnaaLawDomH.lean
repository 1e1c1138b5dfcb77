/-
  DomLine, said of the abstract machine.
-/
import Derived.Test.YtmkpboaigdnpnaaLawDomE
set_option maxRecDepth 20000
namespace Go.Fw

/-- A line, each node but the last with a way back to the first. -/
def lineA (N a : Nat) : List Nat := if a + 1 < N then [a + 1, 0] else []

theorem lineA_ok {N : Nat} (hN : N ≤ 600) (h1 : 1 ≤ N) : GOk N (lineA N) := ⟨hN, fun a _ b hb => (by
  unfold lineA at hb
  split at hb
  · simp only [List.mem_cons, List.not_mem_nil, or_false] at hb
    rcases hb with rfl | rfl <;> omega
  · cases hb), fun a _ => by unfold lineA; split <;> simp⟩

theorem line_rchW {N d b : Nat} (hb : b < N) : RchW (lineA N) 0 d b ↔ b < d := by
  constructor
  · intro r
    clear hb
    induction r with
    | start h => omega
    | @step b c _ h2 h3 ih =>
      unfold lineA at h2
      split at h2
      · simp only [List.mem_cons, List.not_mem_nil, or_false] at h2
        rcases h2 with rfl | rfl <;> omega
      · cases h2
  · intro h
    induction b with
    | zero => exact .start (by omega)
    | succ b ih => exact .step (ih (by omega) (by omega)) (by unfold lineA; rw [if_pos hb]; exact List.mem_cons_self) (by omega)
theorem line_rch {N b : Nat} (hb : b < N) : Rch (lineA N) 0 b := ((line_rchW hb).2 (Nat.lt_succ_self b)).rch
theorem line_dom {N a b : Nat} (hb : b < N) : Dom (lineA N) 0 a b ↔ a ≤ b := by
  unfold Dom
  rw [line_rchW hb]
  constructor
  · rintro ⟨_, h⟩; omega
  · intro h; exact ⟨line_rch hb, by omega⟩

/-- Rows that are laid one by one. -/
def LR (h : H) (ob N i lo : Nat) : Prop := ∃ (iv : Nat → Value), TV h ob N iv ∧ (∀ a, a < i → ∃ rb, iv a = sl rb 0 2 2 ∧ lo ≤ rb ∧ rb ≠ ob ∧ h.get rb = some ⟨[i64 ((a + 1 : Nat) : Int), i64 0], .own⟩) ∧ ∀ a, i ≤ a → a < N → iv a = nsl

theorem line_l1 {F N g ob lo : Nat} {x1 x2 : Value} (hN : 1 ≤ N ∧ N ≤ 600) {E : Value → Value → Value → Value → M Value} : ∀ j i k n (h : H), i + j + 1 = N → j < k → GB h g N (sl ob 0 N N) → LR h ob N i lo → g < lo → g ≠ ob → lo ≤ n → Fr n h →
    ∃ n' h', (L6_DomLine_l1 F E k (i64 N) x1 x2 (pt g 0) (i64 (i : Nat))).run n h = (E (i64 N) x1 x2 (pt g 0)).run n' h' ∧ GB h' g N (sl ob 0 N N) ∧ LR h' ob N (N - 1) lo ∧ Ev (fun c => c = ob ∨ lo ≤ c) n h n' h' := by
  intro j
  induction j with
  | zero =>
    intro i k n h hij hk hg x hgl hgo hn f
    obtain ⟨k, rfl⟩ : ∃ j, k = j + 1 := ⟨k - 1, by omega⟩
    rw [L6_DomLine_l1_s]
    unfold L6_DomLine_b1 L6_DomLine_r8
    try dsimp only
    rw [sx_add (by omega), st_lss]
    simp only [onB_ite, run_ite, decide_eq_true_eq]
    rw [if_neg (by omega)]
    rw [show i = N - 1 by omega] at x
    exact ⟨n, h, rfl, hg, x, Ev.refl f⟩
  | succ j ih =>
    intro i k n h hij hk hg x hgl hgo hn f
    obtain ⟨k, rfl⟩ : ∃ j, k = j + 1 := ⟨k - 1, by omega⟩
    rw [L6_DomLine_l1_s]
    unfold L6_DomLine_b1 L6_DomLine_r8
    try dsimp only
    rw [sx_add (by omega), st_lss]
    simp only [onB_ite, run_ite, decide_eq_true_eq]
    rw [if_pos (by omega)]
    unfold L6_DomLine_r10
    try dsimp only
    obtain ⟨iv, t, r1, r2⟩ := x
    have hob := t.lt f
    rw [hg.t, sx_add (by omega)]
    have hfill : fillA (rep 2 [Value.int .i64 0]) [(0, 1, false, Value.int .i64 ((i : Int) + 1)), (1, 1, false, Value.int .i64 0)] = some [i64 ((i + 1 : Nat) : Int), i64 0] := by
      simp [fillA, rep, one]
    rw [run_build hfill f rfl]
    have ev1 := Ev.new f ⟨[i64 ((i + 1 : Nat) : Int), i64 0], .own⟩
    have t1 := t.ev ev1 hob (fun h => h)
    obtain ⟨h2, e2, t2, ev2⟩ := TV.set (β := Value) t1 ev1.f (show i < N by omega) (c := N) (v := sl n 0 2 2) rfl
    rw [e2]
    unfold L6_DomLine_r9
    try dsimp only
    rw [sx_add (by omega)]
    have ev02 : Ev (fun c => c = ob) n h (n + 1) h2 := (ev1.mono fun _ _ h => h.elim).trans ev2 fun _ _ h => h
    obtain ⟨n', h', q1, q2, q3, q4⟩ := ih (i + 1) k (n + 1) h2 (by omega) (by omega) (hg.ev ev02 (by omega) hgo) ⟨_, t2, fun a ha => by
        by_cases e : a = i
        · subst e
          exact ⟨n, upd_same, hn, by omega, by rw [ev2.keep n (by omega) (by omega), H.get_set_same]⟩
        · obtain ⟨rb, e1, e2, e3, e4⟩ := r1 a (by omega)
          exact ⟨rb, by rw [upd_ne e]; exact e1, e2, e3, by rw [ev02.keep rb (f.lt e4) e3]; exact e4⟩, fun a ha haN => by
        rw [upd_ne (by omega)]; exact r2 a (by omega) haN⟩ hgl hgo (by omega) ev02.f
    exact ⟨n', h', q1, q2, q3, (ev02.mono fun c _ hc => .inl hc).trans q4 fun _ _ h => h⟩

theorem LR.gr {h : H} {n ob N lo : Nat} (x : LR h ob N (N - 1) lo) (f : Fr n h) : Gr h n (sl ob 0 N N) N (lineA N) := by
  obtain ⟨iv, t, r1, r2⟩ := x
  refine ⟨rfl, h, f, fun _ _ => rfl, iv, t.rd, fun a ha => ?_⟩
  by_cases h1 : a + 1 < N
  · obtain ⟨rb, e1, _, _, e4⟩ := r1 a (by omega)
    rw [e1]
    have e : nats (lineA N a) = [((a + 1 : Nat) : Int), 0] := by unfold lineA; rw [if_pos h1]; rfl
    rw [e]
    exact .inr ⟨rb, 0, 2, .own, rfl, fun _ => ⟨_, e4, by decide, fun i _ => by rw [Nat.zero_add]; rfl⟩⟩
  · have e : nats (lineA N a) = [] := by unfold lineA; rw [if_neg h1]; rfl
    rw [e, r2 a (by omega) ha]
    exact .inl ⟨rfl, rfl⟩

theorem domline_run {F : Nat} (hF : 1000000 ≤ F) (hbg : gaveTrue ((L6_begun F).run 8 .leaf) = true) (h : H) (us : List Value) (f : Fr 8 h) (ha : ArgsAre h [.int, .int, .int] us) :
    ∃ n' h', (L6_DomLine_m F us).run 8 h = some (.bool true, n', h') := by
  obtain ⟨_, _, _, rfl, ⟨N, rfl, hrN⟩, ⟨a, rfl, hra⟩, ⟨b, rfl, hrb⟩⟩ := args3 ha
  show ∃ n' h', (L6_DomLine F (i64 N) (i64 a) (i64 b)).run 8 h = some (.bool true, n', h')
  unfold L6_DomLine L6_DomLine_r0 L6_DomLine_r1
  try dsimp only
  obtain ⟨n1, h1, e1, f1, l1, k1⟩ := run_true hbg f
  rw [run_bnd e1]
  unfold L6_DomLine_r2
  simp only [st_not, onB_ite, Bool.not_true, Bool.false_eq_true, if_false]
  unfold L6_DomLine_r4
  simp only [st_lss, st_gtr, st_geq, onB_ite, run_ite, decide_eq_true_eq]
  by_cases q1 : N < 1
  · rw [if_pos q1]; exact ⟨_, _, rfl⟩
  rw [if_neg q1]
  by_cases q2 : 200 < N
  · rw [if_pos q2]; exact ⟨_, _, rfl⟩
  rw [if_neg q2]
  by_cases q3 : a < 0
  · rw [if_pos q3]; exact ⟨_, _, rfl⟩
  rw [if_neg q3]
  by_cases q4 : N ≤ a
  · rw [if_pos q4]; exact ⟨_, _, rfl⟩
  rw [if_neg q4]
  by_cases q5 : b < 0
  · rw [if_pos q5]; exact ⟨_, _, rfl⟩
  rw [if_neg q5]
  by_cases q6 : N ≤ b
  · rw [if_pos q6]; exact ⟨_, _, rfl⟩
  rw [if_neg q6]
  obtain ⟨N, rfl⟩ : ∃ m : Nat, N = m := ⟨N.toNat, by omega⟩
  obtain ⟨a, rfl⟩ : ∃ m : Nat, a = m := ⟨a.toNat, by omega⟩
  obtain ⟨b, rfl⟩ : ∃ m : Nat, b = m := ⟨b.toNat, by omega⟩
  have hN : 1 ≤ N ∧ N ≤ 600 := by omega
  unfold L6_DomLine_r6
  try dsimp only
  obtain ⟨h2, e2, t2, ev2⟩ := TV.make (β := Value) (bytes := 24) (v := nsl) f1 (show N ≤ 100000 by omega) (by decide) rfl
  rw [show (Value.int .i64 0) = i64 0 from rfl, show (Value.slice none 0 0) = nsl from rfl, e2, opBuild_gr rfl, ret_bnd, run_ptr ev2.f (by rfl)]
  have ev3 := Ev.new ev2.f ⟨[i64 0, nsl], .own⟩
  obtain ⟨h4, e4, g4, ev4⟩ := GB.put (β := Value) (N := N) (tv := sl n1 0 N N) (H.get_set_same h2 (n1 + 1) ⟨[i64 0, nsl], .own⟩) rfl ev3.f rfl
  rw [e4]
  have t4 := (t2.ev ev3 (by omega) (fun h => h)).ev ev4 (by omega) (by omega)
  unfold L6_DomLine_r7
  try dsimp only
  obtain ⟨n5, h5, e5, g5, x5, ev5⟩ := line_l1 (F := F) (lo := n1 + 1 + 1) (x1 := i64 (a : Int)) (x2 := i64 (b : Int)) hN (E := fun x0 x1 x2 x8 => L6_DomLine_k0 F x0 x1 x2 x8) (N - 1) 0 F (n1 + 1 + 1) h4 (by omega) (by omega) g4 ⟨_, t4, fun a ha => by omega, fun a _ _ => rfl⟩ (by omega) (by omega) (Nat.le_refl _) ev4.f
  rw [show (Value.int .i64 0) = i64 ((0 : Nat) : Int) from rfl, e5]
  have gr5 := x5.gr ev5.f
  have ok := lineA_ok hN.2 hN.1
  have l5 := ev5.le
  unfold L6_DomLine_k0 L6_DomLine_r11
  try dsimp only
  obtain ⟨n6, h6, bu, up, o, place, e6, t6, P, D, lb6, ev6⟩ := up_in (F := F) (root := 0) hF gr5 (Nat.le_refl _) ok (by omega) ev5.f
  rw [g5.all, show (Value.int .i64 0) = i64 ((0 : Nat) : Int) from rfl, run_bnd e6]
  unfold L6_DomLine_r12
  try dsimp only
  obtain ⟨h7, d, e7, t7, q7, ev7⟩ := depth_spec (F := F) hF P D t6 hN.2 ev6.f
  rw [run_bnd e7]
  have t6 := t6.ev ev7 (TV.lt t6 ev6.f) (fun h => h)
  have mem : ∀ q, q < N → q ∈ o := fun q hq => (P.ord.mem q).2 (line_rch hq)
  have upv : ∀ q, q + 1 < N → up (q + 1) = (q : Int) := fun q hq => by
    obtain ⟨x, hx⟩ := D.inv.nat (D.all (q + 1) (mem (q + 1) hq))
    have := D.uniq P (mem (q + 1) hq) (by omega) hx ((line_dom hq).2 (by omega : q ≤ q + 1)) (by omega) (fun d hd hdq => (line_dom (by omega)).2 (by
      have := (line_dom hq).1 hd
      omega))
    rw [hx, ← this]
  have stp : ∀ q, q < N → Stp up 0 q q := fun q => by
    induction q with
    | zero => intro _; exact .zero
    | succ q ih => intro hq; exact .succ (by omega) (upv q hq) (ih (by omega))
  have hdb : d b = (b : Int) := by
    rcases q7 b (by omega) with ⟨h8, _⟩ | ⟨k, _, h8, h9⟩
    · exact absurd (mem b (by omega)) h8
    · rw [h8, h9.uniq (stp b (by omega))]
  have hub : up b = if ((b : Int) - 1) > 0 then ((b : Int) - 1) else 0 := by
    by_cases h0 : b = 0
    · subst h0; rw [D.inv.rt]; rfl
    · obtain ⟨q, rfl⟩ : ∃ q, b = q + 1 := ⟨b - 1, by omega⟩
      rw [upv q (by omega)]
      split <;> omega
  unfold L6_DomLine_r13
  try dsimp only
  rw [st_len, st_eql, onB_ite, run_ite, if_pos (by simp), show (Value.int .i64 0) = i64 ((0 : Nat) : Int) from rfl, TI.get t6 (by omega), D.inv.rt, st_eql, onB_ite, run_ite, if_pos (by simp), TI.get t6 (by omega), sx_sub (by omega), st_max, hub, st_eql, onB_ite, run_ite, if_pos (by simp), run_bnd (above_nat hF P D t6 hN.2 a b), st_leq, st_eqB, onB_ite, run_ite]
  have hab : domB (lineA N) 0 a b = decide ((a : Int) ≤ (b : Int)) := by
    rw [Bool.eq_iff_iff, domB_iff, line_dom (by omega), decide_eq_true_eq]; omega
  rw [hab, if_pos (by simp), TI.get t7 (by omega), hdb, st_eql]
  exact ⟨n6 + 1, h7, by simp [run_ret]⟩

theorem domline_law (h : H) (us : List Value) (f : Fr 8 h) (ha : ArgsAre h [.int, .int, .int] us) : ∃ n' h', (L6_DomLine_m 1000000 us).run 8 h = some (.bool true, n', h') := domline_run (Nat.le_refl _) begun6c_runs h us f ha

end Go.Fw
