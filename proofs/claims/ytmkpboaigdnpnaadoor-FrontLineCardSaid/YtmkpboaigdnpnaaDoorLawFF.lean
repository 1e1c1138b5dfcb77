/-
  FrontLine, said of the abstract machine.
-/
import Derived.Test.YtmkpboaigdnpnaaDoorLawFD
import Derived.Test.YtmkpboaigdnpnaaDoorFwRows
set_option maxRecDepth 20000
set_option linter.unusedVariables false
namespace Go.Fw

/-- A line, with or without a way from the end to the beginning. -/
def ringA (N : Nat) (r : Bool) (a : Nat) : List Nat := if a + 1 < N then [a + 1] else if r = true then [0] else []

theorem ringA_ok {N : Nat} {r : Bool} (hN : N ≤ 600) (h1 : 1 ≤ N) : GOk N (ringA N r) := ⟨hN, fun a _ b hb => (by
  unfold ringA at hb
  split at hb
  · simp only [List.mem_cons, List.not_mem_nil, or_false] at hb; omega
  · split at hb
    · simp only [List.mem_cons, List.not_mem_nil, or_false] at hb; omega
    · cases hb), fun a _ => by unfold ringA; split <;> (try split) <;> simp⟩

theorem ring_rchW {N d b : Nat} {r : Bool} (hb : b < N) : RchW (ringA N r) 0 d b ↔ b < d := by
  constructor
  · intro q
    clear hb
    induction q with
    | start h => omega
    | @step b c _ h2 h3 ih =>
      unfold ringA at h2
      split at h2
      · simp only [List.mem_cons, List.not_mem_nil, or_false] at h2; omega
      · split at h2
        · simp only [List.mem_cons, List.not_mem_nil, or_false] at h2; omega
        · cases h2
  · intro h
    induction b with
    | zero => exact .start (by omega)
    | succ b ih => exact .step (ih (by omega) (by omega)) (by unfold ringA; rw [if_pos hb]; exact List.mem_cons_self) (by omega)
theorem ring_rch {N b : Nat} {r : Bool} (hb : b < N) : Rch (ringA N r) 0 b := ((ring_rchW hb).2 (Nat.lt_succ_self b)).rch
theorem ring_dom {N a b : Nat} {r : Bool} (hb : b < N) : Dom (ringA N r) 0 a b ↔ a ≤ b := by
  unfold Dom
  rw [ring_rchW hb]
  constructor
  · rintro ⟨_, h⟩; omega
  · intro h; exact ⟨ring_rch hb, by omega⟩
theorem ring_lt {N b : Nat} {r : Bool} (h1 : 1 ≤ N) (h : Rch (ringA N r) 0 b) : b < N := by
  induction h with
  | refl => omega
  | @step b c _ h2 ih =>
    unfold ringA at h2
    split at h2
    · simp only [List.mem_cons, List.not_mem_nil, or_false] at h2; omega
    · split at h2
      · simp only [List.mem_cons, List.not_mem_nil, or_false] at h2; omega
      · cases h2
theorem ring_frt {N c b : Nat} {r : Bool} (h1 : 1 ≤ N) (hc : c < N) : Frt (ringA N r) 0 c b ↔ r = true ∧ b = 0 := by
  unfold Frt
  constructor
  · rintro ⟨a, ha, hb, hd, hcb⟩
    have haN := ring_lt h1 ha
    rw [ring_dom haN] at hd
    unfold ringA at hb
    split at hb
    · simp only [List.mem_cons, List.not_mem_nil, or_false] at hb
      subst hb
      rw [ring_dom (by omega)] at hcb
      omega
    · split at hb
      · simp only [List.mem_cons, List.not_mem_nil, or_false] at hb
        exact ⟨by assumption, hb⟩
      · cases hb
  · rintro ⟨hr, rfl⟩
    refine ⟨N - 1, ring_rch (by omega), ?_, (ring_dom (by omega)).2 (by omega), ?_⟩
    · unfold ringA; rw [if_neg (by omega), if_pos hr]; exact List.mem_cons_self
    · rw [ring_dom (by omega)]; omega

theorem setL_no : setL (fun _ => false) = [] := by
  unfold setL upTo; simp
theorem setL_0 : (setL (fun m => decide (m = 0))).length = 1 := by decide +kernel

/-- The rows while the line is laid. -/
def lineL (i a : Nat) : List Int := if a < i then [((a + 1 : Nat) : Int)] else []

theorem fline_l4 {F N g ob lo : Nat} {x1 : Value} (hN : 1 ≤ N ∧ N ≤ 600) {E : Value → Value → Value → M Value} : ∀ j i k n (h : H), i + j + 1 = N → j < k → GB h g N (sl ob 0 N N) → LRow h ob N lo (lineL i) → g < lo → g ≠ ob → lo ≤ n → Fr n h →
    ∃ n' h', (L7_FrontLine_l4 F E k (i64 N) x1 (pt g 0) (i64 (i : Nat))).run n h = (E (i64 N) x1 (pt g 0)).run n' h' ∧ GB h' g N (sl ob 0 N N) ∧ LRow h' ob N lo (lineL (N - 1)) ∧ Ev (fun c => c = ob ∨ lo ≤ c) n h n' h' := by
  intro j
  induction j with
  | zero =>
    intro i k n h hij hk hg x hgl hgo hn f
    obtain ⟨k, rfl⟩ : ∃ j, k = j + 1 := ⟨k - 1, by omega⟩
    rw [L7_FrontLine_l4_s]
    unfold L7_FrontLine_b4 L7_FrontLine_r8
    try dsimp only
    rw [sx_add (by omega), st_lss]
    simp only [onB_ite, run_ite, decide_eq_true_eq]
    rw [if_neg (by omega)]
    rw [show i = N - 1 by omega] at x
    exact ⟨n, h, rfl, hg, x, Ev.refl f⟩
  | succ j ih =>
    intro i k n h hij hk hg x hgl hgo hn f
    obtain ⟨k, rfl⟩ : ∃ j, k = j + 1 := ⟨k - 1, by omega⟩
    rw [L7_FrontLine_l4_s]
    unfold L7_FrontLine_b4 L7_FrontLine_r8
    try dsimp only
    rw [sx_add (by omega), st_lss]
    simp only [onB_ite, run_ite, decide_eq_true_eq]
    rw [if_pos (by omega)]
    unfold L7_FrontLine_r10
    try dsimp only
    rw [hg.t, sx_add (by omega)]
    have hfill : fillA (rep 1 [Value.int .i64 0]) [(0, 1, false, Value.int .i64 ((i : Int) + 1))] = some ([((i + 1 : Nat) : Int)].map i64) := by
      simp [fillA, rep, one]
    rw [run_build hfill f rfl]
    obtain ⟨h2, e2, x2, ev2⟩ := LRow.put (β := Value) x f hn (show i < N by omega) [((i + 1 : Nat) : Int)]
    rw [show (sl n 0 1 1) = sl n 0 [((i + 1 : Nat) : Int)].length [((i + 1 : Nat) : Int)].length from rfl, e2]
    unfold L7_FrontLine_r9
    try dsimp only
    rw [sx_add (by omega)]
    have e : upd (lineL i) i [((i + 1 : Nat) : Int)] = lineL (i + 1) := by
      funext a
      unfold upd lineL
      by_cases e : a = i
      · subst e; rw [if_pos rfl, if_pos (by omega)]
      · rw [if_neg e]
        by_cases e2 : a < i
        · rw [if_pos e2, if_pos (by omega)]
        · rw [if_neg e2, if_neg (by omega)]
    rw [e] at x2
    obtain ⟨n', h', q1, q2, q3, q4⟩ := ih (i + 1) k (n + 1) h2 (by omega) (by omega) (hg.ev ev2 (hg.lt f) hgo) x2 hgl hgo (by omega) ev2.f
    exact ⟨n', h', q1, q2, q3, (ev2.mono fun c _ hc => .inl hc).trans q4 fun _ _ h => h⟩

theorem fline_l1 {F N bt n : Nat} {r : Bool} {h : H} {S : Nat → Nat → Bool} (hF : 1000000 ≤ F) (h1 : 1 ≤ N) (hN : N ≤ 600) (x : FS h 0 bt N S) (hS : ∀ q i, S q i = true ↔ Frt (ringA N r) 0 q i) {E : Value → Value → M Value} : ∀ j i k, i + j = N → j < k →
    (L7_FrontLine_l1 F E k (i64 N) (bo r) (sl bt 0 N N) (i64 (i : Nat))).run n h = (E (i64 N) (sl bt 0 N N)).run n h := by
  intro j
  induction j with
  | zero =>
    intro i k hij hk
    obtain ⟨k, rfl⟩ : ∃ j, k = j + 1 := ⟨k - 1, by omega⟩
    rw [L7_FrontLine_l1_s]
    unfold L7_FrontLine_b1 L7_FrontLine_r15
    try dsimp only
    rw [st_lss, onB_ite, run_ite, if_neg (by simp; omega)]
  | succ j ih =>
    intro i k hij hk
    obtain ⟨k, rfl⟩ : ∃ j, k = j + 1 := ⟨k - 1, by omega⟩
    have hi : i < N := by omega
    rw [L7_FrontLine_l1_s]
    unfold L7_FrontLine_b1 L7_FrontLine_r15
    try dsimp only
    rw [st_lss, onB_ite, run_ite, if_pos (by simp; omega)]
    unfold L7_FrontLine_r17
    try dsimp only
    obtain ⟨p, O, e1, bs, _⟩ := x.get (β := Value) (n := n) hi
    have next : (L7_FrontLine_r16 F (i64 N) (bo r) (sl bt 0 N N) (i64 (i : Nat)) fun x0 x1 x8 x9 => L7_FrontLine_l1 F E k x0 x1 x8 x9).run n h = (E (i64 N) (sl bt 0 N N)).run n h := by
      unfold L7_FrontLine_r16
      try dsimp only
      rw [sx_add (by omega)]
      exact ih (i + 1) k (by omega) (by omega)
    cases r with
    | true =>
      have es : S i = fun m => decide (m = 0) := by
        funext m
        rw [Bool.eq_iff_iff, hS, ring_frt h1 hi, decide_eq_true_eq]
        simp
      have hlen : (setL (S i)).length = 1 := by rw [es]; exact setL_0
      have h0 : S i 0 = true := by rw [es]; rfl
      rw [onB_ite, run_ite, if_pos rfl, e1, run_bnd (len_spec (F := F) (by omega) bs), hlen, st_neq, onB_ite, run_ite, if_neg (by decide), e1, show (Value.int .i64 0) = i64 ((0 : Nat) : Int) from rfl, run_bnd (has_nat bs 0), h0, st_not, onB_ite, run_ite, if_neg (by decide), st_not, onB_ite, run_ite, if_neg (by decide), onB_ite, run_ite, if_neg (by decide)]
      exact next
    | false =>
      have es : S i = fun m => false := by
        funext m
        rw [Bool.eq_iff_iff, hS, ring_frt h1 hi]
        simp
      rw [onB_ite, run_ite, if_neg (by decide), st_not, onB_ite, run_ite, if_pos (by decide), e1, run_bnd (len_spec (F := F) (by omega) bs), es, setL_no, st_neq, onB_ite, run_ite, if_neg (by decide)]
      exact next

theorem frontline_run {F : Nat} (hF : 1000000 ≤ F) (hbg : gaveTrue ((L7_begun F).run 8 (baseH deB)) = true) (hbk : (((L7_begun F).run 8 (baseH deB)).map fun x => x.2.2.get 0) = some (some ⟨deB, .ro⟩)) (h : H) (us : List Value) (f : Fr 8 h) (hb : h.get 0 = some ⟨deB, .ro⟩) (ha : ArgsAre h [.int, .bool] us) :
    ∃ n' h', (L7_FrontLine_m F us).run 8 h = some (.bool true, n', h') := by
  obtain ⟨_, _, rfl, ⟨N, rfl, hz⟩, ⟨r, rfl⟩⟩ := args2 ha
  show ∃ n' h', (L7_FrontLine F (i64 N) (bo r)).run 8 h = some (.bool true, n', h')
  unfold L7_FrontLine L7_FrontLine_r0 L7_FrontLine_r1
  try dsimp only
  obtain ⟨n1, h1, e1, f1, l1, k1⟩ := run_over_true hbg hbk f hb
  rw [run_bnd e1]
  unfold L7_FrontLine_r2
  simp only [st_not, onB_ite, Bool.not_true, Bool.false_eq_true, if_false]
  unfold L7_FrontLine_r4
  simp only [st_lss, st_gtr, onB_ite, run_ite, decide_eq_true_eq]
  by_cases q1 : N < 1
  · rw [if_pos q1]; exact ⟨_, _, rfl⟩
  rw [if_neg q1]
  by_cases q2 : 60 < N
  · rw [if_pos q2]; exact ⟨_, _, rfl⟩
  rw [if_neg q2]
  obtain ⟨N, rfl⟩ : ∃ m : Nat, N = m := ⟨N.toNat, by omega⟩
  have hN : 1 ≤ N ∧ N ≤ 600 := by omega
  unfold L7_FrontLine_r6
  try dsimp only
  obtain ⟨h2, e2, t2, ev2⟩ := TV.make (β := Value) (bytes := 24) (v := nsl) f1 (show N ≤ 100000 by omega) (by decide) rfl
  rw [show (Value.int .i64 0) = i64 0 from rfl, show (Value.slice none 0 0) = nsl from rfl, e2, opBuild_gr rfl, ret_bnd, run_ptr ev2.f (by rfl)]
  have ev3 := Ev.new ev2.f ⟨[i64 0, nsl], .own⟩
  obtain ⟨h4, e4, g4, ev4⟩ := GB.put (β := Value) (N := N) (tv := sl n1 0 N N) (H.get_set_same h2 (n1 + 1) ⟨[i64 0, nsl], .own⟩) rfl ev3.f rfl
  rw [e4]
  have t4 := (t2.ev ev3 (by omega) (fun h => h)).ev ev4 (by omega) (by omega)
  unfold L7_FrontLine_r7
  try dsimp only
  have x4 : LRow h4 n1 N (n1 + 1 + 1) (lineL 0) := by
    have := LRow.start (lo := n1 + 1 + 1) t4
    have e : lineL 0 = fun _ => [] := by funext a; unfold lineL; rw [if_neg (by omega)]
    rw [e]; exact this
  obtain ⟨n5, h5, e5, g5, x5, ev5⟩ := fline_l4 (F := F) (lo := n1 + 1 + 1) (x1 := bo r) hN (E := fun x0 x1 x6 => L7_FrontLine_k3 F x0 x1 x6) (N - 1) 0 F (n1 + 1 + 1) h4 (by omega) (by omega) g4 x4 (by omega) (by omega) (Nat.le_refl _) ev4.f
  rw [show (Value.int .i64 0) = i64 ((0 : Nat) : Int) from rfl, e5]
  have l5 := ev5.le
  unfold L7_FrontLine_k3 L7_FrontLine_r11
  try dsimp only
  have ok := ringA_ok (r := r) hN.2 hN.1
  have fin : ∀ n6 (h6 : H), GB h6 (n1 + 1) N (sl n1 0 N N) → LRow h6 n1 N (n1 + 1 + 1) (fun a => nats (ringA N r a)) → Fr n6 h6 → ∃ n' h', (L7_FrontLine_k2 F (i64 N) (bo r) (pt (n1 + 1) 0)).run n6 h6 = some (.bool true, n', h') := fun n6 h6 g6 x6 f6 => by
    unfold L7_FrontLine_k2 L7_FrontLine_r13
    try dsimp only
    have gr6 : Gr h6 n6 (sl n1 0 N N) N (ringA N r) := x6.gr f6 fun _ _ => rfl
    obtain ⟨n7, h7, bt, S, e7, x7, s7, ev7⟩ := frt_in (F := F) (root := 0) hF gr6 (Nat.le_refl _) ok (by omega) f6
    rw [g6.all, show (Value.int .i64 0) = i64 ((0 : Nat) : Int) from rfl, run_bnd e7]
    unfold L7_FrontLine_r14
    try dsimp only
    rw [show (Value.int .i64 0) = i64 ((0 : Nat) : Int) from rfl, fline_l1 (F := F) hF (by omega) (by omega) (x7.mono (Nat.zero_le _)) s7 N 0 F (by omega) (by omega)]
    unfold L7_FrontLine_k0 L7_FrontLine_r19
    try dsimp only
    rw [st_len, st_eql]
    refine ⟨n7, h7, ?_⟩
    simp [ret, M.run]
  cases r with
  | false =>
    rw [onB_ite, run_ite, if_neg (by decide)]
    refine fin n5 h5 g5 ?_ ev5.f
    have e : (fun a => nats (ringA N false a)) = fun a => if a + 1 < N then [((a + 1 : Nat) : Int)] else [] := by
      funext a; unfold ringA
      by_cases q : a + 1 < N
      · rw [if_pos q, if_pos q]; rfl
      · rw [if_neg q, if_neg q, if_neg (by decide)]; rfl
    rw [e]
    have e2 : lineL (N - 1) = fun a => if a + 1 < N then [((a + 1 : Nat) : Int)] else [] := by
      funext a; unfold lineL
      by_cases q : a + 1 < N
      · rw [if_pos q, if_pos (by omega)]
      · rw [if_neg q, if_neg (by omega)]
    rw [← e2]; exact x5
  | true =>
    rw [onB_ite, run_ite, if_pos rfl]
    unfold L7_FrontLine_r12
    try dsimp only
    have hfill : fillA (rep 1 [i64 0]) [(0, 1, false, i64 0)] = some ([(0 : Int)].map i64) := by
      simp [fillA, rep, one]
    rw [g5.t, sx_sub (by omega), show (Value.int .i64 0) = i64 0 from rfl, run_build hfill ev5.f rfl, show ((N : Int) - 1) = ((N - 1 : Nat) : Int) by omega]
    obtain ⟨h6, e6, x6, ev6⟩ := LRow.put (β := Value) x5 ev5.f (by omega) (show N - 1 < N by omega) [(0 : Int)]
    rw [show (sl n5 0 1 1) = sl n5 0 [(0 : Int)].length [(0 : Int)].length from rfl, e6]
    refine fin (n5 + 1) h6 (g5.ev ev6 (by omega) (by omega)) ?_ ev6.f
    have e : (fun a => nats (ringA N true a)) = fun a => if a + 1 < N then [((a + 1 : Nat) : Int)] else [0] := by
      funext a; unfold ringA
      by_cases q : a + 1 < N
      · rw [if_pos q, if_pos q]; rfl
      · rw [if_neg q, if_neg q, if_pos rfl]; rfl
    obtain ⟨iv, t, rr⟩ := x6
    refine ⟨iv, t, fun a ha => ?_⟩
    have e2 : (fun a => nats (ringA N true a)) a = upd (lineL (N - 1)) (N - 1) [0] a := by
      rw [e]
      unfold upd lineL
      by_cases q : a + 1 < N
      · dsimp only; rw [if_pos q, if_neg (by omega), if_pos (by omega)]
      · dsimp only; rw [if_neg q, if_pos (by omega)]
    rw [e2]
    exact rr a ha

theorem frontline_law (h : H) (us : List Value) (f : Fr 8 h) (hb : h.get 0 = some ⟨deB, .ro⟩) (ha : ArgsAre h [.int, .bool] us) : ∃ n' h', (L7_FrontLine_m 1000000 us).run 8 h = some (.bool true, n', h') := frontline_run (Nat.le_refl _) begunF_runs begunF_keeps h us f hb ha

end Go.Fw
