/-
  SetWalk and SetMany, said of the abstract machine.
-/
import Derived.Test.YtbkppkekgdnilaaDoorLawSetH
set_option maxRecDepth 20000
namespace Go.Fw

/-! ## SetWalk -/

theorem walk_l1 {F p lo hi : Nat} {s : Nat → Bool} {v0 : Value} (hF : 5056 < F) (hlen : (setL s).length ≤ 60) {E : Value → Value → Value → M Value} : ∀ (L2 L1 : List Nat) (i k n : Nat) (h : H) (u : Value) (r : Int), setL s = L1 ++ L2 → L2.length < k → (∀ m, m ∈ L1 → m < i) → (∀ m, m ∈ L2 → i ≤ m) → IsFirst s i r → SetAt h p lo hi s → hi ≤ n → NewI h hi u (ints L1) → Fr n h →
    ∃ n' h' u', (L1_SetWalk_l1 F E k v0 (pt p 0) u (i64 r)).run n h = (E v0 (pt p 0) u').run n' h' ∧ NewI h' hi u' (ints (setL s)) ∧ SetAt h' p lo hi s ∧ Ev (fun c => hi ≤ c) n h n' h' := by
  intro L2
  induction L2 with
  | nil =>
    intro L1 i k n h u r e hk h1 h2 hr x hn g f
    obtain ⟨k, rfl⟩ : ∃ j, k = j + 1 := ⟨k - 1, by simp at hk; omega⟩
    rw [L1_SetWalk_l1_s]
    unfold L1_SetWalk_b1 L1_SetWalk_r8
    simp only [st_geq, onB_ite, run_ite, decide_eq_true_eq]
    rw [List.append_nil] at e
    rcases hr with ⟨rfl, _⟩ | ⟨m, rfl, q1, q2, _⟩
    · rw [if_neg (by decide)]
      exact ⟨n, h, u, rfl, by rw [e]; exact g, x, Ev.refl f⟩
    · have := (setL_mem x).2 q2
      rw [e] at this
      have := h1 m this
      omega
  | cons a L2 ih =>
    intro L1 i k n h u r e hk h1 h2 hr x hn g f
    obtain ⟨k, rfl⟩ : ∃ j, k = j + 1 := ⟨k - 1, by simp at hk; omega⟩
    have ha : s a = true := (setL_mem x).1 (by rw [e]; simp)
    have hia := h2 a List.mem_cons_self
    have hsort : (L1 ++ a :: L2).Pairwise (· < ·) := by rw [← e]; exact setL_sorted
    rw [List.pairwise_append, List.pairwise_cons] at hsort
    have hra : r = (a : Int) := by
      rcases hr with ⟨rfl, q⟩ | ⟨m, rfl, q1, q2, q3⟩
      · rw [q a hia] at ha; cases ha
      · have hm := (setL_mem x).2 q2
        rw [e, List.mem_append, List.mem_cons] at hm
        rcases hm with hm | rfl | hm
        · have := h1 m hm; omega
        · rfl
        · have := hsort.2.1.1 m hm
          have := q3 a hia this
          rw [this] at ha; cases ha
    subst hra
    have hsm := x.small ha
    rw [L1_SetWalk_l1_s]
    unfold L1_SetWalk_b1 L1_SetWalk_r8
    simp only [st_geq, onB_ite, run_ite, decide_eq_true_eq]
    rw [if_pos (by omega)]
    have hl1 : L1.length + (L2.length + 1) ≤ 60 := by
      have := hlen
      rw [e, List.length_append, List.length_cons] at this; exact this
    unfold L1_SetWalk_r10
    try dsimp only
    obtain ⟨h3, u3, e3, g3, ev3⟩ := g.push (β := Value) (y := 0) (z := (a : Int)) f hn (by unfold ints; rw [List.length_map]; omega)
    rw [show (Value.int .i64 0) = i64 0 from rfl, e3]
    unfold L1_SetWalk_r11
    try dsimp only
    have g3' : NewI h3 hi u3 (ints (L1 ++ [a])) := by unfold ints; rw [List.map_append]; exact g3
    rw [g3.rd.lenI]
    simp only [st_gtr, onB_ite, run_ite, decide_eq_true_eq]
    rw [if_neg (by simp; omega)]
    unfold L1_SetWalk_r9
    try dsimp only
    rw [sx_add (by omega)]
    have x3 := x.keep ev3 hn fun c hc _ => hc
    obtain ⟨r', e4, hr'⟩ := at_first (F := F) (n := n + 2) hF x3 ((a : Int) + 1)
    rw [run_bnd e4]
    rw [show ((a : Int) + 1).toNat = a + 1 by omega] at hr'
    obtain ⟨n', h', u', q1, q2, q3, q4⟩ := ih (L1 ++ [a]) (a + 1) k (n + 2) h3 u3 r' (by rw [e, List.append_assoc]; rfl) (by simp at hk; omega) (fun m hm => by
      rw [List.mem_append, List.mem_singleton] at hm
      rcases hm with hm | rfl
      · have := h1 m hm; omega
      · omega) (fun m hm => hsort.2.1.1 m hm) hr' x3 (by omega) g3' ev3.f
    exact ⟨n', h', u', q1, q2, q3, ev3.trans q4 fun _ _ h => h⟩

theorem setL_setOf_len : ∀ zs : List Int, (setL (setOf zs)).length ≤ zs.length := by
  intro zs
  have key : ∀ zs ys : List Int, (setL (setOf (ys ++ zs))).length ≤ (setL (setOf ys)).length + zs.length := by
    intro zs
    induction zs with
    | nil => intro ys; rw [List.append_nil]; simp
    | cons z zs ih =>
      intro ys
      have h1 := ih (ys ++ [z])
      rw [List.append_assoc] at h1
      have h2 : (setL (setOf (ys ++ [z]))).length ≤ (setL (setOf ys)).length + 1 := by
        have e : setOf (ys ++ [z]) = if canAdd (setOf ys) z = true then putS (setOf ys) z.toNat else setOf ys := by
          funext m; rw [setOf_next m]
        rw [e]
        split
        · rename_i hc
          unfold canAdd at hc
          rw [Bool.and_eq_true, decide_eq_true_eq] at hc
          rw [setL_put (by simpa using hc.2) (by omega)]
          exact Nat.le_refl _
        · omega
      rw [List.length_cons]
      have h3 : ys ++ ([z] ++ zs) = ys ++ z :: zs := rfl
      rw [h3] at h1
      omega
  have := key zs []
  rw [List.nil_append] at this
  have e0 : (setL (setOf [])).length = 0 := by rw [setL_nil (s := setOf []) fun m => by simp [setOf]]; rfl
  omega

theorem walk_run {F : Nat} (hF : 5200 < F) (hbg : gaveTrue ((L1_begun F).run 8 (baseH deB)) = true) (hbk : (((L1_begun F).run 8 (baseH deB)).map fun x => x.2.2.get 0) = some (some ⟨deB, .ro⟩)) (h : H) (us : List Value) (f : Fr 8 h) (hb : h.get 0 = some ⟨deB, .ro⟩) (ha : ArgsAre h [.flat 1] us) :
    ∃ n' h', (L1_SetWalk_m F us).run 8 h = some (.bool true, n', h') := by
  obtain ⟨va, rfl, hva⟩ := args1 ha
  obtain ⟨az, hva, hla⟩ := hva.ints f
  show ∃ n' h', (L1_SetWalk F va).run 8 h = some (.bool true, n', h')
  unfold L1_SetWalk L1_SetWalk_r0 L1_SetWalk_r1
  try dsimp only
  obtain ⟨n1, h1, e1, f1, g1, k1⟩ := run_over_true hbg hbk f hb
  rw [run_bnd e1]
  unfold L1_SetWalk_r2
  simp only [st_not, onB_ite, Bool.not_true, Bool.false_eq_true, if_false]
  have hva1 := hva.keep k1
  have hb1 : h1.get 0 = some ⟨deB, .ro⟩ := by rw [k1 0 (by omega)]; exact hb
  unfold L1_SetWalk_r4
  try dsimp only
  obtain ⟨va', ea, ha'⟩ := cut_spec (F := F) (n := n1) hva1 hla 60 (by decide)
  rw [show (Value.int .i64 60) = i64 ((60 : Nat) : Int) from rfl, run_bnd ea]
  have hal : (az.take 60).length ≤ 60 := by rw [List.length_take]; omega
  generalize az.take 60 = az at *
  have F1 : 100 < F := by omega
  unfold L1_SetWalk_r5
  try dsimp only
  obtain ⟨n2, h2, e2, x, ev2⟩ := at_of (F := F) F1 g1 (by omega) (by omega) ha' f1
  have l2 := ev2.le
  try dsimp only
  rw [run_bnd e2]
  have hb2 : h2.get 0 = some ⟨deB, .ro⟩ := by rw [ev2.no (by omega)]; exact hb1
  unfold L1_SetWalk_r6 L1_SetWalk_r7
  try dsimp only
  have hsl := setL_setOf_len az
  obtain ⟨r, e3, hr⟩ := at_first (F := F) (n := n2) (by omega) x (-5)
  rw [run_bnd e3]
  obtain ⟨n4, h4, u4, e4, g4, x4, ev4⟩ := walk_l1 (F := F) (v0 := va') (by omega) (by omega) (E := fun x0 x4 x5 => L1_SetWalk_k0 F x0 x4 x5) (setL (setOf az)) [] 0 F n2 h2 nsl r rfl (by omega) (fun m hm => by cases hm) (fun m _ => Nat.zero_le _) hr x (Nat.le_refl _) NewI.nil ev2.f
  rw [e4]
  have l4 := ev4.le
  have hb4 : h4.get 0 = some ⟨deB, .ro⟩ := by rw [ev4.keep 0 (by omega) (by omega)]; exact hb2
  have ha4 : IntsA h4 va' az := ha'.keep fun c hc => by rw [ev4.keep c (by omega) (by omega), ev2.no (by omega)]
  unfold L1_SetWalk_k0 L1_SetWalk_r13
  try dsimp only
  obtain ⟨n5, h5, v5, e5, g5, ev5⟩ := at_all (F := F) F1 (by omega) hb4 x4 ev4.f
  have l5 := ev5.le
  try dsimp only
  rw [run_bnd e5]
  have gu := g4.rd.kept ev4.f fun c hc => ev5.no hc
  have hil : (ints (setL (setOf az))).length ≤ 60 := by unfold ints; rw [List.length_map]; omega
  rw [run_bnd (req_spec gu g5.rd (by omega) (by omega)), decide_eq_true rfl]
  simp only [onB_ite, run_ite, if_true]
  have ha5 := ha4.keep (h' := h5) fun c hc => ev5.no (by omega)
  obtain ⟨va6, e6, ha6⟩ := cut_spec (F := F) (n := n5) ha5 (by omega) 40 (by decide)
  rw [show (Value.int .i64 40) = i64 ((40 : Nat) : Int) from rfl, run_bnd e6]
  obtain ⟨n7, h7, v7, e7, g7, ev7⟩ := lof_spec (F := F) F1 (by omega) ha6 ev5.f
  rw [run_bnd e7]
  have gu := gu.kept ev5.f fun c hc => ev7.no hc
  rw [run_bnd (req_spec gu g7.rd (by omega) (by omega))]
  simp only [onB_ite, run_ite, decide_eq_true_eq]
  by_cases hq : ints (setL (setOf az)) = ofI (az.take 40)
  · rw [if_pos hq]; exact ⟨_, _, rfl⟩
  · rw [if_neg hq]
    have h40 : 40 < az.length := by
      rcases Nat.lt_or_ge 40 az.length with h1 | h1
      · exact h1
      · exfalso; apply hq
        rw [List.take_of_length_le h1, ofI_set h1]
    have ha7 := ha5.keep (h' := h7) fun c hc => ev7.no (by omega)
    have gv : RdI h7 va' az := ha7.rd
    rw [gv.lenI, st_gtr, decide_eq_true (by omega)]
    exact ⟨_, _, rfl⟩

theorem walk_law (h : H) (us : List Value) (f : Fr 8 h) (hb : h.get 0 = some ⟨deB, .ro⟩) (ha : ArgsAre h [.flat 1] us) : ∃ n' h', (L1_SetWalk_m 6000 us).run 8 h = some (.bool true, n', h') := walk_run (by decide) begun6_runs begun6_keeps h us f hb ha

/-! ## SetMany -/

/-- The numbers a, a + t, .., i of them, that may be in. -/
def stepS (a t i m : Nat) : Bool := decide (m < 5000) && (List.range i).any fun j => m == a + j * t

theorem stepS_new {a t i : Nat} (ht : 0 < t) : stepS a t i (a + i * t) = false := by
  unfold stepS
  rw [Bool.and_eq_false_iff]; right
  rw [List.any_eq_false]
  intro j hj
  rw [List.mem_range] at hj
  have := Nat.mul_lt_mul_of_pos_right hj ht
  rw [beq_iff_eq]; omega
theorem stepS_next {a t i : Nat} (ht : 0 < t) (m : Nat) : (if canAdd (stepS a t i) ((a + i * t : Nat) : Int) = true then putS (stepS a t i) (((a + i * t : Nat) : Int)).toNat else stepS a t i) m = stepS a t (i + 1) m := by
  have hc : canAdd (stepS a t i) ((a + i * t : Nat) : Int) = decide (a + i * t < 5000) := by
    have h0 : stepS a t i (((a + i * t : Nat) : Int)).toNat = false := by rw [Int.toNat_natCast]; exact stepS_new ht
    generalize hx : a + i * t = y at *
    unfold canAdd
    rw [h0, Bool.not_false, Bool.and_true, Bool.eq_iff_iff, decide_eq_true_eq, decide_eq_true_eq]
    omega
  rw [hc, Int.toNat_natCast]
  have e : stepS a t (i + 1) m = (stepS a t i m || (decide (m < 5000) && (m == a + i * t))) := by
    unfold stepS
    rw [List.range_succ, List.any_append, Bool.and_or_distrib_left]
    simp
  rw [e]
  by_cases hq : a + i * t < 5000
  · rw [if_pos (decide_eq_true hq)]
    have e2 : decide (m = a + i * t) = (decide (m < 5000) && (m == a + i * t)) := by
      rw [Bool.eq_iff_iff, decide_eq_true_eq, Bool.and_eq_true, decide_eq_true_eq, beq_iff_eq]
      generalize a + i * t = y at *
      omega
    unfold putS
    rw [e2]
  · rw [if_neg (by simpa using hq)]
    have : (decide (m < 5000) && (m == a + i * t)) = false := by
      rw [Bool.and_eq_false_iff]
      by_cases h1 : m < 5000
      · right; rw [beq_eq_false_iff_ne]; omega
      · left; rw [decide_eq_false h1]
    rw [this, Bool.or_false]

theorem many_l3 {F p lo a N t : Nat} (hF : 400 < F) (ha : a ≤ 4000) (hN : N ≤ 300) (ht : 1 ≤ t ∧ t ≤ 20) {E : Value → Value → Value → Value → Value → M Value} : ∀ j i k n (h : H) (hi : Nat), i + j = N → j < k → SetAt h p lo hi (stepS a t i) → hi ≤ n → lo ≤ n → Fr n h →
    ∃ n' h' hi', (L1_SetMany_l3 F E k (i64 a) (i64 N) (i64 t) (pt p 0) (i64 (setL (stepS a t i)).length) (i64 i)).run n h = (E (i64 a) (i64 N) (i64 t) (pt p 0) (i64 (setL (stepS a t N)).length)).run n' h' ∧ SetAt h' p lo hi' (stepS a t N) := by
  intro j
  induction j with
  | zero =>
    intro i k n h hi hij hk x hh hl f
    obtain ⟨k, rfl⟩ : ∃ j, k = j + 1 := ⟨k - 1, by omega⟩
    obtain rfl : i = N := by omega
    rw [L1_SetMany_l3_s]
    unfold L1_SetMany_b3 L1_SetMany_r9
    simp only [st_lss, onB_ite, run_ite, decide_eq_true_eq]
    rw [if_neg (by omega)]
    exact ⟨n, h, hi, rfl, x⟩
  | succ j ih =>
    intro i k n h hi hij hk x hh hl f
    obtain ⟨k, rfl⟩ : ∃ j, k = j + 1 := ⟨k - 1, by omega⟩
    rw [L1_SetMany_l3_s]
    unfold L1_SetMany_b3 L1_SetMany_r9
    simp only [st_lss, onB_ite, run_ite, decide_eq_true_eq]
    rw [if_pos (by omega)]
    unfold L1_SetMany_r11
    try dsimp only
    have hmul : i * t ≤ 300 * 20 := Nat.mul_le_mul (by omega) ht.2
    have em : (i : Int) * (t : Int) = ((i * t : Nat) : Int) := by rw [Int.natCast_mul]
    try dsimp only
    rw [sx_mul (by rw [em]; omega), em, sx_add (by omega), show (a : Int) + ((i * t : Nat) : Int) = ((a + i * t : Nat) : Int) by omega]
    obtain ⟨n1, h1, e1, x1, ev1⟩ := at_add (F := F) (by omega) x f hh hl ((a + i * t : Nat) : Int)
    rw [run_bnd e1]
    have x1' := x1.congr (stepS_next (by omega))
    have l1 := ev1.le
    have hlen : (setL (stepS a t (i + 1))).length = (setL (stepS a t i)).length + if canAdd (stepS a t i) ((a + i * t : Nat) : Int) = true then 1 else 0 := by
      have e : stepS a t (i + 1) = if canAdd (stepS a t i) ((a + i * t : Nat) : Int) = true then putS (stepS a t i) (((a + i * t : Nat) : Int)).toNat else stepS a t i := by
        funext m; rw [stepS_next (by omega) m]
      rw [e]
      split
      · rename_i hc
        unfold canAdd at hc
        rw [Bool.and_eq_true, decide_eq_true_eq, Int.toNat_natCast] at hc
        rw [Int.toNat_natCast, setL_put (by simpa using hc.2) (by omega)]
      · rfl
    have hbound : (setL (stepS a t i)).length ≤ 5120 := by
      have := upTo_len (s := stepS a t i) (k := 80)
      unfold setL; omega
    simp only [onB_ite, run_ite]
    by_cases hc : canAdd (stepS a t i) ((a + i * t : Nat) : Int) = true
    · rw [if_pos hc] at hlen ⊢
      unfold L1_SetMany_r12 L1_SetMany_k4 L1_SetMany_r10
      try dsimp only
      rw [sx_add (by omega), sx_add (by omega)]
      have := ih (i + 1) k n1 h1 n1 (by omega) (by omega) x1' (Nat.le_refl _) (by omega) ev1.f
      rw [hlen] at this
      exact this
    · rw [if_neg hc] at hlen ⊢
      unfold L1_SetMany_k4 L1_SetMany_r10
      try dsimp only
      rw [sx_add (by omega)]
      have := ih (i + 1) k n1 h1 n1 (by omega) (by omega) x1' (Nat.le_refl _) (by omega) ev1.f
      rw [hlen] at this
      exact this

theorem stepS_in {a t N i : Nat} (hi : i < N) : stepS a t N (a + i * t) = decide (a + i * t < 5000) := by
  unfold stepS
  have : ((List.range N).any fun j => a + i * t == a + j * t) = true := by
    rw [List.any_eq_true]
    exact ⟨i, List.mem_range.2 hi, by rw [beq_iff_eq]⟩
  rw [this, Bool.and_true]
theorem stepS_off {a t N i : Nat} (ht : 1 < t) : stepS a t N (a + i * t + 1) = false := by
  unfold stepS
  rw [Bool.and_eq_false_iff]; right
  rw [List.any_eq_false]
  intro j hj
  rw [beq_iff_eq]
  intro e
  have h1 : (i * t + 1) % t = (j * t) % t := by rw [show i * t + 1 = j * t by omega]
  rw [Nat.mul_comm i t, Nat.mul_add_mod, Nat.mul_mod_left, Nat.mod_eq_of_lt ht] at h1
  cases h1

theorem isIn_nat {s : Nat → Bool} (hs : ∀ m, s m = true → m < 5000) (m : Nat) : isIn s m = s m := by
  unfold isIn
  rw [Int.toNat_natCast]
  by_cases hq : s m = true
  · have h1 := hs m hq
    have hc : (0 : Int) ≤ (m : Int) ∧ (m : Int) < 5000 := ⟨by omega, by omega⟩
    rw [decide_eq_true hc, Bool.true_and]
  · rw [show s m = false by simpa using hq, Bool.and_false]

theorem many_l1 {F p lo hi a N t n : Nat} {h : H} (x : SetAt h p lo hi (stepS a t N)) (ha : a ≤ 4000) (hN : N ≤ 300) (ht : 1 ≤ t ∧ t ≤ 20) {c : Value} {E : Value → Value → M Value} : ∀ j i k, i + j = N → j < k →
    (L1_SetMany_l1 F E k (i64 a) (i64 N) (i64 t) (pt p 0) c (i64 i)).run n h = (E (pt p 0) c).run n h := by
  have hs : ∀ m, stepS a t N m = true → m < 5000 := fun m hm => x.small hm
  intro j
  induction j with
  | zero =>
    intro i k hij hk
    obtain ⟨k, rfl⟩ : ∃ j, k = j + 1 := ⟨k - 1, by omega⟩
    rw [L1_SetMany_l1_s]
    unfold L1_SetMany_b1 L1_SetMany_r14
    simp only [st_lss, onB_ite, run_ite, decide_eq_true_eq]
    rw [if_neg (by omega)]
  | succ j ih =>
    intro i k hij hk
    obtain ⟨k, rfl⟩ : ∃ j, k = j + 1 := ⟨k - 1, by omega⟩
    rw [L1_SetMany_l1_s]
    unfold L1_SetMany_b1 L1_SetMany_r14
    simp only [st_lss, onB_ite, run_ite, decide_eq_true_eq]
    rw [if_pos (by omega)]
    unfold L1_SetMany_r16
    try dsimp only
    have hmul : i * t ≤ 300 * 20 := Nat.mul_le_mul (by omega) ht.2
    have em : (i : Int) * (t : Int) = ((i * t : Nat) : Int) := by rw [Int.natCast_mul]
    try dsimp only
    rw [sx_mul (by rw [em]; omega), em, sx_add (by omega), show (a : Int) + ((i * t : Nat) : Int) = ((a + i * t : Nat) : Int) by omega]
    unfold L1_SetMany_r17
    try dsimp only
    have e1 : isIn (stepS a t N) ((a + i * t : Nat) : Int) = decide (((a + i * t : Nat) : Int) < 5000) := by
      rw [isIn_nat hs, stepS_in (by omega), Bool.eq_iff_iff, decide_eq_true_eq, decide_eq_true_eq]; omega
    rw [run_bnd (at_has x _), e1, st_lss, st_eqB]
    simp only [onB_ite, run_ite]
    rw [if_neg (by cases decide (((a + i * t : Nat) : Int) < 5000) <;> decide), st_gtr]
    simp only [onB_ite, run_ite, decide_eq_true_eq]
    by_cases h1 : (1 : Int) < t
    · rw [if_pos h1, sx_add (by omega), show ((a + i * t : Nat) : Int) + 1 = ((a + i * t + 1 : Nat) : Int) by omega]
      have e2 : isIn (stepS a t N) ((a + i * t + 1 : Nat) : Int) = false := by
        rw [isIn_nat hs, stepS_off (by omega)]
      rw [run_bnd (at_has x _), e2]
      simp only [onB_ite, run_ite]
      rw [if_neg (by decide)]
      unfold L1_SetMany_r15
      try dsimp only
      rw [sx_add (by omega)]
      exact ih (i + 1) k (by omega) (by omega)
    · rw [if_neg h1, if_neg (by decide)]
      unfold L1_SetMany_r15
      try dsimp only
      rw [sx_add (by omega)]
      exact ih (i + 1) k (by omega) (by omega)

theorem many_run {F : Nat} (hF : 5200 < F) (hbg : gaveTrue ((L1_begun F).run 8 (baseH deB)) = true) (hbk : (((L1_begun F).run 8 (baseH deB)).map fun x => x.2.2.get 0) = some (some ⟨deB, .ro⟩)) (h : H) (us : List Value) (f : Fr 8 h) (hb : h.get 0 = some ⟨deB, .ro⟩) (ha : ArgsAre h [.int, .int, .int] us) :
    ∃ n' h', (L1_SetMany_m F us).run 8 h = some (.bool true, n', h') := by
  obtain ⟨_, _, _, rfl, ⟨a, rfl, hra⟩, ⟨N, rfl, hrN⟩, ⟨t, rfl, hrt⟩⟩ := args3 ha
  show ∃ n' h', (L1_SetMany F (i64 a) (i64 N) (i64 t)).run 8 h = some (.bool true, n', h')
  unfold L1_SetMany L1_SetMany_r0 L1_SetMany_r1
  try dsimp only
  obtain ⟨n1, h1, e1, f1, g1, k1⟩ := run_over_true hbg hbk f hb
  rw [run_bnd e1]
  unfold L1_SetMany_r2
  simp only [st_not, onB_ite, Bool.not_true, Bool.false_eq_true, if_false]
  unfold L1_SetMany_r4
  simp only [st_lss, st_gtr, onB_ite, run_ite, decide_eq_true_eq]
  by_cases q1 : a < 0
  · rw [if_pos q1]; exact ⟨_, _, rfl⟩
  rw [if_neg q1]
  by_cases q2 : 4000 < a
  · rw [if_pos q2]; exact ⟨_, _, rfl⟩
  rw [if_neg q2]
  by_cases q3 : N < 0
  · rw [if_pos q3]; exact ⟨_, _, rfl⟩
  rw [if_neg q3]
  by_cases q4 : 300 < N
  · rw [if_pos q4]; exact ⟨_, _, rfl⟩
  rw [if_neg q4]
  by_cases q5 : t < 1
  · rw [if_pos q5]; exact ⟨_, _, rfl⟩
  rw [if_neg q5]
  by_cases q6 : 20 < t
  · rw [if_pos q6]; exact ⟨_, _, rfl⟩
  rw [if_neg q6]
  obtain ⟨a, rfl⟩ : ∃ m : Nat, a = m := ⟨a.toNat, by omega⟩
  obtain ⟨N, rfl⟩ : ∃ m : Nat, N = m := ⟨N.toNat, by omega⟩
  obtain ⟨t, rfl⟩ : ∃ m : Nat, t = m := ⟨t.toNat, by omega⟩
  unfold L1_SetMany_r6
  try dsimp only
  obtain ⟨h2, e2, x2, ev2⟩ := at_new f1 (k := fun v39 => L1_SetMany_r7 F (i64 a) (i64 N) (i64 t) v39 fun x0 x1 x2 x8 x9 => L1_SetMany_r8 F x0 x1 x2 x8 x9 fun x0 x1 x2 x8 x9 x10 => L1_SetMany_l3 F (fun x0 x1 x2 x8 x9 => L1_SetMany_k2 F x0 x1 x2 x8 x9) F x0 x1 x2 x8 x9 x10)
  rw [e2]
  unfold L1_SetMany_r7 L1_SetMany_r8
  try dsimp only
  have x2' := x2.congr (s' := stepS a t 0) fun m => by unfold stepS; simp
  obtain ⟨n3, h3, hi3, e3, x3⟩ := many_l3 (F := F) (a := a) (N := N) (t := t) (by omega) (by omega) (by omega) (by omega) (E := fun x0 x1 x2 x8 x9 => L1_SetMany_k2 F x0 x1 x2 x8 x9) N 0 F (n1 + 1) h2 (n1 + 1) (by omega) (by omega) x2' (Nat.le_refl _) (by omega) ev2.f
  have e0 : (setL (stepS a t 0)).length = 0 := by rw [setL_nil fun m => by unfold stepS; simp]; rfl
  rw [e0] at e3
  rw [show (Value.int .i64 0) = i64 ((0 : Nat) : Int) from rfl, e3]
  unfold L1_SetMany_k2 L1_SetMany_r13
  try dsimp only
  rw [show (Value.int .i64 0) = i64 ((0 : Nat) : Int) from rfl, many_l1 x3 (by omega) (by omega) (by omega) N 0 F (by omega) (by omega)]
  unfold L1_SetMany_k0 L1_SetMany_r19
  try dsimp only
  rw [run_bnd (at_len (by omega) x3), st_eql]
  have : (((setL (stepS a t N)).length : Int) == ((setL (stepS a t N)).length : Int)) = true := beq_self_eq_true _
  rw [this]
  exact ⟨_, _, rfl⟩

theorem many_law (h : H) (us : List Value) (f : Fr 8 h) (hb : h.get 0 = some ⟨deB, .ro⟩) (ha : ArgsAre h [.int, .int, .int] us) : ∃ n' h', (L1_SetMany_m 6000 us).run 8 h = some (.bool true, n', h') := many_run (by decide) begun6_runs begun6_keeps h us f hb ha

end Go.Fw
