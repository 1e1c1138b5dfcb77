/-
  What the functions of package bitset come to, said of the abstract machine.
-/
import Derived.Test.YtbkppkekgdnilaaDoorGenB
import Derived.Test.YtbkppkekgdnilaaDoorFwS
import Derived.Test.YtbkppkekgdnilaaDoorFwV
namespace Go.Fw

structure IsS (h : H) (p b W : Nat) (w : Nat → Nat) : Prop where
  ptr : h.get p = some ⟨[if W = 0 then nsl else sl b 0 W (U + 1)], .own⟩
  ne : W ≠ 0 → b ≠ p
  up : W ≠ 0 → h.get b = some ⟨tab W (fun k => u64 (w k)), .grow⟩
  lt : ∀ k, w k < 2 ^ 64
  zero : ∀ k, W ≤ k → w k = 0
  few : W ≤ 79
  top : w 78 < 256

/-- A set that the call itself made: who is in; which blocks are its own. -/
def BS (h : H) (p : Nat) (O : Nat → Prop) (s : Nat → Bool) : Prop :=
  ∃ b W w, IsS h p b W w ∧ (∀ n, s n = (w (n / 64)).testBit (n % 64)) ∧ ∀ c, O c ↔ (c = p ∨ (W ≠ 0 ∧ c = b))

theorem BS.keep {h h' : H} {p : Nat} {O : Nat → Prop} {s : Nat → Bool} (x : BS h p O s) (hk : ∀ c, O c → h'.get c = h.get c) : BS h' p O s := by
  obtain ⟨b, W, w, i, hs, hO⟩ := x
  refine ⟨b, W, w, ⟨by rw [hk p ((hO p).2 (.inl rfl))]; exact i.ptr, i.ne, fun h0 => by rw [hk b ((hO b).2 (.inr ⟨h0, rfl⟩))]; exact i.up h0, i.lt, i.zero, i.few, i.top⟩, hs, hO⟩
theorem BS.lt {h : H} {p n : Nat} {O : Nat → Prop} {s : Nat → Bool} (x : BS h p O s) (f : Fr n h) : ∀ c, O c → c < n := by
  obtain ⟨b, W, w, i, hs, hO⟩ := x
  intro c hc
  rcases (hO c).1 hc with rfl | ⟨h0, rfl⟩
  · exact f.lt i.ptr
  · exact f.lt (i.up h0)

theorem words_spec {F n p b W : Nat} {w : Nat → Nat} {h : H} (x : IsS h p b W w) : (bitset_Set_words F (pt p 0)).run n h = some ((if W = 0 then nsl else sl b 0 W (U + 1)), n, h) := by
  unfold bitset_Set_words bitset_Set_words_r0 bitset_Set_words_r1
  simp only [st_eqP1, Bool.false_xor, onB_ite, Bool.false_eq_true, if_false]
  unfold bitset_Set_words_r3
  simp only [st_nil, st_field, Nat.zero_add, run_load, x.ptr, ldm_some (show Kind.own ≠ .dead by decide) (show [if W = 0 then nsl else sl b 0 W (U + 1)][0]? = some (if W = 0 then nsl else sl b 0 W (U + 1)) from rfl)]
  rfl

theorem at_spec {F n p b W : Nat} {w : Nat → Nat} {h : H} (x : IsS h p b W w) (k : Nat) : (bitset_Set_at F (pt p 0) (i64 k)).run n h = some (u64 (w k), n, h) := by
  unfold bitset_Set_at bitset_Set_at_r0 bitset_Set_at_r1
  rw [run_bnd (words_spec x)]
  unfold bitset_Set_at_r2
  by_cases h0 : W = 0
  · rw [if_pos h0, x.zero k (by omega)]
    simp only [st_len, st_lss, onB_ite, run_ite, decide_eq_true_eq]
    rw [if_neg (by omega)]
    rfl
  · rw [if_neg h0]
    simp only [st_len, st_lss, onB_ite, run_ite, decide_eq_true_eq]
    by_cases hk : k < W
    · rw [if_pos (by omega)]
      unfold bitset_Set_at_r3
      simp only [st_ix, if_pos (show (0 : Int) ≤ (k : Int) ∧ (k : Int) < (W : Int) by omega), Int.toNat_natCast, Nat.mul_one, Nat.zero_add, run_load, x.up h0, ldm_some (show Kind.grow ≠ .dead by decide) (tab_get (f := fun k => u64 (w k)) hk)]
      rfl
    · rw [if_neg (by omega), x.zero k (by omega)]
      rfl

/-- Is a number in? -/
def isIn (s : Nat → Bool) (n : Int) : Bool := decide (0 ≤ n ∧ n < 5000) && s n.toNat

theorem has_spec {F n p : Nat} {O : Nat → Prop} {s : Nat → Bool} {h : H} (x : BS h p O s) (a : Int) : (bitset_Set_Has F (pt p 0) (i64 a)).run n h = some (bo (isIn s a), n, h) := by
  obtain ⟨b, W, w, x, hs, _⟩ := x
  unfold bitset_Set_Has bitset_Set_Has_r0 bitset_Set_Has_r1
  simp only [st_geq, st_lss, onB_ite, run_ite, decide_eq_true_eq]
  by_cases h1 : 0 ≤ a
  · rw [if_pos h1]
    by_cases h2 : a < 5000
    · rw [if_pos h2, st_quo (by decide)]
      obtain ⟨m, rfl⟩ : ∃ m : Nat, a = m := ⟨a.toNat, by omega⟩
      rw [show (m : Int).tdiv 64 = ((m / 64 : Nat) : Int) from rfl, wrap64 (by omega), run_bnd (at_spec x (m / 64))]
      simp only [st_rem (show (64 : Int) ≠ 0 by decide), show (m : Int).tmod 64 = ((m % 64 : Nat) : Int) from rfl]
      rw [st_shrU (by omega), show (Value.int .u64 1) = u64 1 from rfl, st_andU (Nat.lt_of_le_of_lt (Nat.div_le_self _ _) (x.lt _)) (by decide), st_eql]
      have : isIn s m = ((((w (m / 64) / 2 ^ (m % 64) &&& 1 : Nat) : Int)) == ((1 : Nat) : Int)) := by
        unfold isIn
        rw [decide_eq_true (by omega), Bool.true_and, Int.toNat_natCast, hs m, Nat.testBit_eq_decide_div_mod_eq, Nat.and_one_is_mod]
        by_cases hq : w (m / 64) / 2 ^ (m % 64) % 2 = 1
        · rw [decide_eq_true hq, hq]; rfl
        · rw [decide_eq_false hq]; symm; rw [beq_eq_false_iff_ne]; omega
      rw [this]; rfl
    · rw [if_neg h2]
      have : isIn s a = false := by unfold isIn; rw [decide_eq_false (by omega)]; rfl
      rw [this]; rfl
  · rw [if_neg h1]
    have : isIn s a = false := by unfold isIn; rw [decide_eq_false (by omega)]; rfl
    rw [this]; rfl

theorem IsS.gl {h : H} {p b W : Nat} {w : Nat → Nat} (x : IsS h p b W w) : Gl h (if W = 0 then nsl else sl b 0 W (U + 1)) b (tab W fun k => u64 (w k)) := by
  by_cases h0 : W = 0
  · subst h0; exact .inl ⟨rfl, rfl⟩
  · rw [if_neg h0]
    exact .inr ⟨tab_ne.2 h0, by rw [tab_len], x.up h0⟩

/-- One word more, if it takes one. -/
theorem grow_step {F n p b W : Nat} {w : Nat → Nat} {h : H} {β : Type} (x : IsS h p b W w) (f : Fr n h) (hW : W < 79) (k : Value → M β) :
    ∃ h', (∀ K : M β, (bnd (opBuildSlice 1 (rep 1 [(.int .u64 (0))]) [(0, 1, false, (.int .u64 (0)))]) fun v33 => bnd (opAppend 1 8 (if W = 0 then nsl else sl b 0 W (U + 1)) v33) fun v34 => bnd (opStore (pt p 0) v34) fun _ => K).run n h = K.run (n + 1 + 1) h') ∧ IsS h' p (n + 1) (W + 1) w ∧ Fr (n + 1 + 1) h' ∧ ∀ c, c < n → c ≠ p → (W ≠ 0 → c ≠ b) → h'.get c = h.get c := by
  have hpn := f.lt x.ptr
  have g := x.gl
  have hne : tab W (fun k => u64 (w k)) ≠ [] → b ≠ n := fun h0 => by have := g.lt f h0; omega
  have g1 : Gl (h.set n ⟨[.int .u64 0], .own⟩) (if W = 0 then nsl else sl b 0 W (U + 1)) b (tab W fun k => u64 (w k)) := g.keep fun h0 => H.get_set_ne _ _ (hne h0)
  obtain ⟨h2, e2, g2, f2, k2⟩ := run_append (β := β) (bytes := 8) (x := .int .u64 0) g1 (f.new _) (H.get_set_same _ _ _) (by decide) rfl (tab_one fun _ _ => rfl) hne (by rw [tab_len]; omega)
  rw [tab_len] at e2 g2
  have hp2 : h2.get p = some ⟨[if W = 0 then nsl else sl b 0 W (U + 1)], .own⟩ := by
    rw [k2 p (by omega) (fun h0 => (x.ne (tab_ne.1 h0)).symm), H.get_set_ne _ _ (by omega)]; exact x.ptr
  refine ⟨h2.set p ⟨[sl (n + 1) 0 (W + 1) (U + 1)], .own⟩, fun K => ?_, ⟨by rw [H.get_set_same, if_neg (by omega)], fun _ => by omega, fun _ => ?_, x.lt, fun k hk => x.zero k (by omega), by omega, x.top⟩, f2.set _ (by omega), fun c hc hcp hcb => ?_⟩
  · rw [run_single f rfl, e2, run_store, hp2, stm_some (.inl rfl) rfl Nat.zero_lt_one]
    rfl
  · rw [H.get_set_ne _ _ (by omega), tab_succ, x.zero W (Nat.le_refl _)]
    rcases g2 with ⟨g0, _⟩ | ⟨_, _, g3⟩
    · simp at g0
    · exact g3
  · rw [H.get_set_ne _ _ hcp, k2 c (by omega) (fun h0 => hcb (tab_ne.1 h0)), H.get_set_ne _ _ (by omega)]

theorem add_l1 {F p a : Nat} {w : Nat → Nat} (ha : a < 5000) {E : Value → Value → M Value} : ∀ j k W b n (h : H), (a / 64 < W ∨ W + j = a / 64 + 1) → j < k → IsS h p b W w → Fr n h →
    ∃ n' h' b' W', (bitset_Set_Add_l1 F E k (pt p 0) (i64 a)).run n h = (E (pt p 0) (i64 a)).run n' h' ∧ IsS h' p b' W' w ∧ a / 64 < W' ∧ Fr n' h' ∧ n ≤ n' ∧ (∀ c, c < n → c ≠ p → (W ≠ 0 → c ≠ b) → h'.get c = h.get c) ∧ ((b' = b ∧ W ≠ 0) ∨ n ≤ b') := by
  intro j
  induction j with
  | zero =>
    intro k W b n h hj hk x f
    obtain ⟨k, rfl⟩ : ∃ j, k = j + 1 := ⟨k - 1, by omega⟩
    have hW : a / 64 < W := by omega
    rw [bitset_Set_Add_l1_s]
    unfold bitset_Set_Add_b1 bitset_Set_Add_r3
    have hl : ∀ K : Value → M Value, bnd (opLen (if W = 0 then nsl else sl b 0 W (U + 1))) K = K (i64 W) := fun K => by
      rw [x.gl.len, tab_len]
    simp only [st_nil, st_field, Nat.zero_add, run_load, x.ptr, ldm_some (show Kind.own ≠ .dead by decide) (show [if W = 0 then nsl else sl b 0 W (U + 1)][0]? = some (if W = 0 then nsl else sl b 0 W (U + 1)) from rfl), hl, st_quo (show (64 : Int) ≠ 0 by decide), show (a : Int).tdiv 64 = ((a / 64 : Nat) : Int) from rfl]
    rw [wrap64 (by omega)]
    simp only [st_leq, onB_ite, run_ite, decide_eq_true_eq]
    rw [if_neg (by omega)]
    exact ⟨n, h, b, W, rfl, x, hW, f, Nat.le_refl _, fun _ _ _ _ => rfl, .inl ⟨rfl, by omega⟩⟩
  | succ j ih =>
    intro k W b n h hj hk x f
    by_cases hW : a / 64 < W
    · obtain ⟨k', rfl⟩ : ∃ j, k = j + 1 := ⟨k - 1, by omega⟩
      exact ih (k' + 1) W b n h (.inl hW) (by omega) x f
    · obtain ⟨k, rfl⟩ : ∃ j, k = j + 1 := ⟨k - 1, by omega⟩
      rw [bitset_Set_Add_l1_s]
      unfold bitset_Set_Add_b1 bitset_Set_Add_r3
      have hl : ∀ K : Value → M Value, bnd (opLen (if W = 0 then nsl else sl b 0 W (U + 1))) K = K (i64 W) := fun K => by
        rw [x.gl.len, tab_len]
      simp only [st_nil, st_field, Nat.zero_add, run_load, x.ptr, ldm_some (show Kind.own ≠ .dead by decide) (show [if W = 0 then nsl else sl b 0 W (U + 1)][0]? = some (if W = 0 then nsl else sl b 0 W (U + 1)) from rfl), hl, st_quo (show (64 : Int) ≠ 0 by decide), show (a : Int).tdiv 64 = ((a / 64 : Nat) : Int) from rfl]
      rw [wrap64 (by omega)]
      simp only [st_leq, onB_ite, run_ite, decide_eq_true_eq]
      rw [if_pos (by omega)]
      unfold bitset_Set_Add_r4
      obtain ⟨h1, e1, x1, f1, k1⟩ := grow_step (F := F) (β := Value) x f (by omega) ret
      simp only [st_nil, st_field, Nat.zero_add, run_load, x.ptr, ldm_some (show Kind.own ≠ .dead by decide) (show [if W = 0 then nsl else sl b 0 W (U + 1)][0]? = some (if W = 0 then nsl else sl b 0 W (U + 1)) from rfl)]
      rw [e1]
      obtain ⟨n', h', b', W', q0, q1, q2, q3, q4, q5, q6⟩ := ih k (W + 1) (n + 1) (n + 1 + 1) h1 (by omega) (by omega) x1 f1
      refine ⟨n', h', b', W', q0, q1, q2, q3, by omega, fun c hc hcp hcb => ?_, .inr (by omega)⟩
      rw [q5 c (by omega) hcp (fun _ => by omega), k1 c hc hcp hcb]

/-- A word with a bit more. -/
def putW (w : Nat → Nat) (a k : Nat) : Nat := if k = a / 64 then w k ||| 2 ^ (a % 64) else w k

theorem putW_bit {w : Nat → Nat} {a m : Nat} : (putW w a (m / 64)).testBit (m % 64) = ((w (m / 64)).testBit (m % 64) || decide (m = a)) := by
  unfold putW
  by_cases h : m / 64 = a / 64
  · rw [if_pos h, Nat.testBit_or, Nat.testBit_two_pow]
    congr 1
    by_cases h2 : m = a
    · subst h2; simp
    · rw [decide_eq_false h2, decide_eq_false (by omega)]
  · rw [if_neg h, decide_eq_false (show m ≠ a by rintro rfl; exact h rfl), Bool.or_false]

/-- A set with a number more. -/
def putS (s : Nat → Bool) (a : Nat) (m : Nat) : Bool := s m || decide (m = a)

/-- May a number be put in, and is it new? -/
def canAdd (s : Nat → Bool) (a : Int) : Bool := decide (0 ≤ a ∧ a < 5000) && !s a.toNat

theorem add_spec {F n p : Nat} {O : Nat → Prop} {s : Nat → Bool} {h : H} (x : BS h p O s) (f : Fr n h) (a : Int) (hF : 100 < F) :
    ∃ n' h' O', (bitset_Set_Add F (pt p 0) (i64 a)).run n h = some (bo (canAdd s a), n', h') ∧ BS h' p O' (if canAdd s a = true then putS s a.toNat else s) ∧ Fr n' h' ∧ n ≤ n' ∧ (∀ c, c < n → ¬ O c → h'.get c = h.get c) ∧ ∀ c, O' c → O c ∨ n ≤ c := by
  unfold bitset_Set_Add bitset_Set_Add_r0 bitset_Set_Add_r1
  simp only [st_eqP1, Bool.false_xor, onB_ite, Bool.false_eq_true, if_false, st_lss, st_geq, run_ite, decide_eq_true_eq]
  by_cases h1 : a < 0
  · rw [if_pos h1, if_pos trivial]
    have : canAdd s a = false := by unfold canAdd; rw [decide_eq_false (by omega)]; rfl
    rw [this]
    exact ⟨n, h, O, rfl, x, f, Nat.le_refl _, fun _ _ _ => rfl, fun _ hc => .inl hc⟩
  rw [if_neg h1]
  by_cases h2 : 5000 ≤ a
  · rw [if_pos h2, if_pos trivial]
    have : canAdd s a = false := by unfold canAdd; rw [decide_eq_false (by omega)]; rfl
    rw [this]
    exact ⟨n, h, O, rfl, x, f, Nat.le_refl _, fun _ _ _ => rfl, fun _ hc => .inl hc⟩
  rw [if_neg h2, run_bnd (has_spec x a)]
  obtain ⟨a, rfl⟩ : ∃ m : Nat, a = m := ⟨a.toNat, by omega⟩
  simp only [onB_ite, run_ite]
  have hin : isIn s a = s a := by unfold isIn; rw [decide_eq_true (by omega), Bool.true_and]; rfl
  have hca : canAdd s a = !s a := by unfold canAdd; rw [decide_eq_true (by omega), Bool.true_and]; rfl
  rw [hin, hca]
  by_cases hs : s a = true
  · rw [if_pos hs, hs]
    exact ⟨n, h, O, rfl, x, f, Nat.le_refl _, fun _ _ _ => rfl, fun _ hc => .inl hc⟩
  · rw [if_neg hs]
    have hs' : s a = false := by simpa using hs
    rw [hs', Bool.not_false, if_pos rfl]
    obtain ⟨b, W, w, x, hsw, hO⟩ := x
    obtain ⟨n1, h1, b1, W1, e1, x1, hW1, f1, l1, k1, hb1⟩ := add_l1 (F := F) (p := p) (a := a) (w := w) (by omega) (E := fun x0 x1 => bitset_Set_Add_k0 F x0 x1) (a / 64 + 1 - W) F W b n h (by omega) (by have := x.few; omega) x f
    rw [e1]
    unfold bitset_Set_Add_k0 bitset_Set_Add_r5
    have hp1 := x1.ptr
    rw [if_neg (by omega)] at hp1
    have hb := x1.up (by omega)
    have hne1 := x1.ne (by omega)
    have hpw : 2 ^ (a % 64) < 2 ^ 64 := Nat.pow_lt_pow_right (by decide) (by omega)
    have hor : w (a / 64) ||| 2 ^ (a % 64) < 2 ^ 64 := Nat.or_lt_two_pow (x.lt _) hpw
    have h64 : a % 64 < 64 := by omega
    have hixb : a / 64 < (tab W1 fun k => u64 (w k)).length := by rw [tab_len]; exact hW1
    have hshl : ∀ K : Value → M Value, bnd (opBin .shl (.int .u64 1) (.int .i64 ((a % 64 : Nat) : Int))) K = K (u64 (2 ^ (a % 64))) := fun K => st_shlU h64
    have horr : ∀ K : Value → M Value, bnd (opBin .or (u64 (w (a / 64))) (u64 (2 ^ (a % 64)))) K = K (u64 (w (a / 64) ||| 2 ^ (a % 64))) := fun K => st_orU (x.lt _) hpw
    have hone : one (u64 (w (a / 64) ||| 2 ^ (a % 64))) = true := rfl
    simp only [st_nil, st_field, Nat.zero_add, run_load, hp1, ldm_some (show Kind.own ≠ .dead by decide) (show [sl b1 0 W1 (U + 1)][0]? = some (sl b1 0 W1 (U + 1)) from rfl), st_quo (show (64 : Int) ≠ 0 by decide), Int.toNat_natCast, show (a : Int).tdiv 64 = ((a / 64 : Nat) : Int) from rfl]
    rw [wrap64 (by omega)]
    simp only [st_ix, if_pos (show (0 : Int) ≤ ((a / 64 : Nat) : Int) ∧ ((a / 64 : Nat) : Int) < (W1 : Int) by omega), Int.toNat_natCast, Nat.mul_one, Nat.zero_add, run_load, hb, ldm_some (show Kind.grow ≠ .dead by decide) (tab_get (f := fun k => u64 (w k)) hW1), st_rem (show (64 : Int) ≠ 0 by decide), show (a : Int).tmod 64 = ((a % 64 : Nat) : Int) from rfl,
      hshl, horr, run_store, stm_some (show Kind.grow = .own ∨ Kind.grow = .grow by decide) hone hixb]
    have hbn := f1.lt hb
    refine ⟨n1, _, fun c => c = p ∨ c = b1, rfl, ⟨b1, W1, putW w a, ⟨?_, fun _ => hne1, fun _ => ?_, fun k => ?_, fun k hk => ?_, x1.few, ?_⟩, fun m => ?_, fun c => ?_⟩, f1.set _ hbn, l1, fun c hc hOc => ?_, fun c hc => ?_⟩
    · rw [H.get_set_ne _ _ hne1.symm, if_neg (by omega)]; exact hp1
    · have e : (tab W1 fun i => if i = a / 64 then u64 (w (a / 64) ||| 2 ^ (a % 64)) else u64 (w i)) = tab W1 fun k => u64 (putW w a k) := tab_ext fun k _ => by
        unfold putW
        by_cases hk : k = a / 64
        · rw [if_pos hk, if_pos hk, hk]
        · rw [if_neg hk, if_neg hk]
      rw [H.get_set_same, tab_set, e]
    · unfold putW
      split
      · rename_i e; rw [e]; exact hor
      · exact x.lt k
    · unfold putW
      rw [if_neg (by omega)]
      exact x1.zero k hk
    · unfold putW
      split
      · rename_i e
        have : 2 ^ (a % 64) < 2 ^ 8 := Nat.pow_lt_pow_right (by decide) (by omega)
        exact Nat.or_lt_two_pow (n := 8) x.top this
      · exact x.top
    · rw [putW_bit, ← hsw m]; rfl
    · constructor
      · rintro (h | h)
        · exact .inl h
        · exact .inr ⟨by omega, h⟩
      · rintro (h | ⟨_, h⟩)
        · exact .inl h
        · exact .inr h
    · have hcp : c ≠ p := fun e => hOc ((hO c).2 (.inl e))
      have hcb : W ≠ 0 → c ≠ b := fun h0 e => hOc ((hO c).2 (.inr ⟨h0, e⟩))
      rw [H.get_set_ne _ _ (by
        rcases hb1 with ⟨e, h0⟩ | h0
        · rw [e]; exact hcb h0
        · omega), k1 c hc hcp hcb]
    · rcases hc with rfl | rfl
      · exact .inl ((hO _).2 (.inl rfl))
      · rcases hb1 with ⟨e, h0⟩ | h0
        · exact .inl ((hO _).2 (.inr ⟨h0, e⟩))
        · exact .inr h0

end Go.Fw
