/-
  Sets of numbers, lists of numbers: what the functions of these come to, said of the abstract machine.
-/
import Derived.Test.YtddafkflndhnfaaDoorGenT
import Derived.Test.YtddafkflndhnfaaDoorFwU
import Derived.Test.YtddafkflndhnfaaDoorFwX
import Derived.Test.YtddafkflndhnfaaDoorFwY
import Derived.KernelRfl
set_option maxRecDepth 20000
set_option linter.unusedVariables false
namespace Go.Fw


structure IsS (h : H) (p b W : Nat) (w : Nat → Nat) : Prop where
  ptr : h.get p = some ⟨[if W = 0 then nsl else sl b 0 W (U + 1)], .own⟩
  ne : W ≠ 0 → b ≠ p
  up : W ≠ 0 → h.get b = some ⟨tab W (fun k => u64 (w k)), .grow⟩
  lt : ∀ k, w k < 2 ^ 64
  zero : ∀ k, W ≤ k → w k = 0
  few : W ≤ 79
  top : w 78 < 256

/-- A set that the call itself made: who is in; which blocks are its own. -/
def BS (h : H) (p : Nat) (O : Nat → Prop) (s : Nat → Bool) : Prop :=
  ∃ b W w, IsS h p b W w ∧ (∀ n, s n = (w (n / 64)).testBit (n % 64)) ∧ ∀ c, O c ↔ (c = p ∨ (W ≠ 0 ∧ c = b))

theorem BS.keep {h h' : H} {p : Nat} {O : Nat → Prop} {s : Nat → Bool} (x : BS h p O s) (hk : ∀ c, O c → h'.get c = h.get c) : BS h' p O s := by
  obtain ⟨b, W, w, i, hs, hO⟩ := x
  refine ⟨b, W, w, ⟨by rw [hk p ((hO p).2 (.inl rfl))]; exact i.ptr, i.ne, fun h0 => by rw [hk b ((hO b).2 (.inr ⟨h0, rfl⟩))]; exact i.up h0, i.lt, i.zero, i.few, i.top⟩, hs, hO⟩
theorem BS.lt {h : H} {p n : Nat} {O : Nat → Prop} {s : Nat → Bool} (x : BS h p O s) (f : Fr n h) : ∀ c, O c → c < n := by
  obtain ⟨b, W, w, i, hs, hO⟩ := x
  intro c hc
  rcases (hO c).1 hc with rfl | ⟨h0, rfl⟩
  · exact f.lt i.ptr
  · exact f.lt (i.up h0)

theorem words_spec {F n p b W : Nat} {w : Nat → Nat} {h : H} (x : IsS h p b W w) : (bitset_Set_words F (pt p 0)).run n h = some ((if W = 0 then nsl else sl b 0 W (U + 1)), n, h) := by
  unfold bitset_Set_words bitset_Set_words_r0 bitset_Set_words_r1
  simp only [st_eqP1, Bool.false_xor, onB_ite, Bool.false_eq_true, if_false]
  unfold bitset_Set_words_r3
  simp only [st_nil, st_field, Nat.zero_add, run_load, x.ptr, ldm_some (show Kind.own ≠ .dead by decide) (show [if W = 0 then nsl else sl b 0 W (U + 1)][0]? = some (if W = 0 then nsl else sl b 0 W (U + 1)) from rfl)]
  rfl

theorem at_spec {F n p b W : Nat} {w : Nat → Nat} {h : H} (x : IsS h p b W w) (k : Nat) : (bitset_Set_at F (pt p 0) (i64 k)).run n h = some (u64 (w k), n, h) := by
  unfold bitset_Set_at bitset_Set_at_r0 bitset_Set_at_r1
  rw [run_bnd (words_spec x)]
  unfold bitset_Set_at_r2
  by_cases h0 : W = 0
  · rw [if_pos h0, x.zero k (by omega)]
    simp only [st_len, st_lss, onB_ite, run_ite, decide_eq_true_eq]
    rw [if_neg (by omega)]
    rfl
  · rw [if_neg h0]
    simp only [st_len, st_lss, onB_ite, run_ite, decide_eq_true_eq]
    by_cases hk : k < W
    · rw [if_pos (by omega)]
      unfold bitset_Set_at_r3
      simp only [st_ix, if_pos (show (0 : Int) ≤ (k : Int) ∧ (k : Int) < (W : Int) by omega), Int.toNat_natCast, Nat.mul_one, Nat.zero_add, run_load, x.up h0, ldm_some (show Kind.grow ≠ .dead by decide) (tab_get (f := fun k => u64 (w k)) hk)]
      rfl
    · rw [if_neg (by omega), x.zero k (by omega)]
      rfl

/-- Is a number in? -/
def isIn (s : Nat → Bool) (n : Int) : Bool := decide (0 ≤ n ∧ n < 5000) && s n.toNat

theorem has_spec {F n p : Nat} {O : Nat → Prop} {s : Nat → Bool} {h : H} (x : BS h p O s) (a : Int) : (bitset_Set_Has F (pt p 0) (i64 a)).run n h = some (bo (isIn s a), n, h) := by
  obtain ⟨b, W, w, x, hs, _⟩ := x
  unfold bitset_Set_Has bitset_Set_Has_r0 bitset_Set_Has_r1
  simp only [st_geq, st_lss, onB_ite, run_ite, decide_eq_true_eq]
  by_cases h1 : 0 ≤ a
  · rw [if_pos h1]
    by_cases h2 : a < 5000
    · rw [if_pos h2, st_quo (by decide)]
      obtain ⟨m, rfl⟩ : ∃ m : Nat, a = m := ⟨a.toNat, by omega⟩
      rw [show (m : Int).tdiv 64 = ((m / 64 : Nat) : Int) from rfl, wrap64 (by omega), run_bnd (at_spec x (m / 64))]
      simp only [st_rem (show (64 : Int) ≠ 0 by decide), show (m : Int).tmod 64 = ((m % 64 : Nat) : Int) from rfl]
      rw [st_shrU (by omega), show (Value.int .u64 1) = u64 1 from rfl, st_andU (Nat.lt_of_le_of_lt (Nat.div_le_self _ _) (x.lt _)) (by decide), st_eql]
      have : isIn s m = ((((w (m / 64) / 2 ^ (m % 64) &&& 1 : Nat) : Int)) == ((1 : Nat) : Int)) := by
        unfold isIn
        rw [decide_eq_true (by omega), Bool.true_and, Int.toNat_natCast, hs m, Nat.testBit_eq_decide_div_mod_eq, Nat.and_one_is_mod]
        by_cases hq : w (m / 64) / 2 ^ (m % 64) % 2 = 1
        · rw [decide_eq_true hq, hq]; rfl
        · rw [decide_eq_false hq]; symm; rw [beq_eq_false_iff_ne]; omega
      rw [this]; rfl
    · rw [if_neg h2]
      have : isIn s a = false := by unfold isIn; rw [decide_eq_false (by omega)]; rfl
      rw [this]; rfl
  · rw [if_neg h1]
    have : isIn s a = false := by unfold isIn; rw [decide_eq_false (by omega)]; rfl
    rw [this]; rfl

theorem IsS.gl {h : H} {p b W : Nat} {w : Nat → Nat} (x : IsS h p b W w) : Gl h (if W = 0 then nsl else sl b 0 W (U + 1)) b (tab W fun k => u64 (w k)) := by
  by_cases h0 : W = 0
  · subst h0; exact .inl ⟨rfl, rfl⟩
  · rw [if_neg h0]
    exact .inr ⟨tab_ne.2 h0, by rw [tab_len], x.up h0⟩

/-- One word more, if it takes one. -/
theorem grow_step {F n p b W : Nat} {w : Nat → Nat} {h : H} {β : Type} (x : IsS h p b W w) (f : Fr n h) (hW : W < 79) (k : Value → M β) :
    ∃ h', (∀ K : M β, (bnd (opBuildSlice 1 (rep 1 [(.int .u64 (0))]) [(0, 1, false, (.int .u64 (0)))]) fun v33 => bnd (opAppend 1 8 (if W = 0 then nsl else sl b 0 W (U + 1)) v33) fun v34 => bnd (opStore (pt p 0) v34) fun _ => K).run n h = K.run (n + 1 + 1) h') ∧ IsS h' p (n + 1) (W + 1) w ∧ Fr (n + 1 + 1) h' ∧ ∀ c, c < n → c ≠ p → (W ≠ 0 → c ≠ b) → h'.get c = h.get c := by
  have hpn := f.lt x.ptr
  have g := x.gl
  have hne : tab W (fun k => u64 (w k)) ≠ [] → b ≠ n := fun h0 => by have := g.lt f h0; omega
  have g1 : Gl (h.set n ⟨[.int .u64 0], .own⟩) (if W = 0 then nsl else sl b 0 W (U + 1)) b (tab W fun k => u64 (w k)) := g.keep fun h0 => H.get_set_ne _ _ (hne h0)
  obtain ⟨h2, e2, g2, f2, k2⟩ := run_append (β := β) (bytes := 8) (x := .int .u64 0) g1 (f.new _) (H.get_set_same _ _ _) (by decide) rfl (tab_one fun _ _ => rfl) hne (by rw [tab_len]; omega)
  rw [tab_len] at e2 g2
  have hp2 : h2.get p = some ⟨[if W = 0 then nsl else sl b 0 W (U + 1)], .own⟩ := by
    rw [k2 p (by omega) (fun h0 => (x.ne (tab_ne.1 h0)).symm), H.get_set_ne _ _ (by omega)]; exact x.ptr
  refine ⟨h2.set p ⟨[sl (n + 1) 0 (W + 1) (U + 1)], .own⟩, fun K => ?_, ⟨by rw [H.get_set_same, if_neg (by omega)], fun _ => by omega, fun _ => ?_, x.lt, fun k hk => x.zero k (by omega), by omega, x.top⟩, f2.set _ (by omega), fun c hc hcp hcb => ?_⟩
  · rw [run_single f rfl, e2, run_store, hp2, stm_some (.inl rfl) rfl Nat.zero_lt_one]
    rfl
  · rw [H.get_set_ne _ _ (by omega), tab_succ, x.zero W (Nat.le_refl _)]
    rcases g2 with ⟨g0, _⟩ | ⟨_, _, g3⟩
    · simp at g0
    · exact g3
  · rw [H.get_set_ne _ _ hcp, k2 c (by omega) (fun h0 => hcb (tab_ne.1 h0)), H.get_set_ne _ _ (by omega)]

theorem add_l1 {F p a : Nat} {w : Nat → Nat} (ha : a < 5000) {E : Value → Value → M Value} : ∀ j k W b n (h : H), (a / 64 < W ∨ W + j = a / 64 + 1) → j < k → IsS h p b W w → Fr n h →
    ∃ n' h' b' W', (bitset_Set_Add_l1 F E k (pt p 0) (i64 a)).run n h = (E (pt p 0) (i64 a)).run n' h' ∧ IsS h' p b' W' w ∧ a / 64 < W' ∧ Fr n' h' ∧ n ≤ n' ∧ (∀ c, c < n → c ≠ p → (W ≠ 0 → c ≠ b) → h'.get c = h.get c) ∧ ((b' = b ∧ W ≠ 0) ∨ n ≤ b') := by
  intro j
  induction j with
  | zero =>
    intro k W b n h hj hk x f
    obtain ⟨k, rfl⟩ : ∃ j, k = j + 1 := ⟨k - 1, by omega⟩
    have hW : a / 64 < W := by omega
    rw [bitset_Set_Add_l1_s]
    unfold bitset_Set_Add_b1 bitset_Set_Add_r3
    have hl : ∀ K : Value → M Value, bnd (opLen (if W = 0 then nsl else sl b 0 W (U + 1))) K = K (i64 W) := fun K => by
      rw [x.gl.len, tab_len]
    simp only [st_nil, st_field, Nat.zero_add, run_load, x.ptr, ldm_some (show Kind.own ≠ .dead by decide) (show [if W = 0 then nsl else sl b 0 W (U + 1)][0]? = some (if W = 0 then nsl else sl b 0 W (U + 1)) from rfl), hl, st_quo (show (64 : Int) ≠ 0 by decide), show (a : Int).tdiv 64 = ((a / 64 : Nat) : Int) from rfl]
    rw [wrap64 (by omega)]
    simp only [st_leq, onB_ite, run_ite, decide_eq_true_eq]
    rw [if_neg (by omega)]
    exact ⟨n, h, b, W, rfl, x, hW, f, Nat.le_refl _, fun _ _ _ _ => rfl, .inl ⟨rfl, by omega⟩⟩
  | succ j ih =>
    intro k W b n h hj hk x f
    by_cases hW : a / 64 < W
    · obtain ⟨k', rfl⟩ : ∃ j, k = j + 1 := ⟨k - 1, by omega⟩
      exact ih (k' + 1) W b n h (.inl hW) (by omega) x f
    · obtain ⟨k, rfl⟩ : ∃ j, k = j + 1 := ⟨k - 1, by omega⟩
      rw [bitset_Set_Add_l1_s]
      unfold bitset_Set_Add_b1 bitset_Set_Add_r3
      have hl : ∀ K : Value → M Value, bnd (opLen (if W = 0 then nsl else sl b 0 W (U + 1))) K = K (i64 W) := fun K => by
        rw [x.gl.len, tab_len]
      simp only [st_nil, st_field, Nat.zero_add, run_load, x.ptr, ldm_some (show Kind.own ≠ .dead by decide) (show [if W = 0 then nsl else sl b 0 W (U + 1)][0]? = some (if W = 0 then nsl else sl b 0 W (U + 1)) from rfl), hl, st_quo (show (64 : Int) ≠ 0 by decide), show (a : Int).tdiv 64 = ((a / 64 : Nat) : Int) from rfl]
      rw [wrap64 (by omega)]
      simp only [st_leq, onB_ite, run_ite, decide_eq_true_eq]
      rw [if_pos (by omega)]
      unfold bitset_Set_Add_r4
      obtain ⟨h1, e1, x1, f1, k1⟩ := grow_step (F := F) (β := Value) x f (by omega) ret
      simp only [st_nil, st_field, Nat.zero_add, run_load, x.ptr, ldm_some (show Kind.own ≠ .dead by decide) (show [if W = 0 then nsl else sl b 0 W (U + 1)][0]? = some (if W = 0 then nsl else sl b 0 W (U + 1)) from rfl)]
      rw [e1]
      obtain ⟨n', h', b', W', q0, q1, q2, q3, q4, q5, q6⟩ := ih k (W + 1) (n + 1) (n + 1 + 1) h1 (by omega) (by omega) x1 f1
      refine ⟨n', h', b', W', q0, q1, q2, q3, by omega, fun c hc hcp hcb => ?_, .inr (by omega)⟩
      rw [q5 c (by omega) hcp (fun _ => by omega), k1 c hc hcp hcb]

/-- A word with a bit more. -/
def putW (w : Nat → Nat) (a k : Nat) : Nat := if k = a / 64 then w k ||| 2 ^ (a % 64) else w k

theorem putW_bit {w : Nat → Nat} {a m : Nat} : (putW w a (m / 64)).testBit (m % 64) = ((w (m / 64)).testBit (m % 64) || decide (m = a)) := by
  unfold putW
  by_cases h : m / 64 = a / 64
  · rw [if_pos h, Nat.testBit_or, Nat.testBit_two_pow]
    congr 1
    by_cases h2 : m = a
    · subst h2; simp
    · rw [decide_eq_false h2, decide_eq_false (by omega)]
  · rw [if_neg h, decide_eq_false (show m ≠ a by rintro rfl; exact h rfl), Bool.or_false]

/-- A set with a number more. -/
def putS (s : Nat → Bool) (a : Nat) (m : Nat) : Bool := s m || decide (m = a)

/-- May a number be put in, and is it new? -/
def canAdd (s : Nat → Bool) (a : Int) : Bool := decide (0 ≤ a ∧ a < 5000) && !s a.toNat

theorem add_spec {F n p : Nat} {O : Nat → Prop} {s : Nat → Bool} {h : H} (x : BS h p O s) (f : Fr n h) (a : Int) (hF : 100 < F) :
    ∃ n' h' O', (bitset_Set_Add F (pt p 0) (i64 a)).run n h = some (bo (canAdd s a), n', h') ∧ BS h' p O' (if canAdd s a = true then putS s a.toNat else s) ∧ Fr n' h' ∧ n ≤ n' ∧ (∀ c, c < n → ¬ O c → h'.get c = h.get c) ∧ ∀ c, O' c → O c ∨ n ≤ c := by
  unfold bitset_Set_Add bitset_Set_Add_r0 bitset_Set_Add_r1
  simp only [st_eqP1, Bool.false_xor, onB_ite, Bool.false_eq_true, if_false, st_lss, st_geq, run_ite, decide_eq_true_eq]
  by_cases h1 : a < 0
  · rw [if_pos h1, if_pos trivial]
    have : canAdd s a = false := by unfold canAdd; rw [decide_eq_false (by omega)]; rfl
    rw [this]
    exact ⟨n, h, O, rfl, x, f, Nat.le_refl _, fun _ _ _ => rfl, fun _ hc => .inl hc⟩
  rw [if_neg h1]
  by_cases h2 : 5000 ≤ a
  · rw [if_pos h2, if_pos trivial]
    have : canAdd s a = false := by unfold canAdd; rw [decide_eq_false (by omega)]; rfl
    rw [this]
    exact ⟨n, h, O, rfl, x, f, Nat.le_refl _, fun _ _ _ => rfl, fun _ hc => .inl hc⟩
  rw [if_neg h2, run_bnd (has_spec x a)]
  obtain ⟨a, rfl⟩ : ∃ m : Nat, a = m := ⟨a.toNat, by omega⟩
  simp only [onB_ite, run_ite]
  have hin : isIn s a = s a := by unfold isIn; rw [decide_eq_true (by omega), Bool.true_and]; rfl
  have hca : canAdd s a = !s a := by unfold canAdd; rw [decide_eq_true (by omega), Bool.true_and]; rfl
  rw [hin, hca]
  by_cases hs : s a = true
  · rw [if_pos hs, hs]
    exact ⟨n, h, O, rfl, x, f, Nat.le_refl _, fun _ _ _ => rfl, fun _ hc => .inl hc⟩
  · rw [if_neg hs]
    have hs' : s a = false := by simpa using hs
    rw [hs', Bool.not_false, if_pos rfl]
    obtain ⟨b, W, w, x, hsw, hO⟩ := x
    obtain ⟨n1, h1, b1, W1, e1, x1, hW1, f1, l1, k1, hb1⟩ := add_l1 (F := F) (p := p) (a := a) (w := w) (by omega) (E := fun x0 x1 => bitset_Set_Add_k0 F x0 x1) (a / 64 + 1 - W) F W b n h (by omega) (by have := x.few; omega) x f
    rw [e1]
    unfold bitset_Set_Add_k0 bitset_Set_Add_r5
    have hp1 := x1.ptr
    rw [if_neg (by omega)] at hp1
    have hb := x1.up (by omega)
    have hne1 := x1.ne (by omega)
    have hpw : 2 ^ (a % 64) < 2 ^ 64 := Nat.pow_lt_pow_right (by decide) (by omega)
    have hor : w (a / 64) ||| 2 ^ (a % 64) < 2 ^ 64 := Nat.or_lt_two_pow (x.lt _) hpw
    have h64 : a % 64 < 64 := by omega
    have hixb : a / 64 < (tab W1 fun k => u64 (w k)).length := by rw [tab_len]; exact hW1
    have hshl : ∀ K : Value → M Value, bnd (opBin .shl (.int .u64 1) (.int .i64 ((a % 64 : Nat) : Int))) K = K (u64 (2 ^ (a % 64))) := fun K => st_shlU h64
    have horr : ∀ K : Value → M Value, bnd (opBin .or (u64 (w (a / 64))) (u64 (2 ^ (a % 64)))) K = K (u64 (w (a / 64) ||| 2 ^ (a % 64))) := fun K => st_orU (x.lt _) hpw
    have hone : one (u64 (w (a / 64) ||| 2 ^ (a % 64))) = true := rfl
    simp only [st_nil, st_field, Nat.zero_add, run_load, hp1, ldm_some (show Kind.own ≠ .dead by decide) (show [sl b1 0 W1 (U + 1)][0]? = some (sl b1 0 W1 (U + 1)) from rfl), st_quo (show (64 : Int) ≠ 0 by decide), Int.toNat_natCast, show (a : Int).tdiv 64 = ((a / 64 : Nat) : Int) from rfl]
    rw [wrap64 (by omega)]
    simp only [st_ix, if_pos (show (0 : Int) ≤ ((a / 64 : Nat) : Int) ∧ ((a / 64 : Nat) : Int) < (W1 : Int) by omega), Int.toNat_natCast, Nat.mul_one, Nat.zero_add, run_load, hb, ldm_some (show Kind.grow ≠ .dead by decide) (tab_get (f := fun k => u64 (w k)) hW1), st_rem (show (64 : Int) ≠ 0 by decide), show (a : Int).tmod 64 = ((a % 64 : Nat) : Int) from rfl,
      hshl, horr, run_store, stm_some (show Kind.grow = .own ∨ Kind.grow = .grow by decide) hone hixb]
    have hbn := f1.lt hb
    refine ⟨n1, _, fun c => c = p ∨ c = b1, rfl, ⟨b1, W1, putW w a, ⟨?_, fun _ => hne1, fun _ => ?_, fun k => ?_, fun k hk => ?_, x1.few, ?_⟩, fun m => ?_, fun c => ?_⟩, f1.set _ hbn, l1, fun c hc hOc => ?_, fun c hc => ?_⟩
    · rw [H.get_set_ne _ _ hne1.symm, if_neg (by omega)]; exact hp1
    · have e : (tab W1 fun i => if i = a / 64 then u64 (w (a / 64) ||| 2 ^ (a % 64)) else u64 (w i)) = tab W1 fun k => u64 (putW w a k) := tab_ext fun k _ => by
        unfold putW
        by_cases hk : k = a / 64
        · rw [if_pos hk, if_pos hk, hk]
        · rw [if_neg hk, if_neg hk]
      rw [H.get_set_same, tab_set, e]
    · unfold putW
      split
      · rename_i e; rw [e]; exact hor
      · exact x.lt k
    · unfold putW
      rw [if_neg (by omega)]
      exact x1.zero k hk
    · unfold putW
      split
      · rename_i e
        have : 2 ^ (a % 64) < 2 ^ 8 := Nat.pow_lt_pow_right (by decide) (by omega)
        exact Nat.or_lt_two_pow (n := 8) x.top this
      · exact x.top
    · rw [putW_bit, ← hsw m]; rfl
    · constructor
      · rintro (h | h)
        · exact .inl h
        · exact .inr ⟨by omega, h⟩
      · rintro (h | ⟨_, h⟩)
        · exact .inl h
        · exact .inr h
    · have hcp : c ≠ p := fun e => hOc ((hO c).2 (.inl e))
      have hcb : W ≠ 0 → c ≠ b := fun h0 e => hOc ((hO c).2 (.inr ⟨h0, e⟩))
      rw [H.get_set_ne _ _ (by
        rcases hb1 with ⟨e, h0⟩ | h0
        · rw [e]; exact hcb h0
        · omega), k1 c hc hcp hcb]
    · rcases hc with rfl | rfl
      · exact .inl ((hO _).2 (.inl rfl))
      · rcases hb1 with ⟨e, h0⟩ | h0
        · exact .inl ((hO _).2 (.inr ⟨h0, e⟩))
        · exact .inr h0


theorem andNot_zero {a b : Nat} (ha : a < 2 ^ 64) (hb : b < 2 ^ 64) (h : ∀ i, i < 64 → a.testBit i = true → b.testBit i = true) : andNot a b = 0 := by
  apply Nat.eq_of_testBit_eq
  intro i
  rw [andNot_bit ha hb, Nat.zero_testBit]
  by_cases hi : i < 64
  · cases hq : a.testBit i with
    | false => rfl
    | true => rw [h i hi hq]; rfl
  · rw [Nat.testBit_lt_two_pow (Nat.lt_of_lt_of_le ha (Nat.pow_le_pow_right (by decide) (by omega)))]; rfl

/-- A new set, with nobody in. -/
theorem new_set {n : Nat} {h : H} (f : Fr n h) {k : Value → M Value} :
    (bnd (opBuild [nsl] []) fun v6 => bnd (opBoxN v6) k).run n h = (k (pt n 0)).run (n + 1) (h.set n ⟨[nsl], .own⟩) ∧ BS (h.set n ⟨[nsl], .own⟩) n (fun c => c = n) (fun _ => false) ∧ Fr (n + 1) (h.set n ⟨[nsl], .own⟩) := by
  refine ⟨?_, ⟨0, 0, fun _ => 0, ⟨by rw [H.get_set_same]; rfl, fun h => absurd rfl h, fun h => absurd rfl h, fun _ => by decide, fun _ _ => rfl, by decide, by decide⟩, fun m => by simp, fun c => by simp⟩, f.new _⟩
  have hb : opBuild [nsl] [] = ret (.agg #[nsl]) := rfl
  rw [hb]
  simp only [ret_bnd]
  rw [show (Value.agg #[nsl]) = .agg ([nsl] : List Value).toArray from rfl, run_box f rfl]

/-! ## Numbers that came in -/

def IntsA (h : H) (v : Value) (zs : List Int) : Prop :=
  (zs = [] ∧ v = nsl) ∨ ∃ b cap xs, v = sl b 0 zs.length cap ∧ zs.length ≤ cap ∧ cap < 9223372036854775808 ∧ (zs ≠ [] → b < 8 ∧ h.get b = some ⟨xs, .ro⟩ ∧ ∀ i, i < zs.length → xs[i]? = (zs.map i64)[i]?)

theorem IntsA.keep {h h' : H} {v : Value} {zs : List Int} (w : IntsA h v zs) (hk : ∀ c, c < 8 → h'.get c = h.get c) : IntsA h' v zs := by
  rcases w with w | ⟨b, cap, xs, rfl, g1, g2, g3⟩
  · exact .inl w
  · exact .inr ⟨b, cap, xs, rfl, g1, g2, fun h0 => ⟨(g3 h0).1, by rw [hk _ (g3 h0).1]; exact (g3 h0).2.1, (g3 h0).2.2⟩⟩
theorem IntsA.rd {h : H} {v : Value} {zs : List Int} (w : IntsA h v zs) : Rd h v (zs.map i64) := by
  rcases w with ⟨rfl, rfl⟩ | ⟨b, cap, xs, rfl, _, _, g3⟩
  · exact .inl ⟨rfl, rfl⟩
  · refine .inr ⟨b, 0, cap, .ro, by rw [List.length_map], fun h0 => ?_⟩
    have hz : zs ≠ [] := fun e => h0 (by rw [e]; rfl)
    exact ⟨xs, (g3 hz).2.1, by decide, fun i hi => by rw [Nat.zero_add]; exact (g3 hz).2.2 i (by simpa using hi)⟩

/-- The set of some numbers. -/
def setOf (zs : List Int) (m : Nat) : Bool := (zs.any fun z => z == (m : Int)) && decide (m < 5000)

theorem setOf_next {zs : List Int} {z : Int} (m : Nat) : (if canAdd (setOf zs) z = true then putS (setOf zs) z.toNat else setOf zs) m = setOf (zs ++ [z]) m := by
  have hr : setOf (zs ++ [z]) m = (setOf zs m || ((z == (m : Int)) && decide (m < 5000))) := by
    unfold setOf
    rw [List.any_append]
    simp only [List.any_cons, List.any_nil, Bool.or_false]
    cases (zs.any fun z => z == (m : Int)) <;> cases (z == (m : Int)) <;> cases decide (m < 5000) <;> rfl
  rw [hr]
  by_cases hc : canAdd (setOf zs) z = true
  · rw [if_pos hc]
    unfold canAdd at hc
    simp only [Bool.and_eq_true, decide_eq_true_eq] at hc
    unfold putS
    congr 1
    by_cases h : m = z.toNat
    · rw [decide_eq_true h, decide_eq_true (by omega), Bool.and_true]; symm; rw [beq_iff_eq]; omega
    · rw [decide_eq_false h]; symm
      rw [Bool.and_eq_false_iff]; left; rw [beq_eq_false_iff_ne]; omega
  · rw [if_neg hc]
    by_cases h : (z == (m : Int)) = true ∧ m < 5000
    · have hz : z = (m : Int) := by simpa using h.1
      subst hz
      have : setOf zs m = true := by
        cases hq : setOf zs m with
        | true => rfl
        | false =>
          exfalso; apply hc
          unfold canAdd
          rw [decide_eq_true (by omega), Bool.true_and, Int.toNat_natCast, hq]; rfl
      rw [this]; rfl
    · have : ((z == (m : Int)) && decide (m < 5000)) = false := by
        rw [Bool.and_eq_false_iff]
        by_cases h1 : (z == (m : Int)) = true
        · right; rw [decide_eq_false_iff_not]; exact fun h2 => h ⟨h1, h2⟩
        · left; simpa using h1
      rw [this, Bool.or_false]


/-- What the listed table holds. -/
def bytesOf : List Nat := [0, 1, 56, 2, 57, 49, 28, 3, 61, 58, 42, 50, 38, 29, 17, 4, 62, 47, 59, 36, 45, 43, 51, 22, 53, 39, 33, 30, 24, 18, 12, 5, 63, 55, 48, 27, 60, 41, 37, 16, 46, 35, 44, 21, 52, 32, 23, 11, 54, 26, 40, 15, 34, 20, 31, 10, 25, 14, 19, 9, 13, 8, 7, 6]
def deB : List Value := bytesOf.map fun n : Nat => Value.int .u8 (n : Int)

/-- What is reckoned over the table alone holds over any heap that has it. -/
theorem run_over {α : Type} {m : M α} {n n' : Nat} {v : α} {h0 h : H} (e : m.run n (baseH deB) = some (v, n', h0)) (f : Fr n h) (hb : h.get 0 = some ⟨deB, .ro⟩) : ∃ h', m.run n h = some (v, n', h') := by
  have l := m.loc _ _ _ _ _ e
  obtain ⟨h', e', _⟩ := l.more h (fun b B hB => by
    unfold baseH at hB
    rw [H.get_set] at hB
    split at hB
    · rename_i e; subst e; rw [hb]; exact hB
    · simp [H.get] at hB) fun b hb _ => f b hb
  exact ⟨h', e'⟩


/-! ## How many bits -/

theorem mask1 : mask 2 1 32 = 6148914691236517205 := by decide
theorem mask2 : mask 4 3 16 = 3689348814741910323 := by decide
theorem mask3 : mask 8 15 8 = 1085102592571150095 := by decide

theorem st_addU {β : Type} {k : Value → M β} {a b : Nat} (hb : a + b < 2 ^ 64) : bnd (opBin .add (u64 a) (u64 b)) k = k (u64 (a + b)) := by
  rw [st_add, wrapU (by omega)]; rfl

theorem S_lt : ∀ m k x, S k m x < 2 ^ (k * m) ∨ k = 0
  | 0, k, x => by simp [S]
  | m + 1, k, x => by
    rcases S_lt m k (x / 2 ^ k) with h | h
    · by_cases hk : k = 0
      · exact .inr hk
      left
      have h1 := pc_le k (x % 2 ^ k)
      have h2 : k < 2 ^ k := Nat.lt_two_pow_self
      show pc k (x % 2 ^ k) + 2 ^ k * S k m (x / 2 ^ k) < _
      rw [Nat.mul_succ, Nat.pow_add, Nat.mul_comm (2 ^ (k * m))]
      have h3 : 2 ^ k * (S k m (x / 2 ^ k) + 1) ≤ 2 ^ k * 2 ^ (k * m) := Nat.mul_le_mul_left _ h
      rw [Nat.mul_add, Nat.mul_one] at h3
      omega
    · exact .inr h

theorem and127 (n : Nat) : n &&& 127 = n % 128 := by
  have := Nat.and_two_pow_sub_one_eq_mod n 7
  simpa using this

theorem st_andI {β : Type} {k : Value → M β} {a b : Nat} (ha : a < 2 ^ 63) (hb : b < 2 ^ 63) : bnd (opBin .and (i64 a) (i64 b)) k = k (i64 ((a &&& b : Nat) : Int)) := by
  have hor : a &&& b < 2 ^ 63 := Nat.lt_of_le_of_lt Nat.and_le_left ha
  have e : bin .and (i64 a) (i64 b) = some (i64 ((a &&& b : Nat) : Int)) := by
    show (if IntKind.i64 = IntKind.i64 then some (Value.int .i64 (IntKind.i64.wrap ((BitVec.ofInt 64 (a : Int) &&& BitVec.ofInt 64 (b : Int)).toNat : Int))) else none) = _
    rw [if_pos rfl, ofInt_nat, ofInt_nat, BitVec.toNat_and, BitVec.toNat_ofNat, BitVec.toNat_ofNat, Nat.mod_eq_of_lt (by omega), Nat.mod_eq_of_lt (by omega), wrap64 (by omega)]
  unfold opBin; rw [e]; rfl

theorem S4_le : ∀ m x, S 4 m x * 15 + 4 ≤ 4 * 16 ^ m
  | 0, x => by simp [S]
  | m + 1, x => by
    have ih := S4_le m (x / 16)
    have h1 := pc_le 4 (x % 2 ^ 4)
    show (pc 4 (x % 2 ^ 4) + 2 ^ 4 * S 4 m (x / 16)) * 15 + 4 ≤ 4 * 16 ^ (m + 1)
    generalize pc 4 (x % 2 ^ 4) = d at *
    rw [Nat.pow_succ 16]
    omega

theorem ones_spec {F n : Nat} {h : H} (x : Nat) (hx : x < 2 ^ 64) : (bits_OnesCount64 F (u64 x)).run n h = some (i64 ((bitsOf x).length : Int), n, h) := by
  have s1 := step1 32 x
  have s2 := step2 16 x
  have s3 := step3 8 x
  rw [mask1] at s1; rw [mask2] at s2; rw [mask3] at s3
  obtain ⟨A, hA, hc, hb⟩ := count_bits x
  have l1 : S 2 32 x < 2 ^ 64 := (S_lt 32 2 x).resolve_right (by decide)
  have l2 := S4_le 16 x
  rw [show (4 : Nat) * 16 ^ 16 = 73786976294838206464 from rfl] at l2
  have l3 : A + A / 256 < 2 ^ 61 := by omega
  have l4 : A + A / 256 + (A + A / 256) / 65536 < 2 ^ 62 := by omega
  have l5 : A + A / 256 + (A + A / 256) / 65536 + (A + A / 256 + (A + A / 256) / 65536) / 4294967296 < 2 ^ 63 := by omega
  have t1 : ∀ a : Nat, ∀ k : Value → M Value, bnd (opBin .shr (u64 a) (.int .u64 1)) k = k (u64 (a / 2)) := fun a k => st_shrU (s := 1) (by omega)
  have t2 : ∀ a : Nat, ∀ k : Value → M Value, bnd (opBin .shr (u64 a) (.int .u64 2)) k = k (u64 (a / 4)) := fun a k => st_shrU (s := 2) (by omega)
  have t4 : ∀ a : Nat, ∀ k : Value → M Value, bnd (opBin .shr (u64 a) (.int .u64 4)) k = k (u64 (a / 16)) := fun a k => st_shrU (s := 4) (by omega)
  have t8 : ∀ a : Nat, ∀ k : Value → M Value, bnd (opBin .shr (u64 a) (.int .u64 8)) k = k (u64 (a / 256)) := fun a k => st_shrU (s := 8) (by omega)
  have t16 : ∀ a : Nat, ∀ k : Value → M Value, bnd (opBin .shr (u64 a) (.int .u64 16)) k = k (u64 (a / 65536)) := fun a k => st_shrU (s := 16) (by omega)
  have t32 : ∀ a : Nat, ∀ k : Value → M Value, bnd (opBin .shr (u64 a) (.int .u64 32)) k = k (u64 (a / 4294967296)) := fun a k => st_shrU (s := 32) (by omega)
  have q1 : ∀ K : Value → M Value, (bnd (opBin .and (u64 (x / 2)) (.int .u64 6148914691236517205)) fun v5 => bnd (opBin .and (u64 x) (.int .u64 6148914691236517205)) fun v7 => bnd (opBin .add v5 v7) K) = K (u64 (S 2 32 x)) := fun K => by
    rw [show (Value.int .u64 6148914691236517205) = u64 6148914691236517205 from rfl, st_andU (by omega) (by decide), st_andU hx (by decide), st_addU (by rw [s1]; exact l1), s1]
  have q2 : ∀ K : Value → M Value, (bnd (opBin .and (u64 (S 2 32 x / 4)) (.int .u64 3689348814741910323)) fun v5 => bnd (opBin .and (u64 (S 2 32 x)) (.int .u64 3689348814741910323)) fun v7 => bnd (opBin .add v5 v7) K) = K (u64 (S 4 16 x)) := fun K => by
    rw [show (Value.int .u64 3689348814741910323) = u64 3689348814741910323 from rfl, st_andU (by omega) (by decide), st_andU l1 (by decide), st_addU (by rw [s2]; omega), s2]
  have q3 : ∀ K : Value → M Value, (bnd (opBin .add (u64 (S 4 16 x / 16)) (u64 (S 4 16 x))) fun v18 => bnd (opBin .and v18 (.int .u64 1085102592571150095)) K) = K (u64 A) := fun K => by
    rw [show (Value.int .u64 1085102592571150095) = u64 1085102592571150095 from rfl, st_addU (by omega), st_andU (by omega) (by decide), s3, hA]
  unfold bits_OnesCount64 bits_OnesCount64_r0 bits_OnesCount64_r1 bits_OnesCount64_r2 bits_OnesCount64_r3 bits_OnesCount64_r4 bits_OnesCount64_r5 bits_OnesCount64_r6 bits_OnesCount64_r7
  dsimp only
  rw [t1, q1, t2, q2, t4, q3, t8, st_addU (by omega), t16, st_addU (by omega), t32, st_addU (by omega), st_conv, wrap64 (by omega), show (Value.int .i64 127) = i64 ((127 : Nat) : Int) from rfl, st_andI l5 (by decide), and127, hc, pc64]
  rfl

/-! ## The lowest bit -/

theorem deB_at : ∀ t, t < 64 → bytesOf[2 ^ t * 285870213051353865 % 18446744073709551616 / 288230376151711744]? = some t := by decide +kernel

theorem tz_neg {x : Nat} (hx : x < 18446744073709551616) (h0 : x ≠ 0) : ((0 : Int) - (x : Int)) % 18446744073709551616 = ((18446744073709551615 - (x - 1) : Nat) : Int) := by omega
theorem tz_mul {a : Nat} : (a : Int) * 285870213051353865 % 18446744073709551616 = ((a * 285870213051353865 % 18446744073709551616 : Nat) : Int) := by omega
theorem tz_and {x t : Nat} (l : Low x t) : x &&& (18446744073709551615 - (x - 1)) = 2 ^ t := l.neg

theorem tz_spec {F n x t : Nat} {h : H} (hx : x < 2 ^ 64) (h0 : x ≠ 0) (l : Low x t) (hb : h.get 0 = some ⟨deB, .ro⟩) : (bits_TrailingZeros64 F (u64 x)).run n h = some (i64 (t : Int), n, h) := by
  have e0 : ∀ K : Value → M Value, bnd (opNeg (u64 x)) K = K (u64 (18446744073709551615 - (x - 1))) := fun K => by
    rw [st_neg, wrapU_mod, tz_neg hx h0]
  have e1 : ∀ K : Value → M Value, bnd (opBin .and (u64 x) (u64 (18446744073709551615 - (x - 1)))) K = K (u64 (2 ^ t)) := fun K => by
    rw [st_andU hx (by omega), tz_and l]
  have e2 : ∀ K : Value → M Value, bnd (opBin .mul (u64 (2 ^ t)) (.int .u64 285870213051353865)) K = K (u64 (2 ^ t * 285870213051353865 % 18446744073709551616)) := fun K => by
    rw [st_mul, wrapU_mod, tz_mul]
  have e3 : ∀ a : Nat, ∀ k : Value → M Value, bnd (opBin .shr (u64 a) (.int .u64 58)) k = k (u64 (a / 288230376151711744)) := fun a k => st_shrU (s := 58) (by omega)
  have e4 : ∀ a, bytesOf[a]? = some t → a < 64 → ∀ K : Value → M Value, (bnd (opIndexAddrA 64 1 (.pointer (some ⟨0, 0, none⟩)) (u64 a)) fun v11 => bnd (opLoad v11) K).run n h = (K (.int .u8 (t : Int))).run n h := fun a ha hl K => by
    rw [st_ixA, if_pos (by omega), Int.toNat_natCast, Nat.mul_one, Nat.zero_add, ld1 hb (by decide) (v := .int .u8 (t : Int)) (by unfold deB; rw [List.getElem?_map, ha]; rfl)]
  have hd := deB_at t l.lt
  generalize ha : 2 ^ t * 285870213051353865 % 18446744073709551616 / 288230376151711744 = a at hd
  have ht := l.lt
  have e5 : bnd (opConv .i64 (.int .u8 (t : Int))) ret = ret (i64 (t : Int)) := by rw [st_conv, wrap64 (by omega)]
  unfold bits_TrailingZeros64 bits_TrailingZeros64_r0 bits_TrailingZeros64_r1 bits_TrailingZeros64_r2 bits_TrailingZeros64_r3
  dsimp only
  rw [st_eql]
  simp only [onB_ite, run_ite]
  rw [if_neg (by rw [beq_iff_eq]; omega), e0, e1, e2, e3, ha, e4 a hd (by rw [← ha]; omega)]
  show (bnd (opConv .i64 (.int .u8 (t : Int))) ret).run n h = _
  rw [e5]
  rfl

/-! ## Len -/

/-- The numbers of a set. -/
def setL (s : Nat → Bool) : List Nat := upTo s 80

theorem upTo_more {s : Nat → Bool} {W : Nat} (h : ∀ m, 64 * W ≤ m → s m = false) : ∀ j, upTo s (W + j) = upTo s W
  | 0 => rfl
  | j + 1 => by
    rw [← Nat.add_assoc, upTo_succ (x := 0) (fun i _ => by rw [h _ (by omega), Nat.zero_testBit]), upTo_more h j]
    have : bitsOf 0 = [] := by decide
    rw [this]; simp

theorem IsS.upTo {h : H} {p b W : Nat} {w : Nat → Nat} {s : Nat → Bool} (x : IsS h p b W w) (hs : ∀ n, s n = (w (n / 64)).testBit (n % 64)) : upTo s W = setL s := by
  have := x.few
  unfold setL
  rw [show 80 = W + (80 - W) by omega, upTo_more (fun m hm => by rw [hs, x.zero (m / 64) (by omega), Nat.zero_testBit])]
theorem IsS.next {s : Nat → Bool} {w : Nat → Nat} (hs : ∀ n, s n = (w (n / 64)).testBit (n % 64)) (k : Nat) : Fw.upTo s (k + 1) = Fw.upTo s k ++ (bitsOf (w k)).map (64 * k + ·) := upTo_succ fun i hi => by
  rw [hs, show (64 * k + i) / 64 = k by omega, show (64 * k + i) % 64 = i by omega]

theorem BS.small {h : H} {p : Nat} {O : Nat → Prop} {s : Nat → Bool} (x : BS h p O s) {m : Nat} (hm : s m = true) : m < 5000 := by
  obtain ⟨b, W, w, x, hw, _⟩ := x
  rw [hw] at hm
  rcases Nat.lt_or_ge (m / 64) 79 with h1 | h1
  · rcases Nat.lt_or_ge (m / 64) 78 with h2 | h2
    · omega
    · rw [show m / 64 = 78 by omega] at hm
      have := x.top
      rcases Nat.lt_or_ge (m % 64) 8 with h3 | h3
      · omega
      · rw [Nat.testBit_lt_two_pow (Nat.lt_of_lt_of_le this (Nat.pow_le_pow_right (n := 2) (i := 8) (by decide) h3))] at hm
        cases hm
  · rw [x.zero _ (by have := x.few; omega), Nat.zero_testBit] at hm; cases hm

theorem upTo_len {s : Nat → Bool} {k : Nat} : (upTo s k).length ≤ 64 * k := by
  unfold upTo
  have := List.length_filter_le s (List.range (64 * k))
  rwa [List.length_range] at this

theorem IsS.word {β : Type} {n p b W i : Nat} {w : Nat → Nat} {h : H} (x : IsS h p b W w) (hi : i < W) {K : Value → M β} : (bnd (opIndexAddr 1 (if W = 0 then nsl else sl b 0 W (U + 1)) (i64 i)) fun v => bnd (opLoad v) K).run n h = (K (u64 (w i))).run n h := by
  rw [if_neg (by omega), ix1 hi, Nat.zero_add, ldT (x.up (by omega)) (by decide) hi]

theorem len_l1 {F n p b W : Nat} {w : Nat → Nat} {s : Nat → Bool} {h : H} (x : IsS h p b W w) (hs : ∀ n, s n = (w (n / 64)).testBit (n % 64)) {E : Value → M Value} : ∀ j i k, i + j = W → j < k →
    (bitset_Set_Len_l1 F E k (i64 (upTo s i).length) (if W = 0 then nsl else sl b 0 W (U + 1)) (i64 W) (i64 i)).run n h = (E (i64 (setL s).length)).run n h := by
  intro j
  induction j with
  | zero =>
    intro i k hij hk
    obtain ⟨k, rfl⟩ : ∃ j, k = j + 1 := ⟨k - 1, by omega⟩
    obtain rfl : i = W := by omega
    rw [bitset_Set_Len_l1_s]
    unfold bitset_Set_Len_b1 bitset_Set_Len_r3
    simp only [st_lss, onB_ite, run_ite, decide_eq_true_eq]
    rw [if_neg (by omega), x.upTo hs]
  | succ j ih =>
    intro i k hij hk
    obtain ⟨k, rfl⟩ : ∃ j, k = j + 1 := ⟨k - 1, by omega⟩
    rw [bitset_Set_Len_l1_s]
    unfold bitset_Set_Len_b1 bitset_Set_Len_r3
    simp only [st_lss, onB_ite, run_ite, decide_eq_true_eq]
    rw [if_pos (by omega)]
    unfold bitset_Set_Len_r4
    rw [x.word (by omega)]
    unfold bitset_Set_Len_r5
    rw [run_bnd (ones_spec _ (x.lt i))]
    have h1 := upTo_len (s := s) (k := i)
    have h2 := upTo_len (s := s) (k := i + 1)
    have h3 := x.few
    have h4 : (upTo s (i + 1)).length = (upTo s i).length + (bitsOf (w i)).length := by rw [IsS.next hs, List.length_append, List.length_map]
    rw [sx_add (by omega)]
    unfold bitset_Set_Len_r6
    dsimp only
    rw [sx_add (by omega)]
    have := ih (i + 1) k (by omega) (by omega)
    rw [h4] at this
    exact this

theorem len_spec {F n p : Nat} {O : Nat → Prop} {s : Nat → Bool} {h : H} (hF : 100 < F) (x : BS h p O s) : (bitset_Set_Len F (pt p 0)).run n h = some (i64 (setL s).length, n, h) := by
  obtain ⟨b, W, w, x, hs, _⟩ := x
  unfold bitset_Set_Len bitset_Set_Len_r0 bitset_Set_Len_r1 bitset_Set_Len_r2
  dsimp only
  rw [run_bnd (words_spec x), x.gl.len, tab_len]
  have := len_l1 (F := F) (n := n) x hs (E := fun x3 => bitset_Set_Len_k0 F x3) W 0 F (by omega) (by have := x.few; omega)
  exact this.trans rfl

/-! ## All -/

/-- Numbers as Go's ints. -/
abbrev ints (l : List Nat) : List Int := l.map fun m : Nat => (m : Int)

theorem all_l3 {F i lo : Nat} {vw vl : Value} (hi : i < 80) {L0 : List Int} {E : Value → Value → Value → Value → M Value} : ∀ j k x n (h : H) v (L : List Int), (bitsOf x).length ≤ j → j < k → x < 2 ^ 64 → h.get 0 = some ⟨deB, .ro⟩ → 0 < lo → NewI h lo v L → Fr n h → lo ≤ n → L.length + j ≤ 6000 → L0 = L ++ ints ((bitsOf x).map (64 * i + ·)) →
    ∃ n' h' v', (bitset_Set_All_l3 F E k v (i64 i) (u64 x) vw vl (i64 i)).run n h = (E v' vw vl (i64 i)).run n' h' ∧ NewI h' lo v' L0 ∧ Ev (fun c => lo ≤ c) n h n' h' := by
  intro j
  induction j with
  | zero =>
    intro k x n h v L hj hk hx hb hlo g f hn hl e
    obtain ⟨k, rfl⟩ : ∃ j, k = j + 1 := ⟨k - 1, by omega⟩
    have h0 : x = 0 := Classical.byContradiction fun h0 => by
      obtain ⟨t, l⟩ := low x hx h0
      rw [l.bits] at hj; simp at hj
    subst h0
    rw [bitset_Set_All_l3_s]
    unfold bitset_Set_All_b3 bitset_Set_All_r5
    simp only [st_gtr, onB_ite, run_ite, decide_eq_true_eq]
    rw [if_neg (by omega)]
    have : bitsOf 0 = [] := by decide
    rw [this] at e
    rw [e]
    simp only [ints, List.map_nil, List.append_nil]
    exact ⟨n, h, v, rfl, g, Ev.refl f⟩
  | succ j ih =>
    intro k x n h v L hj hk hx hb hlo g f hn hl e
    obtain ⟨k, rfl⟩ : ∃ j, k = j + 1 := ⟨k - 1, by omega⟩
    rw [bitset_Set_All_l3_s]
    unfold bitset_Set_All_b3 bitset_Set_All_r5
    simp only [st_gtr, onB_ite, run_ite, decide_eq_true_eq]
    by_cases h0 : x = 0
    · subst h0
      rw [if_neg (by omega)]
      have : bitsOf 0 = [] := by decide
      rw [this] at e
      rw [e]
      simp only [ints, List.map_nil, List.append_nil]
      exact ⟨n, h, v, rfl, g, Ev.refl f⟩
    · rw [if_pos (by omega)]
      obtain ⟨t, l⟩ := low x hx h0
      have ht := l.lt
      unfold bitset_Set_All_r7
      rw [sx_mul (by omega), run_bnd (tz_spec hx h0 l hb), sx_add (by omega), show (i : Int) * 64 + (t : Int) = ((64 * i + t : Nat) : Int) by omega, show (Value.int .i64 0) = i64 0 from rfl]
      obtain ⟨h1, v1, e1, g1, ev1⟩ := g.push (β := Value) (y := 0) (z := ((64 * i + t : Nat) : Int)) f hn (by omega)
      rw [e1]
      unfold bitset_Set_All_r6
      dsimp only
      rw [st_sub, show (x : Int) - 1 = ((x - 1 : Nat) : Int) by omega, wrapU (by omega), st_andU hx (by omega)]
      have hxx : x &&& (x - 1) < 2 ^ 64 := Nat.lt_of_le_of_lt Nat.and_le_left hx
      rw [l.bits] at hj e
      obtain ⟨n', h', v', q1, q2, q3⟩ := ih k (x &&& (x - 1)) (n + 2) h1 v1 (L ++ [((64 * i + t : Nat) : Int)]) (by simpa using hj) (by omega) hxx (by rw [ev1.keep 0 (by omega) (by omega)]; exact hb) hlo g1 ev1.f (by omega) (by simp; omega) (by rw [e]; simp)
      exact ⟨n', h', v', q1, q2, ev1.trans q3 fun c _ hc => hc⟩

theorem bitsOf_len (x : Nat) : (bitsOf x).length ≤ 64 := by
  unfold bitsOf
  have := List.length_filter_le x.testBit (List.range 64)
  rwa [List.length_range] at this

theorem all_l1 {F p b W lo : Nat} {w : Nat → Nat} {s : Nat → Bool} (hF : 100 < F) (hlo : 0 < lo) (hs : ∀ n, s n = (w (n / 64)).testBit (n % 64)) {E : Value → M Value} : ∀ j i k n (h : H) v, i + j = W → j < k → IsS h p b W w → p < lo → (W ≠ 0 → b < lo) → h.get 0 = some ⟨deB, .ro⟩ → NewI h lo v (ints (upTo s i)) → Fr n h → lo ≤ n →
    ∃ n' h' v', (bitset_Set_All_l1 F E k v (if W = 0 then nsl else sl b 0 W (U + 1)) (i64 W) (i64 i)).run n h = (E v').run n' h' ∧ NewI h' lo v' (ints (setL s)) ∧ Ev (fun c => lo ≤ c) n h n' h' := by
  intro j
  induction j with
  | zero =>
    intro i k n h v hij hk x hp hbl hb g f hn
    obtain ⟨k, rfl⟩ : ∃ j, k = j + 1 := ⟨k - 1, by omega⟩
    obtain rfl : i = W := by omega
    rw [bitset_Set_All_l1_s]
    unfold bitset_Set_All_b1 bitset_Set_All_r3
    simp only [st_lss, onB_ite, run_ite, decide_eq_true_eq]
    rw [if_neg (by omega)]
    rw [x.upTo hs] at g
    exact ⟨n, h, v, rfl, g, Ev.refl f⟩
  | succ j ih =>
    intro i k n h v hij hk x hp hbl hb g f hn
    obtain ⟨k, rfl⟩ : ∃ j, k = j + 1 := ⟨k - 1, by omega⟩
    rw [bitset_Set_All_l1_s]
    unfold bitset_Set_All_b1 bitset_Set_All_r3
    simp only [st_lss, onB_ite, run_ite, decide_eq_true_eq]
    rw [if_pos (by omega)]
    unfold bitset_Set_All_r4
    rw [x.word (by omega)]
    have h1 := upTo_len (s := s) (k := i)
    have h3 := x.few
    obtain ⟨n1, h1, v1, e1, g1, ev1⟩ := all_l3 (F := F) (i := i) (lo := lo) (vw := if W = 0 then nsl else sl b 0 W (U + 1)) (vl := i64 W) (by omega) (E := fun x3 x7 x8 x9 => bitset_Set_All_k2 F (bitset_Set_All_l1 F E k) x3 x7 x8 x9) 64 F (w i) n h v (ints (upTo s i)) (bitsOf_len _) (by omega) (x.lt i) hb hlo g f hn (by simp [ints]; omega) rfl
    rw [e1]
    unfold bitset_Set_All_k2 bitset_Set_All_r8
    dsimp only
    rw [sx_add (by omega)]
    have hk1 : ∀ c, c < lo → h1.get c = h.get c := fun c hc => ev1.keep c (by omega) (by omega)
    obtain ⟨n', h', v', q1, q2, q3⟩ := ih (i + 1) k n1 h1 v1 (by omega) (by omega) ⟨by rw [hk1 p hp]; exact x.ptr, x.ne, fun h0 => by rw [hk1 b (hbl h0)]; exact x.up h0, x.lt, x.zero, x.few, x.top⟩ hp hbl (by rw [hk1 0 hlo]; exact hb) (by
      rw [IsS.next hs, ints, List.map_append]; exact g1) ev1.f (by have := ev1.le; omega)
    exact ⟨n', h', v', q1, q2, ev1.trans q3 fun c _ hc => hc⟩

theorem all_spec {F n p : Nat} {O : Nat → Prop} {s : Nat → Bool} {h : H} (hF : 100 < F) (hn : 0 < n) (hb : h.get 0 = some ⟨deB, .ro⟩) (x : BS h p O s) (f : Fr n h) : ∃ n' h' v, (bitset_Set_All F (pt p 0)).run n h = some (v, n', h') ∧ NewI h' n v (ints (setL s)) ∧ Ev No n h n' h' := by
  obtain ⟨b, W, w, x, hs, _⟩ := x
  unfold bitset_Set_All bitset_Set_All_r0 bitset_Set_All_r1 bitset_Set_All_r2
  dsimp only
  rw [run_bnd (words_spec x), x.gl.len, tab_len]
  obtain ⟨n', h', v', q1, q2, q3⟩ := all_l1 (F := F) (lo := n) hF hn hs (E := fun x3 => bitset_Set_All_k0 F x3) W 0 F n h nsl (by omega) (by have := x.few; omega) x (f.lt x.ptr) (fun h0 => f.lt (x.up h0)) hb NewI.nil f (Nat.le_refl _)
  exact ⟨n', h', v', q1.trans rfl, q2, q3.f, q3.le, fun c hc _ => q3.keep c hc (by omega)⟩


/-! ## Remove -/

/-- A word with a bit less. -/
def offW (w : Nat → Nat) (a k : Nat) : Nat := if k = a / 64 then andNot (w k) (2 ^ (a % 64)) else w k

theorem offW_bit {w : Nat → Nat} (hw : ∀ k, w k < 2 ^ 64) {a m : Nat} : (offW w a (m / 64)).testBit (m % 64) = ((w (m / 64)).testBit (m % 64) && !decide (m = a)) := by
  unfold offW
  have hp : 2 ^ (a % 64) < 2 ^ 64 := Nat.pow_lt_pow_right (by decide) (by omega)
  by_cases h : m / 64 = a / 64
  · rw [if_pos h, andNot_bit (hw _) hp, Nat.testBit_two_pow]
    congr 2
    by_cases h2 : m = a
    · subst h2; simp
    · rw [decide_eq_false h2, decide_eq_false (by omega)]
  · rw [if_neg h, decide_eq_false (show m ≠ a by rintro rfl; exact h rfl), Bool.not_false, Bool.and_true]

/-! ## First -/

/-- r is the first number from i on; -1: there is none. -/
def IsFirst (s : Nat → Bool) (i : Nat) (r : Int) : Prop := (r = -1 ∧ ∀ m, i ≤ m → s m = false) ∨ ∃ m : Nat, r = m ∧ i ≤ m ∧ s m = true ∧ ∀ q, i ≤ q → q < m → s q = false

theorem BS.isIn {p : Nat} {O : Nat → Prop} {s : Nat → Bool} {h : H} (x : BS h p O s) (m : Nat) : Fw.isIn s m = s m := by
  unfold Fw.isIn
  rw [Int.toNat_natCast]
  by_cases hq : s m = true
  · have h1 := x.small hq
    have hc : (0 : Int) ≤ (m : Int) ∧ (m : Int) < 5000 := ⟨by omega, by omega⟩
    rw [decide_eq_true hc, Bool.true_and]
  · rw [show s m = false by simpa using hq, Bool.and_false]

theorem has_nat {F n p : Nat} {O : Nat → Prop} {s : Nat → Bool} {h : H} (x : BS h p O s) (m : Nat) : (bitset_Set_Has F (pt p 0) (i64 m)).run n h = some (bo (s m), n, h) := by
  have e := has_spec (F := F) (n := n) x m
  rwa [x.isIn m] at e

/-! ## In, Eq -/

/-- Is all of one in the other? -/
noncomputable def subS (s t : Nat → Bool) : Bool := @decide (∀ m, s m = true → t m = true) (Classical.propDecidable _)

theorem subS_iff {s t : Nat → Bool} : subS s t = true ↔ ∀ m, s m = true → t m = true := by
  unfold subS
  rw [@decide_eq_true_eq _ (Classical.propDecidable _)]
/-- Are they the same? -/
noncomputable def eqS (s t : Nat → Bool) : Bool := @decide (s = t) (Classical.propDecidable _)
theorem eqS_iff {s t : Nat → Bool} : eqS s t = true ↔ s = t := by
  unfold eqS
  rw [@decide_eq_true_eq _ (Classical.propDecidable _)]

theorem andNot_nz {a b : Nat} (ha : a < 2 ^ 64) (hb : b < 2 ^ 64) (h : andNot a b ≠ 0) : ∃ i, i < 64 ∧ a.testBit i = true ∧ b.testBit i = false := by
  apply Classical.byContradiction
  intro hc
  apply h
  apply andNot_zero ha hb
  intro i hi h1
  cases hq : b.testBit i with
  | true => rfl
  | false => exact absurd ⟨i, hi, h1, hq⟩ hc

/-! ## Copy -/



/-- What is in both. -/
def andW (a b : Nat) : Nat := a &&& b
theorem st_andW {β : Type} {k : Value → M β} {a b : Nat} (ha : a < 2 ^ 64) (hb : b < 2 ^ 64) : bnd (opBin .and (u64 a) (u64 b)) k = k (u64 (andW a b)) := st_andU ha hb

/-! ## Join -/

/-- A word put in. -/
def orW (w : Nat → Nat) (q a k : Nat) : Nat := if k = q then w k ||| a else w k

/-- The words of the other one that are below i are in. -/
def joinW (w w' : Nat → Nat) (i k : Nat) : Nat := if k < i then w k ||| w' k else w k

theorem andNot_or {a b : Nat} (ha : a < 2 ^ 64) (hb : b < 2 ^ 64) (h : andNot a b = 0) : b ||| a = b := by
  apply Nat.eq_of_testBit_eq
  intro i
  rw [Nat.testBit_or]
  cases hq : a.testBit i with
  | false => rw [Bool.or_false]
  | true =>
    have h1 : (andNot a b).testBit i = false := by rw [h, Nat.zero_testBit]
    rw [andNot_bit ha hb, hq] at h1
    cases hb : b.testBit i with
    | true => rfl
    | false => rw [hb] at h1; cases h1


theorem ArgIs.ints {h : H} {v : Value} (f : Fr 8 h) (a : ArgIs h (.flat 1) v) : ∃ zs : List Int, IntsA h v zs ∧ zs.length < 9223372036854775808 := by
  rcases a with rfl | ⟨b, len, cap, Z, rfl, g1, g2, g3, g4⟩
  · exact ⟨[], .inl ⟨rfl, rfl⟩, by simp⟩
  · refine ⟨(List.range len).map Z, .inr ⟨b, cap, tab (cap * 1) fun i => i64 (Z i), by simp, by simpa using g1, g2, fun h0 => ?_⟩, by simp; omega⟩
    have h1 : len ≠ 0 := by rintro rfl; exact h0 rfl
    refine ⟨f.lt (g3 h1), g3 h1, fun i hi => ?_⟩
    have hi' : i < len := by simpa using hi
    rw [tab_get (show i < cap * 1 by omega)]
    simp [hi']


/-- A set whose blocks lie at lo or later, and ahead of hi. -/
def SetAt (h : H) (p lo hi : Nat) (s : Nat → Bool) : Prop := ∃ O, BS h p O s ∧ ∀ c, O c → lo ≤ c ∧ c < hi

section
variable {F n p lo hi : Nat} {s : Nat → Bool} {h : H}

theorem SetAt.keep {n' : Nat} {h' : H} {P : Nat → Prop} (x : SetAt h p lo hi s) (e : Ev P n h n' h') (hn : hi ≤ n) (hP : ∀ c, P c → lo ≤ c → hi ≤ c) : SetAt h' p lo hi s := by
  obtain ⟨O, x, q⟩ := x
  exact ⟨O, x.keep fun c hc => e.keep c (by have := q c hc; omega) fun hp => by have := q c hc; have := hP c hp this.1; omega, q⟩
theorem SetAt.kept {n' : Nat} {h' : H} (x : SetAt h p lo hi s) (e : Ev No n h n' h') (hn : hi ≤ n) : SetAt h' p lo hi s := x.keep e hn fun _ h => h.elim
theorem SetAt.mono {lo' hi' : Nat} (x : SetAt h p lo hi s) (h1 : lo' ≤ lo) (h2 : hi ≤ hi') : SetAt h p lo' hi' s := by
  obtain ⟨O, x, q⟩ := x
  exact ⟨O, x, fun c hc => by have := q c hc; omega⟩
theorem SetAt.congr {s' : Nat → Bool} (x : SetAt h p lo hi s) (e : ∀ m, s m = s' m) : SetAt h p lo hi s' := by
  have : s = s' := funext e
  subst this; exact x
theorem SetAt.small (x : SetAt h p lo hi s) {m : Nat} (hm : s m = true) : m < 5000 := by
  obtain ⟨O, x, q⟩ := x; exact x.small hm

theorem at_new {k : Value → M Value} (f : Fr n h) : ∃ h', (bnd (opBuild [.slice none 0 0] []) fun v6 => bnd (opBoxN v6) k).run n h = (k (pt n 0)).run (n + 1) h' ∧ SetAt h' n n (n + 1) (fun _ => false) ∧ Ev No n h (n + 1) h' := by
  obtain ⟨e, x, f1⟩ := new_set f (k := k)
  exact ⟨_, e, ⟨_, x, fun c hc => by omega⟩, f1, by omega, fun c hc _ => H.get_set_ne _ _ (by omega)⟩

theorem at_add (hF : 100 < F) (x : SetAt h p lo hi s) (f : Fr n h) (hh : hi ≤ n) (hlo : lo ≤ n) (a : Int) :
    ∃ n' h', (bitset_Set_Add F (pt p 0) (i64 a)).run n h = some (bo (canAdd s a), n', h') ∧ SetAt h' p lo n' (if canAdd s a = true then putS s a.toNat else s) ∧ Ev (fun c => lo ≤ c ∧ c < hi) n h n' h' := by
  obtain ⟨O, x, q⟩ := x
  obtain ⟨n', h', O', e, x', f', l, k, o⟩ := add_spec x f a hF
  refine ⟨n', h', e, ⟨O', x', fun c hc => ⟨?_, x'.lt f' c hc⟩⟩, f', l, fun c hc hn => k c hc fun ho => hn (q c ho)⟩
  rcases o c hc with h1 | h1
  · exact (q c h1).1
  · omega

theorem at_has (x : SetAt h p lo hi s) (a : Int) : (bitset_Set_Has F (pt p 0) (i64 a)).run n h = some (bo (isIn s a), n, h) := by
  obtain ⟨O, x, q⟩ := x; exact has_spec x a
theorem at_len (hF : 100 < F) (x : SetAt h p lo hi s) : (bitset_Set_Len F (pt p 0)).run n h = some (i64 (setL s).length, n, h) := by
  obtain ⟨O, x, q⟩ := x; exact len_spec hF x
theorem at_all (hF : 100 < F) (hn : 0 < n) (hb : h.get 0 = some ⟨deB, .ro⟩) (x : SetAt h p lo hi s) (f : Fr n h) : ∃ n' h' v, (bitset_Set_All F (pt p 0)).run n h = some (v, n', h') ∧ NewI h' n v (ints (setL s)) ∧ Ev No n h n' h' := by
  obtain ⟨O, x, q⟩ := x; exact all_spec hF hn hb x f
section
variable {p' lo' hi' : Nat} {s' : Nat → Bool}
/-- Is there anybody in the second alone? -/
noncomputable def newS (s s' : Nat → Bool) : Bool := @decide (∃ m, s' m = true ∧ s m = false) (Classical.propDecidable _)
end
end

/-! ## The law's own helpers -/


theorem run_over_true {m : M Value} {h : H} (e : gaveTrue (m.run 8 (baseH deB)) = true) (e0 : ((m.run 8 (baseH deB)).map fun x => x.2.2.get 0) = some (some ⟨deB, .ro⟩)) (f : Fr 8 h) (hb : h.get 0 = some ⟨deB, .ro⟩) :
    ∃ n' h', m.run 8 h = some (bo true, n', h') ∧ Fr n' h' ∧ 8 ≤ n' ∧ ∀ c, c < 8 → h'.get c = h.get c := by
  obtain ⟨n', h0, e⟩ := gaveTrue_some e
  rw [e] at e0
  have e0' : h0.get 0 = some ⟨deB, .ro⟩ := Option.some.inj e0
  have l := m.loc _ _ _ _ _ e
  have hget : ∀ b, (baseH deB).get b = if b = 0 then some ⟨deB, .ro⟩ else none := fun b => by
    unfold baseH; rw [H.get_set]; split <;> rfl
  obtain ⟨h', e', hg⟩ := l.more h (fun b B hB => by
    rw [hget] at hB
    split at hB
    · rename_i e; subst e; rw [hb]; exact hB
    · cases hB) fun b hb _ => f b hb
  refine ⟨n', h', e', (f.run e').1, l.le, fun c hc => ?_⟩
  rw [hg c]
  by_cases h0c : c = 0
  · subst h0c; rw [e0', hb]; rfl
  · have : ¬ (h0.get c).isSome = true := fun h => by
      rcases (l.dom c).1 h with h | h
      · rw [hget, if_neg h0c] at h; cases h
      · omega
    rw [if_neg this]

theorem setOf_congr {zs T : List Int} (h : ∀ z, z ∈ T ↔ z ∈ zs) (m : Nat) : setOf T m = setOf zs m := by
  unfold setOf
  congr 1
  rw [Bool.eq_iff_iff, List.any_eq_true, List.any_eq_true]
  constructor
  · rintro ⟨z, h1, h2⟩; exact ⟨z, (h z).1 h1, h2⟩
  · rintro ⟨z, h1, h2⟩; exact ⟨z, (h z).2 h1, h2⟩


theorem mayI (a : Int) {s : Nat → Bool} (h0 : ∀ m, s m = false) : canAdd s a = decide (0 ≤ a ∧ a < 5000) := by
  unfold canAdd; rw [h0, Bool.not_false, Bool.and_true]

theorem setL_nil {s : Nat → Bool} (h0 : ∀ m, s m = false) : setL s = [] := by
  unfold setL upTo
  rw [List.filter_eq_nil_iff]
  intro a _; rw [h0]; simp
theorem setL_mem {h : H} {p lo hi : Nat} {s : Nat → Bool} (x : SetAt h p lo hi s) {m : Nat} : m ∈ setL s ↔ s m = true := by
  unfold setL upTo
  rw [List.mem_filter, List.mem_range]
  exact ⟨fun h => h.2, fun h => ⟨by have := x.small h; omega, h⟩⟩
theorem setL_sorted {s : Nat → Bool} : (setL s).Pairwise (· < ·) := List.Pairwise.filter _ List.pairwise_lt_range

theorem sorted_ext {l l' : List Nat} (h1 : l.Pairwise (· < ·)) (h2 : l'.Pairwise (· < ·)) (h : ∀ m, m ∈ l ↔ m ∈ l') : l = l' := by
  induction l generalizing l' with
  | nil =>
    match l' with
    | [] => rfl
    | a :: l' => exact absurd ((h a).2 List.mem_cons_self) (by simp)
  | cons a l ih =>
    match l' with
    | [] => exact absurd ((h a).1 List.mem_cons_self) (by simp)
    | b :: l' =>
      rw [List.pairwise_cons] at h1 h2
      have hab : a = b := by
        have q1 := (h a).1 List.mem_cons_self
        have q2 := (h b).2 List.mem_cons_self
        rw [List.mem_cons] at q1 q2
        rcases q1 with q1 | q1
        · exact q1
        · rcases q2 with q2 | q2
          · exact q2.symm
          · have := h1.1 b q2; have := h2.1 a q1; omega
      subst hab
      rw [ih h1.2 h2.2 fun m => ?_]
      have q := h m
      rw [List.mem_cons, List.mem_cons] at q
      constructor
      · intro hm
        rcases q.1 (.inr hm) with rfl | h3
        · exact absurd (h1.1 m hm) (Nat.lt_irrefl _)
        · exact h3
      · intro hm
        rcases q.2 (.inr hm) with rfl | h3
        · exact absurd (h2.1 m hm) (Nat.lt_irrefl _)
        · exact h3


theorem rin_l1 {F n : Nat} {h : H} {v : Value} {zs : List Int} {z : Int} (g : RdI h v zs) (hl : zs.length ≤ 9223372036854775000) {E : M Value} (b : Bool) (hE : E.run n h = some (bo false, n, h)) : ∀ j i k, i + j = zs.length → j < k →
    (R1_In_l1 F E k v (i64 z) (i64 i)).run n h = some (bo (decide (z ∈ zs.drop i)), n, h) := by
  intro j
  induction j with
  | zero =>
    intro i k hij hk
    obtain ⟨k, rfl⟩ : ∃ j, k = j + 1 := ⟨k - 1, by omega⟩
    rw [R1_In_l1_s]
    unfold R1_In_b1 R1_In_r2
    rw [g.lenI]
    simp only [st_lss, onB_ite, run_ite, decide_eq_true_eq]
    rw [if_neg (by omega), hE, List.drop_of_length_le (by omega)]
    rfl
  | succ j ih =>
    intro i k hij hk
    obtain ⟨k, rfl⟩ : ∃ j, k = j + 1 := ⟨k - 1, by omega⟩
    rw [R1_In_l1_s]
    unfold R1_In_b1 R1_In_r2
    rw [g.lenI]
    simp only [st_lss, onB_ite, run_ite, decide_eq_true_eq]
    have hi : i < zs.length := by omega
    rw [if_pos (by omega)]
    unfold R1_In_r4
    rw [g.getI hi, st_eql, List.drop_eq_getElem_cons hi]
    simp only [onB_ite, run_ite, beq_iff_eq]
    by_cases e : zs[i] = z
    · rw [if_pos e]
      unfold R1_In_r5
      rw [decide_eq_true (by rw [e]; exact List.mem_cons_self)]
      rfl
    · rw [if_neg e]
      unfold R1_In_r3
      rw [sx_add (by omega)]
      refine (ih (i + 1) k (by omega) (by omega)).trans ?_
      have : decide (z ∈ zs.drop (i + 1)) = decide (z ∈ zs[i] :: zs.drop (i + 1)) := by
        rw [decide_eq_decide, List.mem_cons]
        constructor
        · exact .inr
        · rintro (h | h)
          · exact absurd h.symm e
          · exact h
      rw [this]

theorem rin_spec {F n : Nat} {h : H} {v : Value} {zs : List Int} (g : RdI h v zs) (hF : zs.length < F) (hl : zs.length ≤ 9223372036854775000) (z : Int) : (R1_In F v (i64 z)).run n h = some (bo (decide (z ∈ zs)), n, h) := by
  unfold R1_In R1_In_r0 R1_In_r1
  dsimp only
  have := rin_l1 (F := F) (n := n) (z := z) g hl (E := R1_In_k0 F) false rfl zs.length 0 F (by omega) hF
  rw [List.drop_zero] at this
  exact this

/-! ## Eq -/

theorem req_l1 {F n : Nat} {h : H} {v v' : Value} {zs ys : List Int} (g : RdI h v zs) (g' : RdI h v' ys) (he : zs.length = ys.length) (hl : zs.length ≤ 9223372036854775000) {E : M Value} (hE : E.run n h = some (bo true, n, h)) : ∀ j i k, i + j = zs.length → j < k →
    (R1_Eq_l1 F E k v v' (i64 i)).run n h = some (bo (decide (zs.drop i = ys.drop i)), n, h) := by
  intro j
  induction j with
  | zero =>
    intro i k hij hk
    obtain ⟨k, rfl⟩ : ∃ j, k = j + 1 := ⟨k - 1, by omega⟩
    rw [R1_Eq_l1_s]
    unfold R1_Eq_b1 R1_Eq_r4
    rw [g.lenI]
    simp only [st_lss, onB_ite, run_ite, decide_eq_true_eq]
    rw [if_neg (by omega), hE, List.drop_of_length_le (by omega), List.drop_of_length_le (by omega)]
    rfl
  | succ j ih =>
    intro i k hij hk
    obtain ⟨k, rfl⟩ : ∃ j, k = j + 1 := ⟨k - 1, by omega⟩
    rw [R1_Eq_l1_s]
    unfold R1_Eq_b1 R1_Eq_r4
    rw [g.lenI]
    simp only [st_lss, onB_ite, run_ite, decide_eq_true_eq]
    have hi : i < zs.length := by omega
    have hi' : i < ys.length := by omega
    rw [if_pos (by omega)]
    unfold R1_Eq_r6
    rw [g.getI hi, g'.getI hi', st_neq, List.drop_eq_getElem_cons hi, List.drop_eq_getElem_cons hi']
    simp only [onB_ite, run_ite, bne_iff_ne]
    by_cases e : zs[i] = ys[i]
    · rw [if_neg (by simpa using e)]
      unfold R1_Eq_r5
      rw [sx_add (by omega)]
      refine (ih (i + 1) k (by omega) (by omega)).trans ?_
      have : decide (zs.drop (i + 1) = ys.drop (i + 1)) = decide (zs[i] :: zs.drop (i + 1) = ys[i] :: ys.drop (i + 1)) := by
        rw [decide_eq_decide, List.cons.injEq, e]; simp
      rw [this]
    · rw [if_pos e]
      unfold R1_Eq_r7
      rw [decide_eq_false (by rw [List.cons.injEq]; exact fun h => e h.1)]
      rfl

theorem req_spec {F n : Nat} {h : H} {v v' : Value} {zs ys : List Int} (g : RdI h v zs) (g' : RdI h v' ys) (hF : zs.length < F) (hl : zs.length ≤ 9223372036854775000) : (R1_Eq F v v').run n h = some (bo (decide (zs = ys)), n, h) := by
  unfold R1_Eq R1_Eq_r0 R1_Eq_r1
  dsimp only
  rw [g.lenI, g'.lenI, st_neq]
  simp only [onB_ite, run_ite, bne_iff_ne]
  by_cases e : zs.length = ys.length
  · rw [if_neg (by omega)]
    unfold R1_Eq_r3
    dsimp only
    have := req_l1 (F := F) (n := n) g g' e hl (E := R1_Eq_k0 F) rfl zs.length 0 F (by omega) hF
    rw [List.drop_zero, List.drop_zero] at this
    exact this
  · rw [if_pos (by omega), decide_eq_false (by rintro rfl; exact e rfl)]
    rfl

/-! ## Put -/

/-- A number among rising ones. -/
def ins (z : Int) (L : List Int) : List Int := L.takeWhile (· < z) ++ z :: L.dropWhile (· < z)
def putI (L : List Int) (z : Int) : List Int := if z ∈ L then L else ins z L


theorem sorted_extI {l l' : List Int} (h1 : l.Pairwise (· < ·)) (h2 : l'.Pairwise (· < ·)) (h : ∀ m, m ∈ l ↔ m ∈ l') : l = l' := by
  induction l generalizing l' with
  | nil =>
    match l' with
    | [] => rfl
    | a :: l' => exact absurd ((h a).2 List.mem_cons_self) (by simp)
  | cons a l ih =>
    match l' with
    | [] => exact absurd ((h a).1 List.mem_cons_self) (by simp)
    | b :: l' =>
      rw [List.pairwise_cons] at h1 h2
      have hab : a = b := by
        have q1 := (h a).1 List.mem_cons_self
        have q2 := (h b).2 List.mem_cons_self
        rw [List.mem_cons] at q1 q2
        rcases q1 with q1 | q1
        · exact q1
        · rcases q2 with q2 | q2
          · exact q2.symm
          · have := h1.1 b q2; have := h2.1 a q1; omega
      subst hab
      rw [ih h1.2 h2.2 fun m => ?_]
      have q := h m
      rw [List.mem_cons, List.mem_cons] at q
      constructor
      · intro hm
        rcases q.1 (.inr hm) with rfl | h3
        · exact absurd (h1.1 m hm) (Int.lt_irrefl _)
        · exact h3
      · intro hm
        rcases q.2 (.inr hm) with rfl | h3
        · exact absurd (h2.1 m hm) (Int.lt_irrefl _)
        · exact h3

theorem ins_mem {z y : Int} {L : List Int} : y ∈ ins z L ↔ y = z ∨ y ∈ L := by
  unfold ins
  have e : y ∈ L ↔ y ∈ L.takeWhile (· < z) ∨ y ∈ L.dropWhile (· < z) := by
    rw [← List.mem_append, List.takeWhile_append_dropWhile]
  rw [List.mem_append, List.mem_cons, e]
  constructor
  · rintro (h | h | h)
    · exact .inr (.inl h)
    · exact .inl h
    · exact .inr (.inr h)
  · rintro (h | h | h)
    · exact .inr (.inl h)
    · exact .inl h
    · exact .inr (.inr h)
theorem putI_mem {z y : Int} {L : List Int} : y ∈ putI L z ↔ y = z ∨ y ∈ L := by
  unfold putI
  split
  · exact ⟨.inr, fun h => h.elim (fun h => by subst h; assumption) id⟩
  · exact ins_mem

theorem ins_sorted {z : Int} : ∀ {L : List Int}, L.Pairwise (· < ·) → z ∉ L → (ins z L).Pairwise (· < ·)
  | [], _, _ => by simp [ins]
  | a :: L, h, hz => by
    have hne : z ≠ a := fun e => hz (by rw [e]; exact List.mem_cons_self)
    rw [List.pairwise_cons] at h
    by_cases ha : a < z
    · have e : ins z (a :: L) = a :: ins z L := by
        unfold ins
        rw [List.takeWhile_cons_of_pos (by simpa using ha), List.dropWhile_cons_of_pos (by simpa using ha)]; rfl
      rw [e, List.pairwise_cons]
      refine ⟨fun y hy => ?_, ins_sorted h.2 fun q => hz (List.mem_cons_of_mem _ q)⟩
      rcases ins_mem.1 hy with rfl | hy
      · exact ha
      · exact h.1 y hy
    · have e : ins z (a :: L) = z :: a :: L := by
        unfold ins
        rw [List.takeWhile_cons_of_neg (by simpa using ha), List.dropWhile_cons_of_neg (by simpa using ha)]; rfl
      rw [e, List.pairwise_cons]
      refine ⟨fun y hy => ?_, List.pairwise_cons.2 h⟩
      rcases List.mem_cons.1 hy with rfl | hy
      · omega
      · have := h.1 y hy; omega
theorem putI_sorted {z : Int} {L : List Int} (h : L.Pairwise (· < ·)) : (putI L z).Pairwise (· < ·) := by
  unfold putI
  split
  · exact h
  · exact ins_sorted h (by assumption)
theorem putI_len {z : Int} {L : List Int} : (putI L z).length ≤ L.length + 1 := by
  unfold putI
  split
  · omega
  · unfold ins
    have e : (L.takeWhile (· < z) ++ L.dropWhile (· < z)).length = L.length := by rw [List.takeWhile_append_dropWhile]
    rw [List.length_append] at e ⊢
    rw [List.length_cons]; omega

/-! ## of -/

def ofStep (L : List Int) (z : Int) : List Int := if 0 ≤ z ∧ z < 5000 then putI L z else L
def ofI (zs : List Int) : List Int := (zs.take 40).foldl ofStep []

theorem ofStep_len {L : List Int} {z : Int} : (ofStep L z).length ≤ L.length + 1 := by
  unfold ofStep; split
  · exact putI_len
  · omega
theorem foldl_len : ∀ (zs L : List Int), (zs.foldl ofStep L).length ≤ L.length + zs.length
  | [], L => by simp
  | z :: zs, L => by
    have h1 := foldl_len zs (ofStep L z)
    have h2 := ofStep_len (L := L) (z := z)
    rw [List.foldl_cons, List.length_cons]; omega
theorem foldl_sorted : ∀ (zs L : List Int), L.Pairwise (· < ·) → (zs.foldl ofStep L).Pairwise (· < ·)
  | [], _, h => h
  | z :: zs, L, h => foldl_sorted zs _ (by
    unfold ofStep; split
    · exact putI_sorted h
    · exact h)
theorem foldl_mem : ∀ (zs L : List Int) (y : Int), y ∈ zs.foldl ofStep L ↔ y ∈ L ∨ (y ∈ zs ∧ 0 ≤ y ∧ y < 5000)
  | [], L, y => by simp
  | z :: zs, L, y => by
    rw [List.foldl_cons, foldl_mem zs, List.mem_cons]
    unfold ofStep
    split
    · rw [putI_mem]
      constructor
      · rintro ((rfl | h) | h)
        · exact .inr ⟨.inl rfl, by assumption⟩
        · exact .inl h
        · exact .inr ⟨.inr h.1, h.2⟩
      · rintro (h | ⟨rfl | h, h2⟩)
        · exact .inl (.inr h)
        · exact .inl (.inl rfl)
        · exact .inr ⟨h, h2⟩
    · constructor
      · rintro (h | h)
        · exact .inl h
        · exact .inr ⟨.inr h.1, h.2⟩
      · rintro (h | ⟨rfl | h, h2⟩)
        · exact .inl h
        · exact absurd h2 (by assumption)
        · exact .inr ⟨h, h2⟩

/-! ## without -/

/-! ## The lists are the sets' lists -/

theorem setL_memS {s : Nat → Bool} (x : ∀ m, s m = true → m < 5000) {m : Nat} : m ∈ setL s ↔ s m = true := by
  unfold setL upTo
  rw [List.mem_filter, List.mem_range]
  exact ⟨fun h => h.2, fun h => ⟨by have := x m h; omega, h⟩⟩
theorem ints_mem {s : Nat → Bool} (x : ∀ m, s m = true → m < 5000) {z : Int} : z ∈ ints (setL s) ↔ 0 ≤ z ∧ s z.toNat = true := by
  rw [ints, List.mem_map]
  constructor
  · rintro ⟨m, hm, rfl⟩
    rw [setL_memS x] at hm
    exact ⟨by omega, by rw [Int.toNat_natCast]; exact hm⟩
  · rintro ⟨h1, h2⟩
    exact ⟨z.toNat, (setL_memS x).2 h2, by omega⟩
theorem ints_sorted {s : Nat → Bool} : (ints (setL s)).Pairwise (· < ·) := by
  rw [ints, List.pairwise_map]
  exact setL_sorted.imp fun h => by omega

theorem setOf_iff {zs : List Int} {m : Nat} : setOf zs m = true ↔ (m : Int) ∈ zs ∧ m < 5000 := by
  unfold setOf
  rw [Bool.and_eq_true, decide_eq_true_eq, List.any_eq_true]
  constructor
  · rintro ⟨⟨z, h1, h2⟩, h3⟩
    have : z = (m : Int) := by simpa using h2
    subst this; exact ⟨h1, h3⟩
  · rintro ⟨h1, h2⟩
    exact ⟨⟨m, h1, by simp⟩, h2⟩

theorem setOf_small {zs : List Int} : ∀ m, setOf zs m = true → m < 5000 := fun m h => (setOf_iff.1 h).2
theorem ofI_set {zs : List Int} (hl : zs.length ≤ 40) : ofI zs = ints (setL (setOf zs)) := by
  refine sorted_extI (foldl_sorted _ _ List.Pairwise.nil) ints_sorted fun y => ?_
  unfold ofI
  rw [List.take_of_length_le hl, foldl_mem, ints_mem setOf_small, setOf_iff]
  simp only [List.not_mem_nil, false_or]
  constructor
  · rintro ⟨h1, h2, h3⟩; exact ⟨h2, by rw [Int.toNat_of_nonneg h2]; exact h1, by omega⟩
  · rintro ⟨h1, h2, h3⟩; rw [Int.toNat_of_nonneg h1] at h2; exact ⟨h2, h1, by omega⟩

theorem wo_set {s s' : Nat → Bool} (x' : ∀ m, s' m = true → m < 5000) : (ints (setL s)).filter (fun z => z ∉ ints (setL s')) = ints (setL fun m => s m && !s' m) := by
  have : (fun z : Int => decide (z ∉ ints (setL s'))) = fun z => !(decide (0 ≤ z) && s' z.toNat) := by
    funext z
    rw [decide_not]
    congr 1
    rw [Bool.eq_iff_iff, decide_eq_true_eq, ints_mem x', Bool.and_eq_true, decide_eq_true_eq]
  rw [this]
  unfold ints setL upTo
  rw [List.filter_map, List.filter_filter]
  congr 1
  apply List.filter_congr
  intro m _
  simp only [Function.comp]
  rw [Int.toNat_natCast, decide_eq_true (by omega), Bool.true_and, Bool.and_comm]

/-- In what one has more, one bit. -/
theorem count_put {s : Nat → Bool} {a : Nat} (ha : s a = false) : ∀ N, ((List.range N).filter (putS s a)).length = ((List.range N).filter s).length + if a < N then 1 else 0
  | 0 => rfl
  | N + 1 => by
    rw [List.range_succ, List.filter_append, List.filter_append, List.length_append, List.length_append, count_put ha N]
    by_cases e : N = a
    · subst e
      rw [List.filter_cons_of_pos (by unfold putS; simp), List.filter_cons_of_neg (by rw [ha]; decide), if_neg (by omega), if_pos (by omega)]
      simp
    · have e2 : putS s a N = s N := by unfold putS; rw [decide_eq_false e, Bool.or_false]
      cases hs : s N with
      | true =>
        rw [List.filter_cons_of_pos (by rw [e2, hs]), List.filter_cons_of_pos hs]
        by_cases h : a < N
        · rw [if_pos h, if_pos (by omega)]; simp
          try omega
        · rw [if_neg h, if_neg (by omega)]; simp
      | false =>
        rw [List.filter_cons_of_neg (by rw [e2, hs]; decide), List.filter_cons_of_neg (by rw [hs]; decide)]
        by_cases h : a < N
        · rw [if_pos h, if_pos (by omega)]; simp
        · rw [if_neg h, if_neg (by omega)]; simp
theorem setL_put {s : Nat → Bool} {a : Nat} (ha : s a = false) (hl : a < 5000) : (setL (putS s a)).length = (setL s).length + 1 := by
  unfold setL upTo
  rw [count_put ha, if_pos (by omega)]

/-! ## SetPairs -/


end Go.Fw
