/-
  Sets of numbers, lists of numbers: what the functions of these come to, said of the abstract machine.
-/
import Derived.Test.YtddafkflndhnfaaDoorGenD
import Derived.Test.YtddafkflndhnfaaDoorFwU
import Derived.Test.YtddafkflndhnfaaDoorFwX
import Derived.Test.YtddafkflndhnfaaDoorFwY
import Derived.KernelRfl
set_option maxRecDepth 20000
set_option linter.unusedVariables false
namespace Go.Fw


structure IsS (h : H) (p b W : Nat) (w : Nat → Nat) : Prop where
  ptr : h.get p = some ⟨[if W = 0 then nsl else sl b 0 W (U + 1)], .own⟩
  ne : W ≠ 0 → b ≠ p
  up : W ≠ 0 → h.get b = some ⟨tab W (fun k => u64 (w k)), .grow⟩
  lt : ∀ k, w k < 2 ^ 64
  zero : ∀ k, W ≤ k → w k = 0
  few : W ≤ 79
  top : w 78 < 256

/-- A set that the call itself made: who is in; which blocks are its own. -/
def BS (h : H) (p : Nat) (O : Nat → Prop) (s : Nat → Bool) : Prop :=
  ∃ b W w, IsS h p b W w ∧ (∀ n, s n = (w (n / 64)).testBit (n % 64)) ∧ ∀ c, O c ↔ (c = p ∨ (W ≠ 0 ∧ c = b))

theorem BS.keep {h h' : H} {p : Nat} {O : Nat → Prop} {s : Nat → Bool} (x : BS h p O s) (hk : ∀ c, O c → h'.get c = h.get c) : BS h' p O s := by
  obtain ⟨b, W, w, i, hs, hO⟩ := x
  refine ⟨b, W, w, ⟨by rw [hk p ((hO p).2 (.inl rfl))]; exact i.ptr, i.ne, fun h0 => by rw [hk b ((hO b).2 (.inr ⟨h0, rfl⟩))]; exact i.up h0, i.lt, i.zero, i.few, i.top⟩, hs, hO⟩
theorem BS.lt {h : H} {p n : Nat} {O : Nat → Prop} {s : Nat → Bool} (x : BS h p O s) (f : Fr n h) : ∀ c, O c → c < n := by
  obtain ⟨b, W, w, i, hs, hO⟩ := x
  intro c hc
  rcases (hO c).1 hc with rfl | ⟨h0, rfl⟩
  · exact f.lt i.ptr
  · exact f.lt (i.up h0)

theorem words_spec {F n p b W : Nat} {w : Nat → Nat} {h : H} (x : IsS h p b W w) : (bitset_Set_words F (pt p 0)).run n h = some ((if W = 0 then nsl else sl b 0 W (U + 1)), n, h) := by
  unfold bitset_Set_words bitset_Set_words_r0 bitset_Set_words_r1
  simp only [st_eqP1, Bool.false_xor, onB_ite, Bool.false_eq_true, if_false]
  unfold bitset_Set_words_r3
  simp only [st_nil, st_field, Nat.zero_add, run_load, x.ptr, ldm_some (show Kind.own ≠ .dead by decide) (show [if W = 0 then nsl else sl b 0 W (U + 1)][0]? = some (if W = 0 then nsl else sl b 0 W (U + 1)) from rfl)]
  rfl

theorem at_spec {F n p b W : Nat} {w : Nat → Nat} {h : H} (x : IsS h p b W w) (k : Nat) : (bitset_Set_at F (pt p 0) (i64 k)).run n h = some (u64 (w k), n, h) := by
  unfold bitset_Set_at bitset_Set_at_r0 bitset_Set_at_r1
  rw [run_bnd (words_spec x)]
  unfold bitset_Set_at_r2
  by_cases h0 : W = 0
  · rw [if_pos h0, x.zero k (by omega)]
    simp only [st_len, st_lss, onB_ite, run_ite, decide_eq_true_eq]
    rw [if_neg (by omega)]
    rfl
  · rw [if_neg h0]
    simp only [st_len, st_lss, onB_ite, run_ite, decide_eq_true_eq]
    by_cases hk : k < W
    · rw [if_pos (by omega)]
      unfold bitset_Set_at_r3
      simp only [st_ix, if_pos (show (0 : Int) ≤ (k : Int) ∧ (k : Int) < (W : Int) by omega), Int.toNat_natCast, Nat.mul_one, Nat.zero_add, run_load, x.up h0, ldm_some (show Kind.grow ≠ .dead by decide) (tab_get (f := fun k => u64 (w k)) hk)]
      rfl
    · rw [if_neg (by omega), x.zero k (by omega)]
      rfl

/-- Is a number in? -/
def isIn (s : Nat → Bool) (n : Int) : Bool := decide (0 ≤ n ∧ n < 5000) && s n.toNat

theorem has_spec {F n p : Nat} {O : Nat → Prop} {s : Nat → Bool} {h : H} (x : BS h p O s) (a : Int) : (bitset_Set_Has F (pt p 0) (i64 a)).run n h = some (bo (isIn s a), n, h) := by
  obtain ⟨b, W, w, x, hs, _⟩ := x
  unfold bitset_Set_Has bitset_Set_Has_r0 bitset_Set_Has_r1
  simp only [st_geq, st_lss, onB_ite, run_ite, decide_eq_true_eq]
  by_cases h1 : 0 ≤ a
  · rw [if_pos h1]
    by_cases h2 : a < 5000
    · rw [if_pos h2, st_quo (by decide)]
      obtain ⟨m, rfl⟩ : ∃ m : Nat, a = m := ⟨a.toNat, by omega⟩
      rw [show (m : Int).tdiv 64 = ((m / 64 : Nat) : Int) from rfl, wrap64 (by omega), run_bnd (at_spec x (m / 64))]
      simp only [st_rem (show (64 : Int) ≠ 0 by decide), show (m : Int).tmod 64 = ((m % 64 : Nat) : Int) from rfl]
      rw [st_shrU (by omega), show (Value.int .u64 1) = u64 1 from rfl, st_andU (Nat.lt_of_le_of_lt (Nat.div_le_self _ _) (x.lt _)) (by decide), st_eql]
      have : isIn s m = ((((w (m / 64) / 2 ^ (m % 64) &&& 1 : Nat) : Int)) == ((1 : Nat) : Int)) := by
        unfold isIn
        rw [decide_eq_true (by omega), Bool.true_and, Int.toNat_natCast, hs m, Nat.testBit_eq_decide_div_mod_eq, Nat.and_one_is_mod]
        by_cases hq : w (m / 64) / 2 ^ (m % 64) % 2 = 1
        · rw [decide_eq_true hq, hq]; rfl
        · rw [decide_eq_false hq]; symm; rw [beq_eq_false_iff_ne]; omega
      rw [this]; rfl
    · rw [if_neg h2]
      have : isIn s a = false := by unfold isIn; rw [decide_eq_false (by omega)]; rfl
      rw [this]; rfl
  · rw [if_neg h1]
    have : isIn s a = false := by unfold isIn; rw [decide_eq_false (by omega)]; rfl
    rw [this]; rfl

theorem IsS.gl {h : H} {p b W : Nat} {w : Nat → Nat} (x : IsS h p b W w) : Gl h (if W = 0 then nsl else sl b 0 W (U + 1)) b (tab W fun k => u64 (w k)) := by
  by_cases h0 : W = 0
  · subst h0; exact .inl ⟨rfl, rfl⟩
  · rw [if_neg h0]
    exact .inr ⟨tab_ne.2 h0, by rw [tab_len], x.up h0⟩

/-- One word more, if it takes one. -/
theorem grow_step {F n p b W : Nat} {w : Nat → Nat} {h : H} {β : Type} (x : IsS h p b W w) (f : Fr n h) (hW : W < 79) (k : Value → M β) :
    ∃ h', (∀ K : M β, (bnd (opBuildSlice 1 (rep 1 [(.int .u64 (0))]) [(0, 1, false, (.int .u64 (0)))]) fun v33 => bnd (opAppend 1 8 (if W = 0 then nsl else sl b 0 W (U + 1)) v33) fun v34 => bnd (opStore (pt p 0) v34) fun _ => K).run n h = K.run (n + 1 + 1) h') ∧ IsS h' p (n + 1) (W + 1) w ∧ Fr (n + 1 + 1) h' ∧ ∀ c, c < n → c ≠ p → (W ≠ 0 → c ≠ b) → h'.get c = h.get c := by
  have hpn := f.lt x.ptr
  have g := x.gl
  have hne : tab W (fun k => u64 (w k)) ≠ [] → b ≠ n := fun h0 => by have := g.lt f h0; omega
  have g1 : Gl (h.set n ⟨[.int .u64 0], .own⟩) (if W = 0 then nsl else sl b 0 W (U + 1)) b (tab W fun k => u64 (w k)) := g.keep fun h0 => H.get_set_ne _ _ (hne h0)
  obtain ⟨h2, e2, g2, f2, k2⟩ := run_append (β := β) (bytes := 8) (x := .int .u64 0) g1 (f.new _) (H.get_set_same _ _ _) (by decide) rfl (tab_one fun _ _ => rfl) hne (by rw [tab_len]; omega)
  rw [tab_len] at e2 g2
  have hp2 : h2.get p = some ⟨[if W = 0 then nsl else sl b 0 W (U + 1)], .own⟩ := by
    rw [k2 p (by omega) (fun h0 => (x.ne (tab_ne.1 h0)).symm), H.get_set_ne _ _ (by omega)]; exact x.ptr
  refine ⟨h2.set p ⟨[sl (n + 1) 0 (W + 1) (U + 1)], .own⟩, fun K => ?_, ⟨by rw [H.get_set_same, if_neg (by omega)], fun _ => by omega, fun _ => ?_, x.lt, fun k hk => x.zero k (by omega), by omega, x.top⟩, f2.set _ (by omega), fun c hc hcp hcb => ?_⟩
  · rw [run_single f rfl, e2, run_store, hp2, stm_some (.inl rfl) rfl Nat.zero_lt_one]
    rfl
  · rw [H.get_set_ne _ _ (by omega), tab_succ, x.zero W (Nat.le_refl _)]
    rcases g2 with ⟨g0, _⟩ | ⟨_, _, g3⟩
    · simp at g0
    · exact g3
  · rw [H.get_set_ne _ _ hcp, k2 c (by omega) (fun h0 => hcb (tab_ne.1 h0)), H.get_set_ne _ _ (by omega)]

theorem add_l1 {F p a : Nat} {w : Nat → Nat} (ha : a < 5000) {E : Value → Value → M Value} : ∀ j k W b n (h : H), (a / 64 < W ∨ W + j = a / 64 + 1) → j < k → IsS h p b W w → Fr n h →
    ∃ n' h' b' W', (bitset_Set_Add_l1 F E k (pt p 0) (i64 a)).run n h = (E (pt p 0) (i64 a)).run n' h' ∧ IsS h' p b' W' w ∧ a / 64 < W' ∧ Fr n' h' ∧ n ≤ n' ∧ (∀ c, c < n → c ≠ p → (W ≠ 0 → c ≠ b) → h'.get c = h.get c) ∧ ((b' = b ∧ W ≠ 0) ∨ n ≤ b') := by
  intro j
  induction j with
  | zero =>
    intro k W b n h hj hk x f
    obtain ⟨k, rfl⟩ : ∃ j, k = j + 1 := ⟨k - 1, by omega⟩
    have hW : a / 64 < W := by omega
    rw [bitset_Set_Add_l1_s]
    unfold bitset_Set_Add_b1 bitset_Set_Add_r3
    have hl : ∀ K : Value → M Value, bnd (opLen (if W = 0 then nsl else sl b 0 W (U + 1))) K = K (i64 W) := fun K => by
      rw [x.gl.len, tab_len]
    simp only [st_nil, st_field, Nat.zero_add, run_load, x.ptr, ldm_some (show Kind.own ≠ .dead by decide) (show [if W = 0 then nsl else sl b 0 W (U + 1)][0]? = some (if W = 0 then nsl else sl b 0 W (U + 1)) from rfl), hl, st_quo (show (64 : Int) ≠ 0 by decide), show (a : Int).tdiv 64 = ((a / 64 : Nat) : Int) from rfl]
    rw [wrap64 (by omega)]
    simp only [st_leq, onB_ite, run_ite, decide_eq_true_eq]
    rw [if_neg (by omega)]
    exact ⟨n, h, b, W, rfl, x, hW, f, Nat.le_refl _, fun _ _ _ _ => rfl, .inl ⟨rfl, by omega⟩⟩
  | succ j ih =>
    intro k W b n h hj hk x f
    by_cases hW : a / 64 < W
    · obtain ⟨k', rfl⟩ : ∃ j, k = j + 1 := ⟨k - 1, by omega⟩
      exact ih (k' + 1) W b n h (.inl hW) (by omega) x f
    · obtain ⟨k, rfl⟩ : ∃ j, k = j + 1 := ⟨k - 1, by omega⟩
      rw [bitset_Set_Add_l1_s]
      unfold bitset_Set_Add_b1 bitset_Set_Add_r3
      have hl : ∀ K : Value → M Value, bnd (opLen (if W = 0 then nsl else sl b 0 W (U + 1))) K = K (i64 W) := fun K => by
        rw [x.gl.len, tab_len]
      simp only [st_nil, st_field, Nat.zero_add, run_load, x.ptr, ldm_some (show Kind.own ≠ .dead by decide) (show [if W = 0 then nsl else sl b 0 W (U + 1)][0]? = some (if W = 0 then nsl else sl b 0 W (U + 1)) from rfl), hl, st_quo (show (64 : Int) ≠ 0 by decide), show (a : Int).tdiv 64 = ((a / 64 : Nat) : Int) from rfl]
      rw [wrap64 (by omega)]
      simp only [st_leq, onB_ite, run_ite, decide_eq_true_eq]
      rw [if_pos (by omega)]
      unfold bitset_Set_Add_r4
      obtain ⟨h1, e1, x1, f1, k1⟩ := grow_step (F := F) (β := Value) x f (by omega) ret
      simp only [st_nil, st_field, Nat.zero_add, run_load, x.ptr, ldm_some (show Kind.own ≠ .dead by decide) (show [if W = 0 then nsl else sl b 0 W (U + 1)][0]? = some (if W = 0 then nsl else sl b 0 W (U + 1)) from rfl)]
      rw [e1]
      obtain ⟨n', h', b', W', q0, q1, q2, q3, q4, q5, q6⟩ := ih k (W + 1) (n + 1) (n + 1 + 1) h1 (by omega) (by omega) x1 f1
      refine ⟨n', h', b', W', q0, q1, q2, q3, by omega, fun c hc hcp hcb => ?_, .inr (by omega)⟩
      rw [q5 c (by omega) hcp (fun _ => by omega), k1 c hc hcp hcb]

/-- A word with a bit more. -/
def putW (w : Nat → Nat) (a k : Nat) : Nat := if k = a / 64 then w k ||| 2 ^ (a % 64) else w k

theorem putW_bit {w : Nat → Nat} {a m : Nat} : (putW w a (m / 64)).testBit (m % 64) = ((w (m / 64)).testBit (m % 64) || decide (m = a)) := by
  unfold putW
  by_cases h : m / 64 = a / 64
  · rw [if_pos h, Nat.testBit_or, Nat.testBit_two_pow]
    congr 1
    by_cases h2 : m = a
    · subst h2; simp
    · rw [decide_eq_false h2, decide_eq_false (by omega)]
  · rw [if_neg h, decide_eq_false (show m ≠ a by rintro rfl; exact h rfl), Bool.or_false]

/-- A set with a number more. -/
def putS (s : Nat → Bool) (a : Nat) (m : Nat) : Bool := s m || decide (m = a)

/-- May a number be put in, and is it new? -/
def canAdd (s : Nat → Bool) (a : Int) : Bool := decide (0 ≤ a ∧ a < 5000) && !s a.toNat

theorem add_spec {F n p : Nat} {O : Nat → Prop} {s : Nat → Bool} {h : H} (x : BS h p O s) (f : Fr n h) (a : Int) (hF : 100 < F) :
    ∃ n' h' O', (bitset_Set_Add F (pt p 0) (i64 a)).run n h = some (bo (canAdd s a), n', h') ∧ BS h' p O' (if canAdd s a = true then putS s a.toNat else s) ∧ Fr n' h' ∧ n ≤ n' ∧ (∀ c, c < n → ¬ O c → h'.get c = h.get c) ∧ ∀ c, O' c → O c ∨ n ≤ c := by
  unfold bitset_Set_Add bitset_Set_Add_r0 bitset_Set_Add_r1
  simp only [st_eqP1, Bool.false_xor, onB_ite, Bool.false_eq_true, if_false, st_lss, st_geq, run_ite, decide_eq_true_eq]
  by_cases h1 : a < 0
  · rw [if_pos h1, if_pos trivial]
    have : canAdd s a = false := by unfold canAdd; rw [decide_eq_false (by omega)]; rfl
    rw [this]
    exact ⟨n, h, O, rfl, x, f, Nat.le_refl _, fun _ _ _ => rfl, fun _ hc => .inl hc⟩
  rw [if_neg h1]
  by_cases h2 : 5000 ≤ a
  · rw [if_pos h2, if_pos trivial]
    have : canAdd s a = false := by unfold canAdd; rw [decide_eq_false (by omega)]; rfl
    rw [this]
    exact ⟨n, h, O, rfl, x, f, Nat.le_refl _, fun _ _ _ => rfl, fun _ hc => .inl hc⟩
  rw [if_neg h2, run_bnd (has_spec x a)]
  obtain ⟨a, rfl⟩ : ∃ m : Nat, a = m := ⟨a.toNat, by omega⟩
  simp only [onB_ite, run_ite]
  have hin : isIn s a = s a := by unfold isIn; rw [decide_eq_true (by omega), Bool.true_and]; rfl
  have hca : canAdd s a = !s a := by unfold canAdd; rw [decide_eq_true (by omega), Bool.true_and]; rfl
  rw [hin, hca]
  by_cases hs : s a = true
  · rw [if_pos hs, hs]
    exact ⟨n, h, O, rfl, x, f, Nat.le_refl _, fun _ _ _ => rfl, fun _ hc => .inl hc⟩
  · rw [if_neg hs]
    have hs' : s a = false := by simpa using hs
    rw [hs', Bool.not_false, if_pos rfl]
    obtain ⟨b, W, w, x, hsw, hO⟩ := x
    obtain ⟨n1, h1, b1, W1, e1, x1, hW1, f1, l1, k1, hb1⟩ := add_l1 (F := F) (p := p) (a := a) (w := w) (by omega) (E := fun x0 x1 => bitset_Set_Add_k0 F x0 x1) (a / 64 + 1 - W) F W b n h (by omega) (by have := x.few; omega) x f
    rw [e1]
    unfold bitset_Set_Add_k0 bitset_Set_Add_r5
    have hp1 := x1.ptr
    rw [if_neg (by omega)] at hp1
    have hb := x1.up (by omega)
    have hne1 := x1.ne (by omega)
    have hpw : 2 ^ (a % 64) < 2 ^ 64 := Nat.pow_lt_pow_right (by decide) (by omega)
    have hor : w (a / 64) ||| 2 ^ (a % 64) < 2 ^ 64 := Nat.or_lt_two_pow (x.lt _) hpw
    have h64 : a % 64 < 64 := by omega
    have hixb : a / 64 < (tab W1 fun k => u64 (w k)).length := by rw [tab_len]; exact hW1
    have hshl : ∀ K : Value → M Value, bnd (opBin .shl (.int .u64 1) (.int .i64 ((a % 64 : Nat) : Int))) K = K (u64 (2 ^ (a % 64))) := fun K => st_shlU h64
    have horr : ∀ K : Value → M Value, bnd (opBin .or (u64 (w (a / 64))) (u64 (2 ^ (a % 64)))) K = K (u64 (w (a / 64) ||| 2 ^ (a % 64))) := fun K => st_orU (x.lt _) hpw
    have hone : one (u64 (w (a / 64) ||| 2 ^ (a % 64))) = true := rfl
    simp only [st_nil, st_field, Nat.zero_add, run_load, hp1, ldm_some (show Kind.own ≠ .dead by decide) (show [sl b1 0 W1 (U + 1)][0]? = some (sl b1 0 W1 (U + 1)) from rfl), st_quo (show (64 : Int) ≠ 0 by decide), Int.toNat_natCast, show (a : Int).tdiv 64 = ((a / 64 : Nat) : Int) from rfl]
    rw [wrap64 (by omega)]
    simp only [st_ix, if_pos (show (0 : Int) ≤ ((a / 64 : Nat) : Int) ∧ ((a / 64 : Nat) : Int) < (W1 : Int) by omega), Int.toNat_natCast, Nat.mul_one, Nat.zero_add, run_load, hb, ldm_some (show Kind.grow ≠ .dead by decide) (tab_get (f := fun k => u64 (w k)) hW1), st_rem (show (64 : Int) ≠ 0 by decide), show (a : Int).tmod 64 = ((a % 64 : Nat) : Int) from rfl,
      hshl, horr, run_store, stm_some (show Kind.grow = .own ∨ Kind.grow = .grow by decide) hone hixb]
    have hbn := f1.lt hb
    refine ⟨n1, _, fun c => c = p ∨ c = b1, rfl, ⟨b1, W1, putW w a, ⟨?_, fun _ => hne1, fun _ => ?_, fun k => ?_, fun k hk => ?_, x1.few, ?_⟩, fun m => ?_, fun c => ?_⟩, f1.set _ hbn, l1, fun c hc hOc => ?_, fun c hc => ?_⟩
    · rw [H.get_set_ne _ _ hne1.symm, if_neg (by omega)]; exact hp1
    · have e : (tab W1 fun i => if i = a / 64 then u64 (w (a / 64) ||| 2 ^ (a % 64)) else u64 (w i)) = tab W1 fun k => u64 (putW w a k) := tab_ext fun k _ => by
        unfold putW
        by_cases hk : k = a / 64
        · rw [if_pos hk, if_pos hk, hk]
        · rw [if_neg hk, if_neg hk]
      rw [H.get_set_same, tab_set, e]
    · unfold putW
      split
      · rename_i e; rw [e]; exact hor
      · exact x.lt k
    · unfold putW
      rw [if_neg (by omega)]
      exact x1.zero k hk
    · unfold putW
      split
      · rename_i e
        have : 2 ^ (a % 64) < 2 ^ 8 := Nat.pow_lt_pow_right (by decide) (by omega)
        exact Nat.or_lt_two_pow (n := 8) x.top this
      · exact x.top
    · rw [putW_bit, ← hsw m]; rfl
    · constructor
      · rintro (h | h)
        · exact .inl h
        · exact .inr ⟨by omega, h⟩
      · rintro (h | ⟨_, h⟩)
        · exact .inl h
        · exact .inr h
    · have hcp : c ≠ p := fun e => hOc ((hO c).2 (.inl e))
      have hcb : W ≠ 0 → c ≠ b := fun h0 e => hOc ((hO c).2 (.inr ⟨h0, e⟩))
      rw [H.get_set_ne _ _ (by
        rcases hb1 with ⟨e, h0⟩ | h0
        · rw [e]; exact hcb h0
        · omega), k1 c hc hcp hcb]
    · rcases hc with rfl | rfl
      · exact .inl ((hO _).2 (.inl rfl))
      · rcases hb1 with ⟨e, h0⟩ | h0
        · exact .inl ((hO _).2 (.inr ⟨h0, e⟩))
        · exact .inr h0


/-- A new set, with nobody in. -/
theorem new_set {n : Nat} {h : H} (f : Fr n h) {k : Value → M Value} :
    (bnd (opBuild [nsl] []) fun v6 => bnd (opBoxN v6) k).run n h = (k (pt n 0)).run (n + 1) (h.set n ⟨[nsl], .own⟩) ∧ BS (h.set n ⟨[nsl], .own⟩) n (fun c => c = n) (fun _ => false) ∧ Fr (n + 1) (h.set n ⟨[nsl], .own⟩) := by
  refine ⟨?_, ⟨0, 0, fun _ => 0, ⟨by rw [H.get_set_same]; rfl, fun h => absurd rfl h, fun h => absurd rfl h, fun _ => by decide, fun _ _ => rfl, by decide, by decide⟩, fun m => by simp, fun c => by simp⟩, f.new _⟩
  have hb : opBuild [nsl] [] = ret (.agg #[nsl]) := rfl
  rw [hb]
  simp only [ret_bnd]
  rw [show (Value.agg #[nsl]) = .agg ([nsl] : List Value).toArray from rfl, run_box f rfl]

/-! ## Numbers that came in -/

def IntsA (h : H) (v : Value) (zs : List Int) : Prop :=
  (zs = [] ∧ v = nsl) ∨ ∃ b cap xs, v = sl b 0 zs.length cap ∧ zs.length ≤ cap ∧ cap < 9223372036854775808 ∧ (zs ≠ [] → b < 8 ∧ h.get b = some ⟨xs, .ro⟩ ∧ ∀ i, i < zs.length → xs[i]? = (zs.map i64)[i]?)

theorem IntsA.keep {h h' : H} {v : Value} {zs : List Int} (w : IntsA h v zs) (hk : ∀ c, c < 8 → h'.get c = h.get c) : IntsA h' v zs := by
  rcases w with w | ⟨b, cap, xs, rfl, g1, g2, g3⟩
  · exact .inl w
  · exact .inr ⟨b, cap, xs, rfl, g1, g2, fun h0 => ⟨(g3 h0).1, by rw [hk _ (g3 h0).1]; exact (g3 h0).2.1, (g3 h0).2.2⟩⟩
theorem IntsA.rd {h : H} {v : Value} {zs : List Int} (w : IntsA h v zs) : Rd h v (zs.map i64) := by
  rcases w with ⟨rfl, rfl⟩ | ⟨b, cap, xs, rfl, _, _, g3⟩
  · exact .inl ⟨rfl, rfl⟩
  · refine .inr ⟨b, 0, cap, .ro, by rw [List.length_map], fun h0 => ?_⟩
    have hz : zs ≠ [] := fun e => h0 (by rw [e]; rfl)
    exact ⟨xs, (g3 hz).2.1, by decide, fun i hi => by rw [Nat.zero_add]; exact (g3 hz).2.2 i (by simpa using hi)⟩

/-- What the listed table holds. -/
def bytesOf : List Nat := [0, 1, 56, 2, 57, 49, 28, 3, 61, 58, 42, 50, 38, 29, 17, 4, 62, 47, 59, 36, 45, 43, 51, 22, 53, 39, 33, 30, 24, 18, 12, 5, 63, 55, 48, 27, 60, 41, 37, 16, 46, 35, 44, 21, 52, 32, 23, 11, 54, 26, 40, 15, 34, 20, 31, 10, 25, 14, 19, 9, 13, 8, 7, 6]
def deB : List Value := bytesOf.map fun n : Nat => Value.int .u8 (n : Int)

/-! ## How many bits -/

theorem mask1 : mask 2 1 32 = 6148914691236517205 := by decide
theorem mask2 : mask 4 3 16 = 3689348814741910323 := by decide
theorem mask3 : mask 8 15 8 = 1085102592571150095 := by decide

theorem st_addU {β : Type} {k : Value → M β} {a b : Nat} (hb : a + b < 2 ^ 64) : bnd (opBin .add (u64 a) (u64 b)) k = k (u64 (a + b)) := by
  rw [st_add, wrapU (by omega)]; rfl

theorem S_lt : ∀ m k x, S k m x < 2 ^ (k * m) ∨ k = 0
  | 0, k, x => by simp [S]
  | m + 1, k, x => by
    rcases S_lt m k (x / 2 ^ k) with h | h
    · by_cases hk : k = 0
      · exact .inr hk
      left
      have h1 := pc_le k (x % 2 ^ k)
      have h2 : k < 2 ^ k := Nat.lt_two_pow_self
      show pc k (x % 2 ^ k) + 2 ^ k * S k m (x / 2 ^ k) < _
      rw [Nat.mul_succ, Nat.pow_add, Nat.mul_comm (2 ^ (k * m))]
      have h3 : 2 ^ k * (S k m (x / 2 ^ k) + 1) ≤ 2 ^ k * 2 ^ (k * m) := Nat.mul_le_mul_left _ h
      rw [Nat.mul_add, Nat.mul_one] at h3
      omega
    · exact .inr h

theorem and127 (n : Nat) : n &&& 127 = n % 128 := by
  have := Nat.and_two_pow_sub_one_eq_mod n 7
  simpa using this

theorem st_andI {β : Type} {k : Value → M β} {a b : Nat} (ha : a < 2 ^ 63) (hb : b < 2 ^ 63) : bnd (opBin .and (i64 a) (i64 b)) k = k (i64 ((a &&& b : Nat) : Int)) := by
  have hor : a &&& b < 2 ^ 63 := Nat.lt_of_le_of_lt Nat.and_le_left ha
  have e : bin .and (i64 a) (i64 b) = some (i64 ((a &&& b : Nat) : Int)) := by
    show (if IntKind.i64 = IntKind.i64 then some (Value.int .i64 (IntKind.i64.wrap ((BitVec.ofInt 64 (a : Int) &&& BitVec.ofInt 64 (b : Int)).toNat : Int))) else none) = _
    rw [if_pos rfl, ofInt_nat, ofInt_nat, BitVec.toNat_and, BitVec.toNat_ofNat, BitVec.toNat_ofNat, Nat.mod_eq_of_lt (by omega), Nat.mod_eq_of_lt (by omega), wrap64 (by omega)]
  unfold opBin; rw [e]; rfl

theorem S4_le : ∀ m x, S 4 m x * 15 + 4 ≤ 4 * 16 ^ m
  | 0, x => by simp [S]
  | m + 1, x => by
    have ih := S4_le m (x / 16)
    have h1 := pc_le 4 (x % 2 ^ 4)
    show (pc 4 (x % 2 ^ 4) + 2 ^ 4 * S 4 m (x / 16)) * 15 + 4 ≤ 4 * 16 ^ (m + 1)
    generalize pc 4 (x % 2 ^ 4) = d at *
    rw [Nat.pow_succ 16]
    omega

theorem ones_spec {F n : Nat} {h : H} (x : Nat) (hx : x < 2 ^ 64) : (bits_OnesCount64 F (u64 x)).run n h = some (i64 ((bitsOf x).length : Int), n, h) := by
  have s1 := step1 32 x
  have s2 := step2 16 x
  have s3 := step3 8 x
  rw [mask1] at s1; rw [mask2] at s2; rw [mask3] at s3
  obtain ⟨A, hA, hc, hb⟩ := count_bits x
  have l1 : S 2 32 x < 2 ^ 64 := (S_lt 32 2 x).resolve_right (by decide)
  have l2 := S4_le 16 x
  rw [show (4 : Nat) * 16 ^ 16 = 73786976294838206464 from rfl] at l2
  have l3 : A + A / 256 < 2 ^ 61 := by omega
  have l4 : A + A / 256 + (A + A / 256) / 65536 < 2 ^ 62 := by omega
  have l5 : A + A / 256 + (A + A / 256) / 65536 + (A + A / 256 + (A + A / 256) / 65536) / 4294967296 < 2 ^ 63 := by omega
  have t1 : ∀ a : Nat, ∀ k : Value → M Value, bnd (opBin .shr (u64 a) (.int .u64 1)) k = k (u64 (a / 2)) := fun a k => st_shrU (s := 1) (by omega)
  have t2 : ∀ a : Nat, ∀ k : Value → M Value, bnd (opBin .shr (u64 a) (.int .u64 2)) k = k (u64 (a / 4)) := fun a k => st_shrU (s := 2) (by omega)
  have t4 : ∀ a : Nat, ∀ k : Value → M Value, bnd (opBin .shr (u64 a) (.int .u64 4)) k = k (u64 (a / 16)) := fun a k => st_shrU (s := 4) (by omega)
  have t8 : ∀ a : Nat, ∀ k : Value → M Value, bnd (opBin .shr (u64 a) (.int .u64 8)) k = k (u64 (a / 256)) := fun a k => st_shrU (s := 8) (by omega)
  have t16 : ∀ a : Nat, ∀ k : Value → M Value, bnd (opBin .shr (u64 a) (.int .u64 16)) k = k (u64 (a / 65536)) := fun a k => st_shrU (s := 16) (by omega)
  have t32 : ∀ a : Nat, ∀ k : Value → M Value, bnd (opBin .shr (u64 a) (.int .u64 32)) k = k (u64 (a / 4294967296)) := fun a k => st_shrU (s := 32) (by omega)
  have q1 : ∀ K : Value → M Value, (bnd (opBin .and (u64 (x / 2)) (.int .u64 6148914691236517205)) fun v5 => bnd (opBin .and (u64 x) (.int .u64 6148914691236517205)) fun v7 => bnd (opBin .add v5 v7) K) = K (u64 (S 2 32 x)) := fun K => by
    rw [show (Value.int .u64 6148914691236517205) = u64 6148914691236517205 from rfl, st_andU (by omega) (by decide), st_andU hx (by decide), st_addU (by rw [s1]; exact l1), s1]
  have q2 : ∀ K : Value → M Value, (bnd (opBin .and (u64 (S 2 32 x / 4)) (.int .u64 3689348814741910323)) fun v5 => bnd (opBin .and (u64 (S 2 32 x)) (.int .u64 3689348814741910323)) fun v7 => bnd (opBin .add v5 v7) K) = K (u64 (S 4 16 x)) := fun K => by
    rw [show (Value.int .u64 3689348814741910323) = u64 3689348814741910323 from rfl, st_andU (by omega) (by decide), st_andU l1 (by decide), st_addU (by rw [s2]; omega), s2]
  have q3 : ∀ K : Value → M Value, (bnd (opBin .add (u64 (S 4 16 x / 16)) (u64 (S 4 16 x))) fun v18 => bnd (opBin .and v18 (.int .u64 1085102592571150095)) K) = K (u64 A) := fun K => by
    rw [show (Value.int .u64 1085102592571150095) = u64 1085102592571150095 from rfl, st_addU (by omega), st_andU (by omega) (by decide), s3, hA]
  unfold bits_OnesCount64 bits_OnesCount64_r0 bits_OnesCount64_r1 bits_OnesCount64_r2 bits_OnesCount64_r3 bits_OnesCount64_r4 bits_OnesCount64_r5 bits_OnesCount64_r6 bits_OnesCount64_r7
  dsimp only
  rw [t1, q1, t2, q2, t4, q3, t8, st_addU (by omega), t16, st_addU (by omega), t32, st_addU (by omega), st_conv, wrap64 (by omega), show (Value.int .i64 127) = i64 ((127 : Nat) : Int) from rfl, st_andI l5 (by decide), and127, hc, pc64]
  rfl

/-! ## The lowest bit -/

/-! ## Len -/

/-- The numbers of a set. -/
def setL (s : Nat → Bool) : List Nat := upTo s 80

theorem upTo_more {s : Nat → Bool} {W : Nat} (h : ∀ m, 64 * W ≤ m → s m = false) : ∀ j, upTo s (W + j) = upTo s W
  | 0 => rfl
  | j + 1 => by
    rw [← Nat.add_assoc, upTo_succ (x := 0) (fun i _ => by rw [h _ (by omega), Nat.zero_testBit]), upTo_more h j]
    have : bitsOf 0 = [] := by decide
    rw [this]; simp

theorem IsS.upTo {h : H} {p b W : Nat} {w : Nat → Nat} {s : Nat → Bool} (x : IsS h p b W w) (hs : ∀ n, s n = (w (n / 64)).testBit (n % 64)) : upTo s W = setL s := by
  have := x.few
  unfold setL
  rw [show 80 = W + (80 - W) by omega, upTo_more (fun m hm => by rw [hs, x.zero (m / 64) (by omega), Nat.zero_testBit])]
theorem IsS.next {s : Nat → Bool} {w : Nat → Nat} (hs : ∀ n, s n = (w (n / 64)).testBit (n % 64)) (k : Nat) : Fw.upTo s (k + 1) = Fw.upTo s k ++ (bitsOf (w k)).map (64 * k + ·) := upTo_succ fun i hi => by
  rw [hs, show (64 * k + i) / 64 = k by omega, show (64 * k + i) % 64 = i by omega]

theorem BS.small {h : H} {p : Nat} {O : Nat → Prop} {s : Nat → Bool} (x : BS h p O s) {m : Nat} (hm : s m = true) : m < 5000 := by
  obtain ⟨b, W, w, x, hw, _⟩ := x
  rw [hw] at hm
  rcases Nat.lt_or_ge (m / 64) 79 with h1 | h1
  · rcases Nat.lt_or_ge (m / 64) 78 with h2 | h2
    · omega
    · rw [show m / 64 = 78 by omega] at hm
      have := x.top
      rcases Nat.lt_or_ge (m % 64) 8 with h3 | h3
      · omega
      · rw [Nat.testBit_lt_two_pow (Nat.lt_of_lt_of_le this (Nat.pow_le_pow_right (n := 2) (i := 8) (by decide) h3))] at hm
        cases hm
  · rw [x.zero _ (by have := x.few; omega), Nat.zero_testBit] at hm; cases hm

theorem upTo_len {s : Nat → Bool} {k : Nat} : (upTo s k).length ≤ 64 * k := by
  unfold upTo
  have := List.length_filter_le s (List.range (64 * k))
  rwa [List.length_range] at this

theorem IsS.word {β : Type} {n p b W i : Nat} {w : Nat → Nat} {h : H} (x : IsS h p b W w) (hi : i < W) {K : Value → M β} : (bnd (opIndexAddr 1 (if W = 0 then nsl else sl b 0 W (U + 1)) (i64 i)) fun v => bnd (opLoad v) K).run n h = (K (u64 (w i))).run n h := by
  rw [if_neg (by omega), ix1 hi, Nat.zero_add, ldT (x.up (by omega)) (by decide) hi]

theorem len_l1 {F n p b W : Nat} {w : Nat → Nat} {s : Nat → Bool} {h : H} (x : IsS h p b W w) (hs : ∀ n, s n = (w (n / 64)).testBit (n % 64)) {E : Value → M Value} : ∀ j i k, i + j = W → j < k →
    (bitset_Set_Len_l1 F E k (i64 (upTo s i).length) (if W = 0 then nsl else sl b 0 W (U + 1)) (i64 W) (i64 i)).run n h = (E (i64 (setL s).length)).run n h := by
  intro j
  induction j with
  | zero =>
    intro i k hij hk
    obtain ⟨k, rfl⟩ : ∃ j, k = j + 1 := ⟨k - 1, by omega⟩
    obtain rfl : i = W := by omega
    rw [bitset_Set_Len_l1_s]
    unfold bitset_Set_Len_b1 bitset_Set_Len_r3
    simp only [st_lss, onB_ite, run_ite, decide_eq_true_eq]
    rw [if_neg (by omega), x.upTo hs]
  | succ j ih =>
    intro i k hij hk
    obtain ⟨k, rfl⟩ : ∃ j, k = j + 1 := ⟨k - 1, by omega⟩
    rw [bitset_Set_Len_l1_s]
    unfold bitset_Set_Len_b1 bitset_Set_Len_r3
    simp only [st_lss, onB_ite, run_ite, decide_eq_true_eq]
    rw [if_pos (by omega)]
    unfold bitset_Set_Len_r4
    rw [x.word (by omega)]
    unfold bitset_Set_Len_r5
    rw [run_bnd (ones_spec _ (x.lt i))]
    have h1 := upTo_len (s := s) (k := i)
    have h2 := upTo_len (s := s) (k := i + 1)
    have h3 := x.few
    have h4 : (upTo s (i + 1)).length = (upTo s i).length + (bitsOf (w i)).length := by rw [IsS.next hs, List.length_append, List.length_map]
    rw [sx_add (by omega)]
    unfold bitset_Set_Len_r6
    dsimp only
    rw [sx_add (by omega)]
    have := ih (i + 1) k (by omega) (by omega)
    rw [h4] at this
    exact this

theorem len_spec {F n p : Nat} {O : Nat → Prop} {s : Nat → Bool} {h : H} (hF : 100 < F) (x : BS h p O s) : (bitset_Set_Len F (pt p 0)).run n h = some (i64 (setL s).length, n, h) := by
  obtain ⟨b, W, w, x, hs, _⟩ := x
  unfold bitset_Set_Len bitset_Set_Len_r0 bitset_Set_Len_r1 bitset_Set_Len_r2
  dsimp only
  rw [run_bnd (words_spec x), x.gl.len, tab_len]
  have := len_l1 (F := F) (n := n) x hs (E := fun x3 => bitset_Set_Len_k0 F x3) W 0 F (by omega) (by have := x.few; omega)
  exact this.trans rfl

/-! ## All -/

/-! ## Remove -/

/-! ## First -/

/-! ## In, Eq -/

/-! ## Copy -/



/-! ## Join -/

/-- A set whose blocks lie at lo or later, and ahead of hi. -/
def SetAt (h : H) (p lo hi : Nat) (s : Nat → Bool) : Prop := ∃ O, BS h p O s ∧ ∀ c, O c → lo ≤ c ∧ c < hi

section
variable {F n p lo hi : Nat} {s : Nat → Bool} {h : H}

theorem SetAt.keep {n' : Nat} {h' : H} {P : Nat → Prop} (x : SetAt h p lo hi s) (e : Ev P n h n' h') (hn : hi ≤ n) (hP : ∀ c, P c → lo ≤ c → hi ≤ c) : SetAt h' p lo hi s := by
  obtain ⟨O, x, q⟩ := x
  exact ⟨O, x.keep fun c hc => e.keep c (by have := q c hc; omega) fun hp => by have := q c hc; have := hP c hp this.1; omega, q⟩
theorem SetAt.kept {n' : Nat} {h' : H} (x : SetAt h p lo hi s) (e : Ev No n h n' h') (hn : hi ≤ n) : SetAt h' p lo hi s := x.keep e hn fun _ h => h.elim
theorem SetAt.mono {lo' hi' : Nat} (x : SetAt h p lo hi s) (h1 : lo' ≤ lo) (h2 : hi ≤ hi') : SetAt h p lo' hi' s := by
  obtain ⟨O, x, q⟩ := x
  exact ⟨O, x, fun c hc => by have := q c hc; omega⟩
theorem SetAt.congr {s' : Nat → Bool} (x : SetAt h p lo hi s) (e : ∀ m, s m = s' m) : SetAt h p lo hi s' := by
  have : s = s' := funext e
  subst this; exact x
theorem SetAt.small (x : SetAt h p lo hi s) {m : Nat} (hm : s m = true) : m < 5000 := by
  obtain ⟨O, x, q⟩ := x; exact x.small hm

theorem at_len (hF : 100 < F) (x : SetAt h p lo hi s) : (bitset_Set_Len F (pt p 0)).run n h = some (i64 (setL s).length, n, h) := by
  obtain ⟨O, x, q⟩ := x; exact len_spec hF x
section
variable {p' lo' hi' : Nat} {s' : Nat → Bool}
end
end

/-! ## The law's own helpers -/


/-! ## Eq -/

theorem req_l1 {F n : Nat} {h : H} {v v' : Value} {zs ys : List Int} (g : RdI h v zs) (g' : RdI h v' ys) (he : zs.length = ys.length) (hl : zs.length ≤ 9223372036854775000) {E : M Value} (hE : E.run n h = some (bo true, n, h)) : ∀ j i k, i + j = zs.length → j < k →
    (R1_Eq_l1 F E k v v' (i64 i)).run n h = some (bo (decide (zs.drop i = ys.drop i)), n, h) := by
  intro j
  induction j with
  | zero =>
    intro i k hij hk
    obtain ⟨k, rfl⟩ : ∃ j, k = j + 1 := ⟨k - 1, by omega⟩
    rw [R1_Eq_l1_s]
    unfold R1_Eq_b1 R1_Eq_r4
    rw [g.lenI]
    simp only [st_lss, onB_ite, run_ite, decide_eq_true_eq]
    rw [if_neg (by omega), hE, List.drop_of_length_le (by omega), List.drop_of_length_le (by omega)]
    rfl
  | succ j ih =>
    intro i k hij hk
    obtain ⟨k, rfl⟩ : ∃ j, k = j + 1 := ⟨k - 1, by omega⟩
    rw [R1_Eq_l1_s]
    unfold R1_Eq_b1 R1_Eq_r4
    rw [g.lenI]
    simp only [st_lss, onB_ite, run_ite, decide_eq_true_eq]
    have hi : i < zs.length := by omega
    have hi' : i < ys.length := by omega
    rw [if_pos (by omega)]
    unfold R1_Eq_r6
    rw [g.getI hi, g'.getI hi', st_neq, List.drop_eq_getElem_cons hi, List.drop_eq_getElem_cons hi']
    simp only [onB_ite, run_ite, bne_iff_ne]
    by_cases e : zs[i] = ys[i]
    · rw [if_neg (by simpa using e)]
      unfold R1_Eq_r5
      rw [sx_add (by omega)]
      refine (ih (i + 1) k (by omega) (by omega)).trans ?_
      have : decide (zs.drop (i + 1) = ys.drop (i + 1)) = decide (zs[i] :: zs.drop (i + 1) = ys[i] :: ys.drop (i + 1)) := by
        rw [decide_eq_decide, List.cons.injEq, e]; simp
      rw [this]
    · rw [if_pos e]
      unfold R1_Eq_r7
      rw [decide_eq_false (by rw [List.cons.injEq]; exact fun h => e h.1)]
      rfl

theorem req_spec {F n : Nat} {h : H} {v v' : Value} {zs ys : List Int} (g : RdI h v zs) (g' : RdI h v' ys) (hF : zs.length < F) (hl : zs.length ≤ 9223372036854775000) : (R1_Eq F v v').run n h = some (bo (decide (zs = ys)), n, h) := by
  unfold R1_Eq R1_Eq_r0 R1_Eq_r1
  dsimp only
  rw [g.lenI, g'.lenI, st_neq]
  simp only [onB_ite, run_ite, bne_iff_ne]
  by_cases e : zs.length = ys.length
  · rw [if_neg (by omega)]
    unfold R1_Eq_r3
    dsimp only
    have := req_l1 (F := F) (n := n) g g' e hl (E := R1_Eq_k0 F) rfl zs.length 0 F (by omega) hF
    rw [List.drop_zero, List.drop_zero] at this
    exact this
  · rw [if_pos (by omega), decide_eq_false (by rintro rfl; exact e rfl)]
    rfl

/-! ## Put -/

/-! ## of -/

/-! ## without -/

/-! ## The lists are the sets' lists -/

/-! ## SetPairs -/


end Go.Fw
