/-
  Less, Meet and Join of package bitset, said of the abstract machine.
-/
import Derived.Test.YtbkppkekgdnilaaDoorLawBitC
set_option maxRecDepth 20000
namespace Go.Fw


theorem less_l1 {F p b W p' b' W' : Nat} {w w' : Nat → Nat} (hpb : W ≠ 0 → p' ≠ b ∧ (W' ≠ 0 → b' ≠ b)) {E : Value → M Value} : ∀ j i k n (h : H), i + j = W → j < k → IsS h p b W (fun k => if k < i then andNot (w k) (w' k) else w k) → IsS h p' b' W' w' → Fr n h →
    ∃ h', (bitset_Set_Less_l1 F E k (pt p' 0) (pt p 0) (i64 W) (i64 i)).run n h = (E (pt p 0)).run n h' ∧ IsS h' p b W (fun k => andNot (w k) (w' k)) ∧ Ev (fun c => W ≠ 0 ∧ c = b) n h n h' := by
  intro j
  induction j with
  | zero =>
    intro i k n h hij hk x x' f
    obtain ⟨k, rfl⟩ : ∃ j, k = j + 1 := ⟨k - 1, by omega⟩
    obtain rfl : i = W := by omega
    rw [bitset_Set_Less_l1_s]
    unfold bitset_Set_Less_b1 bitset_Set_Less_r3
    simp only [st_lss, onB_ite, run_ite, decide_eq_true_eq]
    rw [if_neg (by omega)]
    refine ⟨h, rfl, ⟨x.ptr, x.ne, fun h0 => ?_, fun k => ?_, fun k hk => ?_, x.few, ?_⟩, Ev.refl f⟩
    · rw [x.up h0]
      have e : (tab i fun k => u64 (if k < i then andNot (w k) (w' k) else w k)) = tab i fun k => u64 (andNot (w k) (w' k)) := tab_ext fun k hk => by rw [if_pos hk]
      rw [e]
    · have h1 := x.lt k
      rcases Nat.lt_or_ge k i with h2 | h2
      · rwa [if_pos h2] at h1
      · rw [if_neg (by omega)] at h1; exact Nat.lt_of_le_of_lt Nat.and_le_left h1
    · have h1 := x.zero k hk
      rw [if_neg (by omega)] at h1
      unfold andNot
      rw [h1, Nat.zero_and]
    · have h1 := x.top
      rcases Nat.lt_or_ge 78 i with h2 | h2
      · rwa [if_pos h2] at h1
      · rw [if_neg (by omega)] at h1; exact Nat.lt_of_le_of_lt Nat.and_le_left h1
  | succ j ih =>
    intro i k n h hij hk x x' f
    obtain ⟨k, rfl⟩ : ∃ j, k = j + 1 := ⟨k - 1, by omega⟩
    have hW : W ≠ 0 := by omega
    have hi : i < W := by omega
    have hpp := x.ptr
    rw [if_neg hW] at hpp
    have hup := x.up hW
    have hne := x.ne hW
    have hbn := f.lt hup
    rw [bitset_Set_Less_l1_s]
    unfold bitset_Set_Less_b1 bitset_Set_Less_r3
    simp only [st_lss, onB_ite, run_ite, decide_eq_true_eq]
    rw [if_pos (by omega)]
    unfold bitset_Set_Less_r4 bitset_Set_Less_r5
    dsimp only
    have hwi : (if i < i then andNot (w i) (w' i) else w i) = w i := if_neg (by omega)
    rw [st_nil, st_field, Nat.zero_add, ld1 hpp (by decide) rfl, ix1 hi, Nat.zero_add, ldT hup (by decide) hi]
    rw [hwi, run_bnd (at_spec x' i), run_chk (cs := [sl b 0 W (U + 1)]) hpp (by decide) rfl (by simp [veq]), run_chk hup (by decide) (by rw [tab_get hi, hwi]) (by simp [veq])]
    have hlt : w i < 2 ^ 64 := by have h1 := x.lt i; rwa [hwi] at h1
    rw [st_andNotU hlt (x'.lt i), ix1 hi, Nat.zero_add, stT hup (.inr rfl) rfl hi]
    unfold bitset_Set_Less_r6
    dsimp only
    have hf := x.few
    rw [sx_add (by omega)]
    have f1 := f.set (b := b) ⟨tab W fun j => if j = i then u64 (andNot (w i) (w' i)) else u64 (if j < i then andNot (w j) (w' j) else w j), .grow⟩ hbn
    have keep : ∀ c, c ≠ b → (h.set b ⟨tab W fun j => if j = i then u64 (andNot (w i) (w' i)) else u64 (if j < i then andNot (w j) (w' j) else w j), .grow⟩).get c = h.get c := fun c hc => H.get_set_ne _ _ hc
    obtain ⟨h', q1, q2, q3⟩ := ih (i + 1) k n (h.set b ⟨tab W fun j => if j = i then u64 (andNot (w i) (w' i)) else u64 (if j < i then andNot (w j) (w' j) else w j), .grow⟩) (by omega) (by omega) ⟨by rw [keep p hne.symm]; exact x.ptr, x.ne, fun _ => by
        rw [H.get_set_same]
        have e : (tab W fun j => if j = i then u64 (andNot (w i) (w' i)) else u64 (if j < i then andNot (w j) (w' j) else w j)) = tab W fun k => u64 (if k < i + 1 then andNot (w k) (w' k) else w k) := tab_ext fun k _ => by
          by_cases e : k = i
          · subst e; rw [if_pos rfl, if_pos (by omega)]
          · rw [if_neg e]
            by_cases e2 : k < i
            · rw [if_pos e2, if_pos (by omega)]
            · rw [if_neg e2, if_neg (by omega)]
        rw [e], fun k => by
        have h1 := x.lt k
        skip
        by_cases e : k = i
        · subst e; rw [if_pos (by omega)]; exact Nat.lt_of_le_of_lt Nat.and_le_left hlt
        · by_cases e2 : k < i
          · rw [if_pos e2] at h1; rw [if_pos (by omega)]; exact h1
          · rw [if_neg e2] at h1; rw [if_neg (by omega)]; exact h1, fun k hk => by
        have h1 := x.zero k hk
        skip
        rw [if_neg (by omega)] at h1 ⊢; exact h1, x.few, by
        have h1 := x.top
        skip
        by_cases e : 78 = i
        · rw [if_neg (by omega)] at h1
          rw [if_pos (by omega)]; exact Nat.lt_of_le_of_lt Nat.and_le_left h1
        · by_cases e2 : 78 < i
          · rw [if_pos e2] at h1; rw [if_pos (by omega)]; exact h1
          · rw [if_neg e2] at h1; rw [if_neg (by omega)]; exact h1⟩
      ⟨by rw [keep p' (hpb hW).1]; exact x'.ptr, x'.ne, fun h0 => by rw [keep b' ((hpb hW).2 h0)]; exact x'.up h0, x'.lt, x'.zero, x'.few, x'.top⟩ f1
    exact ⟨h', q1, q2, (Ev.trans (P := fun c => W ≠ 0 ∧ c = b) ⟨f1, Nat.le_refl _, fun c _ hc => keep c fun e => hc ⟨hW, e⟩⟩ q3 fun c _ hc => hc)⟩

theorem less_spec {F n p p' : Nat} {O O' : Nat → Prop} {s s' : Nat → Bool} {h : H} (hF : 100 < F) (x : BS h p O s) (x' : BS h p' O' s') (f : Fr n h) : ∃ n' h' q Q, (bitset_Set_Less F (pt p 0) (pt p' 0)).run n h = some (pt q 0, n', h') ∧ BS h' q Q (fun m => s m && !s' m) ∧ Ev No n h n' h' ∧ ∀ c, Q c → n ≤ c := by
  unfold bitset_Set_Less bitset_Set_Less_r0 bitset_Set_Less_r1
  dsimp only
  obtain ⟨n1, h1, q, Q, e1, x1, ev1, hQ⟩ := copy_spec (F := F) x f
  rw [run_bnd e1]
  have x1' := x'.keep (h' := h1) fun c hc => ev1.no (x'.lt f c hc)
  have hO' := x'.lt f
  obtain ⟨b, W, w, y, hw, hQ'⟩ := x1
  obtain ⟨b', W', w', y', hw', hO''⟩ := x1'
  unfold bitset_Set_Less_r2
  dsimp only
  rw [st_nil, st_field, Nat.zero_add, ld1 y.ptr (by decide) rfl, y.gl.len, tab_len]
  have hpb : W ≠ 0 → p' ≠ b ∧ (W' ≠ 0 → b' ≠ b) := fun h0 => by
    have h1 := hQ b ((hQ' b).2 (.inr ⟨h0, rfl⟩))
    have h2 := hO' p' ((hO'' p').2 (.inl rfl))
    refine ⟨by omega, fun h3 => ?_⟩
    have h4 := hO' b' ((hO'' b').2 (.inr ⟨h3, rfl⟩))
    omega
  obtain ⟨h2, e2, z, ev2⟩ := less_l1 (F := F) (w := w) (E := fun x5 => bitset_Set_Less_k0 F x5) hpb W 0 F n1 h1 (by omega) (by have := y.few; omega) (by
    have e : (fun k => if k < 0 then andNot (w k) (w' k) else w k) = w := by funext k; rw [if_neg (by omega)]
    rw [e]; exact y) y' ev1.f
  refine ⟨n1, h2, q, Q, e2.trans rfl, ⟨b, W, _, z, fun m => ?_, hQ'⟩, ev1.trans ev2 fun c hc hcb => ?_, hQ⟩
  · dsimp only
    rw [andNot_bit (y.lt _) (y'.lt _), hw, hw']
  · have h1 := hQ b ((hQ' b).2 (.inr ⟨hcb.1, rfl⟩))
    have := hcb.2
    omega

/-- What is in both. -/
def andW (a b : Nat) : Nat := a &&& b
theorem st_andW {β : Type} {k : Value → M β} {a b : Nat} (ha : a < 2 ^ 64) (hb : b < 2 ^ 64) : bnd (opBin .and (u64 a) (u64 b)) k = k (u64 (andW a b)) := st_andU ha hb

theorem meet_l1 {F p b W p' b' W' : Nat} {w w' : Nat → Nat} (hpb : W ≠ 0 → p' ≠ b ∧ (W' ≠ 0 → b' ≠ b)) {E : Value → M Value} : ∀ j i k n (h : H), i + j = W → j < k → IsS h p b W (fun k => if k < i then andW (w k) (w' k) else w k) → IsS h p' b' W' w' → Fr n h →
    ∃ h', (bitset_Set_Meet_l1 F E k (pt p' 0) (pt p 0) (i64 W) (i64 i)).run n h = (E (pt p 0)).run n h' ∧ IsS h' p b W (fun k => andW (w k) (w' k)) ∧ Ev (fun c => W ≠ 0 ∧ c = b) n h n h' := by
  intro j
  induction j with
  | zero =>
    intro i k n h hij hk x x' f
    obtain ⟨k, rfl⟩ : ∃ j, k = j + 1 := ⟨k - 1, by omega⟩
    obtain rfl : i = W := by omega
    rw [bitset_Set_Meet_l1_s]
    unfold bitset_Set_Meet_b1 bitset_Set_Meet_r3
    simp only [st_lss, onB_ite, run_ite, decide_eq_true_eq]
    rw [if_neg (by omega)]
    refine ⟨h, rfl, ⟨x.ptr, x.ne, fun h0 => ?_, fun k => ?_, fun k hk => ?_, x.few, ?_⟩, Ev.refl f⟩
    · rw [x.up h0]
      have e : (tab i fun k => u64 (if k < i then andW (w k) (w' k) else w k)) = tab i fun k => u64 (andW (w k) (w' k)) := tab_ext fun k hk => by rw [if_pos hk]
      rw [e]
    · have h1 := x.lt k
      rcases Nat.lt_or_ge k i with h2 | h2
      · rwa [if_pos h2] at h1
      · rw [if_neg (by omega)] at h1; exact Nat.lt_of_le_of_lt Nat.and_le_left h1
    · have h1 := x.zero k hk
      rw [if_neg (by omega)] at h1
      unfold andW
      rw [h1, Nat.zero_and]
    · have h1 := x.top
      rcases Nat.lt_or_ge 78 i with h2 | h2
      · rwa [if_pos h2] at h1
      · rw [if_neg (by omega)] at h1; exact Nat.lt_of_le_of_lt Nat.and_le_left h1
  | succ j ih =>
    intro i k n h hij hk x x' f
    obtain ⟨k, rfl⟩ : ∃ j, k = j + 1 := ⟨k - 1, by omega⟩
    have hW : W ≠ 0 := by omega
    have hi : i < W := by omega
    have hpp := x.ptr
    rw [if_neg hW] at hpp
    have hup := x.up hW
    have hne := x.ne hW
    have hbn := f.lt hup
    rw [bitset_Set_Meet_l1_s]
    unfold bitset_Set_Meet_b1 bitset_Set_Meet_r3
    simp only [st_lss, onB_ite, run_ite, decide_eq_true_eq]
    rw [if_pos (by omega)]
    unfold bitset_Set_Meet_r4 bitset_Set_Meet_r5
    dsimp only
    have hwi : (if i < i then andW (w i) (w' i) else w i) = w i := if_neg (by omega)
    rw [st_nil, st_field, Nat.zero_add, ld1 hpp (by decide) rfl, ix1 hi, Nat.zero_add, ldT hup (by decide) hi]
    rw [hwi, run_bnd (at_spec x' i), run_chk (cs := [sl b 0 W (U + 1)]) hpp (by decide) rfl (by simp [veq]), run_chk hup (by decide) (by rw [tab_get hi, hwi]) (by simp [veq])]
    have hlt : w i < 2 ^ 64 := by have h1 := x.lt i; rwa [hwi] at h1
    rw [st_andW hlt (x'.lt i), ix1 hi, Nat.zero_add, stT hup (.inr rfl) rfl hi]
    unfold bitset_Set_Meet_r6
    dsimp only
    have hf := x.few
    rw [sx_add (by omega)]
    have f1 := f.set (b := b) ⟨tab W fun j => if j = i then u64 (andW (w i) (w' i)) else u64 (if j < i then andW (w j) (w' j) else w j), .grow⟩ hbn
    have keep : ∀ c, c ≠ b → (h.set b ⟨tab W fun j => if j = i then u64 (andW (w i) (w' i)) else u64 (if j < i then andW (w j) (w' j) else w j), .grow⟩).get c = h.get c := fun c hc => H.get_set_ne _ _ hc
    obtain ⟨h', q1, q2, q3⟩ := ih (i + 1) k n (h.set b ⟨tab W fun j => if j = i then u64 (andW (w i) (w' i)) else u64 (if j < i then andW (w j) (w' j) else w j), .grow⟩) (by omega) (by omega) ⟨by rw [keep p hne.symm]; exact x.ptr, x.ne, fun _ => by
        rw [H.get_set_same]
        have e : (tab W fun j => if j = i then u64 (andW (w i) (w' i)) else u64 (if j < i then andW (w j) (w' j) else w j)) = tab W fun k => u64 (if k < i + 1 then andW (w k) (w' k) else w k) := tab_ext fun k _ => by
          by_cases e : k = i
          · subst e; rw [if_pos rfl, if_pos (by omega)]
          · rw [if_neg e]
            by_cases e2 : k < i
            · rw [if_pos e2, if_pos (by omega)]
            · rw [if_neg e2, if_neg (by omega)]
        rw [e], fun k => by
        have h1 := x.lt k
        skip
        by_cases e : k = i
        · subst e; rw [if_pos (by omega)]; exact Nat.lt_of_le_of_lt Nat.and_le_left hlt
        · by_cases e2 : k < i
          · rw [if_pos e2] at h1; rw [if_pos (by omega)]; exact h1
          · rw [if_neg e2] at h1; rw [if_neg (by omega)]; exact h1, fun k hk => by
        have h1 := x.zero k hk
        skip
        rw [if_neg (by omega)] at h1 ⊢; exact h1, x.few, by
        have h1 := x.top
        skip
        by_cases e : 78 = i
        · rw [if_neg (by omega)] at h1
          rw [if_pos (by omega)]; exact Nat.lt_of_le_of_lt Nat.and_le_left h1
        · by_cases e2 : 78 < i
          · rw [if_pos e2] at h1; rw [if_pos (by omega)]; exact h1
          · rw [if_neg e2] at h1; rw [if_neg (by omega)]; exact h1⟩
      ⟨by rw [keep p' (hpb hW).1]; exact x'.ptr, x'.ne, fun h0 => by rw [keep b' ((hpb hW).2 h0)]; exact x'.up h0, x'.lt, x'.zero, x'.few, x'.top⟩ f1
    exact ⟨h', q1, q2, (Ev.trans (P := fun c => W ≠ 0 ∧ c = b) ⟨f1, Nat.le_refl _, fun c _ hc => keep c fun e => hc ⟨hW, e⟩⟩ q3 fun c _ hc => hc)⟩

theorem meet_spec {F n p p' : Nat} {O O' : Nat → Prop} {s s' : Nat → Bool} {h : H} (hF : 100 < F) (x : BS h p O s) (x' : BS h p' O' s') (f : Fr n h) : ∃ n' h' q Q, (bitset_Set_Meet F (pt p 0) (pt p' 0)).run n h = some (pt q 0, n', h') ∧ BS h' q Q (fun m => s m && s' m) ∧ Ev No n h n' h' ∧ ∀ c, Q c → n ≤ c := by
  unfold bitset_Set_Meet bitset_Set_Meet_r0 bitset_Set_Meet_r1
  dsimp only
  obtain ⟨n1, h1, q, Q, e1, x1, ev1, hQ⟩ := copy_spec (F := F) x f
  rw [run_bnd e1]
  have x1' := x'.keep (h' := h1) fun c hc => ev1.no (x'.lt f c hc)
  have hO' := x'.lt f
  obtain ⟨b, W, w, y, hw, hQ'⟩ := x1
  obtain ⟨b', W', w', y', hw', hO''⟩ := x1'
  unfold bitset_Set_Meet_r2
  dsimp only
  rw [st_nil, st_field, Nat.zero_add, ld1 y.ptr (by decide) rfl, y.gl.len, tab_len]
  have hpb : W ≠ 0 → p' ≠ b ∧ (W' ≠ 0 → b' ≠ b) := fun h0 => by
    have h1 := hQ b ((hQ' b).2 (.inr ⟨h0, rfl⟩))
    have h2 := hO' p' ((hO'' p').2 (.inl rfl))
    refine ⟨by omega, fun h3 => ?_⟩
    have h4 := hO' b' ((hO'' b').2 (.inr ⟨h3, rfl⟩))
    omega
  obtain ⟨h2, e2, z, ev2⟩ := meet_l1 (F := F) (w := w) (E := fun x5 => bitset_Set_Meet_k0 F x5) hpb W 0 F n1 h1 (by omega) (by have := y.few; omega) (by
    have e : (fun k => if k < 0 then andW (w k) (w' k) else w k) = w := by funext k; rw [if_neg (by omega)]
    rw [e]; exact y) y' ev1.f
  refine ⟨n1, h2, q, Q, e2.trans rfl, ⟨b, W, _, z, fun m => ?_, hQ'⟩, ev1.trans ev2 fun c hc hcb => ?_, hQ⟩
  · dsimp only
    rw [show andW (w (m / 64)) (w' (m / 64)) = w (m / 64) &&& w' (m / 64) from rfl, Nat.testBit_and, hw, hw']
  · have h1 := hQ b ((hQ' b).2 (.inr ⟨hcb.1, rfl⟩))
    have := hcb.2
    omega


/-! ## Join -/

theorem growJ_l4 {F p q : Nat} {w : Nat → Nat} {x7 x11 x12 x13 : Value} (hq : q < 79) {E : Value → Value → Value → Value → Value → Value → M Value} : ∀ j k W b n (h : H), (q < W ∨ W + j = q + 1) → j < k → IsS h p b W w → Fr n h →
    ∃ n' h' b' W', (bitset_Set_Join_l4 F E k (pt p 0) (i64 q) x7 x11 x12 x13).run n h = (E (pt p 0) (i64 q) x7 x11 x12 x13).run n' h' ∧ IsS h' p b' W' w ∧ q < W' ∧ Fr n' h' ∧ n ≤ n' ∧ (∀ c, c < n → c ≠ p → (W ≠ 0 → c ≠ b) → h'.get c = h.get c) ∧ ((b' = b ∧ W ≠ 0) ∨ n ≤ b') := by
  intro j
  induction j with
  | zero =>
    intro k W b n h hj hk x f
    obtain ⟨k, rfl⟩ : ∃ j, k = j + 1 := ⟨k - 1, by omega⟩
    have hW : q < W := by omega
    rw [bitset_Set_Join_l4_s]
    unfold bitset_Set_Join_b4 bitset_Set_Join_r8
    dsimp only
    rw [st_nil, st_field, Nat.zero_add, ld1 x.ptr (by decide) rfl, x.gl.len, tab_len]
    simp only [st_leq, onB_ite, run_ite, decide_eq_true_eq]
    rw [if_neg (by omega)]
    exact ⟨n, h, b, W, rfl, x, hW, f, Nat.le_refl _, fun _ _ _ _ => rfl, .inl ⟨rfl, by omega⟩⟩
  | succ j ih =>
    intro k W b n h hj hk x f
    by_cases hW : q < W
    · obtain ⟨k', rfl⟩ : ∃ j, k = j + 1 := ⟨k - 1, by omega⟩
      exact ih (k' + 1) W b n h (.inl hW) (by omega) x f
    · obtain ⟨k, rfl⟩ : ∃ j, k = j + 1 := ⟨k - 1, by omega⟩
      rw [bitset_Set_Join_l4_s]
      unfold bitset_Set_Join_b4 bitset_Set_Join_r8
      dsimp only
      rw [st_nil, st_field, Nat.zero_add, ld1 x.ptr (by decide) rfl, x.gl.len, tab_len]
      simp only [st_leq, onB_ite, run_ite, decide_eq_true_eq]
      rw [if_pos (by omega)]
      unfold bitset_Set_Join_r9
      dsimp only
      rw [st_nil, st_field, Nat.zero_add, ld1 x.ptr (by decide) rfl]
      obtain ⟨h1, e1, x1, f1, k1⟩ := grow_step (F := F) (β := Value) x f (by omega) ret
      simp only [st_nil, st_field, Nat.zero_add]
      rw [e1]
      obtain ⟨n', h', b', W', q0, q1, q2, q3, q4, q5, q6⟩ := ih k (W + 1) (n + 1) (n + 1 + 1) h1 (by omega) (by omega) x1 f1
      refine ⟨n', h', b', W', q0, q1, q2, q3, by omega, fun c hc hcp hcb => ?_, .inr (by omega)⟩
      rw [q5 c (by omega) hcp (fun _ => by omega), k1 c hc hcp hcb]

/-- A word put in. -/
def orW (w : Nat → Nat) (q a k : Nat) : Nat := if k = q then w k ||| a else w k

/-- The words of the other one that are below i are in. -/
def joinW (w w' : Nat → Nat) (i k : Nat) : Nat := if k < i then w k ||| w' k else w k

theorem andNot_or {a b : Nat} (ha : a < 2 ^ 64) (hb : b < 2 ^ 64) (h : andNot a b = 0) : b ||| a = b := by
  apply Nat.eq_of_testBit_eq
  intro i
  rw [Nat.testBit_or]
  cases hq : a.testBit i with
  | false => rw [Bool.or_false]
  | true =>
    have h1 : (andNot a b).testBit i = false := by rw [h, Nat.zero_testBit]
    rw [andNot_bit ha hb, hq] at h1
    cases hb : b.testBit i with
    | true => rfl
    | false => rw [hb] at h1; cases h1

theorem join_l1 {F p p' b' W' : Nat} {w0 w' : Nat → Nat} (hF : 100 < F) {E : Value → M Value} : ∀ j i k n b W ch (h : H), i + j = W' → j < k → IsS h p b W (joinW w0 w' i) → IsS h p' b' W' w' → Fr n h → p' ≠ p → (W ≠ 0 → p' ≠ b) → (W' ≠ 0 → b' ≠ p ∧ (W ≠ 0 → b' ≠ b)) → (ch = true ↔ ∃ k, k < i ∧ andNot (w' k) (w0 k) ≠ 0) → (∀ k, w0 k < 2 ^ 64) → 
    ∃ n' h' b2 W2 ch', (bitset_Set_Join_l1 F E k (pt p 0) (bo ch) (if W' = 0 then nsl else sl b' 0 W' (U + 1)) (i64 W') (i64 i)).run n h = (E (bo ch')).run n' h' ∧ IsS h' p b2 W2 (joinW w0 w' W') ∧ (ch' = true ↔ ∃ k, k < W' ∧ andNot (w' k) (w0 k) ≠ 0) ∧ Fr n' h' ∧ n ≤ n' ∧ (∀ c, c < n → c ≠ p → (W ≠ 0 → c ≠ b) → h'.get c = h.get c) ∧ ((b2 = b ∧ W ≠ 0) ∨ n ≤ b2 ∨ W2 = 0) := by
  intro j
  induction j with
  | zero =>
    intro i k n b W ch h hij hk x x' f h1 h2 h3 hch hw0
    obtain ⟨k, rfl⟩ : ∃ j, k = j + 1 := ⟨k - 1, by omega⟩
    obtain rfl : i = W' := by omega
    rw [bitset_Set_Join_l1_s]
    unfold bitset_Set_Join_b1 bitset_Set_Join_r5
    simp only [st_lss, onB_ite, run_ite, decide_eq_true_eq]
    rw [if_neg (by omega)]
    refine ⟨n, h, b, W, ch, rfl, x, hch, f, Nat.le_refl _, fun _ _ _ _ => rfl, ?_⟩
    by_cases h0 : W = 0
    · exact .inr (.inr h0)
    · exact .inl ⟨rfl, h0⟩
  | succ j ih =>
    intro i k n b W ch h hij hk x x' f h1 h2 h3 hch hw0
    obtain ⟨k, rfl⟩ : ∃ j, k = j + 1 := ⟨k - 1, by omega⟩
    have hi : i < W' := by omega
    have hW' := x'.few
    rw [bitset_Set_Join_l1_s]
    unfold bitset_Set_Join_b1 bitset_Set_Join_r5
    simp only [st_lss, onB_ite, run_ite, decide_eq_true_eq]
    rw [if_pos (by omega)]
    unfold bitset_Set_Join_r6
    dsimp only
    rw [x'.word hi]
    unfold bitset_Set_Join_r7
    dsimp only
    have hji : joinW w0 w' i i = w0 i := if_neg (Nat.lt_irrefl _)
    have hlt : w0 i < 2 ^ 64 := hw0 i
    rw [run_bnd (at_spec x i), hji, st_andNotU (x'.lt i) hlt, st_eql]
    simp only [onB_ite, run_ite, beq_iff_eq]
    by_cases h0 : andNot (w' i) (w0 i) = 0
    · rw [if_pos (by rw [h0]; rfl)]
      unfold bitset_Set_Join_k2 bitset_Set_Join_r12
      dsimp only
      rw [sx_add (by omega)]
      have e : joinW w0 w' (i + 1) = joinW w0 w' i := by
        funext m
        unfold joinW
        by_cases hm : m = i
        · subst hm
          rw [if_pos (by omega), if_neg (by omega), andNot_or (x'.lt m) hlt h0]
        · by_cases h4 : m < i
          · rw [if_pos h4, if_pos (by omega)]
          · rw [if_neg h4, if_neg (by omega)]
      refine ih (i + 1) k n b W ch h (by omega) (by omega) (by rw [e]; exact x) x' f h1 h2 h3 ?_ hw0
      rw [hch]
      constructor
      · rintro ⟨m, hm, q⟩; exact ⟨m, by omega, q⟩
      · rintro ⟨m, hm, q⟩
        refine ⟨m, ?_, q⟩
        rcases Nat.lt_or_ge m i with h5 | h5
        · exact h5
        · obtain rfl : m = i := by omega
          exact absurd h0 q
    · rw [if_neg (by omega)]
      obtain ⟨n1, g1, b1, W1, e1, y, hW1, f1, l1, k1, hb1⟩ := growJ_l4 (F := F) (p := p) (q := i) (w := joinW w0 w' i) (x7 := u64 (w' i)) (x11 := if W' = 0 then nsl else sl b' 0 W' (U + 1)) (x12 := i64 W') (x13 := i64 i) (by omega) (E := fun x0 x6 x7 x11 x12 x13 => bitset_Set_Join_k3 F (bitset_Set_Join_l1 F E k) x0 x6 x7 x11 x12 x13) (i + 1 - W) F W b n h (by omega) (by have := x.few; omega) x f
      rw [e1]
      unfold bitset_Set_Join_k3 bitset_Set_Join_r10
      dsimp only
      have hp1 := y.ptr
      rw [if_neg (by omega)] at hp1
      have hup := y.up (by omega)
      have hne := y.ne (by omega)
      have hbn := f1.lt hup
      rw [st_nil, st_field, Nat.zero_add, ld1 hp1 (by decide) rfl, ix1 hW1, Nat.zero_add, ldT hup (by decide) hW1]
      rw [hji, st_orU hlt (x'.lt i), ix1 hW1, Nat.zero_add, stT hup (.inr rfl) rfl hW1]
      unfold bitset_Set_Join_r11 bitset_Set_Join_k2 bitset_Set_Join_r12
      dsimp only
      rw [sx_add (by omega)]
      have hp'n := f.lt x'.ptr
      have keep1 : g1.get p' = h.get p' := k1 p' hp'n h1 h2
      have hb'n : W' ≠ 0 → b' < n := fun h0 => f.lt (x'.up h0)
      have keep2 : W' ≠ 0 → g1.get b' = h.get b' := fun h0 => k1 b' (hb'n h0) (h3 h0).1 (h3 h0).2
      have hpb1 : p' ≠ b1 := by
        rcases hb1 with ⟨rfl, h5⟩ | h5
        · exact h2 h5
        · omega
      have hbb1 : W' ≠ 0 → b' ≠ b1 := fun h0 => by
        rcases hb1 with ⟨rfl, h5⟩ | h5
        · exact (h3 h0).2 h5
        · have := hb'n h0; omega
      have e : (tab W1 fun m => if m = i then u64 (w0 i ||| w' i) else u64 (joinW w0 w' i m)) = tab W1 fun m => u64 (joinW w0 w' (i + 1) m) := tab_ext fun m _ => by
        unfold joinW
        by_cases hm : m = i
        · subst hm; rw [if_pos rfl, if_pos (by omega)]
        · rw [if_neg hm]
          by_cases h4 : m < i
          · rw [if_pos h4, if_pos (by omega)]
          · rw [if_neg h4, if_neg (by omega)]
      rw [e]
      have f2 := f1.set (b := b1) ⟨tab W1 fun m => u64 (joinW w0 w' (i + 1) m), .grow⟩ hbn
      have y2 : IsS (g1.set b1 ⟨tab W1 fun m => u64 (joinW w0 w' (i + 1) m), .grow⟩) p b1 W1 (joinW w0 w' (i + 1)) := ⟨by rw [H.get_set_ne _ _ hne.symm]; exact y.ptr, y.ne, fun _ => H.get_set_same _ _ _, fun m => by
          unfold joinW; split
          · exact Nat.or_lt_two_pow (hw0 m) (x'.lt m)
          · exact hw0 m, fun m hm => by
          have h5 := y.zero m hm
          unfold joinW at h5 ⊢
          rw [if_neg (by omega)] at h5 ⊢; exact h5, y.few, by
          have h5 := y.top
          unfold joinW at h5 ⊢
          by_cases h6 : 78 < i
          · rw [if_pos h6] at h5; rw [if_pos (by omega)]; exact h5
          · rw [if_neg h6] at h5
            by_cases h7 : 78 < i + 1
            · rw [if_pos h7]; exact Nat.or_lt_two_pow (n := 8) h5 x'.top
            · rw [if_neg h7]; exact h5⟩
      have y2' : IsS (g1.set b1 ⟨tab W1 fun m => u64 (joinW w0 w' (i + 1) m), .grow⟩) p' b' W' w' := ⟨by rw [H.get_set_ne _ _ hpb1, keep1]; exact x'.ptr, x'.ne, fun h0 => by rw [H.get_set_ne _ _ (hbb1 h0), keep2 h0]; exact x'.up h0, x'.lt, x'.zero, x'.few, x'.top⟩
      obtain ⟨n', h', b2, W2, ch', q0, q1, q2, q3, q4, q5, q6⟩ := ih (i + 1) k n1 b1 W1 true _ (by omega) (by omega) y2 y2' f2 h1 (fun _ => hpb1) (fun h0 => ⟨(h3 h0).1, fun _ => hbb1 h0⟩) ⟨fun _ => ⟨i, by omega, h0⟩, fun _ => rfl⟩ hw0
      refine ⟨n', h', b2, W2, ch', q0, q1, q2, q3, by omega, fun c hc hcp hcb => ?_, ?_⟩
      · have hcb1 : c ≠ b1 := by
          rcases hb1 with ⟨rfl, h5⟩ | h5
          · exact hcb h5
          · omega
        rw [q5 c (by omega) hcp (fun _ => hcb1), H.get_set_ne _ _ hcb1, k1 c hc hcp hcb]
      · rcases q6 with ⟨rfl, _⟩ | h5 | h5
        · rcases hb1 with h6 | h6
          · exact .inl h6
          · exact .inr (.inl h6)
        · exact .inr (.inl (by omega))
        · exact .inr (.inr h5)

theorem join_spec {F n p p' : Nat} {O O' : Nat → Prop} {s s' : Nat → Bool} {h : H} (hF : 100 < F) (x : BS h p O s) (x' : BS h p' O' s') (hd : ∀ c, O c → ¬ O' c) (f : Fr n h) : ∃ n' h' Q ch, (bitset_Set_Join F (pt p 0) (pt p' 0)).run n h = some (bo ch, n', h') ∧ (ch = true ↔ ∃ m, s' m = true ∧ s m = false) ∧ BS h' p Q (fun m => s m || s' m) ∧ Ev O n h n' h' ∧ (∀ c, Q c → O c ∨ n ≤ c) := by
  obtain ⟨b, W, w, x, hw, hO⟩ := x
  obtain ⟨b', W', w', x', hw', hO'⟩ := x'
  have d1 : p' ≠ p := fun e => hd p ((hO p).2 (.inl rfl)) ((hO' p).2 (.inl e.symm))
  have d2 : W ≠ 0 → p' ≠ b := fun h0 e => hd b ((hO b).2 (.inr ⟨h0, rfl⟩)) ((hO' b).2 (.inl e.symm))
  have d3 : W' ≠ 0 → b' ≠ p ∧ (W ≠ 0 → b' ≠ b) := fun h0 => ⟨fun e => hd p ((hO p).2 (.inl rfl)) ((hO' p).2 (.inr ⟨h0, e.symm⟩)), fun h1 e => hd b ((hO b).2 (.inr ⟨h1, rfl⟩)) ((hO' b).2 (.inr ⟨h0, e.symm⟩))⟩
  unfold bitset_Set_Join bitset_Set_Join_r0 bitset_Set_Join_r1
  dsimp only
  rw [st_eqP1]
  simp only [onB_ite, run_ite]
  rw [if_neg (by decide)]
  unfold bitset_Set_Join_r3 bitset_Set_Join_r4
  dsimp only
  rw [run_bnd (words_spec x'), x'.gl.len, tab_len]
  obtain ⟨n', h', b2, W2, ch', q0, q1, q2, q3, q4, q5, q6⟩ := join_l1 (F := F) (w0 := w) (w' := w') hF (E := fun x5 => bitset_Set_Join_k0 F x5) W' 0 F n b W false h (by omega) (by have := x'.few; omega) (by
    have e : joinW w w' 0 = w := by funext m; exact if_neg (by omega)
    rw [e]; exact x) x' f d1 d2 d3 ⟨(fun q => by cases q), (fun q => by obtain ⟨k, hk, _⟩ := q; omega)⟩ x.lt
  refine ⟨n', h', fun c => c = p ∨ (W2 ≠ 0 ∧ c = b2), ch', q0.trans rfl, ?_, ⟨b2, W2, _, q1, fun m => ?_, fun c => Iff.rfl⟩, ⟨q3, q4, fun c hc hOc => q5 c hc (fun e => hOc ((hO c).2 (.inl e))) fun h0 e => hOc ((hO c).2 (.inr ⟨h0, e⟩))⟩, fun c hc => ?_⟩
  · rw [q2]
    constructor
    · rintro ⟨k, hk, q⟩
      obtain ⟨i, hi, h1, h2⟩ := andNot_nz (x'.lt k) (x.lt k) q
      exact ⟨64 * k + i, by rw [hw', show (64 * k + i) / 64 = k by omega, show (64 * k + i) % 64 = i by omega]; exact h1, by rw [hw, show (64 * k + i) / 64 = k by omega, show (64 * k + i) % 64 = i by omega]; exact h2⟩
    · rintro ⟨m, h1, h2⟩
      rw [hw'] at h1; rw [hw] at h2
      refine ⟨m / 64, ?_, fun h3 => ?_⟩
      · rcases Nat.lt_or_ge (m / 64) W' with h3 | h3
        · exact h3
        · rw [x'.zero _ h3, Nat.zero_testBit] at h1; cases h1
      · have h4 : (andNot (w' (m / 64)) (w (m / 64))).testBit (m % 64) = true := by rw [andNot_bit (x'.lt _) (x.lt _), h1, h2]; rfl
        rw [h3, Nat.zero_testBit] at h4; cases h4
  · dsimp only
    rw [hw, hw']
    unfold joinW
    split
    · rw [Nat.testBit_or]
    · rw [x'.zero _ (by omega), Nat.zero_testBit, Bool.or_false]
  · rcases hc with rfl | ⟨h0, rfl⟩
    · exact .inl ((hO _).2 (.inl rfl))
    · rcases q6 with ⟨rfl, h1⟩ | h1 | h1
      · exact .inl ((hO _).2 (.inr ⟨h1, rfl⟩))
      · exact .inr h1
      · exact absurd h1 h0

end Go.Fw
