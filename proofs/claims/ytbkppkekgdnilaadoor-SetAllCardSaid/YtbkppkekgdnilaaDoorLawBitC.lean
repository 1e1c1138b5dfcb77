/-
  Remove, First, Copy, Less, Meet, Join, In and Eq of package bitset, said of the abstract machine.
-/
import Derived.Test.YtbkppkekgdnilaaDoorLawBitA
set_option maxRecDepth 20000
namespace Go.Fw

/-! ## Remove -/

/-- A word with a bit less. -/
def offW (w : Nat → Nat) (a k : Nat) : Nat := if k = a / 64 then andNot (w k) (2 ^ (a % 64)) else w k

theorem offW_bit {w : Nat → Nat} (hw : ∀ k, w k < 2 ^ 64) {a m : Nat} : (offW w a (m / 64)).testBit (m % 64) = ((w (m / 64)).testBit (m % 64) && !decide (m = a)) := by
  unfold offW
  have hp : 2 ^ (a % 64) < 2 ^ 64 := Nat.pow_lt_pow_right (by decide) (by omega)
  by_cases h : m / 64 = a / 64
  · rw [if_pos h, andNot_bit (hw _) hp, Nat.testBit_two_pow]
    congr 2
    by_cases h2 : m = a
    · subst h2; simp
    · rw [decide_eq_false h2, decide_eq_false (by omega)]
  · rw [if_neg h, decide_eq_false (show m ≠ a by rintro rfl; exact h rfl), Bool.not_false, Bool.and_true]

theorem rem_spec {F n p : Nat} {O : Nat → Prop} {s : Nat → Bool} {h : H} (x : BS h p O s) (f : Fr n h) (a : Int) :
    ∃ h', (bitset_Set_Remove F (pt p 0) (i64 a)).run n h = some (bo (isIn s a), n, h') ∧ BS h' p O (fun m => s m && !decide ((m : Int) = a)) ∧ Ev O n h n h' := by
  unfold bitset_Set_Remove bitset_Set_Remove_r0 bitset_Set_Remove_r1
  dsimp only
  rw [run_bnd (has_spec x a), st_not]
  simp only [onB_ite, run_ite]
  cases hs : isIn s a with
  | false =>
    rw [Bool.not_false, if_pos rfl]
    unfold bitset_Set_Remove_r2
    have e : (fun m : Nat => s m && !decide ((m : Int) = a)) = s := by
      funext m
      by_cases h2 : (m : Int) = a
      · rw [decide_eq_true h2]
        subst h2
        cases hq : s m with
        | false => rfl
        | true =>
          have := x.small hq
          unfold isIn at hs
          rw [Int.toNat_natCast, decide_eq_true (by omega), hq] at hs
          cases hs
      · rw [decide_eq_false h2]; simp
    rw [e]
    exact ⟨h, rfl, x, Ev.refl f⟩
  | true =>
    rw [Bool.not_true, if_neg (by decide)]
    obtain ⟨b, W, w, x, hsw, hO⟩ := x
    unfold isIn at hs
    simp only [Bool.and_eq_true, decide_eq_true_eq] at hs
    obtain ⟨a, rfl⟩ : ∃ m : Nat, a = m := ⟨a.toNat, by omega⟩
    rw [Int.toNat_natCast] at hs
    have hbit := hs.2
    rw [hsw] at hbit
    have hW : a / 64 < W := by
      rcases Nat.lt_or_ge (a / 64) W with h1 | h1
      · exact h1
      · rw [x.zero _ h1, Nat.zero_testBit] at hbit; cases hbit
    have hpp := x.ptr
    rw [if_neg (by omega)] at hpp
    have hup := x.up (by omega)
    have hne := x.ne (by omega)
    have hpw : 2 ^ (a % 64) < 2 ^ 64 := Nat.pow_lt_pow_right (by decide) (by omega)
    have h64 : a % 64 < 64 := by omega
    unfold bitset_Set_Remove_r3 bitset_Set_Remove_r4
    dsimp only
    rw [st_nil, st_field, Nat.zero_add, ld1 hpp (by decide) rfl, st_quo (by decide), show (a : Int).tdiv 64 = ((a / 64 : Nat) : Int) from rfl, wrap64 (by omega), ix1 hW, Nat.zero_add, ldT hup (by decide) hW, st_rem (by decide), show (a : Int).tmod 64 = ((a % 64 : Nat) : Int) from rfl, st_shlU h64, st_andNotU (x.lt _) hpw, ix1 hW, Nat.zero_add, stT hup (.inr rfl) rfl hW]
    have hbn := f.lt hup
    refine ⟨_, rfl, ⟨b, W, offW w a, ⟨?_, x.ne, fun _ => ?_, fun k => ?_, fun k hk => ?_, x.few, ?_⟩, fun m => ?_, hO⟩, ⟨f.set _ hbn, Nat.le_refl _, fun c hc hOc => ?_⟩⟩
    · rw [H.get_set_ne _ _ hne.symm]; exact x.ptr
    · rw [H.get_set_same]
      have e : (tab W fun i => if i = a / 64 then u64 (andNot (w (a / 64)) (2 ^ (a % 64))) else u64 (w i)) = tab W fun k => u64 (offW w a k) := tab_ext fun k _ => by
        unfold offW
        by_cases hk : k = a / 64
        · rw [if_pos hk, if_pos hk, hk]
        · rw [if_neg hk, if_neg hk]
      rw [e]
    · unfold offW; split
      · exact andNot_lt (x.lt _)
      · exact x.lt k
    · unfold offW; rw [if_neg (by omega)]; exact x.zero k hk
    · unfold offW; split
      · exact Nat.lt_of_le_of_lt Nat.and_le_left x.top
      · exact x.top
    · rw [offW_bit x.lt, ← hsw m]
      show (s m && !decide ((m : Int) = (a : Int))) = _
      rw [show decide ((m : Int) = (a : Int)) = decide (m = a) from by rw [decide_eq_decide]; omega]
    · rw [H.get_set_ne _ _ (by rintro rfl; exact hOc ((hO _).2 (.inr ⟨by omega, rfl⟩)))]

/-! ## First -/

/-- r is the first number from i on; -1: there is none. -/
def IsFirst (s : Nat → Bool) (i : Nat) (r : Int) : Prop := (r = -1 ∧ ∀ m, i ≤ m → s m = false) ∨ ∃ m : Nat, r = m ∧ i ≤ m ∧ s m = true ∧ ∀ q, i ≤ q → q < m → s q = false

theorem BS.isIn {p : Nat} {O : Nat → Prop} {s : Nat → Bool} {h : H} (x : BS h p O s) (m : Nat) : Fw.isIn s m = s m := by
  unfold Fw.isIn
  rw [Int.toNat_natCast]
  by_cases hq : s m = true
  · have h1 := x.small hq
    have hc : (0 : Int) ≤ (m : Int) ∧ (m : Int) < 5000 := ⟨by omega, by omega⟩
    rw [decide_eq_true hc, Bool.true_and]
  · rw [show s m = false by simpa using hq, Bool.and_false]

theorem has_nat {F n p : Nat} {O : Nat → Prop} {s : Nat → Bool} {h : H} (x : BS h p O s) (m : Nat) : (bitset_Set_Has F (pt p 0) (i64 m)).run n h = some (bo (s m), n, h) := by
  have e := has_spec (F := F) (n := n) x m
  rwa [x.isIn m] at e

theorem first_l1 {F n p B : Nat} (hB : 5056 ≤ B) {O : Nat → Prop} {s : Nat → Bool} {h : H} (x : BS h p O s) {E : M Value} (hE : E.run n h = some (i64 (-1), n, h)) : ∀ j i k : Nat, B ≤ i + j → j < k →
    ∃ r, (bitset_Set_First_l1 F E k (pt p 0) (i64 i)).run n h = some (i64 r, n, h) ∧ IsFirst s i r := by
  intro j
  induction j with
  | zero =>
    intro i k hij hk
    obtain ⟨k, rfl⟩ : ∃ j, k = j + 1 := ⟨k - 1, by omega⟩
    have hsm : ∀ m, i ≤ m → s m = false := fun m hm => by
      cases hq : s m with
      | false => rfl
      | true => have := x.small hq; omega
    obtain ⟨b, W, w, x, hw, hO⟩ := x
    have hW := x.few
    rw [bitset_Set_First_l1_s]
    unfold bitset_Set_First_b1 bitset_Set_First_r2
    dsimp only
    rw [run_bnd (words_spec x), x.gl.len, tab_len, sx_mul (by omega)]
    simp only [st_lss, onB_ite, run_ite, decide_eq_true_eq]
    rw [if_neg (by omega)]
    exact ⟨-1, hE, .inl ⟨rfl, hsm⟩⟩
  | succ j ih =>
    intro i k hij hk
    obtain ⟨k, rfl⟩ : ∃ j, k = j + 1 := ⟨k - 1, by omega⟩
    have hx := x
    obtain ⟨b, W, w, x, hw, hO⟩ := x
    have hW := x.few
    rw [bitset_Set_First_l1_s]
    unfold bitset_Set_First_b1 bitset_Set_First_r2
    dsimp only
    rw [run_bnd (words_spec x), x.gl.len, tab_len, sx_mul (by omega)]
    simp only [st_lss, onB_ite, run_ite, decide_eq_true_eq]
    by_cases h0 : (i : Int) < 64 * (W : Int)
    · rw [if_pos h0]
      unfold bitset_Set_First_r4
      simp only [run_bnd (has_nat hx i), onB_ite, run_ite]
      cases hq : s i with
      | true =>
        rw [if_pos rfl]
        unfold bitset_Set_First_r5
        exact ⟨i, rfl, .inr ⟨i, rfl, Nat.le_refl _, hq, fun q h1 h2 => by omega⟩⟩
      | false =>
        rw [if_neg (by decide)]
        unfold bitset_Set_First_r3
        dsimp only
        rw [sx_add (by omega)]
        obtain ⟨r, e, hr⟩ := ih (i + 1) k (by omega) (by omega)
        refine ⟨r, e, ?_⟩
        rcases hr with ⟨rfl, hr⟩ | ⟨m, rfl, h1, h2, h3⟩
        · exact .inl ⟨rfl, fun m hm => by
            by_cases e : m = i
            · subst e; exact hq
            · exact hr m (by omega)⟩
        · exact .inr ⟨m, rfl, by omega, h2, fun q h4 h5 => by
            by_cases e : q = i
            · subst e; exact hq
            · exact h3 q (by omega) h5⟩
    · rw [if_neg h0]
      refine ⟨-1, hE, .inl ⟨rfl, fun m hm => ?_⟩⟩
      rw [hw, x.zero (m / 64) (by omega), Nat.zero_testBit]

theorem first_spec {F n p : Nat} {O : Nat → Prop} {s : Nat → Bool} {h : H} (hF : 5056 < F) (x : BS h p O s) (a : Int) : ∃ r, (bitset_Set_First F (pt p 0) (i64 a)).run n h = some (i64 r, n, h) ∧ IsFirst s a.toNat r := by
  unfold bitset_Set_First bitset_Set_First_r0 bitset_Set_First_r1
  dsimp only
  rw [st_max]
  have e : (if (0 : Int) > a then (0 : Int) else a) = ((a.toNat : Nat) : Int) := by split <;> omega
  rw [e]
  exact first_l1 (B := F - 1) (by omega) x (E := bitset_Set_First_k0 F) rfl (F - 1) a.toNat F (by omega) (by omega)

/-! ## In, Eq -/

/-- Is all of one in the other? -/
noncomputable def subS (s t : Nat → Bool) : Bool := @decide (∀ m, s m = true → t m = true) (Classical.propDecidable _)

theorem subS_iff {s t : Nat → Bool} : subS s t = true ↔ ∀ m, s m = true → t m = true := by
  unfold subS
  rw [@decide_eq_true_eq _ (Classical.propDecidable _)]
/-- Are they the same? -/
noncomputable def eqS (s t : Nat → Bool) : Bool := @decide (s = t) (Classical.propDecidable _)
theorem eqS_iff {s t : Nat → Bool} : eqS s t = true ↔ s = t := by
  unfold eqS
  rw [@decide_eq_true_eq _ (Classical.propDecidable _)]

theorem andNot_nz {a b : Nat} (ha : a < 2 ^ 64) (hb : b < 2 ^ 64) (h : andNot a b ≠ 0) : ∃ i, i < 64 ∧ a.testBit i = true ∧ b.testBit i = false := by
  apply Classical.byContradiction
  intro hc
  apply h
  apply andNot_zero ha hb
  intro i hi h1
  cases hq : b.testBit i with
  | true => rfl
  | false => exact absurd ⟨i, hi, h1, hq⟩ hc

theorem in_l1' {F n p b W p' b' W' : Nat} {w w' : Nat → Nat} {h : H} (x : IsS h p b W w) (x' : IsS h p' b' W' w') {E : M Value} (hE : E.run n h = some (bo true, n, h)) : ∀ j i k, i + j = W → j < k →
    ((bitset_Set_In_l1 F E k (pt p' 0) (if W = 0 then nsl else sl b 0 W (U + 1)) (i64 W) (i64 i)).run n h = some (bo true, n, h) ∧ ∀ k, i ≤ k → k < W → andNot (w k) (w' k) = 0) ∨
    ((bitset_Set_In_l1 F E k (pt p' 0) (if W = 0 then nsl else sl b 0 W (U + 1)) (i64 W) (i64 i)).run n h = some (bo false, n, h) ∧ ∃ k, k < W ∧ andNot (w k) (w' k) ≠ 0) := by
  intro j
  induction j with
  | zero =>
    intro i k hij hk
    obtain ⟨k, rfl⟩ : ∃ j, k = j + 1 := ⟨k - 1, by omega⟩
    rw [bitset_Set_In_l1_s]
    unfold bitset_Set_In_b1 bitset_Set_In_r2
    simp only [st_lss, onB_ite, run_ite, decide_eq_true_eq]
    rw [if_neg (by omega)]
    exact .inl ⟨hE, fun k h1 h2 => by omega⟩
  | succ j ih =>
    intro i k hij hk
    obtain ⟨k, rfl⟩ : ∃ j, k = j + 1 := ⟨k - 1, by omega⟩
    have hW : W ≠ 0 := by omega
    rw [bitset_Set_In_l1_s]
    unfold bitset_Set_In_b1 bitset_Set_In_r2
    simp only [st_lss, onB_ite, run_ite, decide_eq_true_eq]
    rw [if_pos (by omega)]
    unfold bitset_Set_In_r3
    dsimp only
    rw [x.word (by omega)]
    unfold bitset_Set_In_r4
    dsimp only
    rw [run_bnd (at_spec x' i), st_andNotU (x.lt i) (x'.lt i), st_neq]
    simp only [onB_ite, run_ite]
    by_cases h0 : andNot (w i) (w' i) = 0
    · rw [h0, if_neg (by decide)]
      unfold bitset_Set_In_r6
      dsimp only
      have := x.few
      rw [sx_add (by omega)]
      rcases ih (i + 1) k (by omega) (by omega) with ⟨e, q⟩ | q
      · exact .inl ⟨e, fun k h1 h2 => by
          by_cases e2 : k = i
          · subst e2; exact h0
          · exact q k (by omega) h2⟩
      · exact .inr q
    · rw [if_pos (by rw [bne_iff_ne]; omega)]
      exact .inr ⟨rfl, i, by omega, h0⟩

theorem in_spec {F n p p' : Nat} {O O' : Nat → Prop} {s s' : Nat → Bool} {h : H} (hF : 100 < F) (x : BS h p O s) (x' : BS h p' O' s') : (bitset_Set_In F (pt p 0) (pt p' 0)).run n h = some (bo (subS s s'), n, h) := by
  have hx := x
  obtain ⟨b, W, w, x, hw, _⟩ := x
  obtain ⟨b', W', w', x', hw', _⟩ := x'
  unfold bitset_Set_In bitset_Set_In_r0 bitset_Set_In_r1
  dsimp only
  rw [run_bnd (words_spec x), x.gl.len, tab_len]
  rcases in_l1' (F := F) (n := n) x x' (E := bitset_Set_In_k0 F) rfl W 0 F (by omega) (by have := x.few; omega) with ⟨e, q⟩ | ⟨e, k, hk, q⟩
  · refine Eq.trans e ?_
    rw [subS_iff.2 fun m hm => ?_]
    rw [hw] at hm
    rw [hw']
    rcases Nat.lt_or_ge (m / 64) W with h1 | h1
    · have h2 := q (m / 64) (Nat.zero_le _) h1
      cases hq : (w' (m / 64)).testBit (m % 64) with
      | true => rfl
      | false =>
        have h3 : (andNot (w (m / 64)) (w' (m / 64))).testBit (m % 64) = true := by rw [andNot_bit (x.lt _) (x'.lt _), hm, hq]; rfl
        rw [h2, Nat.zero_testBit] at h3; cases h3
    · rw [x.zero _ h1, Nat.zero_testBit] at hm; cases hm
  · refine Eq.trans e ?_
    have : subS s s' = false := by
      cases hq : subS s s' with
      | false => rfl
      | true =>
        obtain ⟨i, hi, h1, h2⟩ := andNot_nz (x.lt k) (x'.lt k) q
        have h3 := subS_iff.1 hq (64 * k + i) (by rw [hw, show (64 * k + i) / 64 = k by omega, show (64 * k + i) % 64 = i by omega]; exact h1)
        rw [hw', show (64 * k + i) / 64 = k by omega, show (64 * k + i) % 64 = i by omega, h2] at h3
        cases h3
    rw [this]

theorem seteq_spec {F n p p' : Nat} {O O' : Nat → Prop} {s s' : Nat → Bool} {h : H} (hF : 100 < F) (x : BS h p O s) (x' : BS h p' O' s') : (bitset_Set_Eq F (pt p 0) (pt p' 0)).run n h = some (bo (eqS s s'), n, h) := by
  unfold bitset_Set_Eq bitset_Set_Eq_r0 bitset_Set_Eq_r1
  dsimp only
  rw [run_bnd (in_spec hF x x')]
  simp only [onB_ite, run_ite]
  by_cases h1 : subS s s' = true
  · rw [if_pos h1, run_bnd (in_spec hF x' x)]
    have : subS s' s = eqS s s' := by
      rw [Bool.eq_iff_iff, eqS_iff, subS_iff]
      have h1 := subS_iff.1 h1
      constructor
      · intro q
        funext m
        rw [Bool.eq_iff_iff]
        exact ⟨h1 m, q m⟩
      · rintro rfl; exact fun _ h => h
    rw [this]; rfl
  · have : eqS s s' = false := by
      cases hq : eqS s s' with
      | false => rfl
      | true =>
        have := eqS_iff.1 hq
        subst this
        exact absurd (subS_iff.2 fun _ h => h) h1
    rw [if_neg h1, this]; rfl

/-! ## Copy -/

theorem clone_spec {F n p b W : Nat} {w : Nat → Nat} {h : H} (x : IsS h p b W w) (f : Fr n h) : ∃ n' h' b', (slices_Clone F (if W = 0 then nsl else sl b 0 W (U + 1))).run n h = some ((if W = 0 then nsl else sl b' 0 W (U + 1)), n', h') ∧ (W ≠ 0 → h'.get b' = some ⟨tab W fun k => u64 (w k), .grow⟩ ∧ n ≤ b') ∧ Ev No n h n' h' := by
  unfold slices_Clone slices_Clone_r0 slices_Clone_r1
  dsimp only
  by_cases h0 : W = 0
  · subst h0
    rw [if_pos rfl, st_eqS0]
    simp only [onB_ite, run_ite]
    rw [if_pos (by decide)]
    exact ⟨n, h, 0, rfl, fun h => absurd rfl h, Ev.refl f⟩
  · rw [if_neg h0, st_eqS1]
    simp only [onB_ite, run_ite]
    rw [if_neg (by decide)]
    unfold slices_Clone_r3
    dsimp only
    have e0 : rep 0 [Value.int .u64 0] = [] := rfl
    rw [e0, run_build (m := 0) (z := []) (cs := []) (ps := []) rfl f rfl]
    have f1 : Fr (n + 1) (h.set n ⟨[], .own⟩) := f.new _
    have hW := x.few
    have hb := x.up h0
    have hbn := f.lt hb
    unfold opAppend
    simp only [if_neg h0]
    rw [if_pos (by omega), bnd_assoc, cellsOf_gl h0, run_rdN, H.get_set_ne _ _ (by omega), hb, ldN_some (by decide) (by rw [tab_len]; omega), if_neg (by unfold U; omega), if_pos (by omega), bnd_assoc]
    have e1 : cellsOf 1 (sl n 0 0 0) = ret [] := rfl
    rw [e1, ret_bnd, bnd_assoc, List.drop_zero, List.take_of_length_le (by rw [tab_len]; omega), List.nil_append, run_new f1 (tab_one fun _ _ => rfl)]
    refine ⟨n + 1 + 1, _, n + 1, ?_, fun _ => ⟨H.get_set_same _ _ _, by omega⟩, f1.new _, by omega, fun c hc _ => by rw [H.get_set_ne _ _ (by omega), H.get_set_ne _ _ (by omega)]⟩
    rw [Nat.zero_add]
    rfl

theorem copy_spec {F n p : Nat} {O : Nat → Prop} {s : Nat → Bool} {h : H} (x : BS h p O s) (f : Fr n h) : ∃ n' h' p' O', (bitset_Set_Copy F (pt p 0)).run n h = some (pt p' 0, n', h') ∧ BS h' p' O' s ∧ Ev No n h n' h' ∧ ∀ c, O' c → n ≤ c := by
  obtain ⟨b, W, w, x, hw, hO⟩ := x
  unfold bitset_Set_Copy bitset_Set_Copy_r0 bitset_Set_Copy_r1
  dsimp only
  rw [run_bnd (words_spec x)]
  obtain ⟨n1, h1, b1, e1, g1, ev1⟩ := clone_spec (F := F) x f
  rw [run_bnd e1]
  have e2 : ∀ v, opBuild [.slice none 0 0] [(0, 1, false, v)] = if one v then ret (.agg #[v]) else opBuild [.slice none 0 0] [(0, 1, false, v)] := fun v => by
    by_cases hv : one v = true
    · rw [if_pos hv]
      simp [opBuild, fillA, hv]
    · rw [if_neg hv]
  have h1v : one (if W = 0 then nsl else sl b1 0 W (U + 1)) = true := by split <;> rfl
  rw [e2, if_pos h1v, ret_bnd]
  rw [show (Value.agg #[if W = 0 then nsl else sl b1 0 W (U + 1)]) = .agg ([if W = 0 then nsl else sl b1 0 W (U + 1)] : List Value).toArray from rfl, run_box ev1.f (by simp [h1v])]
  have f2 := ev1.f.new ⟨[if W = 0 then nsl else sl b1 0 W (U + 1)], .own⟩
  have hbl : W ≠ 0 → b1 < n1 := fun h0 => ev1.f.lt (g1 h0).1
  refine ⟨n1 + 1, _, n1, fun c => c = n1 ∨ (W ≠ 0 ∧ c = b1), rfl, ⟨b1, W, w, ⟨H.get_set_same _ _ _, fun h0 => by have := hbl h0; omega, fun h0 => by rw [H.get_set_ne _ _ (by have := hbl h0; omega)]; exact (g1 h0).1, x.lt, x.zero, x.few, x.top⟩, hw, fun c => Iff.rfl⟩, ⟨f2, by have := ev1.le; omega, fun c hc _ => by rw [H.get_set_ne _ _ (by have := ev1.le; omega), ev1.no hc]⟩, fun c hc => ?_⟩
  rcases hc with rfl | ⟨h0, rfl⟩
  · exact ev1.le
  · exact (g1 h0).2

end Go.Fw
