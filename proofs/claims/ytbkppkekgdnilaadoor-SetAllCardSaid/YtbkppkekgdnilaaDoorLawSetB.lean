/-
  bitset: In, Eq, Of, said of the abstract machine.
-/
import Derived.Test.YtbkppkekgdnilaaDoorLawSet
namespace Go.Fw

theorem andNot_zero {a b : Nat} (ha : a < 2 ^ 64) (hb : b < 2 ^ 64) (h : ∀ i, i < 64 → a.testBit i = true → b.testBit i = true) : andNot a b = 0 := by
  apply Nat.eq_of_testBit_eq
  intro i
  rw [andNot_bit ha hb, Nat.zero_testBit]
  by_cases hi : i < 64
  · cases hq : a.testBit i with
    | false => rfl
    | true => rw [h i hi hq]; rfl
  · rw [Nat.testBit_lt_two_pow (Nat.lt_of_lt_of_le ha (Nat.pow_le_pow_right (by decide) (by omega)))]; rfl

theorem in_l1 {F n p b W p' b' W' : Nat} {w w' : Nat → Nat} {h : H} (x : IsS h p b W w) (x' : IsS h p' b' W' w') (hw : ∀ k, andNot (w k) (w' k) = 0) {E : M Value} : ∀ j i k, i + j = W → j < k →
    (bitset_Set_In_l1 F E k (pt p' 0) (if W = 0 then nsl else sl b 0 W (U + 1)) (i64 W) (i64 i)).run n h = E.run n h := by
  intro j
  induction j with
  | zero =>
    intro i k hij hk
    obtain ⟨k, rfl⟩ : ∃ j, k = j + 1 := ⟨k - 1, by omega⟩
    rw [bitset_Set_In_l1_s]
    unfold bitset_Set_In_b1 bitset_Set_In_r2
    simp only [st_lss, onB_ite, run_ite, decide_eq_true_eq]
    rw [if_neg (by omega)]
  | succ j ih =>
    intro i k hij hk
    obtain ⟨k, rfl⟩ : ∃ j, k = j + 1 := ⟨k - 1, by omega⟩
    have hW : W ≠ 0 := by omega
    rw [bitset_Set_In_l1_s]
    unfold bitset_Set_In_b1 bitset_Set_In_r2
    simp only [st_lss, onB_ite, run_ite, decide_eq_true_eq]
    rw [if_pos (by omega)]
    unfold bitset_Set_In_r3
    have hb := x.up hW
    have e1 : ∀ K : Value → M Value, (bnd (opIndexAddr 1 (if W = 0 then nsl else sl b 0 W (U + 1)) (i64 i)) fun v13 => bnd (opLoad v13) K).run n h = (K (u64 (w i))).run n h := fun K => by
      rw [if_neg hW, st_ix, if_pos (by omega), Int.toNat_natCast, Nat.mul_one, Nat.zero_add, run_load, hb, ldm_some (by decide) (tab_get (f := fun k => u64 (w k)) (show i < W by omega))]
    rw [e1]
    unfold bitset_Set_In_r4
    rw [run_bnd (at_spec x' i), st_andNotU (x.lt i) (x'.lt i), hw i]
    simp only [st_neq, onB_ite, run_ite]
    rw [if_neg (by simp)]
    unfold bitset_Set_In_r6
    simp only [st_add]
    have := x.few
    rw [wrap64 (by omega)]
    exact ih (i + 1) k (by omega) (by omega)

theorem in_true {F n p p' : Nat} {O O' : Nat → Prop} {s s' : Nat → Bool} {h : H} (hF : 100 < F) (x : BS h p O s) (x' : BS h p' O' s') (hs : ∀ m, s m = true → s' m = true) : (bitset_Set_In F (pt p 0) (pt p' 0)).run n h = some (bo true, n, h) := by
  obtain ⟨b, W, w, x, hw, _⟩ := x
  obtain ⟨b', W', w', x', hw', _⟩ := x'
  unfold bitset_Set_In bitset_Set_In_r0 bitset_Set_In_r1
  rw [run_bnd (words_spec x), x.gl.len, tab_len]
  have hz : ∀ k, andNot (w k) (w' k) = 0 := fun k => andNot_zero (x.lt k) (x'.lt k) fun i hi hq => by
    have h1 := hw (k * 64 + i)
    have h2 := hw' (k * 64 + i)
    rw [show (k * 64 + i) / 64 = k by omega, show (k * 64 + i) % 64 = i by omega] at h1 h2
    rw [← h2]
    exact hs _ (by rw [h1]; exact hq)
  dsimp only
  rw [show (Value.int .i64 0) = i64 ((0 : Nat) : Int) from rfl, in_l1 x x' hz W 0 F (by omega) (by have := x.few; omega)]
  rfl

theorem seteq_true {F n p p' : Nat} {O O' : Nat → Prop} {s s' : Nat → Bool} {h : H} (hF : 100 < F) (x : BS h p O s) (x' : BS h p' O' s') (hs : ∀ m, s m = s' m) : (bitset_Set_Eq F (pt p 0) (pt p' 0)).run n h = some (bo true, n, h) := by
  unfold bitset_Set_Eq bitset_Set_Eq_r0 bitset_Set_Eq_r1
  rw [run_bnd (in_true hF x x' fun m hm => by rw [← hs m]; exact hm)]
  simp only [onB_ite, if_true]
  rw [run_bnd (in_true hF x' x fun m hm => by rw [hs m]; exact hm)]
  rfl

/-- A new set, with nobody in. -/
theorem new_set {n : Nat} {h : H} (f : Fr n h) {k : Value → M Value} :
    (bnd (opBuild [nsl] []) fun v6 => bnd (opBoxN v6) k).run n h = (k (pt n 0)).run (n + 1) (h.set n ⟨[nsl], .own⟩) ∧ BS (h.set n ⟨[nsl], .own⟩) n (fun c => c = n) (fun _ => false) ∧ Fr (n + 1) (h.set n ⟨[nsl], .own⟩) := by
  refine ⟨?_, ⟨0, 0, fun _ => 0, ⟨by rw [H.get_set_same]; rfl, fun h => absurd rfl h, fun h => absurd rfl h, fun _ => by decide, fun _ _ => rfl, by decide, by decide⟩, fun m => by simp, fun c => by simp⟩, f.new _⟩
  have hb : opBuild [nsl] [] = ret (.agg #[nsl]) := rfl
  rw [hb]
  simp only [ret_bnd]
  rw [show (Value.agg #[nsl]) = .agg ([nsl] : List Value).toArray from rfl, run_box f rfl]

/-! ## Numbers that came in -/

def IntsA (h : H) (v : Value) (zs : List Int) : Prop :=
  (zs = [] ∧ v = nsl) ∨ ∃ b cap xs, v = sl b 0 zs.length cap ∧ zs.length ≤ cap ∧ cap < 9223372036854775808 ∧ (zs ≠ [] → b < 8 ∧ h.get b = some ⟨xs, .ro⟩ ∧ ∀ i, i < zs.length → xs[i]? = (zs.map i64)[i]?)

theorem IntsA.keep {h h' : H} {v : Value} {zs : List Int} (w : IntsA h v zs) (hk : ∀ c, c < 8 → h'.get c = h.get c) : IntsA h' v zs := by
  rcases w with w | ⟨b, cap, xs, rfl, g1, g2, g3⟩
  · exact .inl w
  · exact .inr ⟨b, cap, xs, rfl, g1, g2, fun h0 => ⟨(g3 h0).1, by rw [hk _ (g3 h0).1]; exact (g3 h0).2.1, (g3 h0).2.2⟩⟩
theorem IntsA.rd {h : H} {v : Value} {zs : List Int} (w : IntsA h v zs) : Rd h v (zs.map i64) := by
  rcases w with ⟨rfl, rfl⟩ | ⟨b, cap, xs, rfl, _, _, g3⟩
  · exact .inl ⟨rfl, rfl⟩
  · refine .inr ⟨b, 0, cap, .ro, by rw [List.length_map], fun h0 => ?_⟩
    have hz : zs ≠ [] := fun e => h0 (by rw [e]; rfl)
    exact ⟨xs, (g3 hz).2.1, by decide, fun i hi => by rw [Nat.zero_add]; exact (g3 hz).2.2 i (by simpa using hi)⟩

/-- The set of some numbers. -/
def setOf (zs : List Int) (m : Nat) : Bool := (zs.any fun z => z == (m : Int)) && decide (m < 5000)

theorem setOf_next {zs : List Int} {z : Int} (m : Nat) : (if canAdd (setOf zs) z = true then putS (setOf zs) z.toNat else setOf zs) m = setOf (zs ++ [z]) m := by
  have hr : setOf (zs ++ [z]) m = (setOf zs m || ((z == (m : Int)) && decide (m < 5000))) := by
    unfold setOf
    rw [List.any_append]
    simp only [List.any_cons, List.any_nil, Bool.or_false]
    cases (zs.any fun z => z == (m : Int)) <;> cases (z == (m : Int)) <;> cases decide (m < 5000) <;> rfl
  rw [hr]
  by_cases hc : canAdd (setOf zs) z = true
  · rw [if_pos hc]
    unfold canAdd at hc
    simp only [Bool.and_eq_true, decide_eq_true_eq] at hc
    unfold putS
    congr 1
    by_cases h : m = z.toNat
    · rw [decide_eq_true h, decide_eq_true (by omega), Bool.and_true]; symm; rw [beq_iff_eq]; omega
    · rw [decide_eq_false h]; symm
      rw [Bool.and_eq_false_iff]; left; rw [beq_eq_false_iff_ne]; omega
  · rw [if_neg hc]
    by_cases h : (z == (m : Int)) = true ∧ m < 5000
    · have hz : z = (m : Int) := by simpa using h.1
      subst hz
      have : setOf zs m = true := by
        cases hq : setOf zs m with
        | true => rfl
        | false =>
          exfalso; apply hc
          unfold canAdd
          rw [decide_eq_true (by omega), Bool.true_and, Int.toNat_natCast, hq]; rfl
      rw [this]; rfl
    · have : ((z == (m : Int)) && decide (m < 5000)) = false := by
        rw [Bool.and_eq_false_iff]
        by_cases h1 : (z == (m : Int)) = true
        · right; rw [decide_eq_false_iff_not]; exact fun h2 => h ⟨h1, h2⟩
        · left; simpa using h1
      rw [this, Bool.or_false]

theorem of_l1 {F p : Nat} {v : Value} {zs : List Int} (hF : 100 < F) (hp : 8 ≤ p) (hl : zs.length < 9223372036854775000) {E : Value → M Value} : ∀ j i k n (h : H) (O : Nat → Prop), i + j = zs.length → j < k → IntsA h v zs → BS h p O (setOf (zs.take i)) → Fr n h → (∀ c, O c → p ≤ c) →
    ∃ n' h' O', (bitset_Of_l1 F E k (pt p 0) v (i64 zs.length) (i64 i)).run n h = (E (pt p 0)).run n' h' ∧ BS h' p O' (setOf zs) ∧ Fr n' h' ∧ n ≤ n' ∧ (∀ c, c < p → h'.get c = h.get c) ∧ ∀ c, O' c → p ≤ c := by
  intro j
  induction j with
  | zero =>
    intro i k n h O hij hk hv x f hO
    obtain ⟨k, rfl⟩ : ∃ j, k = j + 1 := ⟨k - 1, by omega⟩
    rw [bitset_Of_l1_s]
    unfold bitset_Of_b1 bitset_Of_r3
    simp only [st_lss, onB_ite, run_ite, decide_eq_true_eq]
    rw [if_neg (by omega)]
    rw [show i = zs.length by omega, List.take_length] at x
    exact ⟨n, h, O, rfl, x, f, Nat.le_refl _, fun _ _ => rfl, hO⟩
  | succ j ih =>
    intro i k n h O hij hk hv x f hO
    obtain ⟨k, rfl⟩ : ∃ j, k = j + 1 := ⟨k - 1, by omega⟩
    rw [bitset_Of_l1_s]
    unfold bitset_Of_b1 bitset_Of_r3
    simp only [st_lss, onB_ite, run_ite, decide_eq_true_eq]
    rw [if_pos (by omega)]
    have hi : i < zs.length := by omega
    obtain ⟨b, o, e1, e2⟩ := hv.rd.ix (β := Value) (i := i) (x := i64 zs[i]) (by simp [hi])
    unfold bitset_Of_r4
    simp only [e1, e2]
    unfold bitset_Of_r5
    obtain ⟨n1, h1, O1, e3, x1, f1, l1, k1, o1⟩ := add_spec x f zs[i] hF
    rw [run_bnd e3]
    have hpn := x.lt f p (by obtain ⟨b, W, w, _, _, q⟩ := x; exact (q p).2 (.inl rfl))
    unfold bitset_Of_r6
    simp only [st_add]
    rw [wrap64 (by omega)]
    have hs : (if canAdd (setOf (zs.take i)) zs[i] = true then putS (setOf (zs.take i)) (zs[i]).toNat else setOf (zs.take i)) = setOf (zs.take (i + 1)) := by
      funext m
      rw [setOf_next m, List.take_succ_eq_append_getElem hi]
    rw [hs] at x1
    have hk1 : ∀ c, c < p → h1.get c = h.get c := fun c hc => k1 c (by omega) fun hOc => by have := hO c hOc; omega
    obtain ⟨n', h', O', q0, q1, q2, q3, q4, q5⟩ := ih (i + 1) k n1 h1 O1 (by omega) (by omega) (hv.keep fun c hc => hk1 c (by omega)) x1 f1 (fun c hc => by
      rcases o1 c hc with h | h
      · exact hO c h
      · omega)
    exact ⟨n', h', O', q0, q1, q2, by omega, fun c hc => by rw [q4 c hc, hk1 c hc], q5⟩

theorem of_spec {F n : Nat} {v : Value} {zs : List Int} {h : H} (hF : 100 < F) (hn : 8 ≤ n) (hl : zs.length < F) (hl2 : zs.length < 9223372036854775000) (hv : IntsA h v zs) (f : Fr n h) :
    ∃ n' h' O, (bitset_Of F v).run n h = some (pt n 0, n', h') ∧ BS h' n O (setOf zs) ∧ Fr n' h' ∧ n < n' ∧ (∀ c, c < n → h'.get c = h.get c) ∧ ∀ c, O c → n ≤ c := by
  obtain ⟨e1, x1, f1⟩ := new_set f (k := fun v7 => bitset_Of_r2 F v v7 fun x3 x8 x9 x10 => bitset_Of_l1 F (fun x3 => bitset_Of_k0 F x3) F x3 x8 x9 x10)
  unfold bitset_Of bitset_Of_r0 bitset_Of_r1
  dsimp only
  rw [show (Value.slice none 0 0) = nsl from rfl, e1]
  unfold bitset_Of_r2
  rw [hv.rd.len, List.length_map]
  obtain ⟨n', h', O', q0, q1, q2, q3, q4, q5⟩ := of_l1 (F := F) (p := n) (v := v) (zs := zs) hF hn hl2 (E := fun x3 => bitset_Of_k0 F x3) zs.length 0 F (n + 1) _ _ (by omega) hl (hv.keep fun c hc => H.get_set_ne _ _ (by omega)) x1 f1 (fun c hc => by omega)
  exact ⟨n', h', O', q0.trans rfl, q1, q2, by omega, fun c hc => by rw [q4 c hc, H.get_set_ne _ _ (by omega)], q5⟩

end Go.Fw
