/-
  SetOrder, said of the abstract machine.
-/
import Derived.Test.YtbkppkekgdnilaaDoorLawSetB
import Derived.Test.YtbkppkekgdnilaaDoorLawSetNone0
namespace Go.Fw

theorem ArgIs.ints {h : H} {v : Value} (f : Fr 8 h) (a : ArgIs h (.flat 1) v) : ∃ zs : List Int, IntsA h v zs ∧ zs.length < 9223372036854775808 := by
  rcases a with rfl | ⟨b, len, cap, Z, rfl, g1, g2, g3, g4⟩
  · exact ⟨[], .inl ⟨rfl, rfl⟩, by simp⟩
  · refine ⟨(List.range len).map Z, .inr ⟨b, cap, tab (cap * 1) fun i => i64 (Z i), by simp, by simpa using g1, g2, fun h0 => ?_⟩, by simp; omega⟩
    have h1 : len ≠ 0 := by rintro rfl; exact h0 rfl
    refine ⟨f.lt (g3 h1), g3 h1, fun i hi => ?_⟩
    have hi' : i < len := by simpa using hi
    rw [tab_get (show i < cap * 1 by omega)]
    simp [hi']

theorem cut_spec {F n : Nat} {v : Value} {zs : List Int} {h : H} (hv : IntsA h v zs) (hl : zs.length < 9223372036854775808) (k : Nat) (hk : k < 1000) :
    ∃ v', (L1_Cut F v (i64 k)).run n h = some (v', n, h) ∧ IntsA h v' (zs.take k) := by
  unfold L1_Cut L1_Cut_r0 L1_Cut_r1
  simp only [hv.rd.len, List.length_map, st_gtr, onB_ite, run_ite, decide_eq_true_eq]
  by_cases h1 : (k : Int) < zs.length
  · rw [if_pos h1]
    unfold L1_Cut_r2
    rcases hv with ⟨rfl, _⟩ | ⟨b, cap, xs, rfl, g1, g2, g3⟩
    · simp at h1; omega
    · have es : opSlice 1 (sl b 0 zs.length cap) none (some (i64 k)) none = ret (sl b 0 k cap) := by
        show (if (0 : Int) ≤ 0 ∧ (0 : Int) ≤ (k : Int) then (if (k : Int) ≤ (zs.length : Int) then (if cap = U + 1 then ret (sl b (0 + (0 : Int).toNat * 1) ((k : Int) - 0).toNat cap) else if cap < U then ret (sl b (0 + (0 : Int).toNat * 1) ((k : Int) - 0).toNat (cap - (0 : Int).toNat)) else fail) else fail) else fail) = _
        rw [if_pos (by omega), if_pos (by omega), if_neg (by unfold U; omega), if_pos (by unfold U; omega)]
        simp
      rw [es, ret_bnd]
      refine ⟨sl b 0 k cap, rfl, .inr ⟨b, cap, xs, ?_, by rw [List.length_take]; omega, g2, fun h0 => ?_⟩⟩
      · rw [List.length_take, Nat.min_eq_left (by omega)]
      · have hz : zs ≠ [] := by rintro rfl; simp at h0
        refine ⟨(g3 hz).1, (g3 hz).2.1, fun i hi => ?_⟩
        rw [List.length_take] at hi
        rw [(g3 hz).2.2 i (by omega), List.map_take, List.getElem?_take, if_pos (by omega)]
  · rw [if_neg h1]
    unfold L1_Cut_r3
    refine ⟨v, rfl, ?_⟩
    rw [List.take_of_length_le (by omega)]
    exact hv

theorem order_l1 {F p p' k : Nat} {O : Nat → Prop} {s : Nat → Bool} {v : Value} {zs : List Int} (hF : 100 < F) (hl : zs.length ≤ 40) (hk : k < zs.length) (hp : 8 ≤ p' ∧ ∀ c, O c → c < p') {E : Value → Value → M Value} : ∀ j i q n (h : H) (O' : Nat → Prop) (T : List Int), i + j = zs.length → j < q → IntsA h v zs → BS h p O s → BS h p' O' (setOf T) → Fr n h → (∀ c, O' c → p' ≤ c) → (∀ z, z ∈ T → z ∈ zs) → (∀ m, m < i → ∃ z, zs[zs.length - 1 - m]? = some z ∧ z ∈ T) →
    ∃ n' h' O' T, (L1_SetOrder_l1 F E q v (i64 k) (pt p 0) (pt p' 0) (i64 i)).run n h = (E (pt p 0) (pt p' 0)).run n' h' ∧ BS h' p O s ∧ BS h' p' O' (setOf T) ∧ (∀ z, z ∈ T ↔ z ∈ zs) := by
  intro j
  induction j with
  | zero =>
    intro i q n h O' T hij hq hv x x' f hO' h1 h2
    obtain ⟨q, rfl⟩ : ∃ j, q = j + 1 := ⟨q - 1, by omega⟩
    rw [L1_SetOrder_l1_s]
    unfold L1_SetOrder_b1 L1_SetOrder_r10
    rw [hv.rd.len, List.length_map]
    simp only [st_lss, onB_ite, run_ite, decide_eq_true_eq]
    rw [if_neg (by omega)]
    refine ⟨n, h, O', T, rfl, x, x', fun z => ⟨h1 z, fun hz => ?_⟩⟩
    obtain ⟨m, hm, e⟩ := List.getElem_of_mem hz
    obtain ⟨z', e', hz'⟩ := h2 (zs.length - 1 - m) (by omega)
    rw [show zs.length - 1 - (zs.length - 1 - m) = m by omega, List.getElem?_eq_getElem hm, e] at e'
    cases e'
    exact hz'
  | succ j ih =>
    intro i q n h O' T hij hq hv x x' f hO' h1 h2
    obtain ⟨q, rfl⟩ : ∃ j, q = j + 1 := ⟨q - 1, by omega⟩
    rw [L1_SetOrder_l1_s]
    unfold L1_SetOrder_b1 L1_SetOrder_r10
    rw [hv.rd.len, List.length_map]
    simp only [st_lss, onB_ite, run_ite, decide_eq_true_eq]
    rw [if_pos (by omega)]
    unfold L1_SetOrder_r12
    have hix : (i * 7 + k) % zs.length < zs.length := Nat.mod_lt _ (by omega)
    obtain ⟨b, o, e1, e2⟩ := hv.rd.ix (β := Value) (i := (i * 7 + k) % zs.length) (x := i64 (zs[(i * 7 + k) % zs.length]'hix)) (by simp [hix])
    have hpn := x'.lt f p' (by obtain ⟨b, W, w, _, _, q⟩ := x'; exact (q p').2 (.inl rfl))
    simp only [st_mul, st_add]
    rw [wrap64 (z := (i : Int) * 7) (by omega), wrap64 (by omega), hv.rd.len, List.length_map, st_rem (by omega), show ((i : Int) * 7 + k).tmod (zs.length : Int) = (((i * 7 + k) % zs.length : Nat) : Int) from by
      rw [show ((i : Int) * 7 + k) = ((i * 7 + k : Nat) : Int) by omega]; rfl, e1, e2]
    obtain ⟨n1, g1, O1, e3, x1, f1, l1, k1, o1⟩ := add_spec x' f (zs[(i * 7 + k) % zs.length]'hix) hF
    rw [run_bnd e3]
    have hk1 : ∀ c, c < p' → g1.get c = h.get c := fun c hc => k1 c (by omega) fun hOc => by have := hO' c hOc; omega
    rw [show (if canAdd (setOf T) (zs[(i * 7 + k) % zs.length]'hix) = true then putS (setOf T) (zs[(i * 7 + k) % zs.length]'hix).toNat else setOf T) = setOf (T ++ [zs[(i * 7 + k) % zs.length]'hix]) from funext setOf_next] at x1
    have hO1 : ∀ c, O1 c → p' ≤ c := fun c hc => (o1 c hc).elim (hO' c) fun h => by omega
    have hv1 := hv.keep (h' := g1) fun c hc => hk1 c (by omega)
    have y1 := x.keep (h' := g1) fun c hc => hk1 c (hp.2 c hc)
    unfold L1_SetOrder_r13
    have hi2 : zs.length - 1 - i < zs.length := by omega
    obtain ⟨b', o', e1', e2'⟩ := hv1.rd.ix (β := Value) (i := zs.length - 1 - i) (x := i64 (zs[zs.length - 1 - i]'hi2)) (by simp [hi2])
    rw [hv1.rd.len, List.length_map]
    simp only [st_sub]
    rw [wrap64 (z := (zs.length : Int) - 1) (by omega), wrap64 (by omega), show (zs.length : Int) - 1 - i = ((zs.length - 1 - i : Nat) : Int) by omega, e1', e2']
    obtain ⟨n2, g2, O2, e4, x2, f2, l2, k2, o2⟩ := add_spec x1 f1 (zs[zs.length - 1 - i]'hi2) hF
    rw [run_bnd e4]
    have hk2 : ∀ c, c < p' → g2.get c = g1.get c := fun c hc => k2 c (by omega) fun hOc => by have := hO1 c hOc; omega
    rw [show (if canAdd (setOf (T ++ [zs[(i * 7 + k) % zs.length]'hix])) (zs[zs.length - 1 - i]'hi2) = true then putS (setOf (T ++ [zs[(i * 7 + k) % zs.length]'hix])) (zs[zs.length - 1 - i]'hi2).toNat else setOf (T ++ [zs[(i * 7 + k) % zs.length]'hix])) = setOf (T ++ [zs[(i * 7 + k) % zs.length]'hix] ++ [zs[zs.length - 1 - i]'hi2]) from funext setOf_next] at x2
    unfold L1_SetOrder_r11
    simp only [st_add]
    rw [wrap64 (by omega)]
    refine ih (i + 1) q n2 g2 O2 _ (by omega) (by omega) (hv1.keep fun c hc => hk2 c (by omega)) (y1.keep fun c hc => hk2 c (hp.2 c hc)) x2 f2 (fun c hc => (o2 c hc).elim (hO1 c) fun h => by omega) (fun z hz => ?_) fun m hm => ?_
    · simp only [List.mem_append, List.mem_singleton] at hz
      rcases hz with (hz | rfl) | rfl
      · exact h1 z hz
      · exact List.getElem_mem _
      · exact List.getElem_mem _
    · by_cases e : m = i
      · subst e
        exact ⟨zs[zs.length - 1 - m]'hi2, by simp [hi2], by simp⟩
      · obtain ⟨z, q1, q2⟩ := h2 m (by omega)
        exact ⟨z, q1, by simp [q2]⟩

end Go.Fw
