/-
  SetAll, said of the abstract machine.
-/
import Derived.Test.YtbkppkekgdnilaaDoorLawSetI
import Derived.Test.YtbkppkekgdnilaaDoorFwNest
set_option maxRecDepth 20000
set_option linter.unusedVariables false
namespace Go.Fw

/-- Numbers that came in, ahead of m. -/
def IntsL (m : Nat) (h : H) (v : Value) (zs : List Int) : Prop :=
  (zs = [] ∧ v = nsl) ∨ ∃ b cap xs, v = sl b 0 zs.length cap ∧ zs.length ≤ cap ∧ cap < 9223372036854775808 ∧ (zs ≠ [] → b < m ∧ h.get b = some ⟨xs, .ro⟩ ∧ ∀ i, i < zs.length → xs[i]? = (zs.map i64)[i]?)

theorem IntsL.keep {m : Nat} {h h' : H} {v : Value} {zs : List Int} (w : IntsL m h v zs) (hk : ∀ c, c < m → h'.get c = h.get c) : IntsL m h' v zs := by
  rcases w with w | ⟨b, cap, xs, rfl, g1, g2, g3⟩
  · exact .inl w
  · exact .inr ⟨b, cap, xs, rfl, g1, g2, fun h0 => ⟨(g3 h0).1, by rw [hk _ (g3 h0).1]; exact (g3 h0).2.1, (g3 h0).2.2⟩⟩
theorem IntsL.rd {m : Nat} {h : H} {v : Value} {zs : List Int} (w : IntsL m h v zs) : Rd h v (zs.map i64) := by
  rcases w with ⟨rfl, rfl⟩ | ⟨b, cap, xs, rfl, _, _, g3⟩
  · exact .inl ⟨rfl, rfl⟩
  · refine .inr ⟨b, 0, cap, .ro, by rw [List.length_map], fun h0 => ?_⟩
    have hz : zs ≠ [] := fun e => h0 (by rw [e]; rfl)
    exact ⟨xs, (g3 hz).2.1, by decide, fun i hi => by rw [Nat.zero_add]; exact (g3 hz).2.2 i (by simpa using hi)⟩

theorem ArgIs.intsL {m : Nat} {h : H} {v : Value} (f : Fr m h) (a : ArgIs h (.flat 1) v) : ∃ zs : List Int, IntsL m h v zs ∧ zs.length < 9223372036854775808 := by
  rcases a with rfl | ⟨b, len, cap, Z, rfl, g1, g2, g3, g4⟩
  · exact ⟨[], .inl ⟨rfl, rfl⟩, by simp⟩
  · refine ⟨(List.range len).map Z, .inr ⟨b, cap, tab (cap * 1) fun i => i64 (Z i), by simp, by simpa using g1, g2, fun h0 => ?_⟩, by simp; omega⟩
    have h1 : len ≠ 0 := by rintro rfl; exact h0 rfl
    refine ⟨f.lt (g3 h1), g3 h1, fun i hi => ?_⟩
    have hi' : i < len := by simpa using hi
    rw [tab_get (show i < cap * 1 by omega)]
    simp [hi']

theorem cutL_spec {F n m : Nat} {v : Value} {zs : List Int} {h : H} (hv : IntsL m h v zs) (hl : zs.length < 9223372036854775808) (k : Nat) (hk : k < 1000) :
    ∃ v', (L1_Cut F v (i64 k)).run n h = some (v', n, h) ∧ IntsL m h v' (zs.take k) := by
  unfold L1_Cut L1_Cut_r0 L1_Cut_r1
  simp only [hv.rd.len, List.length_map, st_gtr, onB_ite, run_ite, decide_eq_true_eq]
  by_cases h1 : (k : Int) < zs.length
  · rw [if_pos h1]
    unfold L1_Cut_r2
    rcases hv with ⟨rfl, _⟩ | ⟨b, cap, xs, rfl, g1, g2, g3⟩
    · simp at h1; omega
    · have es : opSlice 1 (sl b 0 zs.length cap) none (some (i64 k)) none = ret (sl b 0 k cap) := by
        show (if (0 : Int) ≤ 0 ∧ (0 : Int) ≤ (k : Int) then (if (k : Int) ≤ (zs.length : Int) then (if cap = U + 1 then ret (sl b (0 + (0 : Int).toNat * 1) ((k : Int) - 0).toNat cap) else if cap < U then ret (sl b (0 + (0 : Int).toNat * 1) ((k : Int) - 0).toNat (cap - (0 : Int).toNat)) else fail) else fail) else fail) = _
        rw [if_pos (by omega), if_pos (by omega), if_neg (by unfold U; omega), if_pos (by unfold U; omega)]
        simp
      rw [es, ret_bnd]
      refine ⟨sl b 0 k cap, rfl, .inr ⟨b, cap, xs, ?_, by rw [List.length_take]; omega, g2, fun h0 => ?_⟩⟩
      · rw [List.length_take, Nat.min_eq_left (by omega)]
      · have hz : zs ≠ [] := by rintro rfl; simp at h0
        refine ⟨(g3 hz).1, (g3 hz).2.1, fun i hi => ?_⟩
        rw [List.length_take] at hi
        rw [(g3 hz).2.2 i (by omega), List.map_take, List.getElem?_take, if_pos (by omega)]
  · rw [if_neg h1]
    unfold L1_Cut_r3
    refine ⟨v, rfl, ?_⟩
    rw [List.take_of_length_le (by omega)]
    exact hv


theorem ofL_l1 {F lo m : Nat} {v : Value} {zs : List Int} (hF : 100 < F) (hlo : m ≤ lo) {E : Value → M Value} : ∀ j i k n (h : H) (u : Value), 40 ≤ i + j → j < k → IntsL m h v zs → NewI h lo u ((zs.take i).foldl ofStep []) → i ≤ 40 → Fr n h → lo ≤ n →
    ∃ n' h' u', (L1_of_l1 F E k v u (i64 i)).run n h = (E u').run n' h' ∧ NewI h' lo u' (ofI zs) ∧ Ev No n h n' h' := by
  have stop : ∀ i k n (h : H) (u : Value), IntsL m h v zs → NewI h lo u ((zs.take i).foldl ofStep []) → Fr n h → i ≤ 40 → (40 ≤ i ∨ zs.length ≤ i) → 
    ∃ n' h' u', (L1_of_l1 F E (k + 1) v u (i64 i)).run n h = (E u').run n' h' ∧ NewI h' lo u' (ofI zs) ∧ Ev No n h n' h' := by
    intro i k n h u hv g f hi hs
    have e : ofI zs = (zs.take i).foldl ofStep [] := by
      unfold ofI
      rcases hs with h1 | h1
      · rw [show i = 40 by omega]
      · rw [List.take_of_length_le (by omega), List.take_of_length_le h1]
    rw [L1_of_l1_s]
    unfold L1_of_b1 L1_of_r3
    rw [hv.rd.len, List.length_map]
    simp only [st_lss, onB_ite, run_ite, decide_eq_true_eq]
    rw [e]
    by_cases h1 : (i : Int) < zs.length
    · rw [if_pos h1, if_neg (by omega)]
      exact ⟨n, h, u, rfl, g, Ev.refl f⟩
    · rw [if_neg h1, if_neg (by decide)]
      exact ⟨n, h, u, rfl, g, Ev.refl f⟩
  intro j
  induction j with
  | zero =>
    intro i k n h u hij hk hv g hi f hn
    obtain ⟨k, rfl⟩ : ∃ j, k = j + 1 := ⟨k - 1, by omega⟩
    exact stop i k n h u hv g f hi (.inl hij)
  | succ j ih =>
    intro i k n h u hij hk hv g hi f hn
    obtain ⟨k, rfl⟩ : ∃ j, k = j + 1 := ⟨k - 1, by omega⟩
    by_cases hs : 40 ≤ i ∨ zs.length ≤ i
    · exact stop i k n h u hv g f hi hs
    have h1 : i < zs.length := by omega
    rw [L1_of_l1_s]
    unfold L1_of_b1 L1_of_r3
    rw [hv.rd.len, List.length_map]
    simp only [st_lss, onB_ite, run_ite, decide_eq_true_eq]
    rw [if_pos (by omega), if_pos (by omega)]
    unfold L1_of_r5
    have gv : RdI h v zs := hv.rd
    rw [gv.getI h1, run_bnd (may_spec _)]
    simp only [onB_ite, run_ite, decide_eq_true_eq]
    have e1 : (zs.take (i + 1)).foldl ofStep [] = ofStep ((zs.take i).foldl ofStep []) zs[i] := by
      rw [List.take_succ_eq_append_getElem h1, List.foldl_append]; rfl
    by_cases hm : 0 ≤ zs[i] ∧ zs[i] < 5000
    · rw [if_pos hm]
      unfold L1_of_r6
      rw [gv.getI h1]
      have hlen := foldl_len (zs.take i) []
      rw [List.length_take, List.length_nil] at hlen
      obtain ⟨n1, g1, u1, e2, y1, ev1⟩ := rput_spec (F := F) g f hn (by omega) (by omega) zs[i]
      rw [run_bnd e2]
      unfold L1_of_k2 L1_of_r4
      dsimp only
      rw [sx_add (by omega)]
      obtain ⟨n', h', u', q1, q2, q3⟩ := ih (i + 1) k n1 g1 u1 (by omega) (by omega) (hv.keep fun c hc => ev1.no (by omega)) (by rw [e1]; unfold ofStep; rw [if_pos hm]; exact y1) (by omega) ev1.f (by have := ev1.le; omega)
      exact ⟨n', h', u', q1, q2, ev1.trans q3 fun _ _ h => h⟩
    · rw [if_neg hm]
      unfold L1_of_k2 L1_of_r4
      dsimp only
      rw [sx_add (by omega)]
      exact ih (i + 1) k n h u (by omega) (by omega) hv (by rw [e1]; unfold ofStep; rw [if_neg hm]; exact g) (by omega) f hn

theorem lofL_spec {F n m : Nat} {h : H} {v : Value} {zs : List Int} (hF : 100 < F) (hn : m ≤ n) (hv : IntsL m h v zs) (f : Fr n h) :
    ∃ n' h' u, (L1_of F v).run n h = some (u, n', h') ∧ NewI h' n u (ofI zs) ∧ Ev No n h n' h' := by
  unfold L1_of L1_of_r0 L1_of_r1 L1_of_r2
  dsimp only
  obtain ⟨n', h', u', q1, q2, q3⟩ := ofL_l1 (F := F) (lo := n) (zs := zs) hF hn (E := fun x3 => L1_of_k0 F x3) 40 0 F n h nsl (by omega) (by omega) hv NewI.nil (by omega) f (Nat.le_refl _)
  exact ⟨n', h', u', q1.trans rfl, q2, q3⟩


theorem ofR_l1 {F p : Nat} {v : Value} {zs : List Int} {h0 : H} (hF : 100 < F) (f0 : Fr p h0) (hv : RdI h0 v zs) (hl : zs.length < 9223372036854775000) {E : Value → M Value} : ∀ j i k n (h : H) (O : Nat → Prop), i + j = zs.length → j < k → (∀ c, c < p → h.get c = h0.get c) → BS h p O (setOf (zs.take i)) → Fr n h → (∀ c, O c → p ≤ c) →
    ∃ n' h' O', (bitset_Of_l1 F E k (pt p 0) v (i64 zs.length) (i64 i)).run n h = (E (pt p 0)).run n' h' ∧ BS h' p O' (setOf zs) ∧ Fr n' h' ∧ n ≤ n' ∧ (∀ c, c < p → h'.get c = h.get c) ∧ ∀ c, O' c → p ≤ c := by
  intro j
  induction j with
  | zero =>
    intro i k n h O hij hk hk0 x f hO
    obtain ⟨k, rfl⟩ : ∃ j, k = j + 1 := ⟨k - 1, by omega⟩
    rw [bitset_Of_l1_s]
    unfold bitset_Of_b1 bitset_Of_r3
    simp only [st_lss, onB_ite, run_ite, decide_eq_true_eq]
    rw [if_neg (by omega)]
    rw [show i = zs.length by omega, List.take_length] at x
    exact ⟨n, h, O, rfl, x, f, Nat.le_refl _, fun _ _ => rfl, hO⟩
  | succ j ih =>
    intro i k n h O hij hk hk0 x f hO
    obtain ⟨k, rfl⟩ : ∃ j, k = j + 1 := ⟨k - 1, by omega⟩
    rw [bitset_Of_l1_s]
    unfold bitset_Of_b1 bitset_Of_r3
    simp only [st_lss, onB_ite, run_ite, decide_eq_true_eq]
    rw [if_pos (by omega)]
    have hi : i < zs.length := by omega
    have rd : RdI h v zs := hv.kept f0 hk0
    unfold bitset_Of_r4
    try dsimp only
    rw [rd.getI hi]
    unfold bitset_Of_r5
    obtain ⟨n1, h1, O1, e3, x1, f1, l1, k1, o1⟩ := add_spec x f zs[i] hF
    rw [run_bnd e3]
    have hpn := x.lt f p (by obtain ⟨b, W, w, _, _, q⟩ := x; exact (q p).2 (.inl rfl))
    unfold bitset_Of_r6
    simp only [st_add]
    rw [wrap64 (by omega)]
    have hs : (if canAdd (setOf (zs.take i)) zs[i] = true then putS (setOf (zs.take i)) (zs[i]).toNat else setOf (zs.take i)) = setOf (zs.take (i + 1)) := by
      funext m
      rw [setOf_next m, List.take_succ_eq_append_getElem hi]
    rw [hs] at x1
    have hk1 : ∀ c, c < p → h1.get c = h.get c := fun c hc => k1 c (by omega) fun hOc => by have := hO c hOc; omega
    obtain ⟨n', h', O', q0, q1, q2, q3, q4, q5⟩ := ih (i + 1) k n1 h1 O1 (by omega) (by omega) (fun c hc => by rw [hk1 c hc]; exact hk0 c hc) x1 f1 (fun c hc => by
      rcases o1 c hc with h | h
      · exact hO c h
      · omega)
    exact ⟨n', h', O', q0, q1, q2, by omega, fun c hc => by rw [q4 c hc, hk1 c hc], q5⟩

theorem ofR_spec {F n : Nat} {v : Value} {zs : List Int} {h : H} (hF : 100 < F) (hl : zs.length < F) (hl2 : zs.length < 9223372036854775000) (hv : RdI h v zs) (f : Fr n h) :
    ∃ n' h', (bitset_Of F v).run n h = some (pt n 0, n', h') ∧ SetAt h' n n n' (setOf zs) ∧ Ev No n h n' h' := by
  obtain ⟨e1, x1, f1⟩ := new_set f (k := fun v7 => bitset_Of_r2 F v v7 fun x3 x8 x9 x10 => bitset_Of_l1 F (fun x3 => bitset_Of_k0 F x3) F x3 x8 x9 x10)
  unfold bitset_Of bitset_Of_r0 bitset_Of_r1
  dsimp only
  rw [show (Value.slice none 0 0) = nsl from rfl, e1]
  unfold bitset_Of_r2
  rw [hv.len, List.length_map]
  obtain ⟨n', h', O', q0, q1, q2, q3, q4, q5⟩ := ofR_l1 (F := F) (p := n) (v := v) (zs := zs) (h0 := h) hF f hv hl2 (E := fun x3 => bitset_Of_k0 F x3) zs.length 0 F (n + 1) _ _ (by omega) hl (fun c hc => H.get_set_ne _ _ (by omega)) x1 f1 (fun c hc => by omega)
  exact ⟨n', h', q0.trans rfl, ⟨O', q1, fun c hc => ⟨q5 c hc, q1.lt q2 c hc⟩⟩, q2, by omega, fun c hc _ => by rw [q4 c hc, H.get_set_ne _ _ (by omega)]⟩


theorem rput_or {F n b : Nat} {h : H} {v : Value} {zs : List Int} (g : GlI h v b zs) (f : Fr n h) (hF : zs.length < F) (hl : zs.length < 1099511627776) (z : Int) :
    ∃ n' h' v', (R1_Put F v (i64 z)).run n h = some (v', n', h') ∧ ((v' = v ∧ h' = h ∧ putI zs z = zs) ∨ NewI h' n v' (putI zs z)) ∧ Ev No n h n' h' := by
  unfold R1_Put R1_Put_r0 R1_Put_r1
  have grd : RdI h v zs := Gl.rd g
  rw [run_bnd (rin_spec grd hF (by omega) z)]
  simp only [onB_ite, run_ite, decide_eq_true_eq]
  unfold putI
  by_cases hz : z ∈ zs
  · rw [if_pos hz, if_pos hz]
    exact ⟨n, h, v, rfl, .inl ⟨rfl, rfl, rfl⟩, Ev.refl f⟩
  rw [if_neg hz, if_neg hz]
  unfold R1_Put_r3
  dsimp only
  obtain ⟨q, e1, hq, ht, hd⟩ := rput_l1 (F := F) (n := n) (z := z) grd (by omega) (E := fun x0 x1 x5 => R1_Put_k0 F x0 x1 x5) zs.length 0 F (by omega) hF (fun m hm => by omega)
  rw [show (Value.int .i64 0) = i64 ((0 : Nat) : Int) from rfl, e1]
  unfold R1_Put_k0 R1_Put_r6 ins
  rw [← ht, ← hd]
  rcases g with ⟨g0, rfl⟩ | ⟨g0, rfl, g1⟩
  · -- no list
    have h0 : zs = [] := by simpa using g0
    subst h0
    obtain rfl : q = 0 := Nat.le_zero.1 hq
    have s1 : opSlice 1 nsl none (some (i64 ((0 : Nat) : Int))) (some (i64 ((0 : Nat) : Int))) = ret nsl := rfl
    have s2 : opSlice 1 nsl (some (i64 ((0 : Nat) : Int))) none none = ret nsl := rfl
    rw [s1, ret_bnd, s2, ret_bnd, run_single f rfl]
    have s3 : opAppend 1 8 (sl n 0 1 1) nsl = ret (sl n 0 1 1) := rfl
    rw [s3, ret_bnd]
    have f1 : Fr (n + 1) (h.set n ⟨[i64 z], .own⟩) := f.new _
    obtain ⟨h2, e2, g2, f2, k2⟩ := run_append (β := Value) (bytes := 8) (v := nsl) (b := 0) (cs := []) (x := i64 z) (m := n) (km := .own) (.inl ⟨rfl, rfl⟩) f1 (H.get_set_same _ _ _) (by decide) rfl rfl (fun h => absurd rfl h) (by decide)
    rw [e2]
    exact ⟨n + 1 + 1, h2, _, rfl, .inr ⟨n + 1, g2, fun _ => by omega⟩, f2, by omega, fun c hc _ => by rw [k2 c (by omega) (fun h => absurd rfl h), H.get_set_ne _ _ (by omega)]⟩
  · rw [List.length_map] at *
    have hbn := f.lt g1
    have s1 : opSlice 1 (sl b 0 zs.length (U + 1)) none (some (i64 q)) (some (i64 q)) = ret (sl b 0 q q) := by
      show (if (0 : Int) ≤ 0 ∧ (0 : Int) ≤ (q : Int) then (if true = true ∧ (q : Int) ≤ (q : Int) ∧ (q : Int) ≤ (zs.length : Int) ∧ (q : Int) ≤ 1099511627776 then (if U + 1 = U + 1 ∨ U + 1 < U then ret (sl b (0 + (0 : Int).toNat * 1) ((q : Int) - 0).toNat ((q : Int) - 0).toNat) else fail) else fail) else fail) = _
      rw [if_pos (by omega), if_pos ⟨rfl, by omega⟩, if_pos (.inl rfl)]
      simp
    have s2 : opSlice 1 (sl b 0 zs.length (U + 1)) (some (i64 q)) none none = ret (sl b q (zs.length - q) (U + 1)) := by
      show (if (0 : Int) ≤ (q : Int) ∧ (q : Int) ≤ (zs.length : Int) then (if (zs.length : Int) ≤ (zs.length : Int) then (if U + 1 = U + 1 then ret (sl b (0 + (q : Int).toNat * 1) ((zs.length : Int) - q).toNat (U + 1)) else _) else fail) else fail) = _
      rw [if_pos (by omega), if_pos (by omega), if_pos rfl, show ((zs.length : Int) - q).toNat = zs.length - q by omega]
      simp
    rw [s1, ret_bnd, s2, ret_bnd, run_single f rfl]
    have f1 : Fr (n + 1) (h.set n ⟨[i64 z], .own⟩) := f.new _
    have g1' : (h.set n ⟨[i64 z], .own⟩).get b = some ⟨zs.map i64, .grow⟩ := by rw [H.get_set_ne _ _ (by omega)]; exact g1
    -- the inner append
    have inner : ∃ n2 h2 m c2, n + 1 ≤ n2 ∧ Fr n2 h2 ∧ (∀ c, c < n → h2.get c = h.get c) ∧ n ≤ m ∧ (∃ kd, h2.get m = some ⟨i64 z :: (zs.drop q).map i64, kd⟩ ∧ kd ≠ .dead) ∧ ∀ K : Value → M Value, (bnd (opAppend 1 8 (sl n 0 1 1) (sl b q (zs.length - q) (U + 1))) K).run (n + 1) (h.set n ⟨[i64 z], .own⟩) = (K (sl m 0 (zs.length - q + 1) c2)).run n2 h2 := by
      by_cases h0 : zs.length - q = 0
      · refine ⟨n + 1, _, n, 1, Nat.le_refl _, f1, fun c hc => H.get_set_ne _ _ (by omega), Nat.le_refl _, ⟨.own, ?_, by decide⟩, fun K => ?_⟩
        · rw [H.get_set_same, List.drop_of_length_le (by omega)]; rfl
        · rw [h0]; rfl
      · refine ⟨n + 1 + 1, (h.set n ⟨[i64 z], .own⟩).set (n + 1) ⟨[i64 z] ++ (zs.drop q).map i64, .grow⟩, n + 1, U + 1, by omega, f1.new _, fun c hc => by rw [H.get_set_ne _ _ (by omega), H.get_set_ne _ _ (by omega)], by omega, ⟨.grow, H.get_set_same _ _ _, by decide⟩, fun K => ?_⟩
        unfold opAppend
        simp only [if_neg h0]
        rw [if_pos (by omega)]
        have c1 : cellsOf 1 (sl b q (zs.length - q) (U + 1)) = rdN b q ((zs.length - q) * 1) := by
          show (if zs.length - q = 0 then ret [] else rdN b q ((zs.length - q) * 1)) = _
          rw [if_neg h0]
        rw [c1, bnd_assoc, run_rdN, g1', ldN_some (by decide) (by rw [List.length_map]; omega), if_neg (by unfold U; omega), if_pos (by omega), bnd_assoc, cellsOf_gl (by decide), run_rdN, H.get_set_same, ldN_some (by decide) (by simp), bnd_assoc]
        have e3 : (List.drop q (List.map i64 zs)).take ((zs.length - q) * 1) = (zs.drop q).map i64 := by
          rw [List.take_of_length_le (by rw [List.length_drop, List.length_map]; omega), List.map_drop]
        rw [e3]
        show (bnd (new ([i64 z] ++ _) .grow) _).run _ _ = _
        rw [run_new f1 (by rw [List.all_append, allI]; rfl)]
        have e4 : 1 + (zs.length - q) = zs.length - q + 1 := by omega
        rw [e4]; rfl
    obtain ⟨n2, h2, m, c2, l2, f2, k2, hm, ⟨kd, gm, hkd⟩, e2⟩ := inner
    rw [e2]
    have g2 : h2.get b = some ⟨zs.map i64, .grow⟩ := by rw [k2 b hbn]; exact g1
    refine ⟨n2 + 1, h2.set n2 ⟨((zs.take q).map i64) ++ (i64 z :: (zs.drop q).map i64), .grow⟩, sl n2 0 (zs.length + 1) (U + 1), ?_, .inr ⟨n2, .inr ⟨by simp, by rw [List.length_map, List.length_append, List.length_cons, List.length_take, List.length_drop, Nat.min_eq_left hq, show q + (zs.length - q + 1) = zs.length + 1 by omega], by rw [H.get_set_same, List.map_append, List.map_cons]⟩, fun _ => by omega⟩, f2.new _, by omega, fun c hc _ => by rw [H.get_set_ne _ _ (by omega), k2 c hc]⟩
    unfold opAppend
    simp only [if_neg (show ¬ zs.length - q + 1 = 0 by omega)]
    rw [if_pos (by omega), bnd_assoc, cellsOf_gl (by omega), run_rdN, gm, ldN_some hkd (by simp), if_neg (by unfold U; omega), if_pos (by omega), bnd_assoc]
    have e5 : (List.drop 0 (i64 z :: (zs.drop q).map i64)).take ((zs.length - q + 1) * 1) = i64 z :: (zs.drop q).map i64 := by
      rw [List.drop_zero, List.take_of_length_le (by simp)]
    rw [e5]
    have e6 : ∀ K : List Value → M Value, (bnd (cellsOf 1 (sl b 0 q q)) K).run n2 h2 = (K ((zs.take q).map i64)).run n2 h2 := fun K => by
      by_cases h0 : q = 0
      · subst h0; rfl
      · rw [cellsOf_gl h0, run_rdN, g2, ldN_some (by decide) (by rw [List.length_map]; omega), List.drop_zero, Nat.mul_one, List.map_take]
    rw [e6, bnd_assoc, run_new f2 (by rw [List.all_append, allI, List.all_cons, allI]; rfl), show q + (zs.length - q + 1) = zs.length + 1 by omega]
    rfl


end Go.Fw
