/-
  UnionTurned, said of the abstract machine.
-/
import Derived.Test.YtmndklpldejcbaaLawUnionB
import Derived.Test.YtmndklpldejcbaaLawEq
namespace Go.Fw

/-! ## Who is together, whatever the order -/

structure Gen (N : Nat) (S : Int → Int → Prop) (r : Nat → Nat) : Prop where
  le : ∀ i, r i ≤ i
  idem : ∀ i, r (r i) = r i
  one : ∀ a c, S a c → (0 ≤ a ∧ a < N) → (0 ≤ c ∧ c < N) → r a.toNat = r c.toNat
  least : ∀ g : Nat → Nat, (∀ a c, S a c → (0 ≤ a ∧ a < N) → (0 ≤ c ∧ c < N) → g a.toNat = g c.toNat) → ∀ i k, i < N → k < N → r i = r k → g i = g k

theorem gen_id {N : Nat} : Gen N (fun _ _ => False) id := ⟨fun _ => Nat.le_refl _, fun _ => rfl, fun _ _ h => h.elim, fun g _ i k _ _ h => by rw [show i = k from h]⟩

theorem jn_of {N : Nat} {r : Nat → Nat} {x y : Int} (i : Nat) : jn N r x y i = r i ∨ ((0 ≤ x ∧ x < N) ∧ (0 ≤ y ∧ y < N) ∧ r i = max (r x.toNat) (r y.toNat) ∧ jn N r x y i = min (r x.toNat) (r y.toNat)) := by
  unfold jn
  by_cases hj : jb N r x y = true
  · rw [if_pos hj]
    unfold jb at hj
    simp only [Bool.and_eq_true, decide_eq_true_eq] at hj
    split
    · exact .inr ⟨by omega, by omega, by assumption, rfl⟩
    · exact .inl rfl
  · rw [if_neg hj]; exact .inl rfl

theorem gen_jn {N : Nat} {S : Int → Int → Prop} {r : Nat → Nat} (w : Gen N S r) (x y : Int) : Gen N (fun a c => S a c ∨ (a = x ∧ c = y)) (jn N r x y) := by
  have hfun : ∀ i k, r i = r k → jn N r x y i = jn N r x y k := fun i k h => by unfold jn; rw [h]
  refine ⟨fun i => ?_, fun i => ?_, fun a c h ha hc => ?_, fun g hg i k hi hk h => ?_⟩
  · have := w.le i
    rcases jn_of (N := N) (r := r) (x := x) (y := y) i with e | ⟨_, _, e1, e2⟩ <;> omega
  · rcases jn_of (N := N) (r := r) (x := x) (y := y) i with e | ⟨hx, hy, e1, e2⟩
    · rw [e]; exact (hfun _ _ (w.idem i)).trans e
    · rw [e2]
      have hm : r (min (r x.toNat) (r y.toNat)) = min (r x.toNat) (r y.toNat) := by
        rcases Nat.le_total (r x.toNat) (r y.toNat) with h | h
        · rw [Nat.min_eq_left h]; exact w.idem _
        · rw [Nat.min_eq_right h]; exact w.idem _
      rcases jn_of (N := N) (r := r) (x := x) (y := y) (min (r x.toNat) (r y.toNat)) with e | ⟨_, _, e3, e4⟩
      · rw [e, hm]
      · exact e4
  · rcases h with h | ⟨rfl, rfl⟩
    · exact hfun _ _ (w.one a c h ha hc)
    · by_cases hq : r a.toNat = r c.toNat
      · exact hfun _ _ hq
      · have hj : jb N r a c = true := by unfold jb; simp only [Bool.and_eq_true, decide_eq_true_eq]; exact ⟨by omega, hq⟩
        unfold jn
        rw [if_pos hj, if_pos hj]
        split <;> split <;> omega
  · have hr : ∀ i, i < N → g (r i) = g i := fun i hi => w.least g (fun a c h => hg a c (.inl h)) _ _ (by have := w.le i; omega) hi (w.idem i)
    have base : ∀ i k, i < N → k < N → r i = r k → g i = g k := w.least g fun a c h => hg a c (.inl h)
    rcases jn_of (N := N) (r := r) (x := x) (y := y) i with e | ⟨hx, hy, e1, e2⟩
    · rcases jn_of (N := N) (r := r) (x := x) (y := y) k with e' | ⟨hx, hy, e1', e2'⟩
      · exact base i k hi hk (by rw [← e, ← e', h])
      · have hxy : g x.toNat = g y.toNat := hg x y (.inr ⟨rfl, rfl⟩) hx hy
        have h1 : r i = min (r x.toNat) (r y.toNat) := by rw [← e, h, e2']
        rw [← hr i hi, ← hr k hk, h1, e1']
        have a1 := hr x.toNat (by omega)
        have a2 := hr y.toNat (by omega)
        rcases Nat.le_total (r x.toNat) (r y.toNat) with q | q
        · rw [Nat.min_eq_left q, Nat.max_eq_right q, a1, a2, hxy]
        · rw [Nat.min_eq_right q, Nat.max_eq_left q, a1, a2, hxy]
    · have hxy : g x.toNat = g y.toNat := hg x y (.inr ⟨rfl, rfl⟩) hx hy
      have a1 := hr x.toNat (by omega)
      have a2 := hr y.toNat (by omega)
      rcases jn_of (N := N) (r := r) (x := x) (y := y) k with e' | ⟨_, _, e1', e2'⟩
      · have h1 : r k = min (r x.toNat) (r y.toNat) := by rw [← e', ← h, e2]
        rw [← hr i hi, ← hr k hk, h1, e1]
        rcases Nat.le_total (r x.toNat) (r y.toNat) with q | q
        · rw [Nat.min_eq_left q, Nat.max_eq_right q, a1, a2, hxy]
        · rw [Nat.min_eq_right q, Nat.max_eq_left q, a1, a2, hxy]
      · exact base i k hi hk (by rw [e1, e1'])

theorem Gen.more {N : Nat} {S T : Int → Int → Prop} {r : Nat → Nat} (w : Gen N S r) (h1 : ∀ a c, S a c ↔ T a c) : Gen N T r :=
  ⟨w.le, w.idem, fun a c h => w.one a c ((h1 a c).2 h), fun g hg => w.least g fun a c h => hg a c ((h1 a c).1 h)⟩

theorem gen_le {N : Nat} {S T : Int → Int → Prop} {r r' : Nat → Nat} (w : Gen N S r) (w' : Gen N T r') (h : ∀ a c, S a c → T c a) : ∀ i, i < N → r' i ≤ r i := by
  intro i hi
  have := w.least r' (fun a c hs ha hc => (w'.one c a (h a c hs) hc ha).symm) (r i) i (by have := w.le i; omega) hi (w.idem i)
  rw [← this]
  exact w'.le _
theorem gen_eq {N : Nat} {S T : Int → Int → Prop} {r r' : Nat → Nat} (w : Gen N S r) (w' : Gen N T r') (h : ∀ a c, S a c → T c a) (h' : ∀ a c, T a c → S c a) : ∀ i, i < N → r i = r' i := fun i hi => Nat.le_antisymm (gen_le w' w h' i hi) (gen_le w w' h i hi)

theorem idx_congr {r r' : Nat → Nat} : ∀ {m : Nat}, (∀ i, i < m → r i = r' i) → idx r m = idx r' m
  | 0, _ => rfl
  | m + 1, h => by
    show idx r m + _ = idx r' m + _
    rw [idx_congr fun i hi => h i (by omega), h m (by omega)]
theorem grp_congr {r r' : Nat → Nat} {N : Nat} (hle : ∀ i, r i ≤ i) (h : ∀ i, i < N → r i = r' i) (j : Nat) : grp r N j = grp r' N j := by
  unfold grp
  apply List.filter_congr
  intro k hk
  rw [List.mem_range] at hk
  rw [h k hk, idx_congr fun i hi => h i (by have := hle k; rw [h k hk] at this; omega)]

/-! ## The loop -/

def sA (Z : Nat → Int) (i : Nat) (a c : Int) : Prop := ∃ m, m < i ∧ a = Z (m * 2) ∧ c = Z (m * 2 + 1)
def sB (Z : Nat → Int) (len i : Nat) (a c : Int) : Prop := ∃ m, m < i ∧ a = Z ((len - 1 - m) * 2 + 1) ∧ c = Z ((len - 1 - m) * 2)

theorem turn_l1 {F p b p' b' N len : Nat} {Z : Nat → Int} {v : Value} (hF : N < F) (hlen : len ≤ 60) (hp : 8 ≤ p ∧ 8 ≤ b ∧ 8 ≤ p' ∧ 8 ≤ b') {E : Value → Value → M Value} : ∀ j i k n (h : H) (r r' : Nat → Nat), i + j = len → j < k → Fr n h → (p < n ∧ (N ≠ 0 → b < n) ∧ p' < n ∧ (N ≠ 0 → b' < n)) → Two h p b p' b' N r r' → Pairs h v len Z → Gen N (sA Z i) r → Gen N (sB Z len i) r' →
    ∃ n' h' r r', (haruspexlaw2_UnionTurned_l1 F E k v (pt p 0) (pt p' 0) (i64 i)).run n h = (E (pt p 0) (pt p' 0)).run n' h' ∧ Fr n' h' ∧ Two h' p b p' b' N r r' ∧ Gen N (sA Z len) r ∧ Gen N (sB Z len len) r' ∧ n ≤ n' := by
  intro j
  induction j with
  | zero =>
    intro i k n h r r' hij hk f hn t hv w w'
    obtain ⟨k, rfl⟩ : ∃ j, k = j + 1 := ⟨k - 1, by omega⟩
    obtain rfl : i = len := by omega
    rw [haruspexlaw2_UnionTurned_l1_s]
    unfold haruspexlaw2_UnionTurned_b1 haruspexlaw2_UnionTurned_r10
    rw [hv.len]
    simp only [st_lss, onB_ite, run_ite, decide_eq_true_eq]
    rw [if_neg (by omega)]
    exact ⟨n, h, r, r', rfl, f, t, w, w', Nat.le_refl _⟩
  | succ j ih =>
    intro i k n h r r' hij hk f hn t hv w w'
    obtain ⟨k, rfl⟩ : ∃ j, k = j + 1 := ⟨k - 1, by omega⟩
    rw [haruspexlaw2_UnionTurned_l1_s]
    unfold haruspexlaw2_UnionTurned_b1 haruspexlaw2_UnionTurned_r10
    rw [hv.len]
    simp only [st_lss, onB_ite, run_ite, decide_eq_true_eq]
    rw [if_pos (by omega)]
    unfold haruspexlaw2_UnionTurned_r12
    obtain ⟨c, e, cap, hc, hb, hc8⟩ := hv.at_ (β := Value) (i := i) (by omega)
    obtain ⟨c', e', cap', hc', hb', hc8'⟩ := hv.at_ (β := Value) (i := len - 1 - i) (by omega)
    rw [e, run_loadN, hb, ldN_some (show Kind.ro ≠ .dead by decide) (by rw [tab_len]; omega), tab_two (by omega), hv.len]
    simp only [st_sub]
    rw [wrap64 (z := (len : Int) - 1) (by omega), wrap64 (by omega), show (len : Int) - 1 - i = ((len - 1 - i : Nat) : Int) by omega, e', run_loadN, hb', ldN_some (show Kind.ro ≠ .dead by decide) (by rw [tab_len]; omega), tab_two (by omega)]
    rw [run_ptr f (by rfl), run_ptr (f.new _) (by rfl)]
    have f2 := (f.new ⟨[.int .i64 0, .int .i64 0], .own⟩).new ⟨[.int .i64 0, .int .i64 0], .own⟩
    have hne : ∀ c, c < n → c ≠ n ∧ c ≠ n + 1 := fun c hc => by omega
    rw [run_storeN (kd := .own) (xs := [.int .i64 0, .int .i64 0]) (by rw [H.get_set_ne _ _ (by omega), H.get_set_same]) (.inl rfl) (by rfl) (by rfl) (by rfl)]
    have hn8 : 8 < n := by omega
    rw [run_chkN (kd := .ro) (cs := tab (cap' * 2) fun i => i64 (Z i)) (by rw [H.get_set_ne _ _ (by omega), H.get_set_ne _ _ (by omega), H.get_set_ne _ _ (by omega)]; exact hb') (by decide) (by rw [tab_len]; show _ + 2 ≤ _; omega) (by exact tab_two (by omega)) (by simp [veqL, veq])]
    rw [run_storeN (kd := .own) (xs := [.int .i64 0, .int .i64 0]) (by rw [H.get_set_ne _ _ (by omega), H.get_set_same]) (.inl rfl) (by rfl) (by rfl) (by rfl)]
    obtain ⟨hh, hhd⟩ : ∃ hh, hh = ((((h.set n ⟨[.int .i64 0, .int .i64 0], .own⟩).set (n + 1) ⟨[.int .i64 0, .int .i64 0], .own⟩).set n ⟨[i64 (Z (i * 2)), i64 (Z (i * 2 + 1))], .own⟩).set (n + 1) ⟨[i64 (Z ((len - 1 - i) * 2)), i64 (Z ((len - 1 - i) * 2 + 1))], .own⟩) := ⟨_, rfl⟩
    rw [← hhd]
    have fh : Fr (n + 1 + 1) hh := by rw [hhd]; exact (f2.set _ (by omega)).set _ (by omega)
    have hkeep : ∀ c, c < n → hh.get c = h.get c := fun c hc => by rw [hhd, H.get_set_ne _ _ (by omega), H.get_set_ne _ _ (by omega), H.get_set_ne _ _ (by omega), H.get_set_ne _ _ (by omega)]
    have g0 : hh.get n = some ⟨[i64 (Z (i * 2)), i64 (Z (i * 2 + 1))], .own⟩ := by rw [hhd, H.get_set_ne _ _ (by omega), H.get_set_same]
    have g1 : hh.get (n + 1) = some ⟨[i64 (Z ((len - 1 - i) * 2)), i64 (Z ((len - 1 - i) * 2 + 1))], .own⟩ := by rw [hhd, H.get_set_same]
    have kuf : ∀ {p b : Nat} {r : Nat → Nat}, p < n → (N ≠ 0 → b < n) → UF h p b N r → UF hh p b N r := fun hp hb ⟨u, hu, wi⟩ => ⟨u, hu, by rw [hkeep _ hp]; exact wi.ptr, wi.ne, fun h0 => by rw [hkeep _ (hb h0)]; exact wi.up h0, wi.wf, wi.few⟩
    have th : Two hh p b p' b' N r r' := ⟨kuf hn.1 hn.2.1 t.u, kuf hn.2.2.1 hn.2.2.2 t.v, t.n1, t.n2, t.n3⟩
    unfold haruspexlaw2_UnionTurned_r13
    simp only [st_ixA, if_pos (show (0 : Int) ≤ 0 ∧ (0 : Int) < ((2 : Nat) : Int) by decide), if_pos (show (0 : Int) ≤ 1 ∧ (1 : Int) < ((2 : Nat) : Int) by decide), run_load, g0, show (0 : Int).toNat = 0 from rfl, show (1 : Int).toNat = 1 from rfl, Nat.zero_mul, Nat.one_mul, Nat.add_zero, Nat.zero_add,
      ldm_some (show Kind.own ≠ .dead by decide) (show [i64 (Z (i * 2)), i64 (Z (i * 2 + 1))][0]? = some (i64 (Z (i * 2))) from rfl), ldm_some (show Kind.own ≠ .dead by decide) (show [i64 (Z (i * 2)), i64 (Z (i * 2 + 1))][1]? = some (i64 (Z (i * 2 + 1))) from rfl)]
    obtain ⟨h5, w5, k5, e5⟩ := join_uf (n := n + 1 + 1) th.u (Z (i * 2)) (Z (i * 2 + 1)) hF
    rw [run_bnd e5]
    have t5 := th.left k5 w5
    have f5 := (fh.run e5).1
    have g5 : h5.get (n + 1) = some ⟨[i64 (Z ((len - 1 - i) * 2)), i64 (Z ((len - 1 - i) * 2 + 1))], .own⟩ := by rw [k5 _ (by omega)]; exact g1
    unfold haruspexlaw2_UnionTurned_r14
    simp only [st_ixA, if_pos (show (0 : Int) ≤ 0 ∧ (0 : Int) < ((2 : Nat) : Int) by decide), if_pos (show (0 : Int) ≤ 1 ∧ (1 : Int) < ((2 : Nat) : Int) by decide), run_load, g5, show (0 : Int).toNat = 0 from rfl, show (1 : Int).toNat = 1 from rfl, Nat.zero_mul, Nat.one_mul, Nat.add_zero, Nat.zero_add,
      ldm_some (show Kind.own ≠ .dead by decide) (show [i64 (Z ((len - 1 - i) * 2)), i64 (Z ((len - 1 - i) * 2 + 1))][0]? = some (i64 (Z ((len - 1 - i) * 2))) from rfl), ldm_some (show Kind.own ≠ .dead by decide) (show [i64 (Z ((len - 1 - i) * 2)), i64 (Z ((len - 1 - i) * 2 + 1))][1]? = some (i64 (Z ((len - 1 - i) * 2 + 1))) from rfl)]
    obtain ⟨h6, w6, k6, e6⟩ := join_uf (n := n + 1 + 1) t5.v (Z ((len - 1 - i) * 2 + 1)) (Z ((len - 1 - i) * 2)) hF
    rw [run_bnd e6]
    have t6 := t5.right k6 w6
    have f6 := (f5.run e6).1
    unfold haruspexlaw2_UnionTurned_r11
    simp only [st_add]
    rw [wrap64 (by omega)]
    obtain ⟨n', h', r1, r2, q0, q1, q2, q3, q4, q5⟩ := ih (i + 1) k (n + 1 + 1) h6 _ _ (by omega) (by omega) f6 ⟨by omega, fun h0 => by have := hn.2.1 h0; omega, by omega, fun h0 => by have := hn.2.2.2 h0; omega⟩ t6
      (hv.keep fun c hc => by rw [k6 c (by omega), k5 c (by omega), hkeep c (by omega)])
      ((gen_jn w (Z (i * 2)) (Z (i * 2 + 1))).more fun a c => by
        constructor
        · rintro (⟨m, h1, h2, h3⟩ | ⟨rfl, rfl⟩)
          · exact ⟨m, by omega, h2, h3⟩
          · exact ⟨i, by omega, rfl, rfl⟩
        · rintro ⟨m, h1, h2, h3⟩
          by_cases hm : m = i
          · subst hm; exact .inr ⟨h2, h3⟩
          · exact .inl ⟨m, by omega, h2, h3⟩)
      ((gen_jn w' (Z ((len - 1 - i) * 2 + 1)) (Z ((len - 1 - i) * 2))).more fun a c => by
        constructor
        · rintro (⟨m, h1, h2, h3⟩ | ⟨rfl, rfl⟩)
          · exact ⟨m, by omega, h2, h3⟩
          · exact ⟨i, by omega, rfl, rfl⟩
        · rintro ⟨m, h1, h2, h3⟩
          by_cases hm : m = i
          · subst hm; exact .inr ⟨h2, h3⟩
          · exact .inl ⟨m, by omega, h2, h3⟩)
    exact ⟨n', h', r1, r2, q0, q1, q2, q3, q4, by omega⟩

theorem nums_ints {l : List Nat} : ∀ i, i < (nums l).length → ∃ z, (nums l)[i]? = some (i64 z) := by
  intro i hi
  have : i < l.length := by simpa [nums] using hi
  exact ⟨(l[i] : Int), by simp [nums, this]⟩

/-- The groups of two unions that are led alike are the same. -/
theorem groups_eq {F n n' N G : Nat} {h : H} {v v' : Value} {r : Nat → Nat} (hF : 5000 < F) (hN : N ≤ 5000) (g : RdLL h v (idx r N) (fun j => nums (grp r N j))) (g' : RdLL h v' (idx r N) (fun j => nums (grp r N j))) : (haruspexref1_EqAll F v v').run n h = some (bo true, n, h) := by
  have hi := idx_le r N
  refine eqAll_true g g' (fun j _ => nums_ints) (fun j _ => ?_) (by omega) (by omega)
  have := grp_len (r := r) (a := N) (j := j)
  simp only [nums, List.length_map]
  omega

theorem RdLL.congr {h : H} {v : Value} {G G' : Nat} {L L' : Nat → List Value} (g : RdLL h v G L) (e : G = G') (e' : ∀ j, L j = L' j) : RdLL h v G' L' := by
  subst e
  obtain ⟨iv, g, gi⟩ := g
  exact ⟨iv, g, fun j hj => by rw [← e' j]; exact gi j hj⟩

theorem turn_run {F : Nat} (hF : 5000 < F) (hbg : gaveTrue ((haruspexlaw2_begun F).run 8 .leaf) = true) (h : H) (us : List Value) (f : Fr 8 h) (ha : ArgsAre h [.int, .flat 2] us) : ∃ n' h', (haruspexlaw2_UnionTurned_m F us).run 8 h = some (.bool true, n', h') := by
  obtain ⟨_, v, rfl, ⟨z, rfl, _⟩, hv⟩ := args2 ha
  obtain ⟨len, Z, hv, hl, _⟩ := hv.pairs f
  show ∃ n' h', (haruspexlaw2_UnionTurned F (i64 z) v).run 8 h = some (.bool true, n', h')
  unfold haruspexlaw2_UnionTurned haruspexlaw2_UnionTurned_r0 haruspexlaw2_UnionTurned_r1
  obtain ⟨n1, h1, e1, f1, g1, k1⟩ := run_true hbg f
  rw [run_bnd e1]
  have hv1 := hv.keep k1
  unfold haruspexlaw2_UnionTurned_r2
  simp only [st_not, onB_ite, Bool.not_true, Bool.false_eq_true, if_false]
  unfold haruspexlaw2_UnionTurned_r4
  simp only [st_lss, st_gtr, onB_ite, run_ite, decide_eq_true_eq, if_true]
  by_cases q1 : z < 0
  · rw [if_pos q1]; exact ⟨n1, h1, rfl⟩
  rw [if_neg q1]
  by_cases q2 : 60 < z
  · rw [if_pos q2]; exact ⟨n1, h1, rfl⟩
  rw [if_neg q2]
  obtain ⟨N, rfl⟩ : ∃ N : Nat, z = N := ⟨z.toNat, by omega⟩
  -- from the loop on
  have rest : ∀ v2 len2, len2 ≤ 60 → Pairs h1 v2 len2 Z → ∃ n' h', (haruspexlaw2_UnionTurned_k2 F (i64 N) v2).run n1 h1 = some (.bool true, n', h') := by
    intro v2 len2 hl2 hv2
    unfold haruspexlaw2_UnionTurned_k2 haruspexlaw2_UnionTurned_r8
    obtain ⟨n2, h2, p, b, p', b', e2, t2, f2, b1, b2, b3, b4, b5, b6, b7, b8, b9, k2⟩ := two_new (F := F) (N := N) (by omega) hF f1 (k := fun u w => haruspexlaw2_UnionTurned_r9 F v2 u w fun x1 x6 x7 x8 => haruspexlaw2_UnionTurned_l1 F (fun x6 x7 => haruspexlaw2_UnionTurned_k0 F x6 x7) F x1 x6 x7 x8)
    rw [e2]
    unfold haruspexlaw2_UnionTurned_r9
    obtain ⟨n3, h3, r, r', e3, f3, t3, w, w', hn3⟩ := turn_l1 (F := F) (p := p) (b := b) (p' := p') (b' := b') (N := N) (len := len2) (Z := Z) (v := v2) (by omega) hl2 ⟨by omega, by omega, by omega, by omega⟩ (E := fun x6 x7 => haruspexlaw2_UnionTurned_k0 F x6 x7) len2 0 F n2 h2 id id (by omega) (by omega) f2 ⟨b1, b3, b2, b4⟩ t2
      (hv2.keep fun c hc => k2 c (by omega)) (gen_id.more fun a c => ⟨fun h => h.elim, fun ⟨m, hm, _⟩ => by omega⟩) (gen_id.more fun a c => ⟨fun h => h.elim, fun ⟨m, hm, _⟩ => by omega⟩)
    rw [show (Value.int .i64 0) = i64 ((0 : Nat) : Int) from rfl, e3]
    have hrr : ∀ i, i < N → r i = r' i := gen_eq w w' (fun a c ⟨m, hm, h1, h2⟩ => ⟨len2 - 1 - m, by omega, by rw [show len2 - 1 - (len2 - 1 - m) = m by omega]; exact h2, by rw [show len2 - 1 - (len2 - 1 - m) = m by omega]; exact h1⟩) (fun a c ⟨m, hm, h1, h2⟩ => ⟨len2 - 1 - m, by omega, h2, h1⟩)
    unfold haruspexlaw2_UnionTurned_k0 haruspexlaw2_UnionTurned_r15
    obtain ⟨n4, h4, v4, e4, w4, l4, f4, hn4, k4⟩ := groups_uf (F := F) (by omega) t3.u f3
    rw [run_bnd e4]
    have hp3 : p' < n3 ∧ (N ≠ 0 → b' < n3) := ⟨by omega, fun h0 => by have := b4 h0; omega⟩
    have w5 : UF h4 p' b' N r' := t3.v.keep (k4 _ hp3.1 t3.n2) fun h0 => k4 _ (hp3.2 h0) fun _ => (t3.n3 h0).symm
    obtain ⟨n6, h6, v6, e6, w6, l6, f6, hn6, k6⟩ := groups_uf (F := F) (by omega) w5 f4
    rw [run_bnd e6]
    have l4' : LL h6 v4 n3 (idx r N) fun j => nums (grp r N j) := l4.keep f4 fun c hc hc4 => k6 c hc4 fun h0 => by have := hp3.2 h0; omega
    have e := groups_eq (F := F) (n := n6) (N := N) (G := 0) (n' := 0) hF (by omega) l4'.rd (l6.rd.congr (idx_congr fun i hi => (hrr i hi).symm) fun j => by rw [grp_congr w'.le (fun i hi => (hrr i hi).symm) j])
    rw [run_bnd e]
    exact ⟨n6, h6, rfl⟩
  unfold haruspexlaw2_UnionTurned_r6
  rw [hv1.len]
  simp only [st_gtr, onB_ite, run_ite, decide_eq_true_eq]
  by_cases q3 : (60 : Int) < len
  · rw [if_pos q3]
    unfold haruspexlaw2_UnionTurned_r7
    rcases hv1 with ⟨rfl, _⟩ | ⟨b, cap, rfl, g1, g2, g3⟩
    · omega
    · have es : opSlice 2 (sl b 0 len cap) none (some (.int .i64 60)) none = ret (sl b 0 60 cap) := by
        show (if (0 : Int) ≤ 0 ∧ (0 : Int) ≤ 60 then (if (60 : Int) ≤ (len : Int) then (if cap = U + 2 then ret (sl b (0 + (0 : Int).toNat * 2) ((60 : Int) - 0).toNat cap) else if cap < U then ret (sl b (0 + (0 : Int).toNat * 2) ((60 : Int) - 0).toNat (cap - (0 : Int).toNat)) else fail) else fail) else fail) = _
        rw [if_pos (by decide), if_pos (by omega), if_neg (by unfold U; omega), if_pos (by unfold U; omega)]
        rfl
      rw [es, ret_bnd]
      exact rest _ 60 (by omega) (.inr ⟨b, cap, rfl, by omega, g2, fun _ => g3 (by omega)⟩)
  · rw [if_neg q3]
    exact rest v len (by omega) hv1

theorem turn_law (h : H) (us : List Value) (f : Fr 8 h) (ha : ArgsAre h [.int, .flat 2] us) : ∃ n' h', (haruspexlaw2_UnionTurned_m 6000 us).run 8 h = some (.bool true, n', h') := turn_run (by decide) begun_runs h us f ha

end Go.Fw
