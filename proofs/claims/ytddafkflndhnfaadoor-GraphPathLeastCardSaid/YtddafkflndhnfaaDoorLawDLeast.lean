/-
  GraphPathLeast, said of the abstract machine.
-/
import Derived.Test.YtddafkflndhnfaaDoorLawDReach
import Derived.Test.YtddafkflndhnfaaDoorGenDGraphPathLeast
set_option maxRecDepth 20000
set_option linter.unusedVariables false
namespace Go.Fw

/-- A way of so many edges, from the beginning. -/
inductive Wf (adj : Nat → List Nat) (root : Nat) : Nat → Nat → Prop
  | zero : Wf adj root root 0
  | succ {q c k : Nat} : Wf adj root q k → c ∈ adj q → Wf adj root c (k + 1)

theorem Wk.snoc {adj : Nat → List Nat} {q c a k : Nat} (w : Wk adj q a k) (h : c ∈ adj q) : Wk adj c a (k + 1) := by
  induction w with
  | zero => exact .succ h .zero
  | succ h2 _ ih => exact .succ h2 ih
theorem Wf.wk {adj : Nat → List Nat} {root q k : Nat} (w : Wf adj root q k) : Wk adj q root k := by
  induction w with
  | zero => exact .zero
  | succ _ h ih => exact ih.snoc h
theorem Wk.wf {adj : Nat → List Nat} {root t a k j : Nat} (w : Wk adj t a k) (h : Wf adj root a j) : Wf adj root t (j + k) := by
  induction w generalizing j with
  | zero => exact h
  | @succ a b k hb _ ih =>
    have := ih (h.succ hb)
    rw [show j + (k + 1) = j + 1 + k by omega]; exact this

theorem sortedI_len {hi : Int} : ∀ (l : List Int) (lo : Int), l.Pairwise (· < ·) → (∀ z, z ∈ l → lo ≤ z ∧ z < hi) → l.length ≤ (hi - lo).toNat
  | [], _, _, _ => Nat.zero_le _
  | a :: l, lo, h1, h2 => by
    rw [List.pairwise_cons] at h1
    have := sortedI_len l (a + 1) h1.2 fun z hz => ⟨by have := h1.1 z hz; omega, (h2 z (List.mem_cons_of_mem _ hz)).2⟩
    have := h2 a List.mem_cons_self
    rw [List.length_cons]
    omega

/-- A rising list of nodes. -/
def Rise (N : Nat) (zs : List Int) : Prop := zs.Pairwise (· < ·) ∧ ∀ z, z ∈ zs → 0 ≤ z ∧ z < (N : Int)
theorem Rise.len {N : Nat} {zs : List Int} (x : Rise N zs) : zs.length ≤ N := by
  have := sortedI_len zs 0 x.1 x.2
  omega
theorem Rise.put {N b : Nat} {zs : List Int} (x : Rise N zs) (hb : b < N) : Rise N (putI zs (b : Int)) := ⟨putI_sorted x.1, fun z hz => by
  rcases putI_mem.1 hz with rfl | h
  · omega
  · exact x.2 z h⟩

section
variable {N : Nat} {adj : Nat → List Nat}

theorem pl_l8 {F m g lo mB p q : Nat} {tv x3 x11 rv x14 : Value} {ring : List Int} {hB : H} (hF : 1000000 ≤ F) (ok : GOk N adj) (hq : q < N) (hm : m ≤ lo) (hg : g < lo) (fB : Fr mB hB) (hv : RdI hB rv ring) (hmB : mB ≤ lo) (hp : p < ring.length) (hpq : ring[p] = (q : Int)) {E : Value → Value → Value → Value → Value → Value → Value → M Value} : ∀ j i k n (h : H) v zs, i + j = (adj q).length → j < k → GB h g N tv → Gr h m tv N adj → (∀ c, c < mB → h.get c = hB.get c) → NewI h lo v zs → Rise N zs → lo ≤ n → Fr n h →
    ∃ n' h' v' zs', (L5_GraphPathLeast_l8 F E k x3 (pt g 0) x11 rv x14 v (i64 (p : Nat)) (i64 (i : Nat))).run n h = (E x3 (pt g 0) x11 rv x14 v' (i64 (p : Nat))).run n' h' ∧ NewI h' lo v' zs' ∧ Rise N zs' ∧ (∀ z, z ∈ zs' ↔ z ∈ zs ∨ ∃ b : Nat, z = (b : Int) ∧ b ∈ (adj q).drop i) ∧ Ev No n h n' h' := by
  have hN := ok.few
  have hs := ok.short q hq
  intro j
  induction j with
  | zero =>
    intro i k n h v zs hij hk gb gr hkB x hr hn f
    obtain ⟨k, rfl⟩ : ∃ j, k = j + 1 := ⟨k - 1, by omega⟩
    obtain ⟨row, e1, h0, f0, k0, hr0⟩ := gr.row (β := Value) (n := n) hq
    have rd : RdI h row (nats (adj q)) := hr0.kept f0 k0
    have rr : RdI h rv ring := hv.kept fB hkB
    rw [L5_GraphPathLeast_l8_s]
    unfold L5_GraphPathLeast_b8 L5_GraphPathLeast_r22
    try dsimp only
    rw [gb.t, rr.getI hp, hpq, e1, rd.lenI, nats_len, st_lss, onB_ite, run_ite, if_neg (by simp; omega)]
    refine ⟨n, h, v, zs, rfl, x, hr, fun z => ?_, Ev.refl f⟩
    rw [List.drop_of_length_le (by omega)]; simp
  | succ j ih =>
    intro i k n h v zs hij hk gb gr hkB x hr hn f
    obtain ⟨k, rfl⟩ : ∃ j, k = j + 1 := ⟨k - 1, by omega⟩
    obtain ⟨row, e1, h0, f0, k0, hr0⟩ := gr.row (β := Value) (n := n) hq
    have rd : RdI h row (nats (adj q)) := hr0.kept f0 k0
    have rr : RdI h rv ring := hv.kept fB hkB
    have hi : i < (adj q).length := by omega
    have hil : i < (nats (adj q)).length := by rw [nats_len]; exact hi
    rw [L5_GraphPathLeast_l8_s]
    unfold L5_GraphPathLeast_b8 L5_GraphPathLeast_r22
    try dsimp only
    rw [gb.t, rr.getI hp, hpq, e1, rd.lenI, nats_len, st_lss, onB_ite, run_ite, if_pos (by simp; omega)]
    unfold L5_GraphPathLeast_r24
    try dsimp only
    have hbN := ok.lt q hq _ (List.getElem_mem hi)
    rw [gb.t, rr.getI hp, hpq, e1, rd.getI hil, nats_get, List.drop_eq_getElem_cons hi]
    generalize (adj q)[i] = b at *
    have hl := hr.len
    obtain ⟨n2, h2, v2, e2, x2, ev2⟩ := rput_spec (F := F) x f hn (by omega) (by omega) (b : Int)
    rw [run_bnd e2]
    have l2 := ev2.le
    unfold L5_GraphPathLeast_r23
    try dsimp only
    rw [sx_add (by omega)]
    obtain ⟨n', h', v', zs', q1, q2, q3, q4, q5⟩ := ih (i + 1) k n2 h2 v2 _ (by omega) (by omega) (gb.ev ev2 (by omega) (fun h => h)) (gr.no ev2 (by omega)) (fun c hc => by rw [ev2.no (by omega)]; exact hkB c hc) x2 (hr.put hbN) (by omega) ev2.f
    refine ⟨n', h', v', zs', q1, q2, q3, fun z => ?_, ev2.trans q5 fun _ _ h => h⟩
    rw [q4, putI_mem]
    constructor
    · rintro ((h | h) | ⟨c, h1, h2⟩)
      · exact .inr ⟨b, h, List.mem_cons_self⟩
      · exact .inl h
      · exact .inr ⟨c, h1, List.mem_cons_of_mem _ h2⟩
    · rintro (h | ⟨c, h1, h2⟩)
      · exact .inl (.inr h)
      · rcases List.mem_cons.1 h2 with h2 | h2
        · subst h2; exact .inl (.inl h1)
        · exact .inr ⟨c, h1, h2⟩

theorem pl_l6 {F m g lo mB : Nat} {tv x3 x11 rv x14 : Value} {ring : List Int} {hB : H} (hF : 1000000 ≤ F) (ok : GOk N adj) (hm : m ≤ lo) (hg : g < lo) (fB : Fr mB hB) (hv : RdI hB rv ring) (hmB : mB ≤ lo) (hri : Rise N ring) {E : Value → Value → Value → Value → Value → Value → M Value} : ∀ j i k n (h : H) v zs, i + j = ring.length → j < k → GB h g N tv → Gr h m tv N adj → (∀ c, c < mB → h.get c = hB.get c) → NewI h lo v zs → Rise N zs → lo ≤ n → Fr n h →
    ∃ n' h' v' zs', (L5_GraphPathLeast_l6 F E k x3 (pt g 0) x11 rv x14 v (i64 (i : Nat))).run n h = (E x3 (pt g 0) x11 rv x14 v').run n' h' ∧ NewI h' lo v' zs' ∧ Rise N zs' ∧ (∀ z, z ∈ zs' ↔ z ∈ zs ∨ ∃ q b : Nat, (q : Int) ∈ ring.drop i ∧ z = (b : Int) ∧ b ∈ adj q) ∧ Ev No n h n' h' := by
  have hN := ok.few
  have hrl := hri.len
  intro j
  induction j with
  | zero =>
    intro i k n h v zs hij hk gb gr hkB x hr hn f
    obtain ⟨k, rfl⟩ : ∃ j, k = j + 1 := ⟨k - 1, by omega⟩
    have rr : RdI h rv ring := hv.kept fB hkB
    rw [L5_GraphPathLeast_l6_s]
    unfold L5_GraphPathLeast_b6 L5_GraphPathLeast_r19
    try dsimp only
    rw [rr.lenI, st_lss, onB_ite, run_ite, if_neg (by simp; omega)]
    refine ⟨n, h, v, zs, rfl, x, hr, fun z => ?_, Ev.refl f⟩
    rw [List.drop_of_length_le (by omega)]; simp
  | succ j ih =>
    intro i k n h v zs hij hk gb gr hkB x hr hn f
    obtain ⟨k, rfl⟩ : ∃ j, k = j + 1 := ⟨k - 1, by omega⟩
    have rr : RdI h rv ring := hv.kept fB hkB
    have hi : i < ring.length := by omega
    rw [L5_GraphPathLeast_l6_s]
    unfold L5_GraphPathLeast_b6 L5_GraphPathLeast_r19
    try dsimp only
    rw [rr.lenI, st_lss, onB_ite, run_ite, if_pos (by simp; omega)]
    unfold L5_GraphPathLeast_r21
    try dsimp only
    have hz := hri.2 _ (List.getElem_mem hi)
    obtain ⟨q, hq⟩ : ∃ q : Nat, ring[i] = (q : Int) := ⟨(ring[i]).toNat, by omega⟩
    have hqN : q < N := by omega
    have hs := ok.short q hqN
    obtain ⟨n1, h1, v1, zs1, e1, x1, r1, m1, ev1⟩ := pl_l8 (F := F) (m := m) (g := g) (lo := lo) (x3 := x3) (x11 := x11) (x14 := x14) hF ok hqN hm hg fB hv hmB hi hq (E := fun x3 x10 x11 x13 x14 x15 x16 => L5_GraphPathLeast_k7 F (L5_GraphPathLeast_l6 F E k) x3 x10 x11 x13 x14 x15 x16) (adj q).length 0 F n h v zs (by omega) (by omega) gb gr hkB x hr hn f
    rw [show (Value.int .i64 0) = i64 ((0 : Nat) : Int) from rfl, e1]
    have l1 := ev1.le
    unfold L5_GraphPathLeast_k7 L5_GraphPathLeast_r20
    try dsimp only
    rw [sx_add (by omega)]
    obtain ⟨n', h', v', zs', q1, q2, q3, q4, q5⟩ := ih (i + 1) k n1 h1 v1 zs1 (by omega) (by omega) (gb.ev ev1 (by omega) (fun h => h)) (gr.no ev1 (by omega)) (fun c hc => by rw [ev1.no (by omega)]; exact hkB c hc) x1 r1 (by omega) ev1.f
    refine ⟨n', h', v', zs', q1, q2, q3, fun z => ?_, ev1.trans q5 fun _ _ h => h⟩
    rw [q4, m1, List.drop_zero, List.drop_eq_getElem_cons hi, hq]
    constructor
    · rintro ((h | ⟨b, h1, h2⟩) | ⟨c, b, h1, h2⟩)
      · exact .inl h
      · exact .inr ⟨q, b, List.mem_cons_self, h1, h2⟩
      · exact .inr ⟨c, b, List.mem_cons_of_mem _ h1, h2⟩
    · rintro (h | ⟨c, b, h1, h2, h3⟩)
      · exact .inl (.inl h)
      · rcases List.mem_cons.1 h1 with h1 | h1
        · have : c = q := by omega
          subst this; exact .inl (.inr ⟨b, h2, h3⟩)
        · exact .inr ⟨c, b, h1, h2, h3⟩

theorem pl_l4 {F lo mB : Nat} {x3 x10 x11 rv x14 : Value} {ring : List Int} {hB : H} (hF : 1000000 ≤ F) (hN : N ≤ 600) (fB : Fr mB hB) (hv : RdI hB rv ring) (hmB : mB ≤ lo) (hri : Rise N ring) {E : Value → Value → Value → Value → Value → M Value} : ∀ j i k n (h : H) v zs, i + j = ring.length → j < k → (∀ c, c < mB → h.get c = hB.get c) → NewI h lo v zs → Rise N zs → lo ≤ n → Fr n h →
    ∃ n' h' v' zs', (L5_GraphPathLeast_l4 F E k x3 x10 x11 rv x14 v (i64 (i : Nat))).run n h = (E x3 x10 x11 x14 v').run n' h' ∧ NewI h' lo v' zs' ∧ Rise N zs' ∧ (∀ z, z ∈ zs' ↔ z ∈ zs ∨ z ∈ ring.drop i) ∧ Ev No n h n' h' := by
  have hrl := hri.len
  intro j
  induction j with
  | zero =>
    intro i k n h v zs hij hk hkB x hr hn f
    obtain ⟨k, rfl⟩ : ∃ j, k = j + 1 := ⟨k - 1, by omega⟩
    have rr : RdI h rv ring := hv.kept fB hkB
    rw [L5_GraphPathLeast_l4_s]
    unfold L5_GraphPathLeast_b4 L5_GraphPathLeast_r26
    try dsimp only
    rw [rr.lenI, st_lss, onB_ite, run_ite, if_neg (by simp; omega)]
    refine ⟨n, h, v, zs, rfl, x, hr, fun z => ?_, Ev.refl f⟩
    rw [List.drop_of_length_le (by omega)]; simp
  | succ j ih =>
    intro i k n h v zs hij hk hkB x hr hn f
    obtain ⟨k, rfl⟩ : ∃ j, k = j + 1 := ⟨k - 1, by omega⟩
    have rr : RdI h rv ring := hv.kept fB hkB
    have hi : i < ring.length := by omega
    rw [L5_GraphPathLeast_l4_s]
    unfold L5_GraphPathLeast_b4 L5_GraphPathLeast_r26
    try dsimp only
    rw [rr.lenI, st_lss, onB_ite, run_ite, if_pos (by simp; omega)]
    unfold L5_GraphPathLeast_r28
    try dsimp only
    have hz := hri.2 _ (List.getElem_mem hi)
    obtain ⟨q, hq⟩ : ∃ q : Nat, ring[i] = (q : Int) := ⟨(ring[i]).toNat, by omega⟩
    have hqN : q < N := by omega
    have hl := hr.len
    obtain ⟨n2, h2, v2, e2, x2, ev2⟩ := rput_spec (F := F) x f hn (by omega) (by omega) (q : Int)
    rw [rr.getI hi, hq, run_bnd e2]
    have l2 := ev2.le
    unfold L5_GraphPathLeast_r27
    try dsimp only
    rw [sx_add (by omega)]
    obtain ⟨n', h', v', zs', q1, q2, q3, q4, q5⟩ := ih (i + 1) k n2 h2 v2 _ (by omega) (by omega) (fun c hc => by rw [ev2.no (by omega)]; exact hkB c hc) x2 (hr.put hqN) (by omega) ev2.f
    refine ⟨n', h', v', zs', q1, q2, q3, fun z => ?_, ev2.trans q5 fun _ _ h => h⟩
    rw [q4, putI_mem, List.drop_eq_getElem_cons hi, hq, List.mem_cons]
    constructor
    · rintro ((h | h) | h)
      · exact .inr (.inl h)
      · exact .inl h
      · exact .inr (.inr h)
    · rintro (h | h | h)
      · exact .inl (.inr h)
      · exact .inl (.inl h)
      · exact .inr h

/-- Who is at most so many edges away. -/
def Ring (adj : Nat → List Nat) (N root i : Nat) (zs : List Int) : Prop := Rise N zs ∧ ∀ z, z ∈ zs ↔ ∃ q k : Nat, z = (q : Int) ∧ k ≤ i ∧ Wf adj root q k

theorem pl_l1 {F m g root t mB d : Nat} {tv wv : Value} {l : List Nat} {hB : H} (hF : 1000000 ≤ F) (ok : GOk N adj) (hg : g < m) (fB : Fr mB hB) (hv : RdI hB wv (nats l)) (hlen : l.length = d + 1) (hd : Dst adj t root d) (hlN : ∀ i (hi : i < l.length), l[i] < N) (hstep : ∀ i (hi : i + 1 < l.length), l[i + 1] ∈ adj l[i]) (hdN : d ≤ 1000) (hmm : mB ≤ m) {E : Value → Value → M Value} : ∀ j i k n (h : H) rv ring, i + j = d + 1 → 1 ≤ i → j < k → GB h g N tv → Gr h m tv N adj → (∀ c, c < mB → h.get c = hB.get c) → RdI h rv ring → Ring adj N root (i - 1) ring → m ≤ n → Fr n h →
    ∃ n' h' rv' ring', (L5_GraphPathLeast_l1 F E k (i64 (t : Nat)) (pt g 0) wv rv (i64 (i : Nat))).run n h = (E (i64 (t : Nat)) rv').run n' h' ∧ RdI h' rv' ring' ∧ Ring adj N root d ring' := by
  have hN := ok.few
  intro j
  induction j with
  | zero =>
    intro i k n h rv ring hij h1 hk gb gr hkB rr hR hn f
    obtain ⟨k, rfl⟩ : ∃ j, k = j + 1 := ⟨k - 1, by omega⟩
    have rd : RdI h wv (nats l) := hv.kept fB hkB
    rw [L5_GraphPathLeast_l1_s]
    unfold L5_GraphPathLeast_b1 L5_GraphPathLeast_r13
    try dsimp only
    rw [rd.lenI, nats_len, st_lss, onB_ite, run_ite, if_neg (by simp; omega)]
    rw [show i - 1 = d by omega] at hR
    exact ⟨n, h, rv, ring, rfl, rr, hR⟩
  | succ j ih =>
    intro i k n h rv ring hij h1 hk gb gr hkB rr hR hn f
    obtain ⟨k, rfl⟩ : ∃ j, k = j + 1 := ⟨k - 1, by omega⟩
    have rd : RdI h wv (nats l) := hv.kept fB hkB
    rw [L5_GraphPathLeast_l1_s]
    unfold L5_GraphPathLeast_b1 L5_GraphPathLeast_r13
    try dsimp only
    rw [rd.lenI, nats_len, st_lss, onB_ite, run_ite, if_pos (by simp; omega)]
    unfold L5_GraphPathLeast_r15
    try dsimp only
    obtain ⟨i, rfl⟩ : ∃ p, i = p + 1 := ⟨i - 1, by omega⟩
    have hi0 : i < l.length := by omega
    have hi1 : i + 1 < l.length := by omega
    have hil0 : i < (nats l).length := by rw [nats_len]; exact hi0
    have hil1 : i + 1 < (nats l).length := by rw [nats_len]; exact hi1
    have haN := hlN i hi0
    obtain ⟨row, e1, h0, f0, k0, hr0⟩ := gr.row (β := Value) (n := n) haN
    have rdr : RdI h row (nats (adj l[i])) := hr0.kept f0 k0
    have hs := ok.short _ haN
    have hmem : ((l[i + 1] : Nat) : Int) ∈ nats (adj l[i]) := by
      rw [List.mem_map]; exact ⟨_, hstep i hi1, rfl⟩
    have hRl := hR.1.len
    have hnt : (t : Int) ∉ ring := fun q => by
      obtain ⟨q, k, h1, h2, h3⟩ := (hR.2 _).1 q
      have : q = t := by omega
      subst this
      have := hd.2 k h3.wk
      omega
    rw [gb.t, sx_sub (by omega), show (((i + 1 : Nat) : Int) - 1) = (i : Int) by omega, rd.getI hil0, nats_get, e1, rd.getI hil1, nats_get, run_bnd (rin_spec rdr (by rw [nats_len]; omega) (by rw [nats_len]; omega) _), decide_eq_true hmem, st_not, onB_ite, run_ite, if_neg (by decide), run_bnd (rin_spec rr (by omega) (by omega) _), decide_eq_false hnt, onB_ite, run_ite, if_neg (by decide)]
    unfold L5_GraphPathLeast_r17 L5_GraphPathLeast_r18
    try dsimp only
    have rise0 : Rise N [] := ⟨List.Pairwise.nil, fun z hz => by cases hz⟩
    obtain ⟨n2, h2, v2, zs2, e2, x2, r2, m2, ev2⟩ := pl_l6 (F := F) (m := m) (g := g) (lo := n) (mB := n) (x3 := i64 (t : Nat)) (x11 := wv) (x14 := i64 ((i + 1 : Nat) : Int)) hF ok hn (by omega) f rr (Nat.le_refl _) hR.1 (E := fun x3 x10 x11 x13 x14 x15 => L5_GraphPathLeast_k5 F (L5_GraphPathLeast_l1 F E k) x3 x10 x11 x13 x14 x15) ring.length 0 F n h nsl [] (by omega) (by omega) gb gr (fun _ _ => rfl) NewI.nil rise0 (Nat.le_refl _) f
    rw [show (Value.slice none 0 0) = nsl from rfl, show (Value.int .i64 0) = i64 ((0 : Nat) : Int) from rfl, e2]
    have l2 := ev2.le
    unfold L5_GraphPathLeast_k5 L5_GraphPathLeast_r25
    try dsimp only
    obtain ⟨n3, h3, v3, zs3, e3, x3, r3, m3, ev3⟩ := pl_l4 (F := F) (lo := n) (mB := n) (x3 := i64 (t : Nat)) (x10 := pt g 0) (x11 := wv) (x14 := i64 ((i + 1 : Nat) : Int)) hF hN f rr (Nat.le_refl _) hR.1 (E := fun x3 x10 x11 x14 x15 => L5_GraphPathLeast_k3 F (L5_GraphPathLeast_l1 F E k) x3 x10 x11 x14 x15) ring.length 0 F n2 h2 v2 zs2 (by omega) (by omega) (fun c hc => ev2.no hc) x2 r2 l2 ev2.f
    rw [show (Value.int .i64 0) = i64 ((0 : Nat) : Int) from rfl, e3]
    have ev23 : Ev No n h n3 h3 := ev2.trans ev3 fun _ _ h => h
    have l3 := ev23.le
    unfold L5_GraphPathLeast_k3 L5_GraphPathLeast_r29 L5_GraphPathLeast_k2 L5_GraphPathLeast_r14
    try dsimp only
    rw [sx_add (by omega)]
    refine ih (i + 1 + 1) k n3 h3 v3 zs3 (by omega) (by omega) (by omega) (gb.ev ev23 (by omega) (fun h => h)) (gr.no ev23 hn) (fun c hc => by rw [ev23.no (by omega)]; exact hkB c hc) x3.rd ⟨r3, fun z => ?_⟩ (by omega) ev23.f
    rw [m3, m2, List.drop_zero]
    constructor
    · rintro ((h | ⟨q, b, h1, h2, h3⟩) | h)
      · cases h
      · obtain ⟨q', k, g1, g2, g3⟩ := (hR.2 _).1 h1
        have : q' = q := by omega
        subst this
        exact ⟨b, k + 1, h2, by omega, g3.succ h3⟩
      · obtain ⟨q, k, g1, g2, g3⟩ := (hR.2 _).1 h
        exact ⟨q, k, g1, by omega, g3⟩
    · rintro ⟨q, k, h1, h2, h3⟩
      by_cases hk0 : k ≤ i
      · exact .inr ((hR.2 _).2 ⟨q, k, h1, by omega, h3⟩)
      · have : k = i + 1 := by omega
        subst this
        cases h3 with
        | @succ q' _ _ w e => exact .inl (.inr ⟨q', q, (hR.2 _).2 ⟨q', i, rfl, by omega, w⟩, h1, e⟩)
end

theorem PW.steps {adj : Nat → List Nat} {t a : Nat} {l : List Nat} (h : PW adj t a l) : ∀ i (hi : i + 1 < l.length), l[i + 1] ∈ adj l[i] := by
  induction h with
  | stop => intro i hi; simp at hi
  | @go a b l _ hn p ih =>
    intro i hi
    cases i with
    | zero =>
      obtain ⟨l', rfl⟩ := p.head
      obtain ⟨_, _, hb, _⟩ := hn
      exact hb
    | succ i =>
      rw [List.length_cons] at hi
      have := ih i (by omega)
      simpa using this

theorem PW.last {adj : Nat → List Nat} {t a : Nat} {l : List Nat} (h : PW adj t a l) : ∀ (hl : l.length - 1 < l.length), l[l.length - 1] = t := by
  induction h with
  | stop => intro _; rfl
  | @go a b l _ hn p ih =>
    intro hl
    obtain ⟨l', rfl⟩ := p.head
    have := ih (by simp)
    simpa using this

theorem gleast_run {F : Nat} (hF : 1000000 ≤ F) (hbg : gaveTrue ((L5_begun F).run 8 (baseH deB)) = true) (hbk : (((L5_begun F).run 8 (baseH deB)).map fun x => x.2.2.get 0) = some (some ⟨deB, .ro⟩)) (h : H) (us : List Value) (f : Fr 8 h) (hb : h.get 0 = some ⟨deB, .ro⟩) (ha : ArgsAre h [.int, .flat 2, .int, .int] us) :
    ∃ n' h', (L5_GraphPathLeast_m F us).run 8 h = some (.bool true, n', h') := by
  obtain ⟨_, v, _, _, rfl, ⟨z, rfl, hz⟩, hv, ⟨a, rfl, hza⟩, ⟨b, rfl, hzb⟩⟩ := args4 ha
  obtain ⟨len, Z, hp, hl, hZ⟩ := hv.pairs f
  show ∃ n' h', (L5_GraphPathLeast F (i64 z) v (i64 a) (i64 b)).run 8 h = some (.bool true, n', h')
  unfold L5_GraphPathLeast L5_GraphPathLeast_r0 L5_GraphPathLeast_r1
  try dsimp only
  obtain ⟨n1, h1, e1, f1, l1, k1⟩ := run_over_true hbg hbk f hb
  rw [run_bnd e1]
  unfold L5_GraphPathLeast_r2
  simp only [st_not, onB_ite, Bool.not_true, Bool.false_eq_true, if_false]
  unfold L5_GraphPathLeast_r4
  try dsimp only
  obtain ⟨n2, h2, g, ob, O, e2, x2, ev2⟩ := made_var (F := F) hF l1 hz hZ (hp.keep k1) f1
  rw [show (Value.int .i64 0) = i64 0 from rfl, show (Value.slice none 0 0) = nsl from rfl, e2]
  generalize nodesOf z = N at *
  generalize madeL N Z (min len 80) = adj at *
  have gr2 := x2.gr ev2.f
  have hN := x2.few
  have hN1 := x2.pos
  have hgl := x2.glt
  unfold L5_GraphPathLeast_r5
  try dsimp only
  rw [x2.var.all]
  -- whether both are nodes
  have hin : ∀ n (h : H) (x11 : Value) (K : Value → Value → Value → Value → Value → M Value), GB h g N (sl ob 0 N N) → (L5_GraphPathLeast_r6 F (i64 a) (i64 b) (pt g 0) x11 K).run n h = (K (i64 a) (i64 b) (pt g 0) x11 (bo (decide ((0 ≤ a ∧ a < (N : Int)) ∧ 0 ≤ b ∧ b < (N : Int))))).run n h := fun n h x11 K gb => by
    unfold L5_GraphPathLeast_r6
    try dsimp only
    rw [st_geq, onB_ite, run_ite]
    by_cases c1 : 0 ≤ a
    · rw [if_pos (by simpa using c1), gb.nn, st_lss, onB_ite, run_ite]
      by_cases c2 : a < (N : Int)
      · rw [if_pos (by simpa using c2), st_geq, onB_ite, run_ite]
        by_cases c3 : 0 ≤ b
        · rw [if_pos (by simpa using c3), gb.nn, st_lss]
          by_cases c4 : b < (N : Int)
          · rw [decide_eq_true c4, decide_eq_true ⟨⟨c1, c2⟩, c3, c4⟩]
          · rw [decide_eq_false c4, decide_eq_false fun q => c4 q.2.2]
        · rw [if_neg (by simpa using c3), decide_eq_false fun q => c3 q.2.1]
      · rw [if_neg (by simpa using c2), decide_eq_false fun q => c2 q.1.2]
    · rw [if_neg (by simpa using c1), decide_eq_false fun q => c1 q.1.1]
  by_cases hc : (0 ≤ a ∧ a < (N : Int)) ∧ 0 ≤ b ∧ b < (N : Int)
  · obtain ⟨root, rfl⟩ : ∃ m : Nat, a = (m : Int) := ⟨a.toNat, by omega⟩
    obtain ⟨t, rfl⟩ : ∃ m : Nat, b = (m : Int) := ⟨b.toNat, by omega⟩
    have hrN : root < N := by omega
    have htN : t < N := by omega
    obtain ⟨n3, h3, v3, e3, ev3, w3⟩ := path_in (F := F) hF gr2 (Nat.le_refl _) x2.ok hrN htN ev2.f
    have gb3 := x2.var.ev ev3 x2.glt (fun h => h)
    have gr3 := gr2.no ev3 (Nat.le_refl _)
    have l3 := ev3.le
    rw [run_bnd e3, hin n3 h3 v3 _ gb3, decide_eq_true hc]
    unfold L5_GraphPathLeast_r7
    try dsimp only
    rcases w3 with ⟨rfl, nr⟩ | ⟨l, rd3, pw⟩
    · rw [st_len, st_eql, onB_ite, run_ite, if_pos (by decide)]
      unfold L5_GraphPathLeast_r8
      try dsimp only
      obtain ⟨n4, h4, p, C, e4, x4, c4, ev4⟩ := greach_one (F := F) (root := root) hF gr3 l3 x2.ok hrN ev3.f
      rw [st_not, onB_ite, run_ite, if_neg (by decide), gb3.all, show (Value.int .i64 0) = i64 0 from rfl, e4]
      obtain ⟨O4, b4, _⟩ := x4
      have hCt : C t = false := by
        cases hq : C t with
        | false => rfl
        | true => exact absurd ((c4 t).1 hq) nr
      rw [run_bnd (has_nat b4 t), hCt, st_not]
      exact ⟨n4, h4, rfl⟩
    · obtain ⟨d, hd, hll⟩ := pw.len
      have hlN := pw.small x2.ok hrN
      rw [rd3.lenI, nats_len, st_eql, onB_ite, run_ite, if_neg (by rw [beq_iff_eq]; omega)]
      unfold L5_GraphPathLeast_r9
      try dsimp only
      obtain ⟨l', hl'⟩ := pw.head
      have h0l : 0 < (nats l).length := by rw [nats_len]; omega
      have hL : l.length - 1 < (nats l).length := by rw [nats_len]; omega
      have el0 : (nats l)[0]'h0l = (root : Int) := by subst hl'; rfl
      have eL : (nats l)[l.length - 1]'hL = (t : Int) := by rw [nats_get, pw.last]
      rw [st_not, onB_ite, run_ite, if_neg (by decide), show (Value.int .i64 0) = i64 ((0 : Nat) : Int) from rfl, rd3.getI h0l, el0, st_neq, onB_ite, run_ite, if_neg (by simp), rd3.lenI, nats_len, sx_sub (by omega), show ((l.length : Int) - 1) = ((l.length - 1 : Nat) : Int) by omega, rd3.getI hL, eL, st_neq, onB_ite, run_ite, if_neg (by simp)]
      unfold L5_GraphPathLeast_r11
      try dsimp only
      rw [run_single ev3.f rfl]
      have ev4 := Ev.new ev3.f ⟨[i64 (root : Int)], .own⟩
      have rd4 : RdI (h3.set n3 ⟨[i64 (root : Int)], .own⟩) (sl n3 0 1 1) [(root : Int)] := .inr ⟨n3, 0, 1, .own, rfl, fun _ => ⟨_, H.get_set_same _ _ _, by decide, fun i hi => by rw [Nat.zero_add]; rfl⟩⟩
      unfold L5_GraphPathLeast_r12
      try dsimp only
      have ring0 : Ring adj N root (1 - 1) [(root : Int)] := ⟨⟨by simp, fun z hz => by rw [List.mem_singleton] at hz; omega⟩, fun z => by
        rw [List.mem_singleton]
        constructor
        · intro h; exact ⟨root, 0, h, Nat.zero_le _, .zero⟩
        · rintro ⟨q, k, h1, h2, h3⟩
          have : k = 0 := by omega
          subst this
          cases h3; exact h1⟩
      obtain ⟨n5, h5, rv5, ring5, e5, rr5, R5⟩ := pl_l1 (F := F) (m := n3) (g := g) (root := root) (t := t) (mB := n3) (d := d) hF x2.ok (by omega) ev3.f rd3 hll hd (fun i hi => pw.mem_lt x2.ok hrN _ (List.getElem_mem hi)) pw.steps (by omega) (Nat.le_refl _) (E := fun x3 x13 => L5_GraphPathLeast_k0 F x3 x13) d 1 F (n3 + 1) _ (sl n3 0 1 1) [(root : Int)] (by omega) (Nat.le_refl _) (by omega) (gb3.ev ev4 (by omega) (fun h => h)) ((gr3.mono ev3.f l3).no ev4 (Nat.le_refl _)) (fun c hc => ev4.no hc) rd4 ring0 (by omega) ev4.f
      rw [show (Value.int .i64 1) = i64 ((1 : Nat) : Int) from rfl, e5]
      unfold L5_GraphPathLeast_k0 L5_GraphPathLeast_r30
      try dsimp only
      have hin5 : (t : Int) ∈ ring5 := (R5.2 _).2 ⟨t, 0 + d, rfl, by omega, hd.1.wf .zero⟩
      have hl5 := R5.1.len
      rw [run_bnd (rin_spec rr5 (by omega) (by omega) _), decide_eq_true hin5]
      exact ⟨n5, h5, rfl⟩
  · obtain ⟨n3, h3, e3, ev3⟩ := path_out (F := F) hF gr2 (Nat.le_refl _) x2.ok (show a < 0 ∨ (N : Int) ≤ a ∨ b < 0 ∨ (N : Int) ≤ b by omega) ev2.f
    have gb3 := x2.var.ev ev3 x2.glt (fun h => h)
    rw [run_bnd e3, hin n3 h3 nsl _ gb3, decide_eq_false hc]
    unfold L5_GraphPathLeast_r7
    try dsimp only
    rw [st_len, st_eql, onB_ite, run_ite, if_pos (by decide)]
    unfold L5_GraphPathLeast_r8
    try dsimp only
    rw [st_not, onB_ite, run_ite, if_pos (by decide)]
    exact ⟨n3, h3, rfl⟩

theorem gleast_law (h : H) (us : List Value) (f : Fr 8 h) (hb : h.get 0 = some ⟨deB, .ro⟩) (ha : ArgsAre h [.int, .flat 2, .int, .int] us) : ∃ n' h', (L5_GraphPathLeast_m 1000000 us).run 8 h = some (.bool true, n', h') := gleast_run (Nat.le_refl _) begunD_runs begunD_keeps h us f hb ha

end Go.Fw
