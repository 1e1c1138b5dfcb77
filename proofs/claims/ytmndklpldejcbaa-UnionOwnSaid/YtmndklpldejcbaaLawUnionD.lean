/-
  UnionOwn, said of the abstract machine.
-/
import Derived.Test.YtmndklpldejcbaaLawUnionC
namespace Go.Fw

/-- A slice of slices that may be written, between lo and hi. -/
def Wr (h : H) (v : Value) (lo hi G : Nat) (ln : Nat → Nat) : Prop :=
  ∃ (ob : Nat) (iv : Nat → Value) (ib : Nat → Nat) (L : Nat → List Value), Gl h v ob (tab G iv) ∧ (G ≠ 0 → lo ≤ ob ∧ ob < hi) ∧
    (∀ j, j < G → Gl h (iv j) (ib j) (L j) ∧ (L j).length = ln j ∧ (L j ≠ [] → lo ≤ ib j ∧ ib j < hi ∧ ib j ≠ ob)) ∧ ∀ i j, i < G → j < G → i ≠ j → L i ≠ [] → L j ≠ [] → ib i ≠ ib j

theorem LL.wr {h : H} {v : Value} {lo n G : Nat} {L : Nat → List Value} (l : LL h v lo G L) (f : Fr n h) : Wr h v lo n G (fun j => (L j).length) := by
  obtain ⟨ob, iv, ib, g, hob, hi, hd⟩ := l
  exact ⟨ob, iv, ib, L, g, fun h0 => ⟨hob h0, g.lt f (tab_ne.2 h0)⟩, fun j hj => ⟨(hi j hj).1, rfl, fun h0 => ⟨((hi j hj).2 h0).1, (hi j hj).1.lt f h0, ((hi j hj).2 h0).2⟩⟩, hd⟩
theorem Wr.keep {h h' : H} {v : Value} {lo hi G : Nat} {ln : Nat → Nat} (w : Wr h v lo hi G ln) (hk : ∀ c, lo ≤ c → c < hi → h'.get c = h.get c) : Wr h' v lo hi G ln := by
  obtain ⟨ob, iv, ib, L, g, hob, hi', hd⟩ := w
  exact ⟨ob, iv, ib, L, g.keep fun h0 => hk _ (hob (tab_ne.1 h0)).1 (hob (tab_ne.1 h0)).2, hob, fun j hj => ⟨(hi' j hj).1.keep fun h0 => hk _ ((hi' j hj).2.2 h0).1 ((hi' j hj).2.2 h0).2.1, (hi' j hj).2⟩, hd⟩
theorem Wr.len {β : Type} {h : H} {v : Value} {lo hi G : Nat} {ln : Nat → Nat} (w : Wr h v lo hi G ln) {k : Value → M β} : bnd (opLen v) k = k (i64 G) := by
  obtain ⟨ob, iv, ib, L, g, _⟩ := w
  rw [g.len, tab_len]

theorem own_l3 {F n lo hi G j : Nat} {v x6 x9 : Value} {ln : Nat → Nat} (hln : ln j ≤ 5000) (hj : j < G) (hhi : hi ≤ n) {E : Value → Value → Value → Value → M Value} : ∀ m i k (h : H), i + m = ln j → m < k → Wr h v lo hi G ln → Fr n h →
    ∃ h', (haruspexlaw2_UnionOwn_l3 F E k x6 v x9 (i64 j) (i64 i)).run n h = (E x6 v x9 (i64 j)).run n h' ∧ Wr h' v lo hi G ln ∧ Fr n h' ∧ ∀ c, (c < lo ∨ hi ≤ c) → h'.get c = h.get c := by
  intro m
  induction m with
  | zero =>
    intro i k h hij hk w f
    obtain ⟨k, rfl⟩ : ∃ j, k = j + 1 := ⟨k - 1, by omega⟩
    have w0 := w
    obtain ⟨ob, iv, ib, L, g, hob, hi', hd⟩ := w
    rw [haruspexlaw2_UnionOwn_l3_s]
    unfold haruspexlaw2_UnionOwn_b3 haruspexlaw2_UnionOwn_r17
    obtain ⟨b, o, e1, e2⟩ := g.rd.ix (β := Value) (tab_get (f := iv) hj)
    rw [e1, e2, (hi' j hj).1.len]
    simp only [st_lss, onB_ite, run_ite, decide_eq_true_eq]
    rw [if_neg (by have := (hi' j hj).2.1; omega)]
    exact ⟨h, rfl, w0, f, fun _ _ => rfl⟩
  | succ m ih =>
    intro i k h hij hk w f
    obtain ⟨k, rfl⟩ : ∃ j, k = j + 1 := ⟨k - 1, by omega⟩
    obtain ⟨ob, iv, ib, L, g, hob, hi', hd⟩ := w
    have hlen := (hi' j hj).2.1
    rw [haruspexlaw2_UnionOwn_l3_s]
    unfold haruspexlaw2_UnionOwn_b3 haruspexlaw2_UnionOwn_r17
    obtain ⟨b, o, e1, e2⟩ := g.rd.ix (β := Value) (tab_get (f := iv) hj)
    rw [e1, e2, (hi' j hj).1.len]
    simp only [st_lss, onB_ite, run_ite, decide_eq_true_eq]
    rw [if_pos (by omega)]
    unfold haruspexlaw2_UnionOwn_r19
    have hne : L j ≠ [] := fun e => by rw [e] at hlen; simp at hlen; omega
    have hib := (hi' j hj).2.2 hne
    rcases (hi' j hj).1 with ⟨e, _⟩ | ⟨_, ev, hget⟩
    · exact absurd e hne
    simp only [e1, e2]
    rw [ev, st_ix, if_pos (by omega), run_store, hget, Int.toNat_natCast, Nat.mul_one, Nat.zero_add, stm_some (.inr rfl) rfl (by omega)]
    unfold haruspexlaw2_UnionOwn_r18
    simp only [st_add]
    rw [wrap64 (by omega)]
    have hset : ∀ x : Value, (L j).set i x ≠ [] := fun x e => by
      have : ((L j).set i x).length = 0 := by rw [e]; rfl
      rw [List.length_set] at this; omega
    have w' : Wr (h.set (ib j) ⟨(L j).set i (.int .i64 (-7)), .grow⟩) v lo hi G ln := by
      refine ⟨ob, iv, ib, fun q => if q = j then (L j).set i (.int .i64 (-7)) else L q, g.keep fun _ => H.get_set_ne _ _ hib.2.2.symm, hob, fun q hq => ?_, fun p q hp hq hpq h1 h2 => ?_⟩
      · dsimp only
        by_cases e : q = j
        · subst e
          rw [if_pos rfl]
          refine ⟨.inr ⟨hset _, by rw [List.length_set]; exact ev, H.get_set_same _ _ _⟩, by rw [List.length_set]; exact hlen, fun _ => hib⟩
        · rw [if_neg e]
          refine ⟨(hi' q hq).1.keep fun h0 => H.get_set_ne _ _ (hd q j hq hj e h0 hne), (hi' q hq).2⟩
      · dsimp only at h1 h2
        have h1' : L p ≠ [] := by
          by_cases e : p = j
          · rw [e]; exact hne
          · rw [if_neg e] at h1; exact h1
        have h2' : L q ≠ [] := by
          by_cases e : q = j
          · rw [e]; exact hne
          · rw [if_neg e] at h2; exact h2
        exact hd p q hp hq hpq h1' h2'
    obtain ⟨h', q1, q2, q3, q4⟩ := ih (i + 1) k _ (by omega) (by omega) w' (f.set _ (by omega))
    exact ⟨h', q1, q2, q3, fun c hc => by rw [q4 c hc, H.get_set_ne _ _ (by omega)]⟩

theorem own_l1 {F n lo hi G : Nat} {v x6 x9 : Value} {ln : Nat → Nat} (hln : ∀ j, j < G → ln j ≤ 5000) (hG : G ≤ 5000) (hF : 5000 < F) (hhi : hi ≤ n) {E : Value → Value → M Value} : ∀ m i k (h : H), i + m = G → m < k → Wr h v lo hi G ln → Fr n h →
    ∃ h', (haruspexlaw2_UnionOwn_l1 F E k x6 v x9 (i64 i)).run n h = (E x6 x9).run n h' ∧ Fr n h' ∧ ∀ c, (c < lo ∨ hi ≤ c) → h'.get c = h.get c := by
  intro m
  induction m with
  | zero =>
    intro i k h hij hk w f
    obtain ⟨k, rfl⟩ : ∃ j, k = j + 1 := ⟨k - 1, by omega⟩
    rw [haruspexlaw2_UnionOwn_l1_s]
    unfold haruspexlaw2_UnionOwn_b1 haruspexlaw2_UnionOwn_r14
    rw [w.len]
    simp only [st_lss, onB_ite, run_ite, decide_eq_true_eq]
    rw [if_neg (by omega)]
    exact ⟨h, rfl, f, fun _ _ => rfl⟩
  | succ m ih =>
    intro i k h hij hk w f
    obtain ⟨k, rfl⟩ : ∃ j, k = j + 1 := ⟨k - 1, by omega⟩
    rw [haruspexlaw2_UnionOwn_l1_s]
    unfold haruspexlaw2_UnionOwn_b1 haruspexlaw2_UnionOwn_r14
    rw [w.len]
    simp only [st_lss, onB_ite, run_ite, decide_eq_true_eq]
    rw [if_pos (by omega)]
    unfold haruspexlaw2_UnionOwn_r16
    obtain ⟨h1, e1, w1, f1, k1⟩ := own_l3 (F := F) (n := n) (j := i) (x6 := x6) (x9 := x9) (hln i (by omega)) (by omega) hhi (E := fun x6 x8 x9 x10 => haruspexlaw2_UnionOwn_k2 F (haruspexlaw2_UnionOwn_l1 F E k) x6 x8 x9 x10) (ln i) 0 F h (by omega) (by have := hln i (by omega); omega) w f
    rw [show (Value.int .i64 0) = i64 ((0 : Nat) : Int) from rfl, e1]
    unfold haruspexlaw2_UnionOwn_k2 haruspexlaw2_UnionOwn_r15
    simp only [st_add]
    rw [wrap64 (by omega)]
    obtain ⟨h', q1, q2, q3⟩ := ih (i + 1) k h1 (by omega) (by omega) w1 f1
    exact ⟨h', q1, q2, fun c hc => by rw [q3 c hc, k1 c hc]⟩

theorem own_l5 {F p b N n len : Nat} {Z : Nat → Int} {v : Value} (hF : N < F) (hp : 8 ≤ p ∧ 8 ≤ b) {E : Value → M Value} : ∀ j i k (h : H) (r : Nat → Nat), i + j = min len 20 → j < k → Fr n h → UF h p b N r → Pairs h v len Z →
    ∃ h' r', (haruspexlaw2_UnionOwn_l5 F E k v (pt p 0) (i64 i)).run n h = (E (pt p 0)).run n h' ∧ Fr n h' ∧ UF h' p b N r' := by
  intro j
  induction j with
  | zero =>
    intro i k h r hij hk f w hv
    obtain ⟨k, rfl⟩ : ∃ j, k = j + 1 := ⟨k - 1, by omega⟩
    rw [haruspexlaw2_UnionOwn_l5_s]
    unfold haruspexlaw2_UnionOwn_b5 haruspexlaw2_UnionOwn_r8
    rw [hv.len]
    simp only [st_lss, onB_ite, run_ite, decide_eq_true_eq]
    by_cases h1 : (i : Int) < len
    · rw [if_pos h1, if_neg (by omega)]
      exact ⟨h, r, rfl, f, w⟩
    · rw [if_neg h1]
      exact ⟨h, r, rfl, f, w⟩
  | succ j ih =>
    intro i k h r hij hk f w hv
    obtain ⟨k, rfl⟩ : ∃ j, k = j + 1 := ⟨k - 1, by omega⟩
    rw [haruspexlaw2_UnionOwn_l5_s]
    unfold haruspexlaw2_UnionOwn_b5 haruspexlaw2_UnionOwn_r8
    rw [hv.len]
    simp only [st_lss, onB_ite, run_ite, decide_eq_true_eq]
    rw [if_pos (by omega), if_pos (by omega)]
    unfold haruspexlaw2_UnionOwn_r10
    obtain ⟨c, e, cap, hc, hb, hc8⟩ := hv.at_ (β := Value) (i := i) (by omega)
    simp only [e, st_ixA, if_pos (show (0 : Int) ≤ 0 ∧ (0 : Int) < ((2 : Nat) : Int) by decide), if_pos (show (0 : Int) ≤ 1 ∧ (1 : Int) < ((2 : Nat) : Int) by decide), run_load, hb, show (0 : Int).toNat = 0 from rfl, show (1 : Int).toNat = 1 from rfl, Nat.zero_mul, Nat.one_mul, Nat.add_zero,
      ldm_some (show Kind.ro ≠ .dead by decide) (tab_get (show i * 2 < cap * 2 by omega)), ldm_some (show Kind.ro ≠ .dead by decide) (tab_get (show i * 2 + 1 < cap * 2 by omega))]
    obtain ⟨h1, w1, k1, e1⟩ := join_uf (n := n) w (Z (i * 2)) (Z (i * 2 + 1)) hF
    rw [run_bnd e1]
    unfold haruspexlaw2_UnionOwn_r9
    simp only [st_add]
    rw [wrap64 (by omega)]
    exact ih (i + 1) k h1 _ (by omega) (by omega) (f.run e1).1 w1 (hv.keep fun c hc => k1 c (by omega))

theorem own_run {F : Nat} (hF : 5000 < F) (hbg : gaveTrue ((haruspexlaw2_begun F).run 8 .leaf) = true) (h : H) (us : List Value) (f : Fr 8 h) (ha : ArgsAre h [.int, .flat 2] us) : ∃ n' h', (haruspexlaw2_UnionOwn_m F us).run 8 h = some (.bool true, n', h') := by
  obtain ⟨_, v, rfl, ⟨z, rfl, _⟩, hv⟩ := args2 ha
  obtain ⟨len, Z, hv, hl, _⟩ := hv.pairs f
  show ∃ n' h', (haruspexlaw2_UnionOwn F (i64 z) v).run 8 h = some (.bool true, n', h')
  unfold haruspexlaw2_UnionOwn haruspexlaw2_UnionOwn_r0 haruspexlaw2_UnionOwn_r1
  obtain ⟨n1, h1, e1, f1, g1, k1⟩ := run_true hbg f
  rw [run_bnd e1]
  have hv1 := hv.keep k1
  unfold haruspexlaw2_UnionOwn_r2
  simp only [st_not, onB_ite, Bool.not_true, Bool.false_eq_true, if_false]
  unfold haruspexlaw2_UnionOwn_r4
  simp only [st_lss, st_gtr, onB_ite, run_ite, decide_eq_true_eq, if_true]
  by_cases q1 : z < 1
  · rw [if_pos q1]; exact ⟨n1, h1, rfl⟩
  rw [if_neg q1]
  by_cases q2 : 40 < z
  · rw [if_pos q2]; exact ⟨n1, h1, rfl⟩
  rw [if_neg q2]
  obtain ⟨N, rfl⟩ : ∃ N : Nat, z = N := ⟨z.toNat, by omega⟩
  unfold haruspexlaw2_UnionOwn_r6
  obtain ⟨n2, h2, b, e2, w2, f2, g2, k2, gb⟩ := new_uf (F := F) (N : Int) f1 hF
  rw [run_bnd e2]
  rw [show (min (max (N : Int) 0) 5000).toNat = N by omega] at w2
  unfold haruspexlaw2_UnionOwn_r7
  obtain ⟨h3, r, e3, f3, w3⟩ := own_l5 (F := F) (p := n1) (b := b) (N := N) (n := n2) (len := len) (Z := Z) (v := v) (by omega) ⟨by omega, by omega⟩ (E := fun x6 => haruspexlaw2_UnionOwn_k4 F x6) (min len 20) 0 F h2 id (by omega) (by omega) f2 w2 (hv1.keep fun c hc => k2 c (by omega))
  rw [show (Value.int .i64 0) = i64 ((0 : Nat) : Int) from rfl, e3]
  have hb : n1 < n2 ∧ b < n2 := by
    obtain ⟨u, _, wi⟩ := w3
    exact ⟨g2, f3.lt (wi.up (by omega))⟩
  unfold haruspexlaw2_UnionOwn_k4 haruspexlaw2_UnionOwn_r11
  obtain ⟨n4, h4, v4, e4, w4, l4, f4, hn4, k4⟩ := groups_uf (F := F) (by omega) w3 f3
  rw [run_bnd e4]
  unfold haruspexlaw2_UnionOwn_r12
  obtain ⟨n5, h5, v5, e5, w5, l5, f5, hn5, k5⟩ := groups_uf (F := F) (by omega) w4 f4
  rw [run_bnd e5]
  unfold haruspexlaw2_UnionOwn_r13
  have hi := idx_le r N
  have wr : Wr h5 v4 n2 n4 (idx r N) (fun j => (nums (grp r N j)).length) := (l4.wr f4).keep fun c hc hc4 => k5 c hc4 fun _ => by omega
  obtain ⟨h6, e6, f6, k6⟩ := own_l1 (F := F) (n := n5) (x6 := pt n1 0) (x9 := v5) (fun j _ => by have := grp_len (r := r) (a := N) (j := j); simp only [nums, List.length_map]; omega) (by omega) hF hn5 (E := fun x6 x9 => haruspexlaw2_UnionOwn_k0 F x6 x9) (idx r N) 0 F h5 (by omega) (by omega) wr f5
  rw [show (Value.int .i64 0) = i64 ((0 : Nat) : Int) from rfl, e6]
  have w6 : UF h6 n1 b N r := w5.keep (k6 _ (.inl hb.1)) fun _ => k6 _ (.inl hb.2)
  have l6 : LL h6 v5 n4 (idx r N) fun j => nums (grp r N j) := l5.keep f5 fun c hc _ => k6 c (.inr hc)
  unfold haruspexlaw2_UnionOwn_k0 haruspexlaw2_UnionOwn_r20
  obtain ⟨n7, h7, v7, e7, w7, l7, f7, hn7, k7⟩ := groups_uf (F := F) (by omega) w6 f6
  rw [run_bnd e7]
  have l8 : LL h7 v5 n4 (idx r N) fun j => nums (grp r N j) := l6.keep f6 fun c hc hc5 => k7 c hc5 fun _ => by omega
  rw [run_bnd (groups_eq (F := F) (n := n7) (N := N) (G := 0) (n' := 0) hF (by omega) l7.rd l8.rd)]
  exact ⟨n7, h7, rfl⟩

theorem own_law (h : H) (us : List Value) (f : Fr 8 h) (ha : ArgsAre h [.int, .flat 2] us) : ∃ n' h', (haruspexlaw2_UnionOwn_m 6000 us).run 8 h = some (.bool true, n', h') := own_run (by decide) begun_runs h us f ha

end Go.Fw
