/-
  UnionNone and UnionChain, said of the abstract machine.
-/
import Derived.Test.YtmndklpldejcbaaLawUnion
import Derived.Test.YtmndklpldejcbaaFwT
namespace Go.Fw

theorem begun_runs : gaveTrue ((haruspexlaw2_begun 6000).run 8 .leaf) = true := by kernel_rfl

theorem idx_id : ∀ i, idx id i = i
  | 0 => rfl
  | i + 1 => by show idx id i + (if id i = i then 1 else 0) = _; rw [idx_id i]; simp

theorem none_runs : ∃ n' h', (haruspexlaw2_UnionNone 6000).run 8 .leaf = some (bo true, n', h') := by
  have f0 : Fr 8 .leaf := fun b _ => rfl
  unfold haruspexlaw2_UnionNone haruspexlaw2_UnionNone_r0 haruspexlaw2_UnionNone_r1 haruspexlaw2_UnionNone_r2
  obtain ⟨n1, h1, e1, f1, _⟩ := run_true begun_runs f0
  rw [run_bnd e1]
  simp only [onB_ite, if_true]
  rw [run_bnd (show (union_Union_Find 6000 (.pointer none) (.int .i64 0)).run n1 h1 = some (i64 (-1), n1, h1) from rfl)]
  simp only [st_eql, onB_ite, beq_self_eq_true, if_true]
  rw [run_bnd (show (union_Union_Join 6000 (.pointer none) (.int .i64 0) (.int .i64 1)).run n1 h1 = some (bo false, n1, h1) from rfl)]
  simp only [st_not, onB_ite, Bool.not_false, if_true]
  rw [run_bnd (show (union_Union_Same 6000 (.pointer none) (.int .i64 0) (.int .i64 0)).run n1 h1 = some (bo false, n1, h1) from rfl)]
  simp only [st_not, onB_ite, Bool.not_false, if_true]
  rw [run_bnd (show (union_Union_Groups 6000 (.pointer none)).run n1 h1 = some (nsl, n1, h1) from rfl)]
  simp only [st_len, st_eql, onB_ite, Int.natCast_zero, beq_self_eq_true, if_true]
  rw [run_bnd (show (union_Union_Len 6000 (.pointer none)).run n1 h1 = some (i64 0, n1, h1) from rfl)]
  simp only [st_eql, onB_ite, beq_self_eq_true, if_true]
  obtain ⟨n2, h2, b2, e2, w2, f2, _⟩ := new_uf (F := 6000) (-5) f1 (by decide)
  rw [run_bnd e2]
  obtain ⟨n3, h3, e3, _, f3, _⟩ := len_uf (F := 6000) (by omega) w2 f2
  rw [run_bnd e3]
  rw [show (min (max (-5 : Int) 0) 5000).toNat = 0 from rfl]
  simp only [st_eql, onB_ite, idx_id, Int.natCast_zero, beq_self_eq_true, if_true]
  obtain ⟨n4, h4, b4, e4, w4, f4, _⟩ := new_uf (F := 6000) 9999 f3 (by decide)
  rw [run_bnd e4]
  obtain ⟨n5, h5, e5, _, f5, _⟩ := len_uf (F := 6000) (by omega) w4 f4
  rw [run_bnd e5]
  rw [show (min (max (9999 : Int) 0) 5000).toNat = 5000 from rfl]
  simp only [st_eql, idx_id]
  exact ⟨n5, h5, rfl⟩

theorem none_law (h : H) (us : List Value) (f : Fr 8 h) (ha : ArgsAre h [] us) : ∃ n' h', (haruspexlaw2_UnionNone_m 6000 us).run 8 h = some (.bool true, n', h') := by
  cases us with
  | cons _ _ => cases ha
  | nil =>
    obtain ⟨n', h0, e⟩ := none_runs
    obtain ⟨h', e', _⟩ := run_closed e f
    exact ⟨n', h', e'⟩

/-! ## UnionChain -/

def ru (i k : Nat) : Nat := if k < i then 0 else k
def rv (i k : Nat) : Nat := if k < i then k % 2 else k

theorem ru_next {N i : Nat} (h0 : 0 < i) (hN : i < N) : jn N (ru i) (i : Int) ((i : Int) - 1) = ru (i + 1) := by
  funext k
  have e1 : ((i : Int) - 1).toNat = i - 1 := by omega
  have hi : ru i i = i := by simp [ru]
  have hi1 : ru i (i - 1) = 0 := by simp [ru]; omega
  have hj : jb N (ru i) (i : Int) ((i : Int) - 1) = true := by
    unfold jb
    rw [Int.toNat_natCast, e1, hi, hi1]
    simp; omega
  unfold jn
  rw [if_pos hj, Int.toNat_natCast, e1, hi, hi1]
  unfold ru
  by_cases h1 : k < i
  · rw [if_pos h1]; repeat' split
    all_goals omega
  · rw [if_neg h1]; repeat' split
    all_goals omega

theorem rv_next {N i : Nat} (h0 : 1 < i) (hN : i < N) : jn N (rv i) (i : Int) ((i : Int) - 2) = rv (i + 1) := by
  funext k
  have e1 : ((i : Int) - 2).toNat = i - 2 := by omega
  have hi : rv i i = i := by simp [rv]
  have hi1 : rv i (i - 2) = i % 2 := by simp only [rv]; rw [if_pos (by omega)]; omega
  have hj : jb N (rv i) (i : Int) ((i : Int) - 2) = true := by
    unfold jb
    rw [Int.toNat_natCast, e1, hi, hi1]
    simp; omega
  unfold jn
  rw [if_pos hj, Int.toNat_natCast, e1, hi, hi1]
  unfold rv
  by_cases h1 : k < i
  · rw [if_pos h1]; repeat' split
    all_goals omega
  · rw [if_neg h1]
    by_cases h2 : k = i
    · subst h2; repeat' split
      all_goals omega
    · repeat' split
      all_goals omega

theorem idx_ru {N : Nat} : ∀ {i}, i ≤ N → 0 < i → idx (ru N) i = 1
  | 0, _, h => by omega
  | i + 1, hN, _ => by
    show idx (ru N) i + (if ru N i = i then 1 else 0) = 1
    have e : ru N i = 0 := by simp [ru]; omega
    rw [e]
    by_cases h : i = 0
    · subst h; rfl
    · rw [idx_ru (by omega) (by omega), if_neg (Ne.symm h)]
theorem idx_rv {N : Nat} : ∀ {i}, i ≤ N → 1 < i → idx (rv N) i = 2
  | 0, _, h => by omega
  | 1, _, h => by omega
  | 2, hN, _ => by
    show 0 + (if rv N 0 = 0 then 1 else 0) + (if rv N 1 = 1 then 1 else 0) = 2
    have e0 : rv N 0 = 0 := by simp [rv]
    have e1 : rv N 1 = 1 := by simp [rv]
    rw [e0, e1]; rfl
  | i + 3, hN, _ => by
    show idx (rv N) (i + 2) + (if rv N (i + 2) = i + 2 then 1 else 0) = 2
    rw [idx_rv (by omega) (by omega)]
    have : rv N (i + 2) = (i + 2) % 2 := by simp only [rv]; rw [if_pos (by omega)]
    rw [this, if_neg (by omega)]

/-- Two unions beside one another. -/
structure Two (h : H) (p b p' b' N : Nat) (r r' : Nat → Nat) : Prop where
  u : UF h p b N r
  v : UF h p' b' N r'
  n1 : N ≠ 0 → p ≠ b'
  n2 : N ≠ 0 → p' ≠ b
  n3 : N ≠ 0 → b ≠ b'

theorem Two.left {h h' : H} {p b p' b' N : Nat} {r r' r1 : Nat → Nat} (t : Two h p b p' b' N r r') (k : Keeps N b h h') (w : UF h' p b N r1) : Two h' p b p' b' N r1 r' := ⟨w, t.v.keep (k _ t.n2) fun h0 => k _ fun _ => (t.n3 h0).symm, t.n1, t.n2, t.n3⟩
theorem Two.right {h h' : H} {p b p' b' N : Nat} {r r' r1 : Nat → Nat} (t : Two h p b p' b' N r r') (k : Keeps N b' h h') (w : UF h' p' b' N r1) : Two h' p b p' b' N r r1 := ⟨t.u.keep (k _ t.n1) fun h0 => k _ t.n3, w, t.n1, t.n2, t.n3⟩

theorem two_new {F n N : Nat} {h : H} (hN2 : N ≤ 5000) (hF : 5000 < F) (f : Fr n h) {k : Value → Value → M Value} :
    ∃ n' h' p b p' b', (bnd (union_New F (i64 (N : Int))) fun u => bnd (union_New F (i64 (N : Int))) fun v => k u v).run n h = (k (pt p 0) (pt p' 0)).run n' h' ∧ Two h' p b p' b' N id id ∧ Fr n' h' ∧ p < n' ∧ p' < n' ∧ (N ≠ 0 → b < n') ∧ (N ≠ 0 → b' < n') ∧ n ≤ p ∧ n ≤ b ∧ n ≤ p' ∧ n ≤ b' ∧ n ≤ n' ∧ ∀ c, c < n → h'.get c = h.get c := by
  have em : (min (max (N : Int) 0) 5000).toNat = N := by omega
  obtain ⟨n1, h1, b1, e1, w1, f1, l1, k1, g1⟩ := new_uf (F := F) (N : Int) f hF
  obtain ⟨n2, h2, b2, e2, w2, f2, l2, k2, g2⟩ := new_uf (F := F) (N : Int) f1 hF
  rw [em] at w1 w2
  have hb1 : N ≠ 0 → b1 < n1 := by
    intro h0
    obtain ⟨u, _, wi⟩ := w1
    exact f1.lt (wi.up h0)
  have hb2 : N ≠ 0 → b2 < n2 := by
    intro h0
    obtain ⟨u, _, wi⟩ := w2
    exact f2.lt (wi.up h0)
  refine ⟨n2, h2, n, b1, n1, b2, by rw [run_bnd e1, run_bnd e2], ⟨w1.keep (k2 _ (by omega)) fun h0 => k2 _ (hb1 h0), w2, by omega, by omega, by omega⟩, f2, by omega, by omega, fun h0 => by have := hb1 h0; omega, hb2, by omega,  by omega, by omega, by omega, by omega, fun c hc => by rw [k2 c (by omega), k1 c hc]⟩

theorem chain_l3 {F p b p' b' N n : Nat} (hF : N < F) (hN : N ≤ 400) {E : Value → Value → Value → M Value} : ∀ j i k (h : H), i + j = N → 0 < i → j < k → Fr n h → Two h p b p' b' N (ru i) (rv (max i 2)) →
    ∃ h', (haruspexlaw2_UnionChain_l3 F E k (i64 N) (pt p 0) (pt p' 0) (i64 i)).run n h = (E (i64 N) (pt p 0) (pt p' 0)).run n h' ∧ Fr n h' ∧ Two h' p b p' b' N (ru N) (rv (max N 2)) := by
  intro j
  induction j with
  | zero =>
    intro i k h hij _ hk f t
    obtain ⟨k, rfl⟩ : ∃ j, k = j + 1 := ⟨k - 1, by omega⟩
    obtain rfl : i = N := by omega
    rw [haruspexlaw2_UnionChain_l3_s]
    unfold haruspexlaw2_UnionChain_b3 haruspexlaw2_UnionChain_r8
    simp only [st_lss, onB_ite, run_ite, decide_eq_true_eq, if_neg (show ¬ ((i : Int) < i) by omega)]
    exact ⟨h, rfl, f, t⟩
  | succ j ih =>
    intro i k h hij h0 hk f t
    obtain ⟨k, rfl⟩ : ∃ j, k = j + 1 := ⟨k - 1, by omega⟩
    rw [haruspexlaw2_UnionChain_l3_s]
    unfold haruspexlaw2_UnionChain_b3 haruspexlaw2_UnionChain_r8 haruspexlaw2_UnionChain_r10
    simp only [st_lss, onB_ite, run_ite, decide_eq_true_eq, if_pos (show (i : Int) < (N : Int) by omega), st_sub]
    rw [wrap64 (by omega)]
    obtain ⟨h1, w1, k1, e1⟩ := join_uf (n := n) t.u (i : Int) ((i : Int) - 1) hF
    rw [run_bnd e1]
    rw [ru_next h0 (by omega)] at w1
    have t1 := t.left k1 w1
    have f1 := (f.run e1).1
    unfold haruspexlaw2_UnionChain_r11
    simp only [st_gtr, onB_ite, run_ite, decide_eq_true_eq]
    by_cases h2 : 1 < i
    · rw [if_pos (by omega)]
      unfold haruspexlaw2_UnionChain_r12
      simp only [st_sub]
      rw [wrap64 (by omega)]
      obtain ⟨h3, w3, k3, e3⟩ := join_uf (n := n) t1.v (i : Int) ((i : Int) - 2) hF
      rw [run_bnd e3]
      rw [show max i 2 = i by omega, rv_next h2 (by omega)] at w3
      have t3 := t1.right k3 w3
      unfold haruspexlaw2_UnionChain_k4 haruspexlaw2_UnionChain_r9
      simp only [st_add]
      rw [wrap64 (by omega)]
      exact ih (i + 1) k h3 (by omega) (by omega) (by omega) (f1.run e3).1 (by rw [show max (i + 1) 2 = i + 1 by omega]; exact t3)
    · rw [if_neg (by omega)]
      unfold haruspexlaw2_UnionChain_k4 haruspexlaw2_UnionChain_r9
      simp only [st_add]
      rw [wrap64 (by omega)]
      exact ih (i + 1) k h1 (by omega) (by omega) (by omega) f1 (by rw [show max (i + 1) 2 = max i 2 by omega]; exact t1)

theorem chain_l1 {F p b p' b' N n : Nat} (hF : N < F) (hN : 2 < N ∧ N ≤ 400) {E : Value → Value → M Value} : ∀ j i k (h : H), i + j = N → j < k → Fr n h → Two h p b p' b' N (ru N) (rv N) →
    ∃ h', (haruspexlaw2_UnionChain_l1 F E k (i64 N) (pt p 0) (pt p' 0) (i64 i)).run n h = (E (pt p 0) (pt p' 0)).run n h' ∧ Fr n h' ∧ Two h' p b p' b' N (ru N) (rv N) := by
  intro j
  induction j with
  | zero =>
    intro i k h hij hk f t
    obtain ⟨k, rfl⟩ : ∃ j, k = j + 1 := ⟨k - 1, by omega⟩
    obtain rfl : i = N := by omega
    rw [haruspexlaw2_UnionChain_l1_s]
    unfold haruspexlaw2_UnionChain_b1 haruspexlaw2_UnionChain_r14
    simp only [st_lss, onB_ite, run_ite, decide_eq_true_eq, if_neg (show ¬ ((i : Int) < i) by omega)]
    exact ⟨h, rfl, f, t⟩
  | succ j ih =>
    intro i k h hij hk f t
    obtain ⟨k, rfl⟩ : ∃ j, k = j + 1 := ⟨k - 1, by omega⟩
    rw [haruspexlaw2_UnionChain_l1_s]
    unfold haruspexlaw2_UnionChain_b1 haruspexlaw2_UnionChain_r14 haruspexlaw2_UnionChain_r16
    simp only [st_lss, onB_ite, run_ite, decide_eq_true_eq, if_pos (show (i : Int) < (N : Int) by omega)]
    obtain ⟨h1, w1, k1, e1⟩ := find_uf (n := n) t.u (i : Int) hF
    have t1 := t.left k1 w1
    rw [run_bnd e1, fnd_in (by omega), show ru N i = 0 by simp [ru]; omega]
    simp only [st_neq, onB_ite, run_ite]
    rw [if_neg (by simp)]
    obtain ⟨h2, w2, k2, e2⟩ := find_uf (n := n) t1.v (i : Int) hF
    have t2 := t1.right k2 w2
    rw [run_bnd e2, fnd_in (by omega), show rv N i = i % 2 by simp only [rv]; rw [if_pos (by omega)], st_rem (by decide)]
    simp only [st_neq, onB_ite, run_ite]
    rw [if_neg (by
      have : (((i % 2 : Nat) : Int)) = (i : Int).tmod 2 := rfl
      rw [← this]; simp)]
    unfold haruspexlaw2_UnionChain_r15
    simp only [st_add]
    rw [wrap64 (by omega)]
    exact ih (i + 1) k h2 (by omega) (by omega) ((f.run e1).1.run e2).1 t2

theorem chain_run {F : Nat} (hF : 5000 < F) (hbg : gaveTrue ((haruspexlaw2_begun F).run 8 .leaf) = true) (h : H) (us : List Value) (f : Fr 8 h) (ha : ArgsAre h [.int] us) : ∃ n' h', (haruspexlaw2_UnionChain_m F us).run 8 h = some (.bool true, n', h') := by
  obtain ⟨_, rfl, z, rfl, _⟩ := args1 ha
  show ∃ n' h', (haruspexlaw2_UnionChain F (i64 z)).run 8 h = some (.bool true, n', h')
  unfold haruspexlaw2_UnionChain haruspexlaw2_UnionChain_r0 haruspexlaw2_UnionChain_r1
  obtain ⟨n1, h1, e1, f1, _⟩ := run_true hbg f
  rw [run_bnd e1]
  unfold haruspexlaw2_UnionChain_r2
  simp only [st_not, onB_ite, Bool.not_true, Bool.false_eq_true, if_false]
  unfold haruspexlaw2_UnionChain_r4
  simp only [st_lss, st_gtr, onB_ite, run_ite, decide_eq_true_eq, if_true]
  by_cases hz : z < 3
  · rw [if_pos hz]; exact ⟨n1, h1, rfl⟩
  · rw [if_neg hz]
    by_cases hz2 : 400 < z
    · rw [if_pos hz2]; exact ⟨n1, h1, rfl⟩
    · rw [if_neg hz2]
      obtain ⟨N, rfl⟩ : ∃ N : Nat, z = N := ⟨z.toNat, by omega⟩
      unfold haruspexlaw2_UnionChain_r6
      obtain ⟨n2, h2, p, b, p', b', e2, t2, f2, _⟩ := two_new (F := F) (N := N) (by omega) hF f1 (k := fun u v => haruspexlaw2_UnionChain_r7 F (i64 N) u v fun x0 x4 x5 x6 => haruspexlaw2_UnionChain_l3 F (fun x0 x4 x5 => haruspexlaw2_UnionChain_k2 F x0 x4 x5) F x0 x4 x5 x6)
      rw [e2]
      unfold haruspexlaw2_UnionChain_r7
      have i1 : ru 1 = id := by funext k; simp only [ru, id]; split <;> omega
      have i2 : rv 2 = id := by funext k; simp only [rv, id]; split <;> omega
      obtain ⟨h3, e3, f3, t3⟩ := chain_l3 (F := F) (n := n2) (N := N) (by omega) (by omega) (E := fun x0 x4 x5 => haruspexlaw2_UnionChain_k2 F x0 x4 x5) (N - 1) 1 F h2 (by omega) (by omega) (by omega) f2 (by rw [i1, show max 1 2 = 2 from rfl, i2]; exact t2)
      rw [show (Value.int .i64 1) = i64 ((1 : Nat) : Int) from rfl, e3]
      rw [show max N 2 = N by omega] at t3
      unfold haruspexlaw2_UnionChain_k2 haruspexlaw2_UnionChain_r13
      obtain ⟨h4, e4, f4, t4⟩ := chain_l1 (F := F) (n := n2) (N := N) (by omega) (by omega) (E := fun x4 x5 => haruspexlaw2_UnionChain_k0 F x4 x5) N 0 F h3 (by omega) (by omega) f3 t3
      rw [show (Value.int .i64 0) = i64 ((0 : Nat) : Int) from rfl, e4]
      unfold haruspexlaw2_UnionChain_k0 haruspexlaw2_UnionChain_r18
      obtain ⟨n5, h5, e5, w5, f5, l5, k5⟩ := len_uf (F := F) (by omega) t4.u f4
      rw [run_bnd e5, idx_ru (Nat.le_refl _) (by omega)]
      simp only [st_eql, onB_ite, run_ite]
      rw [if_pos (show (((1 : Nat) : Int) == 1) = true from rfl)]
      have hN0 : N ≠ 0 := by omega
      have hb : p' < n2 ∧ b' < n2 := by
        obtain ⟨u, _, wi⟩ := t4.v
        exact ⟨f4.lt wi.ptr, f4.lt (wi.up hN0)⟩
      obtain ⟨n6, h6, e6, w6, f6, l6, k6⟩ := len_uf (F := F) (by omega) (t4.v.keep (k5 _ hb.1 t4.n2) fun h0 => k5 _ hb.2 fun _ => (t4.n3 h0).symm) f5
      rw [run_bnd e6, idx_rv (Nat.le_refl _) (by omega)]
      exact ⟨n6, h6, rfl⟩

theorem chain_law (h : H) (us : List Value) (f : Fr 8 h) (ha : ArgsAre h [.int] us) : ∃ n' h', (haruspexlaw2_UnionChain_m 6000 us).run 8 h = some (.bool true, n', h') := chain_run (by decide) begun_runs h us f ha

end Go.Fw
