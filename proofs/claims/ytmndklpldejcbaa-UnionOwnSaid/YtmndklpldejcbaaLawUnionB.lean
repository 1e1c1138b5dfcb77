/-
  UnionFind, said of the abstract machine.
-/
import Derived.Test.YtmndklpldejcbaaLawUnionA
namespace Go.Fw

theorem find_loop {F p b N n len : Nat} {Z : Nat → Int} {v x2 x3 : Value} (hF : N < F) (hp : 8 ≤ p ∧ 8 ≤ b) {E : Value → Value → Value → M Value} : ∀ j i k (h : H) (r : Nat → Nat), i + j = min len 40 → j < k → Fr n h → UF h p b N r → Pairs h v len Z →
    ∃ h' r', (haruspexlaw2_UnionFind_l1 F E k v x2 x3 (pt p 0) (i64 i)).run n h = (E x2 x3 (pt p 0)).run n h' ∧ Fr n h' ∧ UF h' p b N r' := by
  intro j
  induction j with
  | zero =>
    intro i k h r hij hk f w hv
    obtain ⟨k, rfl⟩ : ∃ j, k = j + 1 := ⟨k - 1, by omega⟩
    rw [haruspexlaw2_UnionFind_l1_s]
    unfold haruspexlaw2_UnionFind_b1 haruspexlaw2_UnionFind_r8
    rw [hv.len]
    simp only [st_lss, onB_ite, run_ite, decide_eq_true_eq]
    by_cases h1 : (i : Int) < len
    · rw [if_pos h1, if_neg (by omega)]
      exact ⟨h, r, rfl, f, w⟩
    · rw [if_neg h1]
      exact ⟨h, r, rfl, f, w⟩
  | succ j ih =>
    intro i k h r hij hk f w hv
    obtain ⟨k, rfl⟩ : ∃ j, k = j + 1 := ⟨k - 1, by omega⟩
    rw [haruspexlaw2_UnionFind_l1_s]
    unfold haruspexlaw2_UnionFind_b1 haruspexlaw2_UnionFind_r8
    rw [hv.len]
    simp only [st_lss, onB_ite, run_ite, decide_eq_true_eq]
    rw [if_pos (by omega), if_pos (by omega)]
    unfold haruspexlaw2_UnionFind_r10
    obtain ⟨c, e, cap, hc, hb, hc8⟩ := hv.at_ (β := Value) (i := i) (by omega)
    simp only [e, st_ixA, if_pos (show (0 : Int) ≤ 0 ∧ (0 : Int) < ((2 : Nat) : Int) by decide), if_pos (show (0 : Int) ≤ 1 ∧ (1 : Int) < ((2 : Nat) : Int) by decide), run_load, hb, show (0 : Int).toNat = 0 from rfl, show (1 : Int).toNat = 1 from rfl, Nat.zero_mul, Nat.one_mul, Nat.add_zero,
      ldm_some (show Kind.ro ≠ .dead by decide) (tab_get (show i * 2 < cap * 2 by omega)), ldm_some (show Kind.ro ≠ .dead by decide) (tab_get (show i * 2 + 1 < cap * 2 by omega))]
    obtain ⟨h1, w1, k1, e1⟩ := join_uf (n := n) w (Z (i * 2)) (Z (i * 2 + 1)) hF
    rw [run_bnd e1]
    unfold haruspexlaw2_UnionFind_r9
    simp only [st_add]
    rw [wrap64 (by omega)]
    exact ih (i + 1) k h1 _ (by omega) (by omega) (f.run e1).1 w1 (hv.keep fun c hc => k1 c (by omega))

theorem find_run {F : Nat} (hF : 5000 < F) (hbg : gaveTrue ((haruspexlaw2_begun F).run 8 .leaf) = true) (h : H) (us : List Value) (f : Fr 8 h) (ha : ArgsAre h [.int, .flat 2, .int, .int] us) : ∃ n' h', (haruspexlaw2_UnionFind_m F us).run 8 h = some (.bool true, n', h') := by
  obtain ⟨_, v, _, _, rfl, ⟨z, rfl, _⟩, hv, ⟨a, rfl, _⟩, ⟨c, rfl, _⟩⟩ := args4 ha
  obtain ⟨len, Z, hv, hl, _⟩ := hv.pairs f
  show ∃ n' h', (haruspexlaw2_UnionFind F (i64 z) v (i64 a) (i64 c)).run 8 h = some (.bool true, n', h')
  unfold haruspexlaw2_UnionFind haruspexlaw2_UnionFind_r0 haruspexlaw2_UnionFind_r1
  obtain ⟨n1, h1, e1, f1, g1, k1⟩ := run_true hbg f
  rw [run_bnd e1]
  have hv1 := hv.keep k1
  unfold haruspexlaw2_UnionFind_r2
  simp only [st_not, onB_ite, Bool.not_true, Bool.false_eq_true, if_false]
  unfold haruspexlaw2_UnionFind_r4
  simp only [st_lss, st_gtr, st_geq, onB_ite, run_ite, decide_eq_true_eq, if_true]
  by_cases q1 : z < 1
  · rw [if_pos q1]; exact ⟨n1, h1, rfl⟩
  rw [if_neg q1]
  by_cases q2 : 60 < z
  · rw [if_pos q2]; exact ⟨n1, h1, rfl⟩
  rw [if_neg q2]
  by_cases q3 : a < 0
  · rw [if_pos q3]; exact ⟨n1, h1, rfl⟩
  rw [if_neg q3]
  by_cases q4 : z ≤ a
  · rw [if_pos q4]; exact ⟨n1, h1, rfl⟩
  rw [if_neg q4]
  by_cases q5 : c < 0
  · rw [if_pos q5]; exact ⟨n1, h1, rfl⟩
  rw [if_neg q5]
  by_cases q6 : z ≤ c
  · rw [if_pos q6]; exact ⟨n1, h1, rfl⟩
  rw [if_neg q6]
  obtain ⟨N, rfl⟩ : ∃ N : Nat, z = N := ⟨z.toNat, by omega⟩
  obtain ⟨a, rfl⟩ : ∃ N : Nat, a = N := ⟨a.toNat, by omega⟩
  obtain ⟨c, rfl⟩ : ∃ N : Nat, c = N := ⟨c.toNat, by omega⟩
  unfold haruspexlaw2_UnionFind_r6
  obtain ⟨n2, h2, b, e2, w2, f2, g2, k2, gb⟩ := new_uf (F := F) (N : Int) f1 hF
  rw [run_bnd e2]
  rw [show (min (max (N : Int) 0) 5000).toNat = N by omega] at w2
  unfold haruspexlaw2_UnionFind_r7
  obtain ⟨h3, r, e3, f3, w3⟩ := find_loop (F := F) (p := n1) (b := b) (N := N) (n := n2) (len := len) (Z := Z) (v := v) (x2 := i64 a) (x3 := i64 c) (by omega) ⟨by omega, by omega⟩ (E := fun x2 x3 x10 => haruspexlaw2_UnionFind_k0 F x2 x3 x10) (min len 40) 0 F h2 id (by omega) (by omega) f2 w2 (hv1.keep fun c hc => k2 c (by omega))
  rw [show (Value.int .i64 0) = i64 ((0 : Nat) : Int) from rfl, e3]
  have hle := w3.le
  have hid := w3.idem
  have hla := hle a
  have hlc := hle c
  unfold haruspexlaw2_UnionFind_k0 haruspexlaw2_UnionFind_r11
  obtain ⟨h4, w4, _, e4⟩ := find_uf (n := n2) w3 (a : Int) (show N < F by omega)
  obtain ⟨h5, w5, _, e5⟩ := find_uf (n := n2) w4 (c : Int) (show N < F by omega)
  rw [run_bnd e4, run_bnd e5, fnd_in (show a < N by omega), fnd_in (show c < N by omega)]
  unfold haruspexlaw2_UnionFind_r12
  obtain ⟨h6, w6, _, e6⟩ := find_uf (n := n2) w5 (r a : Int) (show N < F by omega)
  rw [run_bnd e6, fnd_in (show r a < N by omega), hid]
  simp only [st_eql, st_leq, onB_ite, run_ite, beq_self_eq_true, if_true, decide_eq_true_eq]
  rw [if_pos (by omega)]
  obtain ⟨h7, w7, _, e7⟩ := same_uf (n := n2) w6 (a : Int) (c : Int) (show N < F by omega)
  rw [run_bnd e7]
  have s1 : sm N r a c = ((r a : Int) == (r c : Int)) := by
    unfold sm; rw [fnd_in (show a < N by omega), fnd_in (show c < N by omega), decide_eq_true (by omega), Bool.true_and]; rfl
  simp only [st_eqB, s1, onB_ite, run_ite, beq_self_eq_true, Bool.false_xor, if_true]
  obtain ⟨h8, w8, _, e8⟩ := same_uf (n := n2) w7 (a : Int) (r a : Int) (show N < F by omega)
  rw [run_bnd e8]
  have s2 : sm N r a (r a : Int) = true := by
    unfold sm; rw [fnd_in (show a < N by omega), fnd_in (show r a < N by omega), hid, decide_eq_true (by omega), decide_eq_true rfl]; rfl
  simp only [s2, onB_ite, run_ite, if_true]
  obtain ⟨h9, w9, _, e9⟩ := join_uf (n := n2) w8 (a : Int) (c : Int) (show N < F by omega)
  rw [run_bnd e9]
  have s3 : jb N r a c = ((r a : Int) != (r c : Int)) := by
    unfold jb
    rw [decide_eq_true (show 0 ≤ (a : Int) ∧ (a : Int) < N ∧ 0 ≤ (c : Int) ∧ (c : Int) < N by omega), Bool.true_and, Int.toNat_natCast, Int.toNat_natCast]
    by_cases hq : r a = r c
    · simp [hq]
    · rw [decide_eq_true hq]; symm; rw [bne_iff_ne]; omega
  simp only [st_neq, st_eqB, s3, onB_ite, run_ite, beq_self_eq_true, Bool.false_xor, if_true]
  have t1 : jn N r a c a = min (r a) (r c) := by
    unfold jn
    rw [s3, Int.toNat_natCast, Int.toNat_natCast]
    by_cases hq : r a = r c
    · rw [if_neg (by simp [hq])]; omega
    · rw [if_pos (by rw [bne_iff_ne]; omega)]; split <;> omega
  have t2 : jn N r a c c = min (r a) (r c) := by
    unfold jn
    rw [s3, Int.toNat_natCast, Int.toNat_natCast]
    by_cases hq : r a = r c
    · rw [if_neg (by simp [hq])]; omega
    · rw [if_pos (by rw [bne_iff_ne]; omega)]; split <;> omega
  have e1' : (if (r c : Int) < (r a : Int) then (r c : Int) else (r a : Int)) = ((min (r a) (r c) : Nat) : Int) := by split <;> omega
  obtain ⟨h10, w10, _, e10⟩ := find_uf (n := n2) w9 (a : Int) (show N < F by omega)
  rw [run_bnd e10, fnd_in (show a < N by omega), t1]
  simp only [st_min, e1', st_eql, onB_ite, run_ite, beq_self_eq_true, if_true]
  obtain ⟨h11, w11, _, e11⟩ := find_uf (n := n2) w10 (c : Int) (show N < F by omega)
  rw [run_bnd e11, fnd_in (show c < N by omega), t2]
  simp only [st_min, e1', st_eql, beq_self_eq_true]
  exact ⟨n2, h11, rfl⟩

theorem find_law (h : H) (us : List Value) (f : Fr 8 h) (ha : ArgsAre h [.int, .flat 2, .int, .int] us) : ∃ n' h', (haruspexlaw2_UnionFind_m 6000 us).run 8 h = some (.bool true, n', h') := find_run (by decide) begun_runs h us f ha

end Go.Fw
