/-
  What the functions of package union come to, said of the abstract machine.
-/
import Derived.Test.YtmndklpldejcbaaGenA
import Derived.Test.YtmndklpldejcbaaFwS
namespace Go.Fw

/-! ## Who leads -/
def root (u : Nat → Nat) (i : Nat) : Nat := if u i < i then root u (u i) else i
termination_by i

def Wf (N : Nat) (u : Nat → Nat) : Prop := ∀ i, i < N → u i ≤ i

theorem root_step {u : Nat → Nat} {i : Nat} (h : u i < i) : root u i = root u (u i) := by rw [root, if_pos h]
theorem root_stop {u : Nat → Nat} {i : Nat} (h : ¬ u i < i) : root u i = i := by rw [root, if_neg h]
theorem root_le (u : Nat → Nat) : ∀ i, root u i ≤ i := by
  intro i
  induction i using Nat.strongRecOn with
  | ind i ih =>
    rw [root]
    split
    · have := ih (u i) (by omega); omega
    · exact Nat.le_refl _
theorem root_fix {N : Nat} {u : Nat → Nat} (hu : Wf N u) : ∀ i, i < N → u (root u i) = root u i := by
  intro i
  induction i using Nat.strongRecOn with
  | ind i ih =>
    intro hi
    rw [root]
    split
    · exact ih (u i) (by omega) (by omega)
    · have := hu i hi; omega
theorem root_root {u : Nat → Nat} : ∀ i, root u (root u i) = root u i := by
  intro i
  induction i using Nat.strongRecOn with
  | ind i ih =>
    by_cases h : u i < i
    · rw [root_step h]; exact ih _ h
    · rw [root_stop h, root_stop h]

def upd (u : Nat → Nat) (a t : Nat) : Nat → Nat := fun i => if i = a then t else u i

theorem Wf.upd {N : Nat} {u : Nat → Nat} (hu : Wf N u) {a t : Nat} (h : t ≤ a) : Wf N (upd u a t) := by
  intro i hi
  unfold Fw.upd
  split
  · omega
  · exact hu i hi

/-- A way that is cut short leads to the same. -/
theorem root_short {N : Nat} {u : Nat → Nat} (_hu : Wf N u) {a : Nat} : ∀ i, root (upd u a (root u a)) i = root u i := by
  intro i
  induction i using Nat.strongRecOn with
  | ind i ih =>
    by_cases ha : i = a
    · subst ha
      have hl := root_le u i
      by_cases h : root u i < i
      · rw [root_step (by simpa [upd] using h)]
        have : upd u i (root u i) i = root u i := by simp [upd]
        rw [this, ih _ h, root_root]
      · rw [root_stop (by simpa [upd] using h)]
        omega
    · have e : upd u a (root u a) i = u i := by simp [upd, ha]
      by_cases h : u i < i
      · rw [root_step (by rw [e]; exact h), e, ih _ h, root_step h]
      · rw [root_stop (by rw [e]; exact h), root_stop h]

/-- Two led by one. -/
theorem root_join {u : Nat → Nat} {x y : Nat} (hx : root u x = x) (hy : root u y = y) (hxy : x < y) : ∀ i, root (upd u y x) i = if root u i = y then x else root u i := by
  intro i
  induction i using Nat.strongRecOn with
  | ind i ih =>
    by_cases hi : i = y
    · subst hi
      have e : upd u i x i = x := by simp [upd]
      rw [root_step (by rw [e]; exact hxy), e, ih x hxy, hx, hy, if_neg (by omega), if_pos rfl]
    · have e : upd u y x i = u i := by simp [upd, hi]
      by_cases h : u i < i
      · rw [root_step (by rw [e]; exact h), e, ih _ h, root_step h]
      · rw [root_stop (by rw [e]; exact h), root_stop h, if_neg hi]

/-! ## What lies in memory -/
def numV (u : Nat → Nat) (i : Nat) : Value := i64 (u i : Int)

structure IsU (h : H) (p b N : Nat) (u : Nat → Nat) : Prop where
  ptr : h.get p = some ⟨[if N = 0 then nsl else sl b 0 N (U + 1)], .own⟩
  ne : b ≠ p
  up : N ≠ 0 → h.get b = some ⟨tab N (numV u), .grow⟩
  wf : Wf N u
  few : N ≤ 5000

def Keeps (N b : Nat) (h h' : H) : Prop := ∀ c, (N ≠ 0 → c ≠ b) → h'.get c = h.get c

theorem IsU.upd {h : H} {p b N : Nat} {u : Nat → Nat} (w : IsU h p b N u) {a t : Nat} (ht : t ≤ a) : IsU (h.set b ⟨(tab N (numV u)).set a (i64 t), .grow⟩) p b N (upd u a t) := by
  refine ⟨by rw [H.get_set_ne _ _ w.ne.symm]; exact w.ptr, w.ne, fun _ => ?_, w.wf.upd ht, w.few⟩
  rw [H.get_set_same, tab_set]
  congr 3
  funext i
  unfold numV Fw.upd
  split <;> rfl

theorem keeps_set {N b : Nat} {h : H} {B : Blk} (h0 : N ≠ 0) : Keeps N b h (h.set b B) := fun _ hc => H.get_set_ne _ _ (hc h0)

theorem find_l3 {F p b N n : Nat} {u : Nat → Nat} {h : H} (w : IsU h p b N u) {E : Value → Value → Value → M Value} {x1 : Value} : ∀ t k, t < k → t < N →
    (union_Union_Find_l3 F E k (pt p 0) x1 (i64 t)).run n h = (E (pt p 0) x1 (i64 (root u t))).run n h := by
  intro t
  induction t using Nat.strongRecOn with
  | ind t ih =>
    intro k hk hN
    obtain ⟨k, rfl⟩ : ∃ j, k = j + 1 := ⟨k - 1, by omega⟩
    have hN0 : N ≠ 0 := by omega
    have hp := w.ptr
    rw [if_neg hN0] at hp
    have hb := w.up hN0
    rw [union_Union_Find_l3_s]
    unfold union_Union_Find_b3 union_Union_Find_r4
    have hu := w.wf t hN
    simp only [st_nil, st_field, run_load, hp, ldm_some (show Kind.own ≠ .dead by decide) (show [sl b 0 N (U + 1)][0]? = some (sl b 0 N (U + 1)) from rfl), st_ix,
      if_pos (show (0 : Int) ≤ (t : Int) ∧ (t : Int) < (N : Int) by omega), Nat.mul_one, Nat.zero_add, Nat.add_zero, Int.toNat_natCast, hb, ldm_some (show Kind.grow ≠ .dead by decide) (tab_get hN), numV, st_neq, onB_ite, run_ite]
    by_cases hq : u t = t
    · rw [if_neg (by simp [hq]), root_stop (by omega)]
    · rw [if_pos (by simp; omega), root_step (by omega)]
      unfold union_Union_Find_r5
      simp only [st_nil, st_field, run_load, hp, ldm_some (show Kind.own ≠ .dead by decide) (show [sl b 0 N (U + 1)][0]? = some (sl b 0 N (U + 1)) from rfl), st_ix,
        if_pos (show (0 : Int) ≤ (t : Int) ∧ (t : Int) < (N : Int) by omega), Nat.mul_one, Nat.zero_add, Nat.add_zero, Int.toNat_natCast, hb, ldm_some (show Kind.grow ≠ .dead by decide) (tab_get hN), numV]
      exact ih (u t) (by omega) k (by omega) (by omega)

theorem find_l1 {F p b N n : Nat} {E : Value → M Value} : ∀ a k (u : Nat → Nat) (h : H), a < k → a < N → IsU h p b N u →
    ∃ h' u', IsU h' p b N u' ∧ (∀ i, root u' i = root u i) ∧ Keeps N b h h' ∧ (union_Union_Find_l1 F E k (pt p 0) (i64 a) (i64 (root u a))).run n h = (E (i64 (root u a))).run n h' := by
  intro a
  induction a using Nat.strongRecOn with
  | ind a ih =>
    intro k u h hk hN w
    obtain ⟨k, rfl⟩ : ∃ j, k = j + 1 := ⟨k - 1, by omega⟩
    have hN0 : N ≠ 0 := by omega
    have hp := w.ptr
    rw [if_neg hN0] at hp
    have hb := w.up hN0
    have hu := w.wf a hN
    have hr := root_le u a
    rw [union_Union_Find_l1_s]
    unfold union_Union_Find_b1 union_Union_Find_r6
    simp only [st_nil, st_field, run_load, hp, ldm_some (show Kind.own ≠ .dead by decide) (show [sl b 0 N (U + 1)][0]? = some (sl b 0 N (U + 1)) from rfl), st_ix,
      if_pos (show (0 : Int) ≤ (a : Int) ∧ (a : Int) < (N : Int) by omega), Nat.mul_one, Nat.zero_add, Nat.add_zero, Int.toNat_natCast, hb, ldm_some (show Kind.grow ≠ .dead by decide) (tab_get hN), numV, st_neq, onB_ite, run_ite]
    by_cases hq : u a = root u a
    · rw [if_neg (by simp [hq.symm])]
      exact ⟨h, u, w, fun _ => rfl, fun _ _ => rfl, rfl⟩
    · rw [if_pos (by simp; omega)]
      have hlt : u a < a := by
        rcases Nat.lt_or_ge (u a) a with h1 | h1
        · exact h1
        · exact absurd (by rw [root_stop (by omega)]; omega) hq
      have w' := w.upd hr
      obtain ⟨h', u', g1, g2, g3, g4⟩ := ih (u a) hlt k (upd u a (root u a)) _ (by omega) (by omega) w'
      refine ⟨h', u', g1, fun i => by rw [g2, root_short w.wf], fun c hc => by rw [g3 c hc, keeps_set hN0 c hc], ?_⟩
      rw [root_short w.wf, ← root_step hlt] at g4
      rw [← g4]
      unfold union_Union_Find_r7
      simp only [st_nil, st_field, run_load, hp, ldm_some (show Kind.own ≠ .dead by decide) (show [sl b 0 N (U + 1)][0]? = some (sl b 0 N (U + 1)) from rfl), st_ix,
        if_pos (show (0 : Int) ≤ (a : Int) ∧ (a : Int) < (N : Int) by omega), Nat.mul_one, Nat.zero_add, Nat.add_zero, Int.toNat_natCast, hb, ldm_some (show Kind.grow ≠ .dead by decide) (tab_get hN), run_store,
        stm_some (show Kind.grow = .own ∨ Kind.grow = .grow by decide) (show one (i64 (root u a : Int)) = true from rfl) (show a < (tab N (numV u)).length by rw [tab_len]; exact hN), numV]

/-- What is found. -/
def fnd (N : Nat) (r : Nat → Nat) (a : Int) : Int := if 0 ≤ a ∧ a < N then (r a.toNat : Int) else -1

theorem fnd_out {N : Nat} {r : Nat → Nat} {a : Int} (h : ¬ (0 ≤ a ∧ a < N)) : fnd N r a = -1 := by unfold fnd; rw [if_neg h]
theorem fnd_in {N : Nat} {r : Nat → Nat} {a : Nat} (h : a < N) : fnd N r a = (r a : Int) := by unfold fnd; rw [if_pos (by omega), Int.toNat_natCast]

theorem find_spec {F p b N n : Nat} {u : Nat → Nat} {h : H} (w : IsU h p b N u) (a : Int) (hF : N < F) :
    ∃ h' u', IsU h' p b N u' ∧ (∀ i, root u' i = root u i) ∧ Keeps N b h h' ∧ (union_Union_Find F (pt p 0) (i64 a)).run n h = some (i64 (fnd N (root u) a), n, h') := by
  unfold union_Union_Find union_Union_Find_r0 union_Union_Find_r1
  have hp := w.ptr
  have hlen : ∀ k : Value → M Value, bnd (opLen (if N = 0 then nsl else sl b 0 N (U + 1))) k = k (i64 N) := by
    intro k
    by_cases h0 : N = 0
    · subst h0; rfl
    · rw [if_neg h0]; rfl
  simp only [st_eqP1, Bool.false_xor, onB_ite, Bool.false_eq_true, if_false, st_lss, run_ite, decide_eq_true_eq, st_nil, st_field, Nat.zero_add, run_load, hp, ldm_some (show Kind.own ≠ .dead by decide) (show [if N = 0 then nsl else sl b 0 N (U + 1)][0]? = some (if N = 0 then nsl else sl b 0 N (U + 1)) from rfl), hlen, st_geq]
  by_cases h0 : a < 0
  · rw [if_pos h0, if_pos trivial]
    exact ⟨h, u, w, fun _ => rfl, fun _ _ => rfl, by rw [fnd_out (by omega)]; rfl⟩
  · rw [if_neg h0]
    by_cases h1 : (N : Int) ≤ a
    · rw [if_pos h1]
      exact ⟨h, u, w, fun _ => rfl, fun _ _ => rfl, by rw [fnd_out (by omega)]; rfl⟩
    · rw [if_neg h1]
      unfold union_Union_Find_r3
      obtain ⟨t, rfl⟩ : ∃ t : Nat, a = t := ⟨a.toNat, by omega⟩
      dsimp only
      rw [find_l3 w t F (by omega) (by omega), fnd_in (by omega)]
      unfold union_Union_Find_k2
      obtain ⟨h', u', g1, g2, g3, g4⟩ := find_l1 (F := F) (n := n) (E := fun x5 => union_Union_Find_k0 F x5) t F u h (by omega) (by omega) w
      exact ⟨h', u', g1, g2, g3, g4.trans rfl⟩

/-- Nobody: a union that is none. -/
theorem find_nil {F n : Nat} {h : H} (a : Value) : (union_Union_Find F (.pointer none) a).run n h = some (i64 (-1), n, h) := rfl

/-- A union in which each is led by r. -/
def UF (h : H) (p b N : Nat) (r : Nat → Nat) : Prop := ∃ u, root u = r ∧ IsU h p b N u

theorem UF.le {h : H} {p b N : Nat} {r : Nat → Nat} (w : UF h p b N r) (i : Nat) : r i ≤ i := by
  obtain ⟨u, rfl, _⟩ := w; exact root_le u i
theorem UF.idem {h : H} {p b N : Nat} {r : Nat → Nat} (w : UF h p b N r) (i : Nat) : r (r i) = r i := by
  obtain ⟨u, rfl, _⟩ := w; exact root_root i
theorem UF.keep {h h' : H} {p b N : Nat} {r : Nat → Nat} (w : UF h p b N r) (hp : h'.get p = h.get p) (hb : N ≠ 0 → h'.get b = h.get b) : UF h' p b N r := by
  obtain ⟨u, e, w⟩ := w
  exact ⟨u, e, by rw [hp]; exact w.ptr, w.ne, fun h0 => by rw [hb h0]; exact w.up h0, w.wf, w.few⟩

theorem find_uf {F p b N n : Nat} {r : Nat → Nat} {h : H} (w : UF h p b N r) (a : Int) (hF : N < F) :
    ∃ h', UF h' p b N r ∧ Keeps N b h h' ∧ (union_Union_Find F (pt p 0) (i64 a)).run n h = some (i64 (fnd N r a), n, h') := by
  obtain ⟨u, rfl, w⟩ := w
  obtain ⟨h', u', g1, g2, g3, g4⟩ := find_spec (n := n) w a hF
  exact ⟨h', ⟨u', funext g2, g1⟩, g3, g4⟩

/-- Are two put together, and what comes of it? -/
def jb (N : Nat) (r : Nat → Nat) (a c : Int) : Bool := decide (0 ≤ a ∧ a < N ∧ 0 ≤ c ∧ c < N) && decide (r a.toNat ≠ r c.toNat)
def jn (N : Nat) (r : Nat → Nat) (a c : Int) (i : Nat) : Nat := if jb N r a c = true then (if r i = max (r a.toNat) (r c.toNat) then min (r a.toNat) (r c.toNat) else r i) else r i

theorem join_uf {F p b N n : Nat} {r : Nat → Nat} {h : H} (w : UF h p b N r) (a c : Int) (hF : N < F) :
    ∃ h', UF h' p b N (jn N r a c) ∧ Keeps N b h h' ∧ (union_Union_Join F (pt p 0) (i64 a) (i64 c)).run n h = some (bo (jb N r a c), n, h') := by
  obtain ⟨h1, w1, k1, e1⟩ := find_uf (n := n) w a hF
  obtain ⟨h2, w2, k2, e2⟩ := find_uf (n := n) w1 c hF
  have k12 : Keeps N b h h2 := fun x hx => by rw [k2 x hx, k1 x hx]
  have hle := w.le
  unfold union_Union_Join union_Union_Join_r0 union_Union_Join_r1
  rw [run_bnd e1, run_bnd e2]
  unfold union_Union_Join_r2
  simp only [st_lss, onB_ite, run_ite, st_eql, decide_eq_true_eq, beq_iff_eq]
  by_cases ha : 0 ≤ a ∧ a < N
  · obtain ⟨x, rfl⟩ : ∃ x : Nat, a = x := ⟨a.toNat, by omega⟩
    rw [fnd_in (r := r) (a := x) (by omega), if_neg (by omega)]
    by_cases hc : 0 ≤ c ∧ c < N
    · obtain ⟨y, rfl⟩ : ∃ y : Nat, c = y := ⟨c.toNat, by omega⟩
      rw [fnd_in (r := r) (a := y) (by omega), if_neg (by omega)]
      by_cases hxy : r x = r y
      · rw [if_pos (by omega)]
        have hj : jb N r x y = false := by simp [jb, hxy]
        refine ⟨h2, ?_, k12, by rw [hj]; rfl⟩
        have : jn N r x y = r := by funext i; simp [jn, hj]
        rw [this]; exact w2
      · rw [if_neg (by omega)]
        have hj : jb N r x y = true := by simp [jb, hxy]; omega
        rw [hj]
        obtain ⟨u, hu, wi⟩ := w2
        have hN0 : N ≠ 0 := by omega
        have hp := wi.ptr
        rw [if_neg hN0] at hp
        have hb := wi.up hN0
        -- the greater and the less
        have hmx : max (r x) (r y) < N := by have := hle x; have := hle y; omega
        have hmm : min (r x) (r y) ≤ max (r x) (r y) := by omega
        have w3 := wi.upd (a := max (r x) (r y)) (t := min (r x) (r y)) hmm
        refine ⟨_, ⟨_, ?_, w3⟩, fun z hz => by rw [keeps_set hN0 z hz, k12 z hz], ?_⟩
        · funext i
          have hrx : root u (r x) = r x := by rw [← hu]; exact root_root x
          have hry : root u (r y) = r y := by rw [← hu]; exact root_root y
          rw [root_join (by rcases Nat.le_total (r x) (r y) with g | g <;> simp [g, Nat.min_eq_left, Nat.min_eq_right, hrx, hry]) (by rcases Nat.le_total (r x) (r y) with g | g <;> simp [g, Nat.max_eq_left, Nat.max_eq_right, hrx, hry]) (by omega), hu]
          simp only [jn, hj, if_true, Int.toNat_natCast]
        · unfold union_Union_Join_r4
          have e1' : (if (r y : Int) > (r x : Int) then (r y : Int) else (r x : Int)) = ((max (r x) (r y) : Nat) : Int) := by split <;> omega
          have e2' : (if (r y : Int) < (r x : Int) then (r y : Int) else (r x : Int)) = ((min (r x) (r y) : Nat) : Int) := by split <;> omega
          simp only [st_nil, st_field, run_load, hp, ldm_some (show Kind.own ≠ .dead by decide) (show [sl b 0 N (U + 1)][0]? = some (sl b 0 N (U + 1)) from rfl), st_max, st_min, e1', e2', st_ix,
            if_pos (show (0 : Int) ≤ ((max (r x) (r y) : Nat) : Int) ∧ ((max (r x) (r y) : Nat) : Int) < (N : Int) by omega), Nat.mul_one, Nat.zero_add, Nat.add_zero, Int.toNat_natCast, run_store, hb,
            stm_some (show Kind.grow = .own ∨ Kind.grow = .grow by decide) (show one (i64 ((min (r x) (r y) : Nat) : Int)) = true from rfl) (show max (r x) (r y) < (tab N (numV u)).length by rw [tab_len]; exact hmx)]
          rfl
    · rw [fnd_out (r := r) (a := c) hc, if_pos (by omega), if_pos trivial]
      have hj : jb N r x c = false := by simp [jb]; omega
      refine ⟨h2, ?_, k12, by rw [hj]; rfl⟩
      have : jn N r x c = r := by funext i; simp [jn, hj]
      rw [this]; exact w2
  · rw [fnd_out (r := r) (a := a) ha, if_pos (by omega), if_pos trivial]
    have hj : jb N r a c = false := by simp [jb]; omega
    refine ⟨h2, ?_, k12, by rw [hj]; rfl⟩
    have : jn N r a c = r := by funext i; simp [jn, hj]
    rw [this]; exact w2

def sm (N : Nat) (r : Nat → Nat) (a c : Int) : Bool := decide (0 ≤ fnd N r a) && decide (fnd N r a = fnd N r c)

theorem same_uf {F p b N n : Nat} {r : Nat → Nat} {h : H} (w : UF h p b N r) (a c : Int) (hF : N < F) :
    ∃ h', UF h' p b N r ∧ Keeps N b h h' ∧ (union_Union_Same F (pt p 0) (i64 a) (i64 c)).run n h = some (bo (sm N r a c), n, h') := by
  obtain ⟨h1, w1, k1, e1⟩ := find_uf (n := n) w a hF
  obtain ⟨h2, w2, k2, e2⟩ := find_uf (n := n) w1 c hF
  unfold union_Union_Same union_Union_Same_r0 union_Union_Same_r1
  rw [run_bnd e1]
  unfold union_Union_Same_r2
  simp only [st_geq, onB_ite, run_ite, decide_eq_true_eq]
  by_cases ha : 0 ≤ fnd N r a
  · rw [if_pos ha, run_bnd e2, st_eql]
    refine ⟨h2, w2, fun x hx => by rw [k2 x hx, k1 x hx], ?_⟩
    have : sm N r a c = (fnd N r a == fnd N r c) := by unfold sm; rw [decide_eq_true ha, Bool.true_and]; rfl
    rw [this]; rfl
  · rw [if_neg ha]
    refine ⟨h1, w1, k1, ?_⟩
    have : sm N r a c = false := by unfold sm; rw [decide_eq_false ha, Bool.false_and]
    rw [this]; rfl

theorem numV_all {N : Nat} {u : Nat → Nat} : (tab N (numV u)).all one = true := tab_one fun _ _ => rfl

theorem new_l1 {F p m : Nat} (hm : m ≤ 5000) {E : Value → M Value} : ∀ j i k n (h : H) (v : Value) (b : Nat), i + j = m → j < k → h.get p = some ⟨[v], .own⟩ → Gl h v b (tab i (numV id)) → (tab i (numV id) ≠ [] → p < b) → Fr n h →
    ∃ n' h' v' b', (union_New_l1 F E k (pt p 0) (i64 m) (i64 i)).run n h = (E (pt p 0)).run n' h' ∧ h'.get p = some ⟨[v'], .own⟩ ∧ Gl h' v' b' (tab m (numV id)) ∧ (tab m (numV id) ≠ [] → p < b') ∧ Fr n' h' ∧ n ≤ n' ∧ ∀ c, c < p → h'.get c = h.get c := by
  intro j
  induction j with
  | zero =>
    intro i k n h v b hij hk hp hg hb f
    obtain ⟨k, rfl⟩ : ∃ j, k = j + 1 := ⟨k - 1, by omega⟩
    obtain rfl : i = m := by omega
    rw [union_New_l1_s]
    unfold union_New_b1 union_New_r3
    simp only [st_lss, onB_ite, run_ite, decide_eq_true_eq, if_neg (show ¬ ((i : Int) < i) by omega)]
    exact ⟨n, h, v, b, rfl, hp, hg, hb, f, Nat.le_refl _, fun _ _ => rfl⟩
  | succ j ih =>
    intro i k n h v b hij hk hp hg hb f
    obtain ⟨k, rfl⟩ : ∃ j, k = j + 1 := ⟨k - 1, by omega⟩
    have hpn := f.lt hp
    rw [union_New_l1_s]
    unfold union_New_b1 union_New_r3 union_New_r4 union_New_r5
    simp only [st_lss, onB_ite, run_ite, decide_eq_true_eq, if_pos (show (i : Int) < (m : Int) by omega), st_nil, st_field, Nat.zero_add, run_load, hp, ldm_some (show Kind.own ≠ .dead by decide) (show [v][0]? = some v from rfl)]
    rw [run_single f rfl]
    have hbm : tab i (numV id) ≠ [] → b ≠ n := fun h0 => by have := hg.lt f h0; omega
    have hg1 : Gl (h.set n ⟨[i64 i], .own⟩) v b (tab i (numV id)) := hg.keep fun h0 => H.get_set_ne _ _ (hbm h0)
    obtain ⟨h2, e2, g2, f2, k2⟩ := run_append (β := Value) (bytes := 8) (x := i64 i) hg1 (f.new _) (H.get_set_same _ _ _) (by decide) rfl numV_all hbm (by rw [tab_len]; omega)
    rw [e2]
    have hp2 : h2.get p = some ⟨[v], .own⟩ := by
      rw [k2 p (by omega) (fun h0 => by have := hb h0; omega), H.get_set_ne _ _ (by omega)]; exact hp
    rw [tab_len] at g2
    simp only [tab_len, run_store, hp2, stm_some (show Kind.own = .own ∨ Kind.own = .grow by decide) (show one (sl (n + 1) 0 (i + 1) (U + 1)) = true from rfl) (show 0 < [v].length from Nat.zero_lt_one)]
    unfold union_New_r6
    simp only [st_add]
    rw [wrap64 (by omega)]
    obtain ⟨n', h', v', b', e, q1, q2, q3, q4, q5, q6⟩ := ih (i + 1) k (n + 1 + 1) (h2.set p ⟨[sl (n + 1) 0 (i + 1) (U + 1)], .own⟩) (sl (n + 1) 0 (i + 1) (U + 1)) (n + 1) (by omega) (by omega) (H.get_set_same _ _ _)
      (by rw [tab_succ]; exact g2.keep fun _ => H.get_set_ne _ _ (by omega)) (fun _ => by omega) (f2.set _ (by omega))
    refine ⟨n', h', v', b', e, q1, q2, q3, q4, by omega, fun c hc => ?_⟩
    rw [q6 c hc, H.get_set_ne _ _ (by omega), k2 c (by omega) (fun h0 => by have := hb h0; omega), H.get_set_ne _ _ (by omega)]

theorem new_uf {F n : Nat} {h : H} (a : Int) (f : Fr n h) (hF : 5000 < F) : ∃ n' h' b, (union_New F (i64 a)).run n h = some (pt n 0, n', h') ∧ UF h' n b (min (max a 0) 5000).toNat id ∧ Fr n' h' ∧ n < n' ∧ (∀ c, c < n → h'.get c = h.get c) ∧ n < b := by
  unfold union_New union_New_r0 union_New_r1
  have hb : opBuild [nsl] [] = ret (.agg #[nsl]) := rfl
  rw [hb]
  simp only [ret_bnd]
  rw [show (Value.agg #[nsl]) = .agg ([nsl] : List Value).toArray from rfl, run_box f rfl]
  unfold union_New_r2
  obtain ⟨m, hm⟩ : ∃ m : Nat, min (max a 0) 5000 = (m : Int) := ⟨(min (max a 0) 5000).toNat, by omega⟩
  have e0 : (if (0 : Int) > a then (0 : Int) else a) = max a 0 := by split <;> omega
  have e1 : (if (5000 : Int) < max a 0 then (5000 : Int) else max a 0) = (m : Int) := by split <;> omega
  simp only [st_max, st_min, e0, e1]
  obtain ⟨n', h', v', b', e, q1, q2, q3, q4, q5, q6⟩ := new_l1 (F := F) (p := n) (m := m) (by omega) (E := fun x3 => union_New_k0 F x3) m 0 F (n + 1) (h.set n ⟨[nsl], .own⟩) nsl 0 (by omega) (by omega) (H.get_set_same _ _ _) (.inl ⟨rfl, rfl⟩) (fun h => absurd rfl h) (f.new _)
  rw [hm, Int.toNat_natCast]
  by_cases h0 : m = 0
  · subst h0
    rcases q2 with ⟨_, rfl⟩ | ⟨g0, _⟩
    · refine ⟨n', h', n + 1, e.trans rfl, ⟨id, ?_, ?_, by omega, fun h => absurd rfl h, fun i hi => Nat.le_refl _, by omega⟩, q4, by omega, fun c hc => by rw [q6 c hc, H.get_set_ne _ _ (by omega)], by omega⟩
      · funext i; exact root_stop (by simp)
      · simpa using q1
    · exact absurd rfl g0
  · have hne : tab m (numV id) ≠ [] := fun h => h0 (by rw [← tab_len (N := m) (f := numV id), h]; rfl)
    rcases q2 with ⟨g0, _⟩ | ⟨_, rfl, g1⟩
    · exact absurd g0 hne
    · refine ⟨n', h', b', e.trans rfl, ⟨id, ?_, ?_, ?_, fun _ => g1, fun i hi => Nat.le_refl _, by omega⟩, q4, by omega, fun c hc => by rw [q6 c hc, H.get_set_ne _ _ (by omega)], q3 hne⟩
      · funext i; exact root_stop (by simp)
      · rw [if_neg h0]; rw [tab_len] at q1; exact q1
      · have := q3 hne; omega

/-! ## Groups -/

/-- How many lead, below i. -/
def idx (r : Nat → Nat) : Nat → Nat
  | 0 => 0
  | i + 1 => idx r i + (if r i = i then 1 else 0)
theorem idx_mono {r : Nat → Nat} : ∀ {i j : Nat}, i ≤ j → idx r i ≤ idx r j := by
  intro i j h
  induction h with
  | refl => exact Nat.le_refl _
  | step _ ih => exact Nat.le_trans ih (by show _ ≤ idx r _ + _; omega)
theorem idx_lt {r : Nat → Nat} {i j : Nat} (hi : r i = i) (h : i < j) : idx r i < idx r j := by
  have h1 : idx r (i + 1) ≤ idx r j := idx_mono h
  have h2 : idx r (i + 1) = idx r i + 1 := by show idx r i + (if r i = i then 1 else 0) = _; rw [if_pos hi]
  omega
theorem idx_le (r : Nat → Nat) : ∀ i, idx r i ≤ i
  | 0 => Nat.le_refl _
  | i + 1 => by
    have := idx_le r i
    show idx r i + (if r i = i then 1 else 0) ≤ i + 1
    split <;> omega

def nums (l : List Nat) : List Value := l.map fun i : Nat => i64 (i : Int)
/-- Who is in the group j, below a. -/
def grp (r : Nat → Nat) (a j : Nat) : List Nat := (List.range a).filter fun k => idx r (r k) == j
theorem grp_succ {r : Nat → Nat} {a j : Nat} : grp r (a + 1) j = if j = idx r (r a) then grp r a j ++ [a] else grp r a j := by
  unfold grp
  rw [List.range_succ, List.filter_append]
  by_cases h : idx r (r a) = j
  · rw [if_pos h.symm]; simp [h]
  · rw [if_neg (Ne.symm h)]; simp [h]
theorem grp_nil {r : Nat → Nat} (hle : ∀ i, r i ≤ i) (hid : ∀ i, r (r i) = r i) {a : Nat} : grp r a (idx r a) = [] := by
  unfold grp
  rw [List.filter_eq_nil_iff]
  intro k hk
  rw [List.mem_range] at hk
  have := idx_lt (hid k) (show r k < a by have := hle k; omega)
  simp; omega
theorem grp_len {r : Nat → Nat} {a j : Nat} : (grp r a j).length ≤ a := by
  have := List.length_filter_le (fun k => idx r (r k) == j) (List.range a)
  rw [List.length_range] at this
  exact this
theorem nums_all {l : List Nat} : (nums l).all one = true := by
  simp only [nums, List.all_map, List.all_eq_true]
  intro x _; rfl

theorem groups_l1 {F p b pb N : Nat} {r : Nat → Nat} (hF : N < F) (hpb : p < pb ∧ (N ≠ 0 → b < pb)) (hN : N ≤ 5000) {E : Value → M Value} : ∀ j a k n (h : H) (v : Value) (pl : Nat → Value), a + j = N → j < k → UF h p b N r → h.get pb = some ⟨tab N pl, .own⟩ →
    (∀ i, i < a → r i = i → pl i = i64 (idx r i : Nat)) → LL h v (pb + 1) (idx r a) (fun j => nums (grp r a j)) → Fr n h →
    ∃ n' h' v', (union_Union_Groups_l1 F E k (pt p 0) v (sl pb 0 N N) (i64 N) (i64 a)).run n h = (E v').run n' h' ∧ UF h' p b N r ∧ LL h' v' (pb + 1) (idx r N) (fun j => nums (grp r N j)) ∧ Fr n' h' ∧ n ≤ n' ∧ ∀ c, c < pb → (N ≠ 0 → c ≠ b) → h'.get c = h.get c := by
  intro j
  induction j with
  | zero =>
    intro a k n h v pl hij hk w hpl hinv l f
    obtain ⟨k, rfl⟩ : ∃ j, k = j + 1 := ⟨k - 1, by omega⟩
    obtain rfl : a = N := by omega
    rw [union_Union_Groups_l1_s]
    unfold union_Union_Groups_b1 union_Union_Groups_r6
    simp only [st_lss, onB_ite, run_ite, decide_eq_true_eq, if_neg (show ¬ ((a : Int) < a) by omega)]
    exact ⟨n, h, v, rfl, w, l, f, Nat.le_refl _, fun _ _ _ => rfl⟩
  | succ j ih =>
    intro a k n h v pl hij hk w hpl hinv l f
    obtain ⟨k, rfl⟩ : ∃ j, k = j + 1 := ⟨k - 1, by omega⟩
    have hpbn := f.lt hpl
    have haN : a < N := by omega
    have hpb2 := hpb.2 (by omega)
    have hpb1 := hpb.1
    have hle := w.le
    have hid := w.idem
    have hra := hle a
    rw [union_Union_Groups_l1_s]
    unfold union_Union_Groups_b1 union_Union_Groups_r6 union_Union_Groups_r7 union_Union_Groups_r8
    simp only [st_lss, onB_ite, run_ite, decide_eq_true_eq, if_pos (show (a : Int) < (N : Int) by omega)]
    obtain ⟨h1, w1, k1, e1⟩ := find_uf (n := n) w a hF
    rw [run_bnd e1, fnd_in haN]
    have f1 := (f.run e1).1
    have hpl1 : h1.get pb = some ⟨tab N pl, .own⟩ := by rw [k1 pb (by omega)]; exact hpl
    have l1 : LL h1 v (pb + 1) (idx r a) (fun j => nums (grp r a j)) := l.keep f fun c hc _ => k1 c (by omega)
    unfold union_Union_Groups_r9
    simp only [st_eql, onB_ite, run_ite, beq_iff_eq]
    -- what is done once a group is there
    have rest : ∀ n2 (h2 : H) (v2 : Value) (pl2 : Nat → Value), UF h2 p b N r → h2.get pb = some ⟨tab N pl2, .own⟩ → (∀ i, i < a + 1 → r i = i → pl2 i = i64 (idx r i : Nat)) →
        LL h2 v2 (pb + 1) (idx r (a + 1)) (fun j => nums (grp r a j)) → Fr n2 h2 → pb < n2 →
        ∃ n' h' v', (union_Union_Groups_k2 F (union_Union_Groups_l1 F E k) (pt p 0) v2 (sl pb 0 N N) (i64 a) (i64 (r a : Nat)) (i64 N) (i64 a)).run n2 h2 = (E v').run n' h' ∧ UF h' p b N r ∧ LL h' v' (pb + 1) (idx r N) (fun j => nums (grp r N j)) ∧ Fr n' h' ∧ n2 ≤ n' ∧ ∀ c, c < pb → (N ≠ 0 → c ≠ b) → h'.get c = h2.get c := by
      intro n2 h2 v2 pl2 w2 hpl2 hinv2 l2 f2 hpn2
      have hJ : idx r (r a) < idx r (a + 1) := idx_lt (hid a) (by omega)
      have hpr : pl2 (r a) = i64 (idx r (r a) : Nat) := hinv2 _ (by omega) (hid a)
      have hix := idx_le r (a + 1)
      have hgl := grp_len (r := r) (a := a) (j := idx r (r a))
      obtain ⟨h3, ob, iv, u, hv, hob, hobn, hget, hget3, hu1, e3, f3, k3, l3, f3'⟩ := l2.app (bytes := 8) (β := Value) (x := i64 a) (z := i64 0) f2 (by omega) hJ rfl nums_all (by simp only [nums, List.length_map]; omega)
      unfold union_Union_Groups_k2 union_Union_Groups_r12
      subst hv
      have hpl3 : h3.get pb = some ⟨tab N pl2, .own⟩ := by rw [k3 pb (by omega)]; exact hpl2
      simp only [st_ix, if_pos (show (0 : Int) ≤ ((r a : Nat) : Int) ∧ ((r a : Nat) : Int) < (N : Int) by omega), Nat.mul_one, Nat.zero_add, Int.toNat_natCast, run_load, hpl2, ldm_some (show Kind.own ≠ .dead by decide) (tab_get (N := N) (f := pl2) (show r a < N by omega)), hpr,
        if_pos (show (0 : Int) ≤ ((idx r (r a) : Nat) : Int) ∧ ((idx r (r a) : Nat) : Int) < ((idx r (a + 1) : Nat) : Int) by omega), hget, ldm_some (show Kind.grow ≠ .dead by decide) (tab_get (f := iv) hJ)]
      rw [e3, run_chk hpl3 (by decide) (by rw [tab_get (show r a < N by omega), hpr]) (by simp [veq])]
      simp only [run_store, hget3, stm_some (show Kind.grow = .own ∨ Kind.grow = .grow by decide) hu1 (show idx r (r a) < (tab (idx r (a + 1)) iv).length by rw [tab_len]; exact hJ)]
      unfold union_Union_Groups_r13
      simp only [st_add]
      rw [wrap64 (by omega)]
      have w4 : UF (h3.set ob ⟨(tab (idx r (a + 1)) iv).set (idx r (r a)) u, .grow⟩) p b N r := w2.keep (by rw [H.get_set_ne _ _ (by omega), k3 p (by omega)]) (fun _ => by rw [H.get_set_ne _ _ (by omega), k3 b (by omega)])
      obtain ⟨n', h', v', e, q1, q2, q3, q4, q5⟩ := ih (a + 1) k (n2 + 1 + 1) _ _ pl2 (by omega) (by omega) w4 (by rw [H.get_set_ne _ _ (by omega)]; exact hpl3) hinv2 (l3.congr fun j _ => by
        rw [grp_succ]
        split
        · simp [nums]
        · rfl) f3'
      exact ⟨n', h', v', e, q1, q2, q3, by omega, fun c hc hcb => by rw [q5 c hc hcb, H.get_set_ne _ _ (by omega), k3 c (by omega)]⟩
    by_cases hr : r a = a
    · rw [if_pos (by rw [hr])]
      unfold union_Union_Groups_r10
      rw [l1.len]
      simp only [st_ix, if_pos (show (0 : Int) ≤ (a : Int) ∧ (a : Int) < (N : Int) by omega), Nat.mul_one, Nat.zero_add, Int.toNat_natCast, run_store, hpl1, stm_some (show Kind.own = .own ∨ Kind.own = .grow by decide) (show one (i64 (idx r a : Nat)) = true from rfl) (show a < (tab N pl).length by rw [tab_len]; exact haN)]
      unfold union_Union_Groups_r11
      have f2 : Fr n (h1.set pb ⟨(tab N pl).set a (i64 (idx r a : Nat)), .own⟩) := f1.set _ hpbn
      have l2 : LL (h1.set pb ⟨(tab N pl).set a (i64 (idx r a : Nat)), .own⟩) v (pb + 1) (idx r a) (fun j => nums (grp r a j)) := l1.keep f1 fun c hc _ => H.get_set_ne _ _ (by omega)
      have hix := idx_le r a
      obtain ⟨h3, v3, e3, l3, f3, k3⟩ := l2.push (bytes := 24) (β := Value) f2 (by omega) (by show nums (grp r a (idx r a)) = []; rw [grp_nil hle hid]; rfl) (by omega)
      rw [e3]
      have hsu : idx r (a + 1) = idx r a + 1 := by show idx r a + (if r a = a then 1 else 0) = _; rw [if_pos hr]
      obtain ⟨n', h', v', e, q1, q2, q3, q4, q5⟩ := rest (n + 1 + 1) h3 v3 (fun i => if i = a then i64 (idx r a : Nat) else pl i) (w1.keep (by rw [k3 p (by omega), H.get_set_ne _ _ (by omega)]) (fun _ => by rw [k3 b (by omega), H.get_set_ne _ _ (by omega)]))
        (by rw [k3 pb (by omega), H.get_set_same, tab_set]) (fun i hi hri => by
          by_cases e : i = a
          · rw [if_pos e, e]
          · rw [if_neg e]; exact hinv i (by omega) hri) (by rw [hsu]; exact l3) f3 (by omega)
      exact ⟨n', h', v', e, q1, q2, q3, by omega, fun c hc hcb => by rw [q5 c hc hcb, k3 c (by omega), H.get_set_ne _ _ (by omega), k1 c hcb]⟩
    · rw [if_neg (by omega)]
      have hsu : idx r (a + 1) = idx r a := by show idx r a + (if r a = a then 1 else 0) = _; rw [if_neg hr]; rfl
      obtain ⟨n', h', v', e, q1, q2, q3, q4, q5⟩ := rest n h1 v pl w1 hpl1 (fun i hi hri => hinv i (by rcases Nat.lt_or_ge i a with g | g; exact g; exact absurd (by rw [show a = i by omega]; exact hri) hr) hri) (by rw [hsu]; exact l1) f1 hpbn
      exact ⟨n', h', v', e, q1, q2, q3, by omega, fun c hc hcb => by rw [q5 c hc hcb, k1 c hcb]⟩

theorem groups_uf {F p b N n : Nat} {r : Nat → Nat} {h : H} (hF : N < F) (w : UF h p b N r) (f : Fr n h) :
    ∃ n' h' v', (union_Union_Groups F (pt p 0)).run n h = some (v', n', h') ∧ UF h' p b N r ∧ LL h' v' n (idx r N) (fun j => nums (grp r N j)) ∧ Fr n' h' ∧ n ≤ n' ∧ ∀ c, c < n → (N ≠ 0 → c ≠ b) → h'.get c = h.get c := by
  obtain ⟨u, hu, wi⟩ := w
  have hp := wi.ptr
  have hpn := f.lt hp
  have hN := wi.few
  have hlen : ∀ k : Value → M Value, bnd (opLen (if N = 0 then nsl else sl b 0 N (U + 1))) k = k (i64 N) := by
    intro k
    by_cases h0 : N = 0
    · subst h0; rfl
    · rw [if_neg h0]; rfl
  unfold union_Union_Groups union_Union_Groups_r0 union_Union_Groups_r1
  simp only [st_eqP1, Bool.false_xor, onB_ite, Bool.false_eq_true, if_false]
  unfold union_Union_Groups_r3 union_Union_Groups_r4
  simp only [st_nil, st_field, Nat.zero_add, run_load, hp, ldm_some (show Kind.own ≠ .dead by decide) (show [if N = 0 then nsl else sl b 0 N (U + 1)][0]? = some (if N = 0 then nsl else sl b 0 N (U + 1)) from rfl), hlen]
  rw [run_make (by rw [Int.toNat_natCast]; omega) f (by rw [Int.toNat_natCast, tab_rep]; exact tab_one fun _ _ => rfl), Int.toNat_natCast, tab_rep]
  unfold union_Union_Groups_r5
  simp only [st_nil, st_field, Nat.zero_add, run_load, H.get_set_ne _ _ (show p ≠ n by omega), hp, ldm_some (show Kind.own ≠ .dead by decide) (show [if N = 0 then nsl else sl b 0 N (U + 1)][0]? = some (if N = 0 then nsl else sl b 0 N (U + 1)) from rfl), hlen]
  have hb : N ≠ 0 → b < n := fun h0 => f.lt (wi.up h0)
  have w1 : UF (h.set n ⟨tab N fun _ => i64 0, .own⟩) p b N r := ⟨u, hu, by rw [H.get_set_ne _ _ (by omega)]; exact hp, wi.ne, fun h0 => by rw [H.get_set_ne _ _ (by have := hb h0; omega)]; exact wi.up h0, wi.wf, wi.few⟩
  obtain ⟨n', h', v', e, q1, q2, q3, q4, q5⟩ := groups_l1 (F := F) (pb := n) (b := b) (p := p) (N := N) (r := r) hF ⟨hpn, hb⟩ hN (E := fun x3 => union_Union_Groups_k0 F x3) N 0 F (n + 1) _ nsl (fun _ => i64 0) (by omega) hF w1 (H.get_set_same _ _ _)
    (fun i hi => by omega) LL.nil (f.new _)
  exact ⟨n', h', v', e.trans rfl, q1, q2.mono (by omega), q3, by omega, fun c hc hcb => by rw [q5 c hc hcb, H.get_set_ne _ _ (by omega)]⟩

theorem len_uf {F p b N n : Nat} {r : Nat → Nat} {h : H} (hF : N < F) (w : UF h p b N r) (f : Fr n h) :
    ∃ n' h', (union_Union_Len F (pt p 0)).run n h = some (i64 (idx r N : Nat), n', h') ∧ UF h' p b N r ∧ Fr n' h' ∧ n ≤ n' ∧ ∀ c, c < n → (N ≠ 0 → c ≠ b) → h'.get c = h.get c := by
  obtain ⟨n', h', v', e, q1, q2, q3, q4, q5⟩ := groups_uf hF w f
  unfold union_Union_Len union_Union_Len_r0 union_Union_Len_r1
  rw [run_bnd e, q2.len]
  exact ⟨n', h', rfl, q1, q3, q4, q5⟩

end Go.Fw
