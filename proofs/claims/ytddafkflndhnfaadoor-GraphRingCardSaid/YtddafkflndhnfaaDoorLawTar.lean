/-
  The search for parts, said of the abstract machine: lists that are cut, cloned, looked through; one visit.
-/
import Derived.Test.YtddafkflndhnfaaDoorLawTB
import Derived.Test.YtddafkflndhnfaaDoorFwTar
set_option maxRecDepth 20000
set_option linter.unusedVariables false
namespace Go.Fw

/-- One more at the end: its block is one that grows. -/
theorem Gq.pushG {n b : Nat} {h : H} {v y x : Value} {cs : List Value} (g : Gq h v b cs) (f : Fr n h) (hx : one x = true) (hall : cs.all one = true) (hl : cs.length < 100000000) :
    ∃ h' v', (∀ k : Value → M Value, (bnd (opBuildSlice 1 (rep 1 [y]) [(0, 1, false, x)]) fun t => bnd (opAppend 1 8 v t) k).run n h = (k v').run (n + 2) h') ∧ Gq h' v' (n + 1) (cs ++ [x]) ∧ (∃ zs, h'.get (n + 1) = some ⟨zs, .grow⟩) ∧ Fr (n + 2) h' ∧ ∀ c, c < n → (v ≠ nsl → c ≠ b) → h'.get c = h.get c := by
  have f1 : Fr (n + 1) (h.set n ⟨[x], .own⟩) := f.new _
  have rdm : ∀ (K : List Value → M Value), (bnd (cellsOf 1 (sl n 0 1 1)) K).run (n + 1) (h.set n ⟨[x], .own⟩) = (K [x]).run (n + 1) (h.set n ⟨[x], .own⟩) := fun K => by
    rw [cellsOf_gl (by decide), run_rdN, H.get_set_same, ldN_some (by decide) (by simp)]; rfl
  rcases g with ⟨rfl, rfl⟩ | ⟨o, xs, kd, c, rfl, h2, h3, h4, h5, h6⟩
  · refine ⟨(h.set n ⟨[x], .own⟩).set (n + 1) ⟨[] ++ [x], .grow⟩, sl (n + 1) 0 1 (U + 1), fun k => ?_, .inr ⟨0, [x], .grow, U + 1, rfl, H.get_set_same _ _ _, by decide, by simp, by simp, .inl ⟨rfl, rfl⟩⟩ , ⟨_, H.get_set_same _ _ _⟩, f1.new _, fun c hc _ => by rw [H.get_set_ne _ _ (by omega), H.get_set_ne _ _ (by omega)]⟩
    rw [run_single f hx]
    unfold opAppend
    simp only [if_neg (show ¬ (1 : Nat) = 0 by decide)]
    rw [if_pos (by omega), bnd_assoc, rdm, if_neg (by unfold U; omega), if_pos (by omega), bnd_assoc]
    have e1 : cellsOf 1 (.slice none 0 0) = ret [] := rfl
    rw [e1, ret_bnd, bnd_assoc, run_new f1 (by rw [List.nil_append, List.all_cons, hx]; rfl)]
    rfl
  · have hbn := f.lt h2
    have hb1 : (h.set n ⟨[x], .own⟩).get b = some ⟨xs, kd⟩ := by rw [H.get_set_ne _ _ (by omega)]; exact h2
    have olds : ∀ (K : List Value → M Value), (bnd (cellsOf 1 (sl b o cs.length c)) K).run (n + 1) (h.set n ⟨[x], .own⟩) = (K cs).run (n + 1) (h.set n ⟨[x], .own⟩) := fun K => by
      by_cases h0 : cs.length = 0
      · have : cs = [] := List.eq_nil_of_length_eq_zero h0
        subst this; rfl
      · have e : cellsOf 1 (sl b o cs.length c) = rdN b o (cs.length * 1) := by
          show (if cs.length = 0 then ret [] else rdN b o (cs.length * 1)) = _
          rw [if_neg h0]
        rw [e, run_rdN, hb1, ldN_some h3 (by omega), Nat.mul_one, h5]
    have hall2 : (cs ++ [x]).all one = true := by rw [List.all_append, hall, List.all_cons, hx]; rfl
    rcases h6 with ⟨rfl, rfl⟩ | ⟨rfl, rfl, h7⟩
    · have f2 : Fr (n + 1) ((h.set n ⟨[x], .own⟩).set b dead) := f1.set _ (by omega)
      refine ⟨((h.set n ⟨[x], .own⟩).set b dead).set (n + 1) ⟨cs ++ [x], .grow⟩, sl (n + 1) 0 (cs.length + 1) (U + 1), fun k => ?_, .inr ⟨0, cs ++ [x], .grow, U + 1, by simp, H.get_set_same _ _ _, by decide, by simp, by rw [List.drop_zero, List.take_length], .inl ⟨rfl, rfl⟩⟩ , ⟨_, H.get_set_same _ _ _⟩, f2.new _, fun c hc hcb => by
        rw [H.get_set_ne _ _ (by omega), H.get_set_ne _ _ (hcb (by intro e; cases e)), H.get_set_ne _ _ (by omega)]⟩
      rw [run_single f hx]
      unfold opAppend
      simp only [if_neg (show ¬ (1 : Nat) = 0 by decide), if_true]
      rw [if_pos (by omega), bnd_assoc, rdm, bnd_assoc, olds, bnd_assoc]
      have hkill : (kill b).run (n + 1) (h.set n ⟨[x], .own⟩) = some ((), n + 1, (h.set n ⟨[x], .own⟩).set b dead) := by
        show killF b (n + 1) _ = _
        unfold killF
        rw [hb1]
      rw [run_bnd hkill, bnd_assoc, run_new f2 hall2]
      rfl
    · refine ⟨(h.set n ⟨[x], .own⟩).set (n + 1) ⟨cs ++ [x], .grow⟩, sl (n + 1) 0 (cs.length + 1) (U + 1), fun k => ?_, .inr ⟨0, cs ++ [x], .grow, U + 1, by simp, H.get_set_same _ _ _, by decide, by simp, by rw [List.drop_zero, List.take_length], .inl ⟨rfl, rfl⟩⟩ , ⟨_, H.get_set_same _ _ _⟩, f1.new _, fun c hc hcb => by
        rw [H.get_set_ne _ _ (by omega), H.get_set_ne _ _ (by omega)]⟩
      rw [run_single f hx]
      unfold opAppend
      simp only [if_neg (show ¬ (1 : Nat) = 0 by decide)]
      rw [if_pos (by omega), bnd_assoc, rdm, if_neg (by unfold U at h7 ⊢; omega), if_pos (by omega), bnd_assoc, olds, bnd_assoc, run_new f1 hall2]
      rfl

section
variable {β : Type} {n : Nat} {h : H}

theorem nats_len {l : List Nat} : (nats l).length = l.length := by unfold nats; rw [List.length_map]
theorem nats_get {l : List Nat} {i : Nat} (hi : i < (nats l).length) : (nats l)[i] = ((l[i]'(by rw [← nats_len]; exact hi) : Nat) : Int) := by simp [nats]
theorem RdI.getN {v : Value} {l : List Nat} (g : RdI h v (nats l)) {i : Nat} (hi : i < l.length) {k : Value → M β} : (bnd (opIndexAddr 1 v (i64 i)) fun p => bnd (opLoad p) k).run n h = (k (i64 (l[i] : Nat))).run n h := by
  rw [Rd.getI g (by rw [nats_len]; exact hi), nats_get]
theorem RdI.lenN {v : Value} {l : List Nat} (g : RdI h v (nats l)) {k : Value → M β} : bnd (opLen v) k = k (i64 l.length) := by rw [Rd.lenI g, nats_len]

/-- All that a slice holds. -/
theorem Rd.cells {v : Value} {cs : List Value} (g : Rd h v cs) {k : List Value → M β} : (bnd (cellsOf 1 v) k).run n h = (k cs).run n h := by
  rcases g with ⟨rfl, rfl⟩ | ⟨b, o, c, kd, rfl, hb⟩
  · rfl
  · by_cases h0 : cs = []
    · subst h0; rfl
    · obtain ⟨xs, q1, q2, q3⟩ := hb h0
      have hl : cs.length ≠ 0 := fun e => h0 (List.eq_nil_of_length_eq_zero e)
      have hle : o + cs.length ≤ xs.length := by
        have := q3 (cs.length - 1) (by omega)
        rw [List.getElem?_eq_getElem (show cs.length - 1 < cs.length by omega)] at this
        have := (List.getElem?_eq_some_iff.1 this).1
        omega
      have e : cellsOf 1 (sl b o cs.length c) = rdN b o (cs.length * 1) := by
        show (if cs.length = 0 then ret [] else rdN b o (cs.length * 1)) = _
        rw [if_neg hl]
      have e2 : (xs.drop o).take cs.length = cs := by
        refine List.ext_getElem? fun i => ?_
        rw [List.getElem?_take]
        by_cases hi : i < cs.length
        · rw [if_pos hi, List.getElem?_drop, q3 i hi]
        · rw [if_neg hi, List.getElem?_eq_none (by omega)]
      rw [e, run_rdN, q1, ldN_some q2 (by omega), Nat.mul_one, e2]

/-- A copy. -/
theorem clone_rd {F : Nat} {v : Value} {cs : List Value} (g : Rd h v cs) (hv : ∃ a l c, v = .slice (some a) l c) (f : Fr n h) (h0 : cs ≠ []) (hall : cs.all one = true) (hs : cs.length < 100000000) :
    ∃ h', (slices_Clone F v).run n h = some (sl (n + 1) 0 cs.length (U + 1), n + 2, h') ∧ h'.get (n + 1) = some ⟨cs, .grow⟩ ∧ Ev No n h (n + 2) h' := by
  obtain ⟨a, l, c, rfl⟩ := hv
  have f1 : Fr (n + 1) (h.set n ⟨[], .own⟩) := f.new _
  have g1 : Rd (h.set n ⟨[], .own⟩) (.slice (some a) l c) cs := g.keep fun b hb => H.get_set_ne _ _ fun e => by
    subst e
    rw [f b (Nat.le_refl _)] at hb; cases hb
  have hl : l = cs.length := by
    rcases g with ⟨_, e⟩ | ⟨b, o, c', kd, e, _⟩
    · cases e
    · cases e; rfl
  subst hl
  have hl0 : cs.length ≠ 0 := fun e => h0 (List.eq_nil_of_length_eq_zero e)
  refine ⟨(h.set n ⟨[], .own⟩).set (n + 1) ⟨cs, .grow⟩, ?_, H.get_set_same _ _ _, f1.new _, by omega, fun c hc _ => by rw [H.get_set_ne _ _ (by omega), H.get_set_ne _ _ (by omega)]⟩
  unfold slices_Clone slices_Clone_r0 slices_Clone_r1
  try dsimp only
  rw [st_eqS1]
  simp only [onB_ite, run_ite]
  rw [if_neg (by decide)]
  unfold slices_Clone_r3
  try dsimp only
  rw [run_build (cs := []) (by rfl) f rfl]
  unfold opAppend
  simp only [if_neg hl0]
  rw [if_pos (by omega), bnd_assoc, g1.cells, if_neg (by unfold U; omega), if_pos (by omega), bnd_assoc]
  have e1 : cellsOf 1 (sl n 0 0 0) = ret [] := rfl
  rw [e1, ret_bnd, bnd_assoc, run_new f1 (by rw [List.nil_append]; exact hall)]
  simp
  rfl

/-- Cut ahead of a place. -/
theorem Gq.cut {v : Value} {b : Nat} {l : List Value} (g : Gq h v b l) (hv : v ≠ nsl) {i : Nat} (hi : i ≤ l.length) (hg : ∀ xs, h.get b = some ⟨xs, .own⟩ → False) :
    ∃ v', v' ≠ nsl ∧ (∀ k : Value → M β, bnd (opSlice 1 v none (some (i64 i)) none) k = k v') ∧ Gq h v' b (l.take i) := by
  rcases g with ⟨_, e⟩ | ⟨o, xs, kd, c, rfl, h2, h3, h4, h5, h6⟩
  · exact absurd e hv
  · rcases h6 with ⟨rfl, rfl⟩ | ⟨rfl, _⟩
    · refine ⟨sl b o i (U + 1), fun e => (by cases e), fun k => ?_, .inr ⟨o, xs, .grow, U + 1, by rw [List.length_take, Nat.min_eq_left hi], h2, h3, by rw [List.length_take]; omega, ?_, .inl ⟨rfl, rfl⟩⟩⟩
      · have es : opSlice 1 (sl b o l.length (U + 1)) none (some (i64 i)) none = ret (sl b o i (U + 1)) := by
          show (if (0 : Int) ≤ 0 ∧ (0 : Int) ≤ (i : Int) then (if (i : Int) ≤ (l.length : Int) then (if U + 1 = U + 1 then ret (sl b (o + (0 : Int).toNat * 1) ((i : Int) - 0).toNat (U + 1)) else _) else fail) else fail) = _
          rw [if_pos (by omega), if_pos (by omega), if_pos rfl]
          simp
        rw [es, ret_bnd]
      · rw [List.length_take, Nat.min_eq_left hi]
        have : (xs.drop o).take i = ((xs.drop o).take l.length).take i := by rw [List.take_take, Nat.min_eq_left hi]
        rw [this, h5]
    · exact (hg _ h2).elim

/-- What lies behind a place. -/
theorem Gq.tailAt {v : Value} {b : Nat} {l : List Value} (g : Gq h v b l) (hv : v ≠ nsl) {i : Nat} (hi : i ≤ l.length) (hg : ∀ xs, h.get b = some ⟨xs, .own⟩ → False) :
    ∃ v', (∃ a l c, v' = .slice (some a) l c) ∧ (∀ k : Value → M β, bnd (opSlice 1 v (some (i64 i)) none none) k = k v') ∧ Rd h v' (l.drop i) := by
  rcases g with ⟨_, e⟩ | ⟨o, xs, kd, c, rfl, h2, h3, h4, h5, h6⟩
  · exact absurd e hv
  · rcases h6 with ⟨rfl, rfl⟩ | ⟨rfl, _⟩
    · refine ⟨sl b (o + i) (l.length - i) (U + 1), ⟨_, _, _, rfl⟩, fun k => ?_, .inr ⟨b, o + i, U + 1, .grow, by rw [List.length_drop], fun _ => ⟨xs, h2, h3, fun j hj => ?_⟩⟩⟩
      · have es : opSlice 1 (sl b o l.length (U + 1)) (some (i64 i)) none none = ret (sl b (o + i) (l.length - i) (U + 1)) := by
          show (if (0 : Int) ≤ (i : Int) ∧ (i : Int) ≤ (l.length : Int) then (if (l.length : Int) ≤ (l.length : Int) then (if U + 1 = U + 1 then ret (sl b (o + (i : Int).toNat * 1) ((l.length : Int) - (i : Int)).toNat (U + 1)) else _) else fail) else fail) = _
          rw [if_pos (by omega), if_pos (by omega), if_pos rfl, show ((l.length : Int) - (i : Int)).toNat = l.length - i by omega]
          simp
        rw [es, ret_bnd]
      · rw [List.length_drop] at hj
        have : l[i + j]? = ((xs.drop o).take l.length)[i + j]? := by rw [h5]
        rw [List.getElem?_drop, this, List.getElem?_take, if_pos (by omega), List.getElem?_drop, Nat.add_assoc]
    · exact (hg _ h2).elim

/-- Where a number stands. -/
def idxI (x : Int) (l : List Int) : Int := if x ∈ l then (l.idxOf x : Nat) else -1

theorem index_l1 {F : Nat} {v : Value} {x : Int} {l : List Int} (hl : l.length < 1000000000) (rd : RdI h v l) {E : M Value} : ∀ j i k, i + j = l.length → j < k → x ∉ l.take i →
    (slices_Index_l1 F E k v (i64 x) (i64 l.length) (i64 i)).run n h = if x ∈ l then some (i64 (l.idxOf x : Nat), n, h) else E.run n h := by
  intro j
  induction j with
  | zero =>
    intro i k hij hk hx
    obtain ⟨k, rfl⟩ : ∃ j, k = j + 1 := ⟨k - 1, by omega⟩
    rw [slices_Index_l1_s]
    unfold slices_Index_b1 slices_Index_r2
    try dsimp only
    rw [st_lss]
    simp only [onB_ite, run_ite, decide_eq_true_eq]
    rw [if_neg (by omega)]
    rw [List.take_of_length_le (by omega)] at hx
    rw [if_neg hx]
  | succ j ih =>
    intro i k hij hk hx
    obtain ⟨k, rfl⟩ : ∃ j, k = j + 1 := ⟨k - 1, by omega⟩
    have hi : i < l.length := by omega
    rw [slices_Index_l1_s]
    unfold slices_Index_b1 slices_Index_r2 slices_Index_r3 slices_Index_r4
    try dsimp only
    rw [st_lss]
    simp only [onB_ite, run_ite, decide_eq_true_eq]
    rw [if_pos (by omega), Rd.getI rd hi, st_eql]
    simp only [onB_ite, run_ite, beq_iff_eq]
    have etake : l.take (i + 1) = l.take i ++ [l[i]] := List.take_succ_eq_append_getElem hi
    by_cases e : x = l[i]
    · rw [if_pos e]
      have hm : x ∈ l := by rw [e]; exact List.getElem_mem hi
      rw [if_pos hm]
      unfold slices_Index_r5
      try dsimp only
      have : l.idxOf x = i := by
        have : l = l.take i ++ x :: l.drop (i + 1) := by rw [e, ← List.drop_eq_getElem_cons hi, List.take_append_drop]
        rw [this, List.idxOf_append, if_neg hx]
        simp; omega
      rw [this]
      rfl
    · rw [if_neg e]
      unfold slices_Index_r6
      try dsimp only
      rw [sx_add (by omega)]
      exact ih (i + 1) k (by omega) (by omega) (by rw [etake, List.mem_append, List.mem_singleton]; exact fun q => q.elim hx e)

theorem index_spec {F : Nat} {v : Value} {x : Int} {l : List Int} (hF : l.length < F) (hl : l.length < 1000000000) (rd : RdI h v l) : (slices_Index F v (i64 x)).run n h = some (i64 (idxI x l), n, h) := by
  unfold slices_Index slices_Index_r0 slices_Index_r1
  try dsimp only
  rw [Rd.lenI rd, show (Value.int .i64 0) = i64 ((0 : Nat) : Int) from rfl, index_l1 hl rd l.length 0 F (by omega) hF (by simp)]
  unfold idxI slices_Index_k0 slices_Index_r7
  try dsimp only
  split <;> rfl

theorem contains_spec {F : Nat} {v : Value} {x : Int} {l : List Int} (hF : l.length < F) (hl : l.length < 1000000000) (rd : RdI h v l) : (slices_Contains F v (i64 x)).run n h = some (bo (decide (x ∈ l)), n, h) := by
  unfold slices_Contains slices_Contains_r0 slices_Contains_r1
  try dsimp only
  rw [run_bnd (index_spec hF hl rd), st_geq]
  unfold idxI
  by_cases e : x ∈ l
  · rw [if_pos e, decide_eq_true (by omega), decide_eq_true e]; rfl
  · rw [if_neg e, decide_eq_false (by omega), decide_eq_false e]; rfl

/-- Sorted in place. -/
theorem sort_spec {F : Nat} {b : Nat} {zs : List Int} {c : Nat} (f : Fr n h) (hb : h.get b = some ⟨zs.map i64, .grow⟩) (h0 : zs ≠ []) (hl : zs.length ≤ 1000000) :
    (slices_Sort F (sl b 0 zs.length c)).run n h = some (undef, n, h.set b ⟨(sortI zs).map i64, .grow⟩) := by
  show (sortM (sl b 0 zs.length c)).run n h = _
  show (if zs.length = 0 ∨ 1000000 < zs.length then fail else bnd (rdN b 0 zs.length) _).run n h = _
  rw [if_neg (by have : zs.length ≠ 0 := fun e => h0 (List.eq_nil_of_length_eq_zero e); omega), run_rdN, hb, ldN_some (by decide) (by simp)]
  have e : ((zs.map i64).drop 0).take zs.length = zs.map i64 := by
    rw [List.drop_zero, List.take_of_length_le (by rw [List.length_map]; exact Nat.le_refl _)]
  rw [e, intsOf_ints]
  have hsl : (sortI zs).length = zs.length := (sortBy_perm id zs).length_eq
  have hw : (wrN b 0 ((sortI zs).map i64)).run n h = some ((), n, h.set b ⟨over (zs.map i64) 0 ((sortI zs).map i64), .grow⟩) := by
    show wrNF b 0 _ n h = _
    unfold wrNF
    rw [hb]
    simp [hsl, List.all_eq_true]
    intro _ _; rfl
  rw [run_bnd hw]
  have eo : over (zs.map i64) 0 ((sortI zs).map i64) = (sortI zs).map i64 := by
    unfold over
    rw [List.take_zero, List.nil_append, Nat.zero_add, List.length_map, hsl, List.drop_of_length_le (by rw [List.length_map]; exact Nat.le_refl _), List.append_nil]
  rw [eo]
  rfl

end

/-! ## The finder -/

abbrev fcs (N : Nat) (tv nv lv ov sv pv : Value) (nx : Nat) : List Value := [i64 N, tv, nv, lv, ov, sv, i64 nx, pv]

/-- Where the finder's blocks lie: the struct, three tables. -/
structure Fx (lo q p bn bl bs : Nat) : Prop where
  l1 : lo ≤ p
  l2 : lo ≤ bn
  l3 : lo ≤ bl
  l4 : lo ≤ bs
  u1 : p < q
  u2 : bn < q
  u3 : bl < q
  u4 : bs < q
  d1 : p ≠ bn
  d2 : p ≠ bl
  d3 : p ≠ bs
  d4 : bn ≠ bl
  d5 : bn ≠ bs
  d6 : bl ≠ bs

/-- The parts so far: each a list of its own. -/
def PartsIn (h : H) (q : Nat) (sv : Value) (sb : Nat) (ivs : List Value) (pb : Nat) (ps : List (List Nat)) : Prop :=
  ivs.length = ps.length ∧ ∀ (i : Nat) (v : Value) (P : List Nat), ivs[i]? = some v → ps[i]? = some P → ∃ b, GlI h v b (nats P) ∧ P ≠ [] ∧ q ≤ b ∧ b ≠ pb ∧ (sv ≠ nsl → b ≠ sb)

structure FS (h : H) (q p bn bl bs N : Nat) (tv : Value) (s : TS) (sv : Value) (sb : Nat) (pv : Value) (pb : Nat) (ivs : List Value) : Prop where
  hp : h.get p = some ⟨fcs N tv (sl bn 0 N N) (sl bl 0 N N) (sl bs 0 N N) sv pv s.nx, .own⟩
  tn : TI h bn N fun i => (s.num i : Int)
  tl : TI h bl N fun i => (s.low i : Int)
  tb : TB h bs N s.on
  st : GqI h sv sb s.st
  sq : sv ≠ nsl → q ≤ sb ∧ ∀ xs, h.get sb = some ⟨xs, .own⟩ → False
  s1 : one sv = true
  pl : Gl h pv pb ivs
  pq : ivs ≠ [] → q ≤ pb ∧ (sv ≠ nsl → pb ≠ sb)
  pp : PartsIn h q sv sb ivs pb s.ps

/-- There is a finder in a state. -/
def FE (h : H) (q p bn bl bs N : Nat) (tv : Value) (s : TS) : Prop := ∃ sv sb pv pb ivs, FS h q p bn bl bs N tv s sv sb pv pb ivs

section
variable {n : Nat} {h h' : H} {q p bn bl bs N : Nat} {tv sv pv : Value} {s s' : TS} {sb pb : Nat} {ivs : List Value}

theorem Gq.lt' {v : Value} {b : Nat} {cs : List Value} (g : Gq h v b cs) (hv : v ≠ nsl) (f : Fr n h) : b < n := by
  rcases g with ⟨_, e⟩ | ⟨o, xs, kd, c, _, h2, _⟩
  · exact absurd e hv
  · exact f.lt h2
theorem Gq.keep' {v : Value} {b : Nat} {cs : List Value} (g : Gq h v b cs) (hk : v ≠ nsl → h'.get b = h.get b) : Gq h' v b cs := by
  rcases g with g | ⟨o, xs, kd, c, h1, h2⟩
  · exact .inl g
  · exact Gq.keep (.inr ⟨o, xs, kd, c, h1, h2⟩) fun _ => hk (by rw [h1]; intro e; cases e)

theorem PartsIn.turn {ps : List (List Nat)} {sv' : Value} {sb' : Nat} (x : PartsIn h q sv sb ivs pb ps) (f : Fr n h) (hk : ∀ c, q ≤ c → c < n → c ≠ pb → (sv ≠ nsl → c ≠ sb) → h'.get c = h.get c) (hn : n ≤ sb') : PartsIn h' q sv' sb' ivs pb ps :=
  ⟨x.1, fun i v P hv hP => by
    obtain ⟨b, g, h0, h1, h2, h3⟩ := x.2 i v P hv hP
    have hne : (nats P).map i64 ≠ [] := by unfold nats; simpa using h0
    have hlt := g.lt f hne
    exact ⟨b, g.keep fun _ => hk b h1 hlt h2 h3, h0, h1, h2, fun _ => by omega⟩⟩
theorem PartsIn.keep {ps : List (List Nat)} (x : PartsIn h q sv sb ivs pb ps) (f : Fr n h) (hk : ∀ c, q ≤ c → c < n → c ≠ pb → (sv ≠ nsl → c ≠ sb) → h'.get c = h.get c) : PartsIn h' q sv sb ivs pb ps :=
  ⟨x.1, fun i v P hv hP => by
    obtain ⟨b, g, h0, h1, h2, h3⟩ := x.2 i v P hv hP
    have hne : (nats P).map i64 ≠ [] := by unfold nats; simpa using h0
    exact ⟨b, g.keep fun _ => hk b h1 (g.lt f hne) h2 h3, h0, h1, h2, h3⟩⟩

/-- What turns the struct and the tables alone. -/
theorem FS.fix (x : FS h q p bn bl bs N tv s sv sb pv pb ivs) (f : Fr n h) (hk : ∀ c, q ≤ c → c < n → h'.get c = h.get c) (hp' : h'.get p = some ⟨fcs N tv (sl bn 0 N N) (sl bl 0 N N) (sl bs 0 N N) sv pv s'.nx, .own⟩)
    (tn' : TI h' bn N fun i => (s'.num i : Int)) (tl' : TI h' bl N fun i => (s'.low i : Int)) (tb' : TB h' bs N s'.on) (e1 : s'.st = s.st) (e2 : s'.ps = s.ps) : FS h' q p bn bl bs N tv s' sv sb pv pb ivs := by
  refine ⟨hp', tn', tl', tb', ?_, fun hv => ⟨(x.sq hv).1, fun xs hx => ?_⟩, x.s1, x.pl.keep fun h0 => hk pb (x.pq h0).1 (x.pl.lt f h0), x.pq, ?_⟩
  · rw [e1]; exact x.st.keep' fun hv => hk sb (x.sq hv).1 (x.st.lt' hv f)
  · rw [hk sb (x.sq hv).1 (x.st.lt' hv f)] at hx; exact (x.sq hv).2 xs hx
  · rw [e2]; exact x.pp.keep f fun c h1 h2 _ _ => hk c h1 h2

theorem Fr.ltq {b : Nat} {B : Blk} (f : Fr n h) (hb : h.get b = some B) : b < n := f.lt hb

variable {lo m : Nat}

/-- The marks of a part come off. -/
theorem vis_l1 {F b : Nat} {rc : Value → Value → M Value} {pa : Value} {l : List Nat} (fx : Fx lo q p bn bl bs) (hq : q ≤ b) (hl : l.length < 1000000) (hlt : ∀ v, v ∈ l → v < N) {E : Value → Value → M Value} : ∀ j i k n (h : H) (on0 : Nat → Bool), i + j = l.length → j < k →
    (∃ cs, h.get p = some ⟨cs, .own⟩ ∧ cs[4]? = some (sl bs 0 N N)) → TB h bs N on0 → GlI h pa b (nats l) → Fr n h →
    ∃ h', (graph_finder_visit_l1 F rc E k (pt p 0) pa pa (i64 l.length) (i64 i)).run n h = (E (pt p 0) pa).run n h' ∧ TB h' bs N (fun v => on0 v && !decide (v ∈ l.drop i)) ∧ Ev (fun c => c = bs) n h n h' := by
  intro j
  induction j with
  | zero =>
    intro i k n h on0 hij hk hp tb gl f
    obtain ⟨k, rfl⟩ : ∃ j, k = j + 1 := ⟨k - 1, by omega⟩
    rw [graph_finder_visit_l1_s]
    unfold graph_finder_visit_b1 graph_finder_visit_r18
    try dsimp only
    rw [st_lss]
    simp only [onB_ite, run_ite, decide_eq_true_eq]
    rw [if_neg (by omega)]
    have e : (fun v => on0 v && !decide (v ∈ l.drop i)) = on0 := by
      funext v
      rw [List.drop_of_length_le (by omega)]
      simp
    rw [e]
    exact ⟨h, rfl, tb, Ev.refl f⟩
  | succ j ih =>
    intro i k n h on0 hij hk hp tb gl f
    obtain ⟨k, rfl⟩ : ∃ j, k = j + 1 := ⟨k - 1, by omega⟩
    have hi : i < l.length := by omega
    obtain ⟨cs, hp1, hp2⟩ := hp
    rw [graph_finder_visit_l1_s]
    unfold graph_finder_visit_b1 graph_finder_visit_r18
    try dsimp only
    rw [st_lss]
    simp only [onB_ite, run_ite, decide_eq_true_eq]
    rw [if_pos (by omega)]
    unfold graph_finder_visit_r19
    try dsimp only
    rw [RdI.getN gl.rd hi]
    unfold graph_finder_visit_r20
    try dsimp only
    have hb := hlt l[i] (List.getElem_mem hi)
    obtain ⟨h1, e1, t1, ev1⟩ := TB.set (β := Value) tb f hb (z := false)
    rw [st_nil, st_field, Nat.zero_add, ld1 hp1 (by decide) hp2, e1]
    unfold graph_finder_visit_r21
    try dsimp only
    rw [sx_add (by omega)]
    have hpn := f.lt hp1
    have hbn : b < n := gl.lt f (by unfold nats; intro e; rw [List.map_map, List.map_eq_nil_iff] at e; rw [e] at hi; simp at hi)
    obtain ⟨h', r1, r2, r3⟩ := ih (i + 1) k n h1 _ (by omega) (by omega) ⟨cs, by rw [ev1.keep p hpn fx.d3]; exact hp1, hp2⟩ t1 (gl.keep fun _ => ev1.keep b hbn (by have := fx.u4; omega)) ev1.f
    refine ⟨h', r1, ?_, ev1.trans r3 fun _ _ h => h⟩
    have e : (fun v => upd on0 l[i] false v && !decide (v ∈ l.drop (i + 1))) = fun v => on0 v && !decide (v ∈ l.drop i) := by
      funext v
      rw [List.drop_eq_getElem_cons hi]
      unfold upd
      by_cases hv : v = l[i]
      · rw [if_pos hv, hv]
        simp only [List.mem_cons, true_or, decide_true, Bool.not_true, Bool.and_false, Bool.false_and]
      · rw [if_neg hv]
        simp only [List.mem_cons, hv, false_or]
    rw [e] at r2
    exact r2


theorem ldF {cs : List Value} {i : Nat} {v : Value} {k : Value → M Value} (hp : h.get p = some ⟨cs, .own⟩) (hv : cs[i]? = some v) : (bnd (opNil (pt p 0)) fun a => bnd (opFieldAddr i a) fun b => bnd (opLoad b) k).run n h = (k v).run n h := by
  rw [st_nil, st_field, Nat.zero_add, ld1 hp (by decide) hv]
theorem stF {cs : List Value} {i : Nat} {v : Value} {k : Value → M Value} (hp : h.get p = some ⟨cs, .own⟩) (h1 : one v = true) (hi : i < cs.length) : (bnd (opNil (pt p 0)) fun a => bnd (opFieldAddr i a) fun b => bnd (opStore b v) k).run n h = (k undef).run n (h.set p ⟨cs.set i v, .own⟩) := by
  rw [st_nil, st_field, Nat.zero_add, st1 hp (.inl rfl) h1 hi]

theorem tvis_nx {adj : Nat → List Nat} (hlt : ∀ a, a < N → ∀ b, b ∈ adj a → b < N) : ∀ k b r, b < N → r.num b = 0 → (tvis adj N k b r).nx + cnt N (vis (tvis adj N k b r)) ≤ r.nx + cnt N (vis r)
  | 0, b, r, _, _ => Nat.le_refl _
  | k + 1, a, s, ha, h0 => by
    have e1 : cnt N (vis (tStart a s)) + 1 = cnt N (vis s) := by
      have h := cnt_put (s := vis s) (a := a) (decide_eq_false (by simp [h0])) N
      rw [if_pos ha] at h
      have : vis (tStart a s) = putM (vis s) a := by
        funext m
        unfold vis putM
        by_cases e : m = a
        · subst e
          rw [decide_eq_true (show (tStart m s).num m ≠ 0 by rw [show (tStart m s).num m = s.nx + 1 from upd_same]; omega)]
          simp
        · rw [show (tStart a s).num m = s.num m from upd_ne e, decide_eq_false e, Bool.or_false]
      rw [this]; exact h
    have hf : ∀ (bs : List Nat) (r : TS), (∀ b, b ∈ bs → b < N) → (bs.foldl (tStep (tvis adj N k) a) r).nx + cnt N (vis (bs.foldl (tStep (tvis adj N k) a) r)) ≤ r.nx + cnt N (vis r) := by
      intro bs
      induction bs with
      | nil => intro r _; exact Nat.le_refl _
      | cons b bs ih =>
        intro r hb
        have h1 := ih (tStep (tvis adj N k) a r b) fun c hc => hb c (List.mem_cons_of_mem _ hc)
        refine Nat.le_trans h1 ?_
        unfold tStep
        split
        · rename_i hz
          exact tvis_nx hlt k b r (hb b List.mem_cons_self) hz
        · split <;> exact Nat.le_refl _
    have h2 := hf (adj a) (tStart a s) fun b hb => hlt a ha b hb
    have e3 : ∀ r : TS, (tEnd N a r).nx = r.nx ∧ vis (tEnd N a r) = vis r := fun r => by
      unfold tEnd; split <;> exact ⟨rfl, rfl⟩
    show (tEnd N a _).nx + cnt N (vis (tEnd N a _)) ≤ _
    rw [(e3 _).1, (e3 _).2]
    have : (tStart a s).nx = s.nx + 1 := rfl
    omega

/-- What is asked of the calls of the search by itself. -/
def RecOK (rc : Value → Value → M Value) (lo q p bn bl bs N : Nat) (tv : Value) (adj : Nat → List Nat) (g : Nat → Prop) (m kk : Nat) : Prop :=
  ∀ b r n (h : H), b < N → FE h q p bn bl bs N tv r → Gr h m tv N adj → Fr n h → q ≤ n → r.num b = 0 → (∀ z, g z → Rch adj z b) → TInv adj N g r → cnt N (vis r) < kk → r.nx + cnt N (vis r) ≤ 1000 →
    ∃ v n' h', (rc (pt p 0) (i64 b)).run n h = some (v, n', h') ∧ FE h' q p bn bl bs N tv (tvis adj N kk b r) ∧ Ev (fun c => lo ≤ c) n h n' h'

theorem nat_min {a b : Nat} : (if ((b : Nat) : Int) < (a : Int) then (b : Int) else (a : Int)) = ((min a b : Nat) : Int) := by
  split <;> omega

/-- The edges of a node. -/
theorem vis_l3 {F a kk : Nat} {rc : Value → Value → M Value} {adj : Nat → List Nat} {g : Nat → Prop} (ok : GOk N adj) (fx : Fx lo q p bn bl bs) (hm : m ≤ lo) (ha : a < N) (xs : TInv adj N g s) (h0 : s.num a = 0) (hg : ∀ z, g z → Rch adj z a)
    (hrc : RecOK rc lo q p bn bl bs N tv adj (more g a) m kk) {rv : Value} {hb : H} (fb : Fr m hb) (hr : RdI hb rv (nats (adj a))) {E : Value → Value → M Value} : ∀ j i k n (h : H) (r : TS), i + j = (adj a).length → j < k →
    FE h q p bn bl bs N tv r → Gr h m tv N adj → Fr n h → q ≤ n → TMid adj N g s r a ((adj a).take i) → cnt N (vis r) < kk → r.nx + cnt N (vis r) ≤ 1000 → (∀ c, c < m → h.get c = hb.get c) →
    ∃ n' h', (graph_finder_visit_l3 F rc E k (pt p 0) (i64 a) rv (i64 (adj a).length) (i64 i)).run n h = (E (pt p 0) (i64 a)).run n' h' ∧ FE h' q p bn bl bs N tv (((adj a).drop i).foldl (tStep (tvis adj N kk) a) r) ∧
      TMid adj N g s (((adj a).drop i).foldl (tStep (tvis adj N kk) a) r) a (adj a) ∧ Ev (fun c => lo ≤ c) n h n' h' := by
  have hsN := ok.short a ha
  intro j
  induction j with
  | zero =>
    intro i k n h r hij hk fe gr f hn x hc hx hk0
    obtain ⟨k, rfl⟩ : ∃ j, k = j + 1 := ⟨k - 1, by omega⟩
    rw [graph_finder_visit_l3_s]
    unfold graph_finder_visit_b3 graph_finder_visit_r5
    try dsimp only
    rw [st_lss]
    simp only [onB_ite, run_ite, decide_eq_true_eq]
    rw [if_neg (by omega), List.drop_of_length_le (by omega)]
    rw [List.take_of_length_le (by omega)] at x
    exact ⟨n, h, rfl, fe, x, Ev.refl f⟩
  | succ j ih =>
    intro i k n h r hij hk fe gr f hn x hc hx hk0
    obtain ⟨k, rfl⟩ : ∃ j, k = j + 1 := ⟨k - 1, by omega⟩
    have hi : i < (adj a).length := by omega
    have hmem : (adj a)[i] ∈ adj a := List.getElem_mem hi
    have hbN := ok.lt a ha (adj a)[i] hmem
    have etake : (adj a).take (i + 1) = (adj a).take i ++ [(adj a)[i]] := List.take_succ_eq_append_getElem hi
    have edrop : (adj a).drop i = (adj a)[i] :: (adj a).drop (i + 1) := List.drop_eq_getElem_cons hi
    have hr1 : RdI h rv (nats (adj a)) := hr.kept fb hk0
    have hzz : ∀ z, more g a z → Rch adj z (adj a)[i] := fun z hz => hz.elim (fun q => .step (hg z q) hmem) fun q => by subst q; exact .step .refl hmem
    have x' := TMid.step (rc := tvis adj N kk) xs x h0 hmem hg fun hz0 hz => tvis_post (fun a ha b hb => ok.lt a ha b hb) kk _ r _ x.inv hz0 hbN hz hc
    rw [← etake] at x'
    have hvm : ∀ t : TS, TMid adj N g s t a ((adj a).take (i + 1)) → True := fun _ _ => trivial
    obtain ⟨sv, sb, pv, pb, ivs, w⟩ := fe
    rw [edrop, List.foldl_cons]
    rw [graph_finder_visit_l3_s]
    unfold graph_finder_visit_b3 graph_finder_visit_r5
    try dsimp only
    rw [st_lss]
    simp only [onB_ite, run_ite, decide_eq_true_eq]
    rw [if_pos (by omega)]
    unfold graph_finder_visit_r6
    try dsimp only
    rw [hr1.getN hi]
    unfold graph_finder_visit_r7
    try dsimp only
    rw [ldF w.hp rfl, w.tn.get hbN, st_eql]
    simp only [onB_ite, run_ite, beq_iff_eq]
    by_cases hz0 : r.num (adj a)[i] = 0
    · rw [if_pos (by omega)]
      unfold graph_finder_visit_r8
      try dsimp only
      obtain ⟨v1, n1, h1, e1, fe1, ev1⟩ := hrc (adj a)[i] r n h hbN ⟨sv, sb, pv, pb, ivs, w⟩ gr f hn hz0 hzz x.inv hc hx
      have le1 := ev1.le
      rw [run_bnd e1]
      have en := tvis_nx (fun a ha b hb => ok.lt a ha b hb) kk (adj a)[i] r hbN hz0
      have p1 := tvis_post (fun a ha b hb => ok.lt a ha b hb) kk _ r _ x.inv hz0 hbN hzz hc
      have es : tStep (tvis adj N kk) a r (adj a)[i] = { tvis adj N kk (adj a)[i] r with low := upd (tvis adj N kk (adj a)[i] r).low a (min ((tvis adj N kk (adj a)[i] r).low a) ((tvis adj N kk (adj a)[i] r).low (adj a)[i])) } := by
        unfold tStep; rw [if_pos hz0]
      generalize tvis adj N kk (adj a)[i] r = t at fe1 en p1 es
      obtain ⟨sv1, sb1, pv1, pb1, ivs1, w1⟩ := fe1
      unfold graph_finder_visit_r9
      try dsimp only
      rw [ldF w1.hp rfl, ldF w1.hp rfl, w1.tl.get ha, ldF w1.hp rfl, w1.tl.get hbN, st_min, nat_min]
      obtain ⟨h2, e2, t2, ev2⟩ := TI.set (β := Value) w1.tl ev1.f ha (z := ((min (t.low a) (t.low (adj a)[i]) : Nat) : Int))
      rw [e2]
      unfold graph_finder_visit_k4 graph_finder_visit_r12
      try dsimp only
      rw [sx_add (by omega)]
      have t2' : TI h2 bl N fun i' => ((upd t.low a (min (t.low a) (t.low (adj a)[i])) i' : Nat) : Int) := by
        have : (fun i' => ((upd t.low a (min (t.low a) (t.low (adj a)[i])) i' : Nat) : Int)) = upd (fun i => ((t.low i : Nat) : Int)) a ((min (t.low a) (t.low (adj a)[i]) : Nat) : Int) := by
          funext i'; unfold upd; split <;> rfl
        rw [this]; exact t2
      have w2 : FS h2 q p bn bl bs N tv (tStep (tvis adj N kk) a r (adj a)[i]) sv1 sb1 pv1 pb1 ivs1 := by
        rw [es]
        refine w1.fix ev1.f (fun c h1 h2 => ev2.keep c h2 (by have := fx.u3; omega)) ?_ (w1.tn.keep (ev2.keep _ (ev1.f.lt w1.tn) fx.d4)) t2' (w1.tb.keep (ev2.keep _ (ev1.f.lt w1.tb) fx.d6.symm)) rfl rfl
        rw [ev2.keep p (ev1.f.lt w1.hp) fx.d2]; exact w1.hp
      have hmono : cnt N (vis (tStep (tvis adj N kk) a r (adj a)[i])) ≤ cnt N (vis r) := cnt_mono (fun v hv => by
        rw [es]
        have hv : r.num v ≠ 0 := of_decide_eq_true hv
        refine decide_eq_true ?_
        show t.num v ≠ 0
        rw [(p1.keep v hv).1]; exact hv) N
      have hnx : (tStep (tvis adj N kk) a r (adj a)[i]).nx + cnt N (vis (tStep (tvis adj N kk) a r (adj a)[i])) ≤ 1000 := by
        rw [es]; exact Nat.le_trans en hx
      have ev12 : Ev (fun c => lo ≤ c) n h n1 h2 := ev1.trans ev2 fun c hc hq => by rw [hq]; exact fx.l3
      obtain ⟨n', h', r1, r2, r3, r4⟩ := ih (i + 1) k n1 h2 _ (by omega) (by omega) ⟨sv1, sb1, pv1, pb1, ivs1, w2⟩ (gr.ev ev12 (by have := fx.l1; have := fx.u1; omega) fun c hc => by omega) ev2.f (by omega) x' (by omega) hnx (fun c hc => by rw [ev12.keep c (by have := fx.l1; have := fx.u1; omega) (by omega)]; exact hk0 c hc)
      exact ⟨n', h', r1, r2, r3, ev12.trans r4 fun _ _ h => h⟩
    · rw [if_neg (by omega)]
      unfold graph_finder_visit_r10
      try dsimp only
      rw [ldF w.hp rfl, w.tb.get hbN]
      simp only [onB_ite, run_ite]
      by_cases hon : r.on (adj a)[i] = true
      · rw [if_pos hon]
        have es : tStep (tvis adj N kk) a r (adj a)[i] = { r with low := upd r.low a (min (r.low a) (r.num (adj a)[i])) } := by
          unfold tStep; rw [if_neg hz0, if_pos hon]
        unfold graph_finder_visit_r11
        try dsimp only
        rw [ldF w.hp rfl, ldF w.hp rfl, w.tl.get ha, ldF w.hp rfl, w.tn.get hbN, st_min, nat_min]
        obtain ⟨h2, e2, t2, ev2⟩ := TI.set (β := Value) w.tl f ha (z := ((min (r.low a) (r.num (adj a)[i]) : Nat) : Int))
        rw [e2]
        unfold graph_finder_visit_k4 graph_finder_visit_r12
        try dsimp only
        rw [sx_add (by omega)]
        have t2' : TI h2 bl N fun i' => ((upd r.low a (min (r.low a) (r.num (adj a)[i])) i' : Nat) : Int) := by
          have : (fun i' => ((upd r.low a (min (r.low a) (r.num (adj a)[i])) i' : Nat) : Int)) = upd (fun i => ((r.low i : Nat) : Int)) a ((min (r.low a) (r.num (adj a)[i]) : Nat) : Int) := by
            funext i'; unfold upd; split <;> rfl
          rw [this]; exact t2
        have w2 : FS h2 q p bn bl bs N tv (tStep (tvis adj N kk) a r (adj a)[i]) sv sb pv pb ivs := by
          rw [es]
          refine w.fix f (fun c h1 h2 => ev2.keep c h2 (by have := fx.u3; omega)) ?_ (w.tn.keep (ev2.keep _ (f.lt w.tn) fx.d4)) t2' (w.tb.keep (ev2.keep _ (f.lt w.tb) fx.d6.symm)) rfl rfl
          rw [ev2.keep p (f.lt w.hp) fx.d2]; exact w.hp
        have ev12 : Ev (fun c => lo ≤ c) n h n h2 := ev2.mono fun c hc hq => by rw [hq]; exact fx.l3
        obtain ⟨n', h', r1, r2, r3, r4⟩ := ih (i + 1) k n h2 _ (by omega) (by omega) ⟨sv, sb, pv, pb, ivs, w2⟩ (gr.ev ev12 (by have := fx.l1; have := fx.u1; omega) fun c hc => by omega) ev2.f hn x' (by rw [es]; exact hc) (by rw [es]; exact hx) (fun c hc => by rw [ev12.keep c (by have := fx.l1; have := fx.u1; omega) (by omega)]; exact hk0 c hc)
        exact ⟨n', h', r1, r2, r3, ev12.trans r4 fun _ _ h => h⟩
      · rw [if_neg hon]
        have es : tStep (tvis adj N kk) a r (adj a)[i] = r := by
          unfold tStep; rw [if_neg hz0, if_neg hon]
        rw [es] at x' ⊢
        unfold graph_finder_visit_k4 graph_finder_visit_r12
        try dsimp only
        rw [sx_add (by omega)]
        exact ih (i + 1) k n h r (by omega) (by omega) ⟨sv, sb, pv, pb, ivs, w⟩ gr f hn x' hc hx hk0

end

end Go.Fw
