/-
  haruspexref1.Eq and EqAll, said of the abstract machine: what is the same is told to be.
-/
import Derived.Test.YtddafkflndhnfaaDoorGenT
import Derived.Test.YtddafkflndhnfaaDoorFwS
namespace Go.Fw

theorem eq_l1 {F n : Nat} {h : H} {v v' : Value} {cs : List Value} (g : Rd h v cs) (g' : Rd h v' cs) (hz : ∀ i, i < cs.length → ∃ z, cs[i]? = some (i64 z)) (hl : cs.length ≤ 9223372036854775000) {E : M Value} : ∀ j i k, i + j = cs.length → j < k →
    (R1_Eq_l1 F E k v v' (i64 i)).run n h = E.run n h := by
  intro j
  induction j with
  | zero =>
    intro i k hij hk
    obtain ⟨k, rfl⟩ : ∃ j, k = j + 1 := ⟨k - 1, by omega⟩
    rw [R1_Eq_l1_s]
    unfold R1_Eq_b1 R1_Eq_r4
    rw [g.len]
    simp only [st_lss, onB_ite, run_ite, decide_eq_true_eq]
    rw [if_neg (by omega)]
  | succ j ih =>
    intro i k hij hk
    obtain ⟨k, rfl⟩ : ∃ j, k = j + 1 := ⟨k - 1, by omega⟩
    rw [R1_Eq_l1_s]
    unfold R1_Eq_b1 R1_Eq_r4
    rw [g.len]
    simp only [st_lss, onB_ite, run_ite, decide_eq_true_eq]
    rw [if_pos (by omega)]
    obtain ⟨z, hz⟩ := hz i (by omega)
    obtain ⟨b, o, e1, e2⟩ := g.ix (β := Value) hz
    obtain ⟨b', o', e1', e2'⟩ := g'.ix (β := Value) hz
    unfold R1_Eq_r6
    simp only [e1, e2, e1', e2', st_neq, onB_ite, run_ite]
    rw [if_neg (by simp)]
    unfold R1_Eq_r5
    simp only [st_add]
    rw [wrap64 (by omega)]
    exact ih (i + 1) k (by omega) (by omega)

theorem eq_true {F n : Nat} {h : H} {v v' : Value} {cs : List Value} (g : Rd h v cs) (g' : Rd h v' cs) (hz : ∀ i, i < cs.length → ∃ z, cs[i]? = some (i64 z)) (hF : cs.length < F) (hl : cs.length ≤ 9223372036854775000) :
    (R1_Eq F v v').run n h = some (bo true, n, h) := by
  unfold R1_Eq R1_Eq_r0 R1_Eq_r1
  simp only [g.len, g'.len, st_neq, onB_ite, run_ite]
  rw [if_neg (by simp)]
  unfold R1_Eq_r3
  dsimp only
  rw [show (Value.int .i64 0) = i64 ((0 : Nat) : Int) from rfl, eq_l1 g g' hz hl cs.length 0 F (by omega) hF]
  rfl

theorem eqAll_l1 {F n G : Nat} {h : H} {v v' : Value} {L : Nat → List Value} (g : RdLL h v G L) (g' : RdLL h v' G L) (hz : ∀ j, j < G → ∀ i, i < (L j).length → ∃ z, (L j)[i]? = some (i64 z)) (hF : ∀ j, j < G → (L j).length < F ∧ (L j).length ≤ 9223372036854775000) (hl : G ≤ 9223372036854775000) {E : M Value} : ∀ j i k, i + j = G → j < k →
    (R1_EqAll_l1 F E k v v' (i64 i)).run n h = E.run n h := by
  obtain ⟨iv, g, gi⟩ := g
  obtain ⟨iv', g', gi'⟩ := g'
  intro j
  induction j with
  | zero =>
    intro i k hij hk
    obtain ⟨k, rfl⟩ : ∃ j, k = j + 1 := ⟨k - 1, by omega⟩
    rw [R1_EqAll_l1_s]
    unfold R1_EqAll_b1 R1_EqAll_r4
    rw [g.len, tab_len]
    simp only [st_lss, onB_ite, run_ite, decide_eq_true_eq]
    rw [if_neg (by omega)]
  | succ j ih =>
    intro i k hij hk
    obtain ⟨k, rfl⟩ : ∃ j, k = j + 1 := ⟨k - 1, by omega⟩
    rw [R1_EqAll_l1_s]
    unfold R1_EqAll_b1 R1_EqAll_r4
    rw [g.len, tab_len]
    simp only [st_lss, onB_ite, run_ite, decide_eq_true_eq]
    rw [if_pos (by omega)]
    obtain ⟨b, o, e1, e2⟩ := g.ix (β := Value) (tab_get (show i < G by omega))
    obtain ⟨b', o', e1', e2'⟩ := g'.ix (β := Value) (tab_get (show i < G by omega))
    unfold R1_EqAll_r6
    simp only [e1, e2, e1', e2']
    rw [run_bnd (eq_true (gi i (by omega)) (gi' i (by omega)) (hz i (by omega)) (hF i (by omega)).1 (hF i (by omega)).2)]
    simp only [st_not, onB_ite, run_ite, Bool.not_true, Bool.false_eq_true, if_false]
    unfold R1_EqAll_r5
    simp only [st_add]
    rw [wrap64 (by omega)]
    exact ih (i + 1) k (by omega) (by omega)

theorem eqAll_true {F n G : Nat} {h : H} {v v' : Value} {L : Nat → List Value} (g : RdLL h v G L) (g' : RdLL h v' G L) (hz : ∀ j, j < G → ∀ i, i < (L j).length → ∃ z, (L j)[i]? = some (i64 z)) (hF : ∀ j, j < G → (L j).length < F ∧ (L j).length ≤ 9223372036854775000) (hG : G < F) (hl : G ≤ 9223372036854775000) :
    (R1_EqAll F v v').run n h = some (bo true, n, h) := by
  have q := eqAll_l1 (n := n) g g' hz hF hl (E := R1_EqAll_k0 F) G 0 F (by omega) hG
  obtain ⟨iv, g, gi⟩ := g
  obtain ⟨iv', g', gi'⟩ := g'
  unfold R1_EqAll R1_EqAll_r0 R1_EqAll_r1
  simp only [g.len, g'.len, tab_len, st_neq, onB_ite, run_ite]
  rw [if_neg (by simp)]
  unfold R1_EqAll_r3
  dsimp only
  rw [show (Value.int .i64 0) = i64 ((0 : Nat) : Int) from rfl, q]
  rfl

end Go.Fw
