/-
  haruspexref1.In, Put and Eq, said of the abstract machine.
-/
import Derived.Test.YtmkpboaigdnpnaaGenC
import Derived.Test.YtmkpboaigdnpnaaFwX
set_option maxRecDepth 20000
namespace Go.Fw

theorem rin_l1 {F n : Nat} {h : H} {v : Value} {zs : List Int} {z : Int} (g : RdI h v zs) (hl : zs.length ≤ 9223372036854775000) {E : M Value} (b : Bool) (hE : E.run n h = some (bo false, n, h)) : ∀ j i k, i + j = zs.length → j < k →
    (R1_In_l1 F E k v (i64 z) (i64 i)).run n h = some (bo (decide (z ∈ zs.drop i)), n, h) := by
  intro j
  induction j with
  | zero =>
    intro i k hij hk
    obtain ⟨k, rfl⟩ : ∃ j, k = j + 1 := ⟨k - 1, by omega⟩
    rw [R1_In_l1_s]
    unfold R1_In_b1 R1_In_r2
    rw [g.lenI]
    simp only [st_lss, onB_ite, run_ite, decide_eq_true_eq]
    rw [if_neg (by omega), hE, List.drop_of_length_le (by omega)]
    rfl
  | succ j ih =>
    intro i k hij hk
    obtain ⟨k, rfl⟩ : ∃ j, k = j + 1 := ⟨k - 1, by omega⟩
    rw [R1_In_l1_s]
    unfold R1_In_b1 R1_In_r2
    rw [g.lenI]
    simp only [st_lss, onB_ite, run_ite, decide_eq_true_eq]
    have hi : i < zs.length := by omega
    rw [if_pos (by omega)]
    unfold R1_In_r4
    rw [g.getI hi, st_eql, List.drop_eq_getElem_cons hi]
    simp only [onB_ite, run_ite, beq_iff_eq]
    by_cases e : zs[i] = z
    · rw [if_pos e]
      unfold R1_In_r5
      rw [decide_eq_true (by rw [e]; exact List.mem_cons_self)]
      rfl
    · rw [if_neg e]
      unfold R1_In_r3
      rw [sx_add (by omega)]
      refine (ih (i + 1) k (by omega) (by omega)).trans ?_
      have : decide (z ∈ zs.drop (i + 1)) = decide (z ∈ zs[i] :: zs.drop (i + 1)) := by
        rw [decide_eq_decide, List.mem_cons]
        constructor
        · exact .inr
        · rintro (h | h)
          · exact absurd h.symm e
          · exact h
      rw [this]

theorem rin_spec {F n : Nat} {h : H} {v : Value} {zs : List Int} (g : RdI h v zs) (hF : zs.length < F) (hl : zs.length ≤ 9223372036854775000) (z : Int) : (R1_In F v (i64 z)).run n h = some (bo (decide (z ∈ zs)), n, h) := by
  unfold R1_In R1_In_r0 R1_In_r1
  dsimp only
  have := rin_l1 (F := F) (n := n) (z := z) g hl (E := R1_In_k0 F) false rfl zs.length 0 F (by omega) hF
  rw [List.drop_zero] at this
  exact this

/-! ## Eq -/

theorem req_l1 {F n : Nat} {h : H} {v v' : Value} {zs ys : List Int} (g : RdI h v zs) (g' : RdI h v' ys) (he : zs.length = ys.length) (hl : zs.length ≤ 9223372036854775000) {E : M Value} (hE : E.run n h = some (bo true, n, h)) : ∀ j i k, i + j = zs.length → j < k →
    (R1_Eq_l1 F E k v v' (i64 i)).run n h = some (bo (decide (zs.drop i = ys.drop i)), n, h) := by
  intro j
  induction j with
  | zero =>
    intro i k hij hk
    obtain ⟨k, rfl⟩ : ∃ j, k = j + 1 := ⟨k - 1, by omega⟩
    rw [R1_Eq_l1_s]
    unfold R1_Eq_b1 R1_Eq_r4
    rw [g.lenI]
    simp only [st_lss, onB_ite, run_ite, decide_eq_true_eq]
    rw [if_neg (by omega), hE, List.drop_of_length_le (by omega), List.drop_of_length_le (by omega)]
    rfl
  | succ j ih =>
    intro i k hij hk
    obtain ⟨k, rfl⟩ : ∃ j, k = j + 1 := ⟨k - 1, by omega⟩
    rw [R1_Eq_l1_s]
    unfold R1_Eq_b1 R1_Eq_r4
    rw [g.lenI]
    simp only [st_lss, onB_ite, run_ite, decide_eq_true_eq]
    have hi : i < zs.length := by omega
    have hi' : i < ys.length := by omega
    rw [if_pos (by omega)]
    unfold R1_Eq_r6
    rw [g.getI hi, g'.getI hi', st_neq, List.drop_eq_getElem_cons hi, List.drop_eq_getElem_cons hi']
    simp only [onB_ite, run_ite, bne_iff_ne]
    by_cases e : zs[i] = ys[i]
    · rw [if_neg (by simpa using e)]
      unfold R1_Eq_r5
      rw [sx_add (by omega)]
      refine (ih (i + 1) k (by omega) (by omega)).trans ?_
      have : decide (zs.drop (i + 1) = ys.drop (i + 1)) = decide (zs[i] :: zs.drop (i + 1) = ys[i] :: ys.drop (i + 1)) := by
        rw [decide_eq_decide, List.cons.injEq, e]; simp
      rw [this]
    · rw [if_pos e]
      unfold R1_Eq_r7
      rw [decide_eq_false (by rw [List.cons.injEq]; exact fun h => e h.1)]
      rfl

theorem req_spec {F n : Nat} {h : H} {v v' : Value} {zs ys : List Int} (g : RdI h v zs) (g' : RdI h v' ys) (hF : zs.length < F) (hl : zs.length ≤ 9223372036854775000) : (R1_Eq F v v').run n h = some (bo (decide (zs = ys)), n, h) := by
  unfold R1_Eq R1_Eq_r0 R1_Eq_r1
  dsimp only
  rw [g.lenI, g'.lenI, st_neq]
  simp only [onB_ite, run_ite, bne_iff_ne]
  by_cases e : zs.length = ys.length
  · rw [if_neg (by omega)]
    unfold R1_Eq_r3
    dsimp only
    have := req_l1 (F := F) (n := n) g g' e hl (E := R1_Eq_k0 F) rfl zs.length 0 F (by omega) hF
    rw [List.drop_zero, List.drop_zero] at this
    exact this
  · rw [if_pos (by omega), decide_eq_false (by rintro rfl; exact e rfl)]
    rfl

end Go.Fw
