/-
  SetEnds, SetLaws, said of the abstract machine.
-/
import Derived.Test.YtbkppkekgdnilaaDoorLawSetE
import Derived.Test.YtbkppkekgdnilaaDoorLawSetD
set_option maxRecDepth 20000
namespace Go.Fw

theorem mayI (a : Int) {s : Nat → Bool} (h0 : ∀ m, s m = false) : canAdd s a = decide (0 ≤ a ∧ a < 5000) := by
  unfold canAdd; rw [h0, Bool.not_false, Bool.and_true]

theorem setL_nil {s : Nat → Bool} (h0 : ∀ m, s m = false) : setL s = [] := by
  unfold setL upTo
  rw [List.filter_eq_nil_iff]
  intro a _; rw [h0]; simp
theorem setL_mem {h : H} {p lo hi : Nat} {s : Nat → Bool} (x : SetAt h p lo hi s) {m : Nat} : m ∈ setL s ↔ s m = true := by
  unfold setL upTo
  rw [List.mem_filter, List.mem_range]
  exact ⟨fun h => h.2, fun h => ⟨by have := x.small h; omega, h⟩⟩
theorem setL_sorted {s : Nat → Bool} : (setL s).Pairwise (· < ·) := List.Pairwise.filter _ List.pairwise_lt_range

theorem sorted_ext {l l' : List Nat} (h1 : l.Pairwise (· < ·)) (h2 : l'.Pairwise (· < ·)) (h : ∀ m, m ∈ l ↔ m ∈ l') : l = l' := by
  induction l generalizing l' with
  | nil =>
    match l' with
    | [] => rfl
    | a :: l' => exact absurd ((h a).2 List.mem_cons_self) (by simp)
  | cons a l ih =>
    match l' with
    | [] => exact absurd ((h a).1 List.mem_cons_self) (by simp)
    | b :: l' =>
      rw [List.pairwise_cons] at h1 h2
      have hab : a = b := by
        have q1 := (h a).1 List.mem_cons_self
        have q2 := (h b).2 List.mem_cons_self
        rw [List.mem_cons] at q1 q2
        rcases q1 with q1 | q1
        · exact q1
        · rcases q2 with q2 | q2
          · exact q2.symm
          · have := h1.1 b q2; have := h2.1 a q1; omega
      subst hab
      rw [ih h1.2 h2.2 fun m => ?_]
      have q := h m
      rw [List.mem_cons, List.mem_cons] at q
      constructor
      · intro hm
        rcases q.1 (.inr hm) with rfl | h3
        · exact absurd (h1.1 m hm) (Nat.lt_irrefl _)
        · exact h3
      · intro hm
        rcases q.2 (.inr hm) with rfl | h3
        · exact absurd (h2.1 m hm) (Nat.lt_irrefl _)
        · exact h3

theorem ends_run {F : Nat} (hF : 5100 < F) (hbg : gaveTrue ((L1_begun F).run 8 (baseH deB)) = true) (hbk : (((L1_begun F).run 8 (baseH deB)).map fun x => x.2.2.get 0) = some (some ⟨deB, .ro⟩)) (h : H) (us : List Value) (f : Fr 8 h) (hb : h.get 0 = some ⟨deB, .ro⟩) (ha : ArgsAre h [.int] us) :
    ∃ n' h', (L1_SetEnds_m F us).run 8 h = some (.bool true, n', h') := by
  obtain ⟨_, rfl, ⟨a, rfl, hr⟩⟩ := args1 ha
  show ∃ n' h', (L1_SetEnds F (i64 a)).run 8 h = some (.bool true, n', h')
  unfold L1_SetEnds L1_SetEnds_r0 L1_SetEnds_r1
  obtain ⟨n1, h1, e1, f1, g1, k1⟩ := run_over_true hbg hbk f hb
  rw [run_bnd e1]
  unfold L1_SetEnds_r2
  simp only [st_not, onB_ite, Bool.not_true, Bool.false_eq_true, if_false]
  have hb1 : h1.get 0 = some ⟨deB, .ro⟩ := by rw [k1 0 (by omega)]; exact hb
  unfold L1_SetEnds_r4
  obtain ⟨h2, e2, x2, ev2⟩ := at_new f1 (k := fun v10 => L1_SetEnds_r5 F (i64 a) v10 fun x0 x4 x5 => L1_SetEnds_r6 F x0 x4 x5 fun x2 => ret x2)
  rw [e2]
  have hb2 : h2.get 0 = some ⟨deB, .ro⟩ := by rw [ev2.no (by omega)]; exact hb1
  unfold L1_SetEnds_r5
  obtain ⟨n3, h3, e3, x3, ev3⟩ := at_add (F := F) (by omega) x2 ev2.f (by omega) (by omega) a
  dsimp only
  rw [run_bnd e3]
  have hb3 : h3.get 0 = some ⟨deB, .ro⟩ := by rw [ev3.keep 0 (by omega) (by omega)]; exact hb2
  rw [mayI a (fun _ => rfl)] at x3 ⊢
  have hm : ∀ m, (if decide (0 ≤ a ∧ a < 5000) = true then putS (fun _ => false) a.toNat else fun _ => false) m = (decide (0 ≤ a ∧ a < 5000) && decide ((m : Int) = a)) := fun m => by
    by_cases hq : 0 ≤ a ∧ a < 5000
    · rw [decide_eq_true hq, if_pos rfl, Bool.true_and]
      unfold putS
      rw [Bool.false_or, decide_eq_decide]; omega
    · rw [decide_eq_false hq]; rfl
  have y3 := x3.congr hm
  obtain ⟨q, hq⟩ : ∃ q, q = decide (0 ≤ a ∧ a < 5000) := ⟨_, rfl⟩
  rw [← hq] at y3
  have hin : isIn (fun m => q && decide ((m : Int) = a)) a = q := by
    unfold isIn
    rw [← hq]
    cases hqq : q with
    | false => rfl
    | true =>
      rw [hqq] at hq
      have := of_decide_eq_true hq.symm
      show (true && (true && decide (((a.toNat : Nat) : Int) = a))) = true
      rw [decide_eq_true (by omega)]; rfl
  have hlen : (setL fun m => q && decide ((m : Int) = a)).length = if q = true then 1 else 0 := by
    cases hqq : q with
    | false => rw [setL_nil (s := fun m : Nat => false && decide ((m : Int) = a)) (fun _ => rfl)]; rfl
    | true =>
      rw [hqq] at hq
      have hr := of_decide_eq_true hq.symm
      rw [hqq] at y3
      rw [sorted_ext (l' := [a.toNat]) setL_sorted (by simp) fun m => by
        rw [setL_mem y3, Bool.true_and, decide_eq_true_eq, List.mem_singleton]; omega]
      rfl
  unfold L1_SetEnds_r6
  obtain ⟨n4, h4, v4, e4, g4, ev4⟩ := at_all (F := F) (by omega) (by have := ev3.le; omega) hb3 y3 ev3.f
  have y4 := y3.kept ev4 (Nat.le_refl _)
  rw [run_bnd (may_spec a), ← hq, st_eqB]
  simp only [onB_ite, run_ite]
  rw [if_pos (by cases q <;> rfl), run_bnd (at_has y3 a), hin, run_bnd (may_spec a), ← hq, st_eqB]
  simp only [onB_ite, run_ite]
  rw [if_pos (by cases q <;> rfl), run_bnd (at_len (by omega) y3), run_bnd e4, g4.rd.lenI, st_eql]
  simp only [onB_ite, run_ite]
  rw [if_pos (by simp [ints]), run_bnd (at_len (by omega) y4), st_eql, run_bnd (may_spec a), ← hq, st_eqB, hlen]
  simp only [onB_ite, run_ite]
  rw [if_pos (by cases q <;> rfl)]
  obtain ⟨h5, e5, y5, ev5⟩ := at_rem (F := F) y4 ev4.f a
  rw [run_bnd e5, hin, run_bnd (may_spec a), ← hq, st_eqB]
  simp only [onB_ite, run_ite]
  rw [if_pos (by cases q <;> rfl), run_bnd (at_len (by omega) y5)]
  have z5 := y5.congr (s' := fun _ => false) fun m => by cases q <;> cases decide ((m : Int) = a) <;> rfl
  have hl0 : (setL fun m => (q && decide ((m : Int) = a)) && !decide ((m : Int) = a)).length = 0 := by
    rw [setL_nil fun m => by cases q <;> cases decide ((m : Int) = a) <;> rfl]; rfl
  rw [hl0, st_eql]
  simp only [onB_ite, run_ite]
  rw [if_pos (by decide)]
  obtain ⟨n6, h6, e6, x6, ev6⟩ := at_add (F := F) (by omega) z5 ev5.f (by have := ev4.le; omega) (by have := ev4.le; have := ev3.le; omega) 4999
  have c1 : canAdd (fun _ => false) 4999 = true := rfl
  rw [run_bnd e6, c1]
  rw [c1, if_pos rfl] at x6
  simp only [onB_ite, run_ite, if_true]
  obtain ⟨n7, h7, e7, x7, ev7⟩ := at_add (F := F) (by omega) x6 ev6.f (Nat.le_refl _) (by have := ev6.le; have := ev4.le; have := ev3.le; omega) 5000
  have c2 : canAdd (putS (fun _ => false) (4999 : Int).toNat) 5000 = false := rfl
  rw [run_bnd e7, c2, st_not]
  rw [c2, if_neg (by decide)] at x7
  simp only [onB_ite, run_ite, Bool.not_false, if_true]
  obtain ⟨n8, h8, e8, x8, ev8⟩ := at_add (F := F) (by omega) x7 ev7.f (Nat.le_refl _) (by have := ev7.le; have := ev6.le; have := ev4.le; have := ev3.le; omega) 0
  have c3 : canAdd (putS (fun _ => false) (4999 : Int).toNat) 0 = true := rfl
  rw [run_bnd e8, c3]
  rw [c3, if_pos rfl] at x8
  simp only [onB_ite, run_ite, if_true]
  obtain ⟨n9, h9, e9, x9, ev9⟩ := at_add (F := F) (by omega) x8 ev8.f (Nat.le_refl _) (by have := ev8.le; have := ev7.le; have := ev6.le; have := ev4.le; have := ev3.le; omega) (-1)
  have c4 : canAdd (putS (putS (fun _ => false) (4999 : Int).toNat) (0 : Int).toNat) (-1) = false := rfl
  rw [run_bnd e9, c4, st_not]
  exact ⟨_, _, rfl⟩

theorem begun6_runs : gaveTrue ((L1_begun 6000).run 8 (baseH deB)) = true := by kernel_rfl
theorem begun6_keeps : (((L1_begun 6000).run 8 (baseH deB)).map fun x => x.2.2.get 0) = some (some ⟨deB, .ro⟩) := by kernel_rfl

theorem ends_law (h : H) (us : List Value) (f : Fr 8 h) (hb : h.get 0 = some ⟨deB, .ro⟩) (ha : ArgsAre h [.int] us) : ∃ n' h', (L1_SetEnds_m 6000 us).run 8 h = some (.bool true, n', h') := ends_run (by decide) begun6_runs begun6_keeps h us f hb ha

end Go.Fw
