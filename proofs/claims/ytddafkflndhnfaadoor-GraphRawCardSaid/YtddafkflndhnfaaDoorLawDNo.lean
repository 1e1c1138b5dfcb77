/-
  What is no graph is refused by all; haruspexref1.May.
-/
import Derived.Test.YtddafkflndhnfaaDoorLawDRaw
import Derived.Test.YtddafkflndhnfaaDoorLawDReach
set_option maxRecDepth 20000
set_option linter.unusedVariables false
namespace Go.Fw

theorem opBuild_grz {z : Int} {tv : Value} (h1 : one tv = true) : opBuild [i64 0, nsl] [(0, 1, false, i64 z), (1, 1, false, tv)] = ret (gvz z tv) := by
  have hN : one (i64 z) = true := rfl
  simp [opBuild, fillA, h1, hN]

section
variable {F n g G m : Nat} {z : Int} {tv : Value} {R : Nat → List Int} {h : H}

theorem turn_no (hF : 1000000 ≤ F) (gr : RG h m tv G R) (hm : m ≤ n) (hG : G ≤ 100000) (hR : ∀ a, a < G → (R a).length ≤ 100000) (hno : ¬ Mayz z G R) (f : Fr n h) :
    ∃ n' h', (graph_Turn F (gvz z tv)).run n h = some (gvz 0 nsl, n', h') ∧ Ev No n h n' h' := by
  unfold graph_Turn graph_Turn_r0
  try dsimp only
  obtain ⟨h1, e1, g1, ev1⟩ := GBz.box (β := Value) (z := z) f gr.1
  rw [e1, show (Value.int .i64 0) = i64 0 from rfl, show (Value.slice none 0 0) = nsl from rfl, run_ptr ev1.f (by rfl)]
  have ev2 := Ev.new ev1.f ⟨[i64 0, nsl], .own⟩
  have q2 : (h1.set (n + 1) ⟨[i64 0, nsl], .own⟩).get (n + 1) = some ⟨[i64 0, nsl], .own⟩ := H.get_set_same _ _ _
  generalize hh2 : h1.set (n + 1) ⟨[i64 0, nsl], .own⟩ = h2 at *
  have g2 := g1.ev ev2 (by omega) (fun h => h)
  have gr2 := (gr.no ev1 hm).no ev2 (by omega)
  unfold graph_Turn_r1
  try dsimp only
  obtain ⟨n3, h3, e3, ev3⟩ := may_no (F := F) (z := z) hF gr2 (by omega) hG hR hno ev2.f
  have l3 := ev3.le
  rw [g2.all, run_bnd e3, st_not, onB_ite, run_ite, if_pos (by decide)]
  unfold graph_Turn_r2
  try dsimp only
  have q3 : h3.get (n + 1) = some ⟨[i64 0, nsl], .own⟩ := (ev3.no (by omega)).trans q2
  have hb : opBuild [i64 0, nsl] [] = ret (gvz 0 nsl) := rfl
  obtain ⟨h4, e4, g4, ev4⟩ := GBz.put (β := Value) (z := 0) (tv := nsl) q3 rfl ev3.f rfl
  rw [show (Value.int .i64 0) = i64 0 from rfl, show (Value.slice none 0 0) = nsl from rfl, hb, ret_bnd, e4, g4.all]
  exact ⟨n3, h4, rfl, ((ev1.trans ev2 fun _ _ h => h).trans ev3 fun _ _ h => h).trans ev4 fun c hc q => by omega⟩

theorem path_no {a b : Value} (hF : 1000000 ≤ F) (gr : RG h m tv G R) (hm : m ≤ n) (hG : G ≤ 100000) (hR : ∀ a, a < G → (R a).length ≤ 100000) (hno : ¬ Mayz z G R) (f : Fr n h) :
    ∃ n' h', (graph_Path F (gvz z tv) a b).run n h = some (nsl, n', h') ∧ Ev No n h n' h' := by
  unfold graph_Path graph_Path_r0
  try dsimp only
  obtain ⟨h1, e1, g1, ev1⟩ := GBz.box (β := Value) (z := z) f gr.1
  rw [e1]
  have gr1 := gr.no ev1 hm
  unfold graph_Path_r1
  try dsimp only
  obtain ⟨n2, h2, e2, ev2⟩ := may_no (F := F) (z := z) hF gr1 (by omega) hG hR hno ev1.f
  rw [g1.all, run_bnd e2, st_not, onB_ite, run_ite, if_pos (by decide), onB_ite, run_ite, if_pos rfl]
  exact ⟨n2, h2, rfl, ev1.trans ev2 fun _ _ h => h⟩

theorem parts_no (hF : 1000000 ≤ F) (gr : RG h m tv G R) (hm : m ≤ n) (hG : G ≤ 100000) (hR : ∀ a, a < G → (R a).length ≤ 100000) (hno : ¬ Mayz z G R) (f : Fr n h) :
    ∃ n' h', (graph_Parts F (gvz z tv)).run n h = some (nsl, n', h') ∧ Ev No n h n' h' := by
  unfold graph_Parts graph_Parts_r0
  try dsimp only
  obtain ⟨h1, e1, g1, ev1⟩ := GBz.box (β := Value) (z := z) f gr.1
  rw [e1]
  have gr1 := gr.no ev1 hm
  unfold graph_Parts_r1
  try dsimp only
  obtain ⟨n2, h2, e2, ev2⟩ := may_no (F := F) (z := z) hF gr1 (by omega) hG hR hno ev1.f
  rw [g1.all, run_bnd e2, st_not, onB_ite, run_ite, if_pos (by decide)]
  exact ⟨n2, h2, rfl, ev1.trans ev2 fun _ _ h => h⟩

theorem loops_no (hF : 1000000 ≤ F) (gr : RG h m tv G R) (hm : m ≤ n) (hG : G ≤ 100000) (hR : ∀ a, a < G → (R a).length ≤ 100000) (hno : ¬ Mayz z G R) (f : Fr n h) :
    ∃ n' h' p, (graph_Loops F (gvz z tv)).run n h = some (pt p 0, n', h') ∧ SetAt h' p n n' (fun _ => false) ∧ Ev No n h n' h' := by
  unfold graph_Loops graph_Loops_r0
  try dsimp only
  obtain ⟨h1, e1, g1, ev1⟩ := GBz.box (β := Value) (z := z) f gr.1
  rw [e1]
  have gr1 := gr.no ev1 hm
  unfold graph_Loops_r1
  try dsimp only
  obtain ⟨e2, x2, f2⟩ := new_set ev1.f (k := fun v9 => graph_Loops_r2 F (pt n 0) v9 fun x1 x3 x11 x12 x13 => graph_Loops_l1 F (fun x3 => graph_Loops_k0 F x3) F x1 x3 x11 x12 x13)
  rw [show (Value.slice none 0 0) = nsl from rfl, e2]
  have ev2 : Ev No (n + 1) h1 (n + 1 + 1) (h1.set (n + 1) ⟨[nsl], .own⟩) := Ev.new ev1.f _
  have g2 := g1.ev ev2 (by omega) (fun h => h)
  have gr2 := gr1.no ev2 (by omega)
  unfold graph_Loops_r2
  try dsimp only
  obtain ⟨n3, h3, e3, ev3⟩ := parts_no (F := F) (z := z) hF gr2 (by omega) hG hR hno f2
  have l3 := ev3.le
  rw [g2.all, run_bnd e3, st_len]
  obtain ⟨k, rfl⟩ : ∃ j, F = j + 1 := ⟨F - 1, by omega⟩
  rw [graph_Loops_l1_s]
  unfold graph_Loops_b1 graph_Loops_r3
  try dsimp only
  rw [st_lss, onB_ite, run_ite, if_neg (by simp)]
  have x3 : BS h3 (n + 1) (fun c => c = n + 1) (fun _ => false) := x2.keep fun c hc => ev3.no (by omega)
  exact ⟨n3, h3, n + 1, rfl, ⟨_, x3, fun c hc => ⟨by omega, by omega⟩⟩, (ev1.trans ev2 fun _ _ h => h).trans ev3 fun _ _ h => h⟩

theorem reach_no {fv : Value} (hF : 1000000 ≤ F) (gr : RG h m tv G R) (hm : m ≤ n) (hG : G ≤ 100000) (hR : ∀ a, a < G → (R a).length ≤ 100000) (hno : ¬ Mayz z G R) (f : Fr n h) :
    ∃ n' h' p, (graph_Reach F (gvz z tv) fv).run n h = some (pt p 0, n', h') ∧ SetAt h' p n n' (fun _ => false) ∧ Ev No n h n' h' := by
  unfold graph_Reach graph_Reach_r0
  try dsimp only
  obtain ⟨h1, e1, g1, ev1⟩ := GBz.box (β := Value) (z := z) f gr.1
  rw [e1]
  have gr1 := gr.no ev1 hm
  unfold graph_Reach_r1
  try dsimp only
  obtain ⟨e2, x2, f2⟩ := new_set ev1.f (k := fun v14 => bnd (opPtr [.pointer none]) fun v5 => bnd (opStore v5 v14) fun _ => graph_Reach_r2 F fv (pt n 0) v5 fun x1 x2 x5 x17 => onB x17 (graph_Reach_r3 F x5 fun x4 => ret x4) (graph_Reach_r4 F x1 x2 x5 fun x1 x2 x5 x6 => graph_Reach_r5 F x1 x2 x5 x6 fun x1 x2 x5 x6 x7 => graph_Reach_r6 F x1 x2 x5 x6 x7 fun x2 x5 x6 x7 x20 x21 x22 => graph_Reach_l4 F (fun x2 x5 x6 x7 => graph_Reach_k3 F x2 x5 x6 x7) F x2 x5 x6 x7 x20 x21 x22))
  rw [show (Value.slice none 0 0) = nsl from rfl, e2]
  have ev2 : Ev No (n + 1) h1 (n + 1 + 1) (h1.set (n + 1) ⟨[nsl], .own⟩) := Ev.new ev1.f _
  generalize hh2 : h1.set (n + 1) ⟨[nsl], .own⟩ = h2 at *
  have g2 := g1.ev ev2 (by omega) (fun h => h)
  have gr2 := gr1.no ev2 (by omega)
  rw [run_ptr f2 (by rfl)]
  have ev3 := Ev.new f2 ⟨[Value.pointer none], .own⟩
  have hs3 : (h2.set (n + 1 + 1) ⟨[Value.pointer none], .own⟩).get (n + 1 + 1) = some ⟨[Value.pointer none], .own⟩ := H.get_set_same _ _ _
  rw [st1 hs3 (.inl rfl) (show one (pt (n + 1) 0) = true from rfl) (show 0 < [Value.pointer none].length by simp)]
  generalize hh4 : (h2.set (n + 1 + 1) ⟨[Value.pointer none], .own⟩).set (n + 1 + 1) ⟨[Value.pointer none].set 0 (pt (n + 1) 0), .own⟩ = h4
  have f4 : Fr (n + 3) h4 := by rw [← hh4]; exact (ev3.f).set _ (by omega)
  have k4 : ∀ c, c < n + 1 + 1 → h4.get c = h2.get c := fun c hc => by
    rw [← hh4, H.get_set_ne _ _ (by omega), H.get_set_ne _ _ (by omega)]
  have ev4 : Ev No (n + 1 + 1) h2 (n + 3) h4 := ⟨f4, by omega, fun c hc _ => k4 c hc⟩
  have sv4 : h4.get (n + 2) = some ⟨[pt (n + 1) 0], .own⟩ := by rw [← hh4]; exact H.get_set_same _ _ _
  have g4 := g2.ev ev4 (by omega) (fun h => h)
  have gr4 := gr2.no ev4 (by omega)
  have x4 : BS h4 (n + 1) (fun c => c = n + 1) (fun _ => false) := x2.keep fun c hc => k4 c (by omega)
  unfold graph_Reach_r2
  try dsimp only
  obtain ⟨n5, h5, e5, ev5⟩ := may_no (F := F) (z := z) hF gr4 (by omega) hG hR hno f4
  have l5 := ev5.le
  rw [g4.all, run_bnd e5, st_not, onB_ite, run_ite, if_pos (by decide)]
  have sv5 : h5.get (n + 2) = some ⟨[pt (n + 1) 0], .own⟩ := (ev5.no (by omega)).trans sv4
  have x5 : BS h5 (n + 1) (fun c => c = n + 1) (fun _ => false) := x4.keep fun c hc => ev5.no (by omega)
  unfold graph_Reach_r3
  try dsimp only
  rw [show n + 1 + 1 = n + 2 from rfl, ld1 sv5 (by decide) rfl]
  exact ⟨n5, h5, n + 1, rfl, ⟨_, x5, fun c hc => ⟨by omega, by omega⟩⟩, ((ev1.trans ev2 fun _ _ h => h).trans ev4 fun _ _ h => h).trans ev5 fun _ _ h => h⟩

/-! ## haruspexref1.May -/

theorem rmay_l3 {a : Nat} (gr : RG h m tv G R) (ha : a < G) (hs : (R a).length ≤ 100000) {E : Value → Value → Value → M Value} : ∀ j i k, i + j = (R a).length → j < k →
    ((∀ b, b ∈ (R a).drop i → 0 ≤ b ∧ b < z) → (R1_May_l3 F E k (i64 z) tv (i64 (a : Nat)) (i64 (i : Nat))).run n h = (E (i64 z) tv (i64 (a : Nat))).run n h) ∧
    ((¬ ∀ b, b ∈ (R a).drop i → 0 ≤ b ∧ b < z) → (R1_May_l3 F E k (i64 z) tv (i64 (a : Nat)) (i64 (i : Nat))).run n h = some (bo false, n, h)) := by
  obtain ⟨rv, e1, hr⟩ := gr.row (β := Value) (n := n) ha
  intro j
  induction j with
  | zero =>
    intro i k hij hk
    obtain ⟨k, rfl⟩ : ∃ j, k = j + 1 := ⟨k - 1, by omega⟩
    rw [R1_May_l3_s]
    unfold R1_May_b3 R1_May_r7
    try dsimp only
    rw [e1, hr.lenI, st_lss, onB_ite, run_ite, if_neg (by simp; omega), List.drop_of_length_le (by omega)]
    exact ⟨fun _ => rfl, fun h => absurd (fun b hb => by cases hb) h⟩
  | succ j ih =>
    intro i k hij hk
    obtain ⟨k, rfl⟩ : ∃ j, k = j + 1 := ⟨k - 1, by omega⟩
    have hi : i < (R a).length := by omega
    have ih := ih (i + 1) k (by omega) (by omega)
    rw [R1_May_l3_s]
    unfold R1_May_b3 R1_May_r7
    try dsimp only
    rw [e1, hr.lenI, st_lss, onB_ite, run_ite, if_pos (by simp; omega)]
    unfold R1_May_r9
    try dsimp only
    rw [e1, hr.getI hi, List.drop_eq_getElem_cons hi, st_lss, onB_ite, run_ite]
    by_cases h1 : (R a)[i] < 0
    · rw [if_pos (by simpa using h1), onB_ite, run_ite, if_pos rfl]
      exact ⟨fun q => by have := q _ List.mem_cons_self; omega, fun _ => rfl⟩
    · rw [if_neg (by simpa using h1), e1, hr.getI hi, st_geq, onB_ite, run_ite]
      by_cases h2 : z ≤ (R a)[i]
      · rw [if_pos (by simpa using h2)]
        exact ⟨fun q => by have := q _ List.mem_cons_self; omega, fun _ => rfl⟩
      · rw [if_neg (by simpa using h2)]
        unfold R1_May_r8
        try dsimp only
        rw [sx_add (by omega)]
        refine ⟨fun q => ih.1 fun c hc => q c (List.mem_cons_of_mem _ hc), fun q => ih.2 fun q2 => q fun c hc => ?_⟩
        rcases List.mem_cons.1 hc with rfl | hc
        · omega
        · exact q2 c hc

theorem rmay_l1 (hF : 1000000 ≤ F) (gr : RG h m tv G R) (hG : G ≤ 100000) (hGz : (G : Int) = z) (hR : ∀ a, a < G → (R a).length ≤ 100000) {E : M Value} : ∀ j i k, i + j = G → j < k →
    ((∀ a, i ≤ a → a < G → ∀ b, b ∈ R a → 0 ≤ b ∧ b < z) → (R1_May_l1 F E k (i64 z) tv (i64 (i : Nat))).run n h = E.run n h) ∧
    ((¬ ∀ a, i ≤ a → a < G → ∀ b, b ∈ R a → 0 ≤ b ∧ b < z) → (R1_May_l1 F E k (i64 z) tv (i64 (i : Nat))).run n h = some (bo false, n, h)) := by
  intro j
  induction j with
  | zero =>
    intro i k hij hk
    obtain ⟨k, rfl⟩ : ∃ j, k = j + 1 := ⟨k - 1, by omega⟩
    rw [R1_May_l1_s]
    unfold R1_May_b1 R1_May_r4
    try dsimp only
    rw [st_lss, onB_ite, run_ite, if_neg (by simp; omega)]
    exact ⟨fun _ => rfl, fun h => absurd (fun a h1 h2 => by omega) h⟩
  | succ j ih =>
    intro i k hij hk
    obtain ⟨k, rfl⟩ : ∃ j, k = j + 1 := ⟨k - 1, by omega⟩
    have hi : i < G := by omega
    have ih := ih (i + 1) k (by omega) (by omega)
    rw [R1_May_l1_s]
    unfold R1_May_b1 R1_May_r4
    try dsimp only
    rw [st_lss, onB_ite, run_ite, if_pos (by simp; omega)]
    unfold R1_May_r6
    try dsimp only
    have hs := hR i hi
    obtain ⟨l3a, l3b⟩ := rmay_l3 (F := F) (n := n) (z := z) gr hi hs (E := fun x0 x1 x5 => R1_May_k2 F (R1_May_l1 F E k) x0 x1 x5) (R i).length 0 F (by omega) (by omega)
    rw [List.drop_zero] at l3a l3b
    rw [show (Value.int .i64 0) = i64 ((0 : Nat) : Int) from rfl]
    by_cases hrow : ∀ b, b ∈ R i → 0 ≤ b ∧ b < z
    · rw [l3a hrow]
      unfold R1_May_k2 R1_May_r5
      try dsimp only
      rw [sx_add (by omega)]
      refine ⟨fun q => ih.1 fun a h1 h2 => q a (by omega) h2, fun q => ih.2 fun q2 => q fun a h1 h2 => ?_⟩
      by_cases e : a = i
      · subst e; exact hrow
      · exact q2 a (by omega) h2
    · rw [l3b hrow]
      exact ⟨fun q => absurd (q i (Nat.le_refl _) hi) hrow, fun _ => rfl⟩

open Classical in
theorem rmay_spec (hF : 1000000 ≤ F) (gr : RG h m tv G R) (hG : G ≤ 100000) (hR : ∀ a, a < G → (R a).length ≤ 100000) :
    (R1_May F (i64 z) tv).run n h = some (bo (decide (Mayz z G R)), n, h) := by
  unfold R1_May R1_May_r0 R1_May_r1
  try dsimp only
  rw [st_lss, onB_ite, run_ite]
  by_cases c1 : z < 0
  · rw [if_pos (by simpa using c1), onB_ite, run_ite, if_pos rfl, decide_eq_false fun q => by have := q.1; omega]; rfl
  · rw [if_neg (by simpa using c1), st_gtr, onB_ite, run_ite]
    by_cases c2 : 600 < z
    · rw [if_pos (by simpa using c2), onB_ite, run_ite, if_pos rfl, decide_eq_false fun q => by have := q.2.1; omega]; rfl
    · rw [if_neg (by simpa using c2), gr.len, st_neq, onB_ite, run_ite]
      by_cases c3 : (G : Int) = z
      · rw [if_neg (by rw [bne_iff_ne]; omega)]
        unfold R1_May_r3
        try dsimp only
        rw [show (Value.int .i64 0) = i64 ((0 : Nat) : Int) from rfl]
        obtain ⟨ya, no⟩ := rmay_l1 (F := F) (n := n) (z := z) hF gr hG c3 hR (E := R1_May_k0 F) G 0 F (by omega) (by omega)
        by_cases hall : ∀ a, a < G → ∀ b, b ∈ R a → 0 ≤ b ∧ b < z
        · rw [ya fun a _ ha => hall a ha, decide_eq_true (show Mayz z G R from ⟨by omega, by omega, c3, hall⟩)]; rfl
        · rw [no fun q => hall fun a ha => q a (Nat.zero_le _) ha, decide_eq_false fun q => hall q.2.2.2]
      · rw [if_pos (by rw [bne_iff_ne]; exact c3), decide_eq_false fun q => c3 q.2.2.1]; rfl
end

end Go.Fw
