/-
  What is no graph: graph.May says no, and the others tell nothing.
-/
import Derived.Test.YtddafkflndhnfaaDoorLawDC
set_option maxRecDepth 20000
set_option linter.unusedVariables false
namespace Go.Fw

/-- A value that may be no graph. -/
abbrev gvz (z : Int) (tv : Value) : Value := .agg #[i64 z, tv]
def GBz (h : H) (g : Nat) (z : Int) (tv : Value) : Prop := h.get g = some ⟨[i64 z, tv], .own⟩

section
variable {β : Type} {n : Nat} {h : H} {g : Nat} {z : Int} {tv : Value} {k : Value → M β}
theorem GBz.box (f : Fr n h) (h1 : one tv = true) : ∃ h', (∀ k : Value → M β, (bnd (opBoxN (gvz z tv)) k).run n h = (k (pt n 0)).run (n + 1) h') ∧ GBz h' n z tv ∧ Ev No n h (n + 1) h' := by
  refine ⟨_, fun k => ?_, H.get_set_same _ _ _, f.new _, by omega, fun c hc _ => H.get_set_ne _ _ (by omega)⟩
  rw [show gvz z tv = .agg ([i64 z, tv] : List Value).toArray from rfl, run_box f (by rw [List.all_cons, List.all_cons, h1]; rfl)]
theorem GBz.nn (b : GBz h g z tv) : (bnd (opFieldAddr 0 (pt g 0)) fun p => bnd (opLoad p) k).run n h = (k (i64 z)).run n h := by
  rw [st_field, Nat.zero_add, ld1 b (by decide) rfl]
theorem GBz.t (b : GBz h g z tv) : (bnd (opFieldAddr 1 (pt g 0)) fun p => bnd (opLoad p) k).run n h = (k tv).run n h := by
  rw [st_field, Nat.zero_add, ld1 b (by decide) rfl]
theorem GBz.all (b : GBz h g z tv) : (bnd (opLoadN 2 (pt g 0)) k).run n h = (k (gvz z tv)).run n h := by
  rw [run_loadN, b, ldN_some (by decide) (by simp)]
  rfl
theorem GBz.ev {n' : Nat} {h' : H} {P : Nat → Prop} (b : GBz h g z tv) (e : Ev P n h n' h') (hb : g < n) (hp : ¬ P g) : GBz h' g z tv := by unfold GBz; rw [e.keep g hb hp]; exact b
theorem GBz.put {xs : List Value} (hb : h.get g = some ⟨xs, .own⟩) (hx : xs.length = 2) (f : Fr n h) (h1 : one tv = true) : ∃ h', (∀ k : Value → M β, (bnd (opStoreN 2 (pt g 0) (gvz z tv)) k).run n h = (k undef).run n h') ∧ GBz h' g z tv ∧ Ev (fun c => c = g) n h n h' := by
  refine ⟨_, fun k => run_storeN (vs := [i64 z, tv]) hb (.inl rfl) (by rw [List.all_cons, List.all_cons, h1]; rfl) rfl hx, H.get_set_same _ _ _, f.set _ (f.lt hb), Nat.le_refl _, fun c _ hc => H.get_set_ne _ _ hc⟩
end

/-- Rows of numbers; all of it lies ahead of m. -/
def RG (h : H) (m : Nat) (tv : Value) (G : Nat) (R : Nat → List Int) : Prop :=
  one tv = true ∧ ∃ h0, Fr m h0 ∧ (∀ c, c < m → h.get c = h0.get c) ∧ ∃ iv, Rd h0 tv (tab G iv) ∧ ∀ j, j < G → RdI h0 (iv j) (R j)

theorem RG.ev {h h' : H} {m n n' G : Nat} {tv : Value} {R : Nat → List Int} {P : Nat → Prop} (g : RG h m tv G R) (e : Ev P n h n' h') (hm : m ≤ n) (hP : ∀ c, P c → m ≤ c) : RG h' m tv G R := by
  obtain ⟨h1, h0, f0, k0, q⟩ := g
  exact ⟨h1, h0, f0, fun c hc => by rw [e.keep c (by omega) fun p => by have := hP c p; omega]; exact k0 c hc, q⟩
theorem RG.no {h h' : H} {m n n' G : Nat} {tv : Value} {R : Nat → List Int} (g : RG h m tv G R) (e : Ev No n h n' h') (hm : m ≤ n) : RG h' m tv G R := g.ev e hm fun _ h => h.elim
theorem RG.len {β : Type} {h : H} {m G : Nat} {tv : Value} {R : Nat → List Int} (g : RG h m tv G R) {k : Value → M β} : bnd (opLen tv) k = k (i64 G) := by
  obtain ⟨h1, h0, f0, k0, iv, q, q2⟩ := g
  rw [q.len, tab_len]
theorem RG.row {β : Type} {n : Nat} {h : H} {m G : Nat} {tv : Value} {R : Nat → List Int} (g : RG h m tv G R) {a : Nat} (ha : a < G) :
    ∃ rv, (∀ k : Value → M β, (bnd (opIndexAddr 1 tv (i64 a)) fun p => bnd (opLoad p) k).run n h = (k rv).run n h) ∧ RdI h rv (R a) := by
  obtain ⟨h1, h0, f0, k0, iv, q, q2⟩ := g
  exact ⟨iv a, fun k => (q.kept f0 k0).get (tab_get ha), (q2 a ha).kept f0 k0⟩
/-- May it be a graph? -/
def Mayz (z : Int) (G : Nat) (R : Nat → List Int) : Prop := 0 ≤ z ∧ z ≤ 600 ∧ (G : Int) = z ∧ ∀ a, a < G → ∀ b, b ∈ R a → 0 ≤ b ∧ b < z

section
variable {F n g G m : Nat} {z : Int} {tv : Value} {R : Nat → List Int}

theorem mayz_l3 {h : H} {x24 x25 x26 rv : Value} {row : List Int} (hg : GBz h g z tv) (hr : RdI h rv row) (hs : row.length ≤ 100000) {E : Value → Value → Value → Value → M Value} : ∀ j i k, i + j = row.length → j < k →
    ((∀ b, b ∈ row.drop i → 0 ≤ b ∧ b < z) → (graph_May_l3 F E k (pt g 0) x24 x25 x26 rv (i64 row.length) (i64 (i : Nat))).run n h = (E (pt g 0) x24 x25 x26).run n h) ∧
    ((¬ ∀ b, b ∈ row.drop i → 0 ≤ b ∧ b < z) → (graph_May_l3 F E k (pt g 0) x24 x25 x26 rv (i64 row.length) (i64 (i : Nat))).run n h = some (bo false, n, h)) := by
  intro j
  induction j with
  | zero =>
    intro i k hij hk
    obtain ⟨k, rfl⟩ : ∃ j, k = j + 1 := ⟨k - 1, by omega⟩
    rw [graph_May_l3_s]
    unfold graph_May_b3 graph_May_r7
    try dsimp only
    rw [st_lss, onB_ite, run_ite, if_neg (by simp; omega), List.drop_of_length_le (by omega)]
    exact ⟨fun _ => rfl, fun h => absurd (fun b hb => by cases hb) h⟩
  | succ j ih =>
    intro i k hij hk
    obtain ⟨k, rfl⟩ : ∃ j, k = j + 1 := ⟨k - 1, by omega⟩
    have hi : i < row.length := by omega
    have ih := ih (i + 1) k (by omega) (by omega)
    rw [graph_May_l3_s]
    unfold graph_May_b3 graph_May_r7
    try dsimp only
    rw [st_lss, onB_ite, run_ite, if_pos (by simp; omega)]
    unfold graph_May_r8
    try dsimp only
    rw [hr.getI hi, List.drop_eq_getElem_cons hi]
    generalize row[i] = b at *
    unfold graph_May_r9
    try dsimp only
    rw [st_lss, onB_ite, run_ite]
    by_cases h1 : b < 0
    · rw [if_pos (by simpa using h1), onB_ite, run_ite, if_pos rfl]
      exact ⟨fun q => by have := q b List.mem_cons_self; omega, fun _ => rfl⟩
    · rw [if_neg (by simpa using h1), hg.nn, st_geq, onB_ite, run_ite]
      by_cases h2 : z ≤ b
      · rw [if_pos (by simpa using h2)]
        exact ⟨fun q => by have := q b List.mem_cons_self; omega, fun _ => rfl⟩
      · rw [if_neg (by simpa using h2)]
        unfold graph_May_r11
        try dsimp only
        rw [sx_add (by omega)]
        refine ⟨fun q => ih.1 fun c hc => q c (List.mem_cons_of_mem _ hc), fun q => ih.2 fun q2 => q fun c hc => ?_⟩
        rcases List.mem_cons.1 hc with rfl | hc
        · omega
        · exact q2 c hc

theorem mayz_l1 {h : H} (hF : 1000000 ≤ F) (hg : GBz h g z tv) (gr : RG h m tv G R) (hG : G ≤ 100000) (hR : ∀ a, a < G → (R a).length ≤ 100000) {E : M Value} : ∀ j i k, i + j = G → j < k →
    ((∀ a, i ≤ a → a < G → ∀ b, b ∈ R a → 0 ≤ b ∧ b < z) → (graph_May_l1 F E k (pt g 0) tv (i64 G) (i64 (i : Nat))).run n h = E.run n h) ∧
    ((¬ ∀ a, i ≤ a → a < G → ∀ b, b ∈ R a → 0 ≤ b ∧ b < z) → (graph_May_l1 F E k (pt g 0) tv (i64 G) (i64 (i : Nat))).run n h = some (bo false, n, h)) := by
  intro j
  induction j with
  | zero =>
    intro i k hij hk
    obtain ⟨k, rfl⟩ : ∃ j, k = j + 1 := ⟨k - 1, by omega⟩
    rw [graph_May_l1_s]
    unfold graph_May_b1 graph_May_r4
    try dsimp only
    rw [st_lss, onB_ite, run_ite, if_neg (by simp; omega)]
    exact ⟨fun _ => rfl, fun h => absurd (fun a h1 h2 => by omega) h⟩
  | succ j ih =>
    intro i k hij hk
    obtain ⟨k, rfl⟩ : ∃ j, k = j + 1 := ⟨k - 1, by omega⟩
    have hi : i < G := by omega
    have ih := ih (i + 1) k (by omega) (by omega)
    rw [graph_May_l1_s]
    unfold graph_May_b1 graph_May_r4
    try dsimp only
    rw [st_lss, onB_ite, run_ite, if_pos (by simp; omega)]
    unfold graph_May_r5
    try dsimp only
    obtain ⟨rv, e1, hr⟩ := gr.row (β := Value) (n := n) hi
    rw [e1]
    unfold graph_May_r6
    try dsimp only
    have hs := hR i hi
    obtain ⟨l3a, l3b⟩ := mayz_l3 (F := F) (n := n) (x24 := tv) (x25 := i64 G) (x26 := i64 (i : Nat)) hg hr hs (E := fun x1 x24 x25 x26 => graph_May_k2 F (graph_May_l1 F E k) x1 x24 x25 x26) (R i).length 0 F (by omega) (by omega)
    rw [List.drop_zero] at l3a l3b
    rw [hr.lenI, show (Value.int .i64 0) = i64 ((0 : Nat) : Int) from rfl]
    by_cases hrow : ∀ b, b ∈ R i → 0 ≤ b ∧ b < z
    · rw [l3a hrow]
      unfold graph_May_k2 graph_May_r12
      try dsimp only
      rw [sx_add (by omega)]
      refine ⟨fun q => ih.1 fun a h1 h2 => q a (by omega) h2, fun q => ih.2 fun q2 => q fun a h1 h2 => ?_⟩
      by_cases e : a = i
      · subst e; exact hrow
      · exact q2 a (by omega) h2
    · rw [l3b hrow]
      exact ⟨fun q => absurd (q i (Nat.le_refl _) hi) hrow, fun _ => rfl⟩

theorem may_no {h : H} (hF : 1000000 ≤ F) (gr : RG h m tv G R) (hm : m ≤ n) (hG : G ≤ 100000) (hR : ∀ a, a < G → (R a).length ≤ 100000) (hno : ¬ Mayz z G R) (f : Fr n h) :
    ∃ n' h', (graph_May F (gvz z tv)).run n h = some (bo false, n', h') ∧ Ev No n h n' h' := by
  obtain ⟨h1, e1, g1, ev1⟩ := GBz.box (β := Value) (z := z) f gr.1
  have gr1 := gr.no ev1 hm
  refine ⟨n + 1, h1, ?_, ev1⟩
  unfold graph_May graph_May_r0
  try dsimp only
  rw [e1]
  unfold graph_May_r1
  try dsimp only
  rw [g1.nn, st_lss, onB_ite, run_ite]
  by_cases c1 : z < 0
  · rw [if_pos (by simpa using c1), onB_ite, run_ite, if_pos rfl]; rfl
  · rw [if_neg (by simpa using c1), g1.nn, st_gtr, onB_ite, run_ite]
    by_cases c2 : 600 < z
    · rw [if_pos (by simpa using c2), onB_ite, run_ite, if_pos rfl]; rfl
    · rw [if_neg (by simpa using c2), g1.t, gr1.len, g1.nn, st_neq, onB_ite, run_ite]
      by_cases c3 : (G : Int) = z
      · rw [if_neg (by rw [bne_iff_ne]; omega)]
        unfold graph_May_r3
        try dsimp only
        rw [g1.t, gr1.len, show (Value.int .i64 0) = i64 ((0 : Nat) : Int) from rfl]
        exact (mayz_l1 (F := F) (n := n + 1) hF g1 gr1 hG hR (E := graph_May_k0 F) G 0 F (by omega) (by omega)).2 fun q => hno ⟨by omega, by omega, c3, fun a ha => q a (Nat.zero_le _) ha⟩
      · rw [if_pos (by rw [bne_iff_ne]; exact c3)]; rfl

theorem order_no {h : H} {r : Value} (hF : 1000000 ≤ F) (gr : RG h m tv G R) (hm : m ≤ n) (hG : G ≤ 100000) (hR : ∀ a, a < G → (R a).length ≤ 100000) (hno : ¬ Mayz z G R) (f : Fr n h) :
    ∃ n' h', (graph_Order F (gvz z tv) r).run n h = some (nsl, n', h') ∧ Ev No n h n' h' := by
  unfold graph_Order graph_Order_r0
  try dsimp only
  obtain ⟨h1, e1, g1, ev1⟩ := GBz.box (β := Value) (z := z) f gr.1
  rw [e1]
  have gr1 := gr.no ev1 hm
  unfold graph_Order_r1
  try dsimp only
  obtain ⟨n2, h2, e2, ev2⟩ := may_no (F := F) (z := z) hF gr1 (by omega) hG hR hno ev1.f
  rw [g1.all, run_bnd e2, st_not, onB_ite, run_ite, if_pos (by decide), onB_ite, run_ite, if_pos rfl]
  exact ⟨n2, h2, rfl, ev1.trans ev2 fun _ _ h => h⟩
end

end Go.Fw
