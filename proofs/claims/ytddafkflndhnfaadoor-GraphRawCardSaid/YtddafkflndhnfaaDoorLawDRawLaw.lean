/-
  GraphRaw, said of the abstract machine.
-/
import Derived.Test.YtddafkflndhnfaaDoorLawDNo
import Derived.Test.YtddafkflndhnfaaDoorLawDFar
import Derived.Test.YtddafkflndhnfaaDoorFwNest
import Derived.Test.YtddafkflndhnfaaDoorGenDGraphRaw
set_option maxRecDepth 20000
set_option linter.unusedVariables false
namespace Go.Fw

theorem run_over_trueN {k : Nat} {m : M Value} {h : H} (hk : 0 < k) (e : gaveTrue (m.run k (baseH deB)) = true) (e0 : ((m.run k (baseH deB)).map fun x => x.2.2.get 0) = some (some ⟨deB, .ro⟩)) (f : Fr k h) (hb : h.get 0 = some ⟨deB, .ro⟩) :
    ∃ n' h', m.run k h = some (bo true, n', h') ∧ Fr n' h' ∧ k ≤ n' ∧ ∀ c, c < k → h'.get c = h.get c := by
  obtain ⟨n', h0, e⟩ := gaveTrue_some e
  rw [e] at e0
  have e0' : h0.get 0 = some ⟨deB, .ro⟩ := Option.some.inj e0
  have l := m.loc _ _ _ _ _ e
  have hget : ∀ b, (baseH deB).get b = if b = 0 then some ⟨deB, .ro⟩ else none := fun b => by
    unfold baseH; rw [H.get_set]; split <;> rfl
  obtain ⟨h', e', hg⟩ := l.more h (fun b B hB => by
    rw [hget] at hB
    split at hB
    · rename_i e; subst e; rw [hb]; exact hB
    · cases hB) fun b hb _ => f b hb
  refine ⟨n', h', e', (f.run e').1, l.le, fun c hc => ?_⟩
  rw [hg c]
  by_cases h0c : c = 0
  · subst h0c; rw [e0', hb]; rfl
  · have : ¬ (h0.get c).isSome = true := fun h => by
      rcases (l.dom c).1 h with h | h
      · rw [hget, if_neg h0c] at h; cases h
      · omega
    rw [if_neg this]

theorem begunD32_runs : gaveTrue ((L5_begun 1000000).run 32 (baseH deB)) = true := by kernel_rfl
theorem begunD32_keeps : (((L5_begun 1000000).run 32 (baseH deB)).map fun x => x.2.2.get 0) = some (some ⟨deB, .ro⟩) := by kernel_rfl

theorem nargs4 {h : H} {k0 k1 k2 k3 : NK} {us : List Value} (ha : NArgsAre h [k0, k1, k2, k3] us) : ∃ v0 v1 v2 v3, us = [v0, v1, v2, v3] ∧ NArgIs h k0 v0 ∧ NArgIs h k1 v1 ∧ NArgIs h k2 v2 ∧ NArgIs h k3 v3 := by
  match us, ha with
  | [v0, v1, v2, v3], ⟨h0, h1, h2, h3, _⟩ => exact ⟨v0, v1, v2, v3, rfl, h0, h1, h2, h3⟩

/-- At most twenty of a slice. -/
def cut20 (v : Value) : Value := match v with
  | .slice a len cap => if 20 < len then .slice a 20 cap else .slice a len cap
  | v => v

theorem slice20 {β : Type} {b len cap : Nat} (h : 20 ≤ len) (hc : cap < 9223372036854775808) {k : Value → M β} : bnd (opSlice 1 (sl b 0 len cap) none (some (.int .i64 20)) none) k = k (sl b 0 20 cap) := by
  have es : opSlice 1 (sl b 0 len cap) none (some (.int .i64 20)) none = ret (sl b 0 20 cap) := by
    show (if (0 : Int) ≤ 0 ∧ (0 : Int) ≤ 20 then (if (20 : Int) ≤ ((len : Nat) : Int) then (if cap = U + 1 then ret (sl b (0 + (0 : Int).toNat * 1) ((20 : Int) - 0).toNat cap) else if cap < U then ret (sl b (0 + (0 : Int).toNat * 1) ((20 : Int) - 0).toNat (cap - (0 : Int).toNat)) else fail) else fail) else fail) = _
    rw [if_pos (by omega), if_pos (by omega), if_neg (by unfold U; omega), if_pos (by unfold U; omega)]
    rfl
  rw [es, ret_bnd]

/-- A row of numbers, as it came in, cut. -/
theorem row20 {h : H} {v : Value} (a : ArgIs h (.flat 1) v) : ∃ row : List Int, RdI h (cut20 v) row ∧ row.length ≤ 20 ∧ one (cut20 v) = true ∧ veq (cut20 v) (cut20 v) = true := by
  rcases a with rfl | ⟨b, len, cap, Z, rfl, g1, g2, g3, g4⟩
  · exact ⟨[], .inl ⟨rfl, rfl⟩, by simp, rfl, by simp [cut20, veq]⟩
  · have rd : ∀ L, L ≤ len → RdI h (sl b 0 L cap) ((List.range L).map Z) := fun L hL => by
      refine .inr ⟨b, 0, cap, .ro, by simp, fun h0 => ?_⟩
      have hl0 : len ≠ 0 := by
        rintro rfl
        have : L = 0 := by omega
        subst this; exact h0 rfl
      refine ⟨_, g3 hl0, by decide, fun i hi => ?_⟩
      have hi' : i < L := by simpa using hi
      rw [Nat.zero_add, tab_get (show i < cap * 1 by omega)]
      simp [hi']
    unfold cut20
    by_cases hl : 20 < len
    · dsimp only
      rw [if_pos hl]
      exact ⟨_, rd 20 (by omega), by simp, rfl, by simp [veq]⟩
    · dsimp only
      rw [if_neg hl]
      exact ⟨_, rd len (Nat.le_refl _), by simp; omega, rfl, by simp [veq]⟩

theorem raw_cut {F n : Nat} {h : H} {x0 x1 x2 x3 x10 x11 v : Value} (a : ArgIs h (.flat 1) v) {A : Value → Value → Value → Value → Value → Value → M Value} :
    (L5_GraphRaw_r11 F x0 x1 x2 x3 x10 x11 v fun x0 x1 x2 x3 x10 x11 x12 x36 => onB x36 (L5_GraphRaw_r12 F x0 x1 x2 x3 x10 x11 x12 fun x0 x1 x2 x3 x10 x11 x12 => L5_GraphRaw_k2 F A x0 x1 x2 x3 x10 x11 x12) (L5_GraphRaw_k2 F A x0 x1 x2 x3 x10 x11 x12)).run n h = (L5_GraphRaw_k2 F A x0 x1 x2 x3 x10 x11 (cut20 v)).run n h := by
  unfold L5_GraphRaw_r11 L5_GraphRaw_r12
  try dsimp only
  rcases a with rfl | ⟨b, len, cap, Z, rfl, g1, g2, g3, g4⟩
  · rw [st_len, st_gtr, onB_ite, run_ite, if_neg (by simp)]; rfl
  · rw [st_len, st_gtr, onB_ite, run_ite]
    unfold cut20
    by_cases hl : 20 < len
    · rw [if_pos (by simp; omega), slice20 (by omega) g2]
      dsimp only
      rw [if_pos hl]
    · rw [if_neg (by simp; omega)]
      dsimp only
      rw [if_neg hl]

/-- Rows that came in. -/
structure RawIn (h : H) (v : Value) (L : Nat) (u : Nat → Value) : Prop where
  len : ∃ a cap, v = .slice a L cap
  get : ∀ i, i < L → ∃ b cap cs, v = sl b 0 L cap ∧ h.get b = some ⟨cs, .ro⟩ ∧ cs[i]? = some (u i)
  row : ∀ i, i < L → ArgIs h (.flat 1) (u i)
  few : L ≤ 20

theorem raw_in {h : H} {v : Value} (a : NArgIs h (.nest [true] 20) v) : ∃ L u, RawIn h (cut20 v) L u ∧ ∀ {F n : Nat} {x0 x2 x3 : Value}, (L5_GraphRaw_r4 F x0 v x2 x3 fun x0 x1 x2 x3 x21 => onB x21 (L5_GraphRaw_r5 F x0 x1 x2 x3 fun x0 x1 x2 x3 => L5_GraphRaw_k3 F x0 x1 x2 x3) (L5_GraphRaw_k3 F x0 x1 x2 x3)).run n h = (L5_GraphRaw_k3 F x0 (cut20 v) x2 x3).run n h := by
  rcases a with rfl | ⟨b, len, cap, u, rfl, g1, g2, g3, g4⟩
  · refine ⟨0, fun _ => undef, ⟨⟨none, 0, rfl⟩, fun i hi => by omega, fun i hi => by omega, by omega⟩, fun {F n x0 x2 x3} => ?_⟩
    unfold L5_GraphRaw_r4
    try dsimp only
    rw [st_len, st_gtr, onB_ite, run_ite, if_neg (by simp)]; rfl
  · simp only [List.length_singleton, Nat.mul_one] at g3 g4
    have hrow : ∀ i, i < min cap 20 → ArgIs h (.flat 1) (u i) := fun i hi => by
      have := g4 i hi
      rw [Nat.mod_one] at this
      exact this
    have mk : ∀ L, L ≤ len → L ≤ 20 → RawIn h (sl b 0 L cap) L u := fun L h1 h2 => ⟨⟨_, _, rfl⟩, fun i hi => ⟨b, cap, _, rfl, g3 (by omega), tab_get (by omega)⟩, fun i hi => hrow i (by omega), h2⟩
    unfold cut20
    by_cases hl : 20 < len
    · dsimp only
      rw [if_pos hl]
      refine ⟨20, u, mk 20 (by omega) (by omega), fun {F n x0 x2 x3} => ?_⟩
      unfold L5_GraphRaw_r4 L5_GraphRaw_r5
      try dsimp only
      rw [st_len, st_gtr, onB_ite, run_ite, if_pos (by simp; omega), slice20 (by omega) g2]
    · dsimp only
      rw [if_neg hl]
      refine ⟨len, u, mk len (Nat.le_refl _) (by omega), fun {F n x0 x2 x3} => ?_⟩
      unfold L5_GraphRaw_r4
      try dsimp only
      rw [st_len, st_gtr, onB_ite, run_ite, if_neg (by simp; omega)]

theorem ArgIs.kept {h h' : H} {n : Nat} {k : AK} {v : Value} (f : Fr n h) (a : ArgIs h k v) (hk : ∀ b, b < n → h'.get b = h.get b) : ArgIs h' k v := ArgIs.keep' f a hk

theorem RawIn.kept {h h' : H} {n : Nat} {v : Value} {L : Nat} {u : Nat → Value} (x : RawIn h v L u) (f : Fr n h) (hk : ∀ b, b < n → h'.get b = h.get b) : RawIn h' v L u :=
  ⟨x.len, fun i hi => by
    obtain ⟨b, cap, cs, h1, h2, h3⟩ := x.get i hi
    exact ⟨b, cap, cs, h1, by rw [hk b (f.lt h2)]; exact h2, h3⟩, fun i hi => (x.row i hi).kept f hk, x.few⟩

theorem raw_l1 {F L lo : Nat} {x0 x2 x3 v1 : Value} {u : Nat → Value} {hB : H} (hF : 1000000 ≤ F) (fB : Fr lo hB) (xB : RawIn hB v1 L u) {E : Value → Value → Value → Value → M Value} : ∀ j i k n (h : H) v b, i + j = L → j < k → (∀ c, c < lo → h.get c = hB.get c) → Gl h v b (tab i fun a => cut20 (u a)) → (i ≠ 0 → lo ≤ b) → lo ≤ n → Fr n h →
    ∃ n' h' v' b', (L5_GraphRaw_l1 F E k x0 v1 x2 x3 v (i64 (i : Nat))).run n h = (E x0 x2 x3 v').run n' h' ∧ Gl h' v' b' (tab L fun a => cut20 (u a)) ∧ Ev (fun c => lo ≤ c) n h n' h' := by
  have hL := xB.few
  intro j
  induction j with
  | zero =>
    intro i k n h v b hij hk hkB g hb hn f
    obtain ⟨k, rfl⟩ : ∃ j, k = j + 1 := ⟨k - 1, by omega⟩
    obtain ⟨a, cap, hv⟩ := xB.len
    rw [L5_GraphRaw_l1_s]
    unfold L5_GraphRaw_b1 L5_GraphRaw_r8
    try dsimp only
    rw [hv, st_len, st_lss, onB_ite, run_ite, if_neg (by simp; omega)]
    have : i = L := by omega
    subst this
    exact ⟨n, h, v, b, rfl, g, Ev.refl f⟩
  | succ j ih =>
    intro i k n h v b hij hk hkB g hb hn f
    obtain ⟨k, rfl⟩ : ∃ j, k = j + 1 := ⟨k - 1, by omega⟩
    have hi : i < L := by omega
    have x := xB.kept fB hkB
    obtain ⟨ob, cap, cs, hv, h2, h3⟩ := x.get i hi
    rw [L5_GraphRaw_l1_s]
    unfold L5_GraphRaw_b1 L5_GraphRaw_r8
    try dsimp only
    rw [hv, st_len, st_lss, onB_ite, run_ite, if_pos (by simp; omega)]
    unfold L5_GraphRaw_r10
    try dsimp only
    rw [ix1 hi, ld1 h2 (by decide) (by rw [Nat.zero_add]; exact h3), raw_cut (x.row i hi)]
    unfold L5_GraphRaw_k2 L5_GraphRaw_r13
    try dsimp only
    obtain ⟨row, _, _, ho, _⟩ := row20 (x.row i hi)
    have hbm : tab i (fun a => cut20 (u a)) ≠ [] → b ≠ n := fun h0 => by have := g.lt f h0; omega
    have g1 : Gl (h.set n ⟨[cut20 (u i)], .own⟩) v b (tab i fun a => cut20 (u a)) := g.keep fun h0 => H.get_set_ne _ _ (hbm h0)
    obtain ⟨h4, e4, g4, f4, k4⟩ := run_append (β := Value) (bytes := 24) (x := cut20 (u i)) g1 (f.new _) (H.get_set_same _ _ _) (by decide) ho (tab_one fun j hj => (row20 (xB.row j (by omega))).elim fun _ q => q.2.2.1) hbm (by rw [tab_len]; omega)
    rw [tab_len] at e4 g4
    rw [run_single f ho, e4]
    unfold L5_GraphRaw_r9
    try dsimp only
    rw [sx_add (by omega)]
    have kk : ∀ c, c < n → (i ≠ 0 → c ≠ b) → h4.get c = h.get c := fun c hc hne => by
      rw [k4 c (by omega) fun h0 => hne (tab_ne.1 h0), H.get_set_ne _ _ (by omega)]
    have ev : Ev (fun c => lo ≤ c) n h (n + 1 + 1) h4 := ⟨f4, by omega, fun c hc hlc => kk c hc fun h0 => by have := hb h0; omega⟩
    rw [← tab_succ (f := fun a => cut20 (u a))] at g4
    obtain ⟨n', h', v', b', q1, q2, q3⟩ := ih (i + 1) k (n + 1 + 1) h4 _ (n + 1) (by omega) (by omega) (fun c hc => by rw [ev.keep c (by omega) (by omega)]; exact hkB c hc) g4 (fun _ => by omega) (by omega) f4
    rw [← hv]
    exact ⟨n', h', v', b', q1, q2, ev.trans q3 fun _ _ h => h⟩

open Classical in
theorem raw_run {F : Nat} (hF : 1000000 ≤ F) (hbg : gaveTrue ((L5_begun F).run 32 (baseH deB)) = true) (hbk : (((L5_begun F).run 32 (baseH deB)).map fun x => x.2.2.get 0) = some (some ⟨deB, .ro⟩)) (h : H) (us : List Value) (f : Fr 32 h) (hb : h.get 0 = some ⟨deB, .ro⟩) (ha : NArgsAre h [.plain .int, .nest [true] 20, .plain .int, .plain .int] us) :
    ∃ n' h', (L5_GraphRaw_m F us).run 32 h = some (.bool true, n', h') := by
  obtain ⟨_, v, _, _, rfl, ⟨z, rfl, hz⟩, hv, ⟨a, rfl, hza⟩, ⟨b, rfl, hzb⟩⟩ := nargs4 ha
  obtain ⟨L, u, xr, hcut⟩ := raw_in hv
  show ∃ n' h', (L5_GraphRaw F (i64 z) v (i64 a) (i64 b)).run 32 h = some (.bool true, n', h')
  unfold L5_GraphRaw L5_GraphRaw_r0 L5_GraphRaw_r1
  try dsimp only
  obtain ⟨n1, h1, e1, f1, l1, k1⟩ := run_over_trueN (by decide) hbg hbk f hb
  rw [run_bnd e1]
  unfold L5_GraphRaw_r2
  simp only [st_not, onB_ite, Bool.not_true, Bool.false_eq_true, if_false]
  -- the rows
  have hv1 : NArgIs h1 (.nest [true] 20) v := hv.keep' f k1
  obtain ⟨L', u', xr', hcut'⟩ := raw_in hv1
  have hc := @hcut' F n1 (i64 z) (i64 a) (i64 b)
  rw [hc]
  clear xr hcut hc hcut'
  unfold L5_GraphRaw_k3 L5_GraphRaw_r6 L5_GraphRaw_r7
  try dsimp only
  obtain ⟨n2, h2, v2, b2, e2, g2, ev2⟩ := raw_l1 (F := F) (lo := n1) (x0 := i64 z) (x2 := i64 a) (x3 := i64 b) hF f1 xr' (E := fun x0 x2 x3 x10 => L5_GraphRaw_k0 F x0 x2 x3 x10) L' 0 F n1 h1 nsl 0 (by omega) (by have := xr'.few; omega) (fun _ _ => rfl) (.inl ⟨rfl, rfl⟩) (fun h => absurd rfl h) (Nat.le_refl _) f1
  rw [show (Value.slice none 0 0) = nsl from rfl, show (Value.int .i64 0) = i64 ((0 : Nat) : Int) from rfl, e2]
  have l2 := ev2.le
  have hL := xr'.few
  -- what they are
  have rows : ∀ i, i < L' → ∃ row : List Int, RdI h2 (cut20 (u' i)) row ∧ row.length ≤ 20 := fun i hi => by
    obtain ⟨row, r1, r2, _, _⟩ := row20 ((xr'.row i hi).kept f1 fun c hc => ev2.keep c hc (by omega))
    exact ⟨row, r1, r2⟩
  obtain ⟨R, hR⟩ : ∃ R : Nat → List Int, ∀ i, i < L' → RdI h2 (cut20 (u' i)) (R i) ∧ (R i).length ≤ 20 := Go.Deep.choose_lt rows
  have rg2 : RG h2 n2 v2 L' R := ⟨g2.one_v, h2, ev2.f, fun _ _ => rfl, _, g2.rd, fun j hj => (hR j hj).1⟩
  have hR1 : ∀ a, a < L' → (R a).length ≤ 100000 := fun a ha => by have := (hR a ha).2; omega
  unfold L5_GraphRaw_k0 L5_GraphRaw_r14
  try dsimp only
  rw [show (Value.int .i64 0) = i64 0 from rfl, show (Value.slice none 0 0) = nsl from rfl, opBuild_grz g2.one_v, ret_bnd, run_ptr ev2.f (by rfl)]
  have ev3 := Ev.new ev2.f ⟨[i64 0, nsl], .own⟩
  obtain ⟨h4, e4, g4, ev4⟩ := GBz.put (β := Value) (z := z) (tv := v2) (H.get_set_same h2 n2 ⟨[i64 0, nsl], .own⟩) rfl ev3.f g2.one_v
  rw [e4]
  have ev24 : Ev No n2 h2 (n2 + 1) h4 := ev3.trans ev4 fun c hc q => by omega
  have rg4 := rg2.no ev24 (Nat.le_refl _)
  unfold L5_GraphRaw_r15
  try dsimp only
  rw [run_bnd (rmay_spec (F := F) (n := n2 + 1) (z := z) hF rg4 (by omega) hR1)]
  unfold L5_GraphRaw_r16
  try dsimp only
  by_cases hmay : Mayz z L' R
  · -- a graph
    obtain ⟨N, rfl⟩ : ∃ N : Nat, z = (N : Int) := ⟨z.toNat, by have := hmay.1; omega⟩
    have hNL : L' = N := by have := hmay.2.2.1; omega
    subst hNL
    have hnat : ∀ a, a < L' → R a = nats ((R a).map Int.toNat) := fun a ha => by
      unfold nats
      rw [List.map_map]
      have : ∀ l : List Int, (∀ y, y ∈ l → 0 ≤ y) → l = l.map ((fun m : Nat => (m : Int)) ∘ Int.toNat) := by
        intro l
        induction l with
        | nil => intro _; rfl
        | cons y l ih =>
          intro hl
          rw [List.map_cons, ← ih fun w hw => hl w (List.mem_cons_of_mem _ hw)]
          have := hl y List.mem_cons_self
          simp [Int.toNat_of_nonneg this]
      exact this _ fun y hy => (hmay.2.2.2 a ha y hy).1
    have gr4 : Gr h4 n2 v2 L' (fun a => (R a).map Int.toNat) := by
      obtain ⟨q1, q0, q2, q3, iv, q4, q5⟩ := rg4
      exact ⟨q1, q0, q2, q3, iv, q4, fun j hj => by rw [← hnat j hj]; exact q5 j hj⟩
    have ok : GOk L' (fun a => (R a).map Int.toNat) := ⟨by omega, fun a ha b hb => by
      obtain ⟨y, hy, rfl⟩ := List.mem_map.1 hb
      have := hmay.2.2.2 a ha y hy
      omega, fun a ha => by
      rw [List.length_map]
      have := (hR a ha).2
      omega⟩
    generalize (fun a => (R a).map Int.toNat) = adj at *
    have gb4 : GB h4 n2 L' v2 := g4
    obtain ⟨n5, h5, e5, ev5⟩ := gmay_spec (F := F) (by omega) gr4 (by omega) ok ev24.f
    have l5 := ev5.le
    rw [gb4.all, run_bnd e5, decide_eq_true hmay, st_eqB, onB_ite, run_ite, if_neg (by decide)]
    unfold L5_GraphRaw_r18
    try dsimp only
    rw [onB_ite, run_ite, if_pos rfl]
    have gb5 := gb4.ev ev5 (by omega) (fun h => h)
    have gr5 := gr4.no ev5 (by omega)
    unfold L5_GraphRaw_r19
    try dsimp only
    rw [gb5.all]
    by_cases hin : a < 0 ∨ (L' : Int) ≤ a ∨ b < 0 ∨ (L' : Int) ≤ b
    · obtain ⟨n6, h6, e6, ev6⟩ := path_out (F := F) hF gr5 (by omega) ok hin ev5.f
      have gr6 := gr5.no ev6 (by omega)
      rw [run_bnd e6, run_bnd (rpath_out (F := F) (n := n6) hF gr6 hin)]
      have nl : RdI h6 nsl [] := .inl ⟨rfl, rfl⟩
      rw [run_bnd (req_spec nl nl (by simp; omega) (by simp))]
      exact ⟨n6, h6, rfl⟩
    · obtain ⟨a, rfl⟩ : ∃ m : Nat, a = (m : Int) := ⟨a.toNat, by omega⟩
      obtain ⟨b, rfl⟩ : ∃ m : Nat, b = (m : Int) := ⟨b.toNat, by omega⟩
      have haN : a < L' := by omega
      have hbN : b < L' := by omega
      obtain ⟨n6, h6, v6, e6, ev6, w6⟩ := path_in (F := F) hF gr5 (by omega) ok haN hbN ev5.f
      have gr6 := gr5.no ev6 (by omega)
      have l6 := ev6.le
      rw [run_bnd e6]
      obtain ⟨n7, h7, v7, e7, ev7, w7⟩ := rpath_in (F := F) hF gr6 (by omega) ok haN hbN ev6.f
      rw [run_bnd e7]
      rcases w6 with ⟨rfl, nr⟩ | ⟨l, rd6, pw6⟩
      · rcases w7 with ⟨rfl, _⟩ | ⟨l', _, pw7⟩
        · have nl : RdI h7 nsl [] := .inl ⟨rfl, rfl⟩
          rw [run_bnd (req_spec nl nl (by simp; omega) (by simp))]
          exact ⟨n7, h7, rfl⟩
        · obtain ⟨k, d, _⟩ := pw7.len
          exact absurd (wk_rch.1 ⟨k, d.1⟩) nr
      · rcases w7 with ⟨rfl, nr⟩ | ⟨l', rd7, pw7⟩
        · obtain ⟨k, d, _⟩ := pw6.len
          exact absurd (wk_rch.1 ⟨k, d.1⟩) nr
        · have := pw6.uniq pw7
          subst this
          have rd67 : RdI h7 v6 (nats l) := rd6.kept ev6.f fun c hc => ev7.no hc
          have hll : (nats l).length ≤ 25 := by rw [nats_len]; have := pw6.small ok haN; omega
          rw [run_bnd (req_spec rd67 rd7 (by omega) (by omega)), decide_eq_true rfl]
          exact ⟨n7, h7, rfl⟩
  · -- no graph
    obtain ⟨n5, h5, e5, ev5⟩ := may_no (F := F) (z := z) hF rg4 (by omega) (by omega) hR1 hmay ev24.f
    have l5 := ev5.le
    rw [g4.all, run_bnd e5, decide_eq_false hmay, st_eqB, onB_ite, run_ite, if_neg (by decide)]
    unfold L5_GraphRaw_r18
    try dsimp only
    rw [onB_ite, run_ite, if_neg (by decide)]
    have g5 := g4.ev ev5 (by omega) (fun h => h)
    have rg5 := rg4.no ev5 (by omega)
    unfold L5_GraphRaw_r20
    try dsimp only
    obtain ⟨n6, h6, e6, ev6⟩ := turn_no (F := F) (z := z) hF rg5 (by omega) (by omega) hR1 hmay ev5.f
    have l6 := ev6.le
    rw [g5.all, run_bnd e6, show (Value.int .i64 0) = i64 0 from rfl, show (Value.slice none 0 0) = nsl from rfl, run_ptr ev6.f (by rfl)]
    have ev7 := Ev.new ev6.f ⟨[i64 0, nsl], .own⟩
    obtain ⟨h8, e8, t8, ev8⟩ := GBz.put (β := Value) (z := 0) (tv := nsl) (H.get_set_same h6 n6 ⟨[i64 0, nsl], .own⟩) rfl ev7.f rfl
    rw [e8]
    have ev68 : Ev No n6 h6 (n6 + 1) h8 := ev7.trans ev8 fun c hc q => by omega
    have ev58 : Ev No n5 h5 (n6 + 1) h8 := ev6.trans ev68 fun _ _ h => h
    have g8 := g5.ev ev58 (by omega) (fun h => h)
    have rg8 := rg5.no ev58 (by omega)
    unfold L5_GraphRaw_r21
    try dsimp only
    have len0 : (setL fun _ => false) = [] := by unfold setL upTo; simp
    rw [t8.nn, show (Value.int .i64 0) = i64 0 from rfl, st_eql, onB_ite, run_ite, if_pos (by decide), t8.t, st_len, st_eql, onB_ite, run_ite, if_pos (by decide), g8.all, run_single ev68.f rfl]
    have ev9 := Ev.new ev68.f ⟨[i64 a], .own⟩
    obtain ⟨nA, hA, p, eA, sA, evA⟩ := reach_no (F := F) (z := z) (fv := sl (n6 + 1) 0 1 1) hF (rg8.no ev9 (by omega)) (by omega) (by omega) hR1 hmay ev9.f
    have lA := evA.le
    have ev8A := ev9.trans evA fun _ _ h => h
    rw [run_bnd eA, run_bnd (at_len (F := F) (n := nA) (by omega) sA), len0, st_eql, onB_ite, run_ite, if_pos (by decide)]
    have gA := g8.ev ev8A (by omega) (fun h => h)
    have rgA := rg8.no ev8A (by omega)
    obtain ⟨nB, hB, eB, evB⟩ := parts_no (F := F) (z := z) hF rgA (by omega) (by omega) hR1 hmay evA.f
    have lB := evB.le
    rw [gA.all, run_bnd eB, st_len, st_eql, onB_ite, run_ite, if_pos (by decide)]
    have gB := gA.ev evB (by omega) (fun h => h)
    have rgB := rgA.no evB (by omega)
    obtain ⟨nC, hC, eC, evC⟩ := order_no (F := F) (z := z) (r := i64 a) hF rgB (by omega) (by omega) hR1 hmay evB.f
    have lC := evC.le
    rw [gB.all, run_bnd eC, st_len, st_eql, onB_ite, run_ite, if_pos (by decide)]
    have gC := gB.ev evC (by omega) (fun h => h)
    have rgC := rgB.no evC (by omega)
    obtain ⟨nD, hD, eD, evD⟩ := path_no (F := F) (z := z) (a := i64 a) (b := i64 b) hF rgC (by omega) (by omega) hR1 hmay evC.f
    have lD := evD.le
    rw [gC.all, run_bnd eD, st_len, st_eql, onB_ite, run_ite, if_pos (by decide)]
    have gD := gC.ev evD (by omega) (fun h => h)
    have rgD := rgC.no evD (by omega)
    obtain ⟨nE, hE, pE, eE, sE, evE⟩ := loops_no (F := F) (z := z) hF rgD (by omega) (by omega) hR1 hmay evD.f
    rw [gD.all, run_bnd eE, run_bnd (at_len (F := F) (n := nE) (by omega) sE), len0, st_eql]
    exact ⟨nE, hE, rfl⟩

theorem raw_law (h : H) (us : List Value) (f : Fr 32 h) (hb : h.get 0 = some ⟨deB, .ro⟩) (ha : NArgsAre h [.plain .int, .nest [true] 20, .plain .int, .plain .int] us) : ∃ n' h', (L5_GraphRaw_m 1000000 us).run 32 h = some (.bool true, n', h') := raw_run (Nat.le_refl _) begunD32_runs begunD32_keeps h us f hb ha

end Go.Fw
