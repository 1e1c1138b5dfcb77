/-
  GraphReach, said of the abstract machine: haruspexref1.Set and Loops; the law.
-/
import Derived.Test.YtddafkflndhnfaaDoorLawTC
import Derived.Test.YtddafkflndhnfaaDoorLawTReach
import Derived.Test.YtddafkflndhnfaaDoorLawTLoops
import Derived.Test.YtddafkflndhnfaaDoorGenTGraphReach
set_option maxRecDepth 20000
set_option linter.unusedVariables false
namespace Go.Fw

section
variable {n : Nat} {h : H} {m N : Nat} {tv : Value} {adj : Nat → List Nat}

theorem filt_succ {s : Nat → Bool} {i : Nat} : (List.range (i + 1)).filter s = if s i = true then (List.range i).filter s ++ [i] else (List.range i).filter s := by
  rw [List.range_succ, List.filter_append]
  split
  · rename_i h; rw [List.filter_cons_of_pos h]; rfl
  · rename_i h; rw [List.filter_cons_of_neg h]; simp
theorem filt_len {s : Nat → Bool} {i : Nat} : ((List.range i).filter s).length ≤ i := Nat.le_trans (List.length_filter_le _ _) (by simp)

/-- The numbers that are seen, up to one. -/
theorem rset_l1 {F b lo : Nat} {s : Nat → Bool} (hN : N ≤ 600) {E : Value → M Value} : ∀ j i k n (h : H) (v : Value), i + j = N → j < k → TB h b N s → b < lo → NewI h lo v (nats ((List.range i).filter s)) → Fr n h → lo ≤ n →
    ∃ n' h' v', (R1_Set_l1 F E k (sl b 0 N N) v (i64 i)).run n h = (E v').run n' h' ∧ NewI h' lo v' (nats ((List.range N).filter s)) ∧ Ev (fun c => lo ≤ c) n h n' h' := by
  intro j
  induction j with
  | zero =>
    intro i k n h v hij hk t hb x f hn
    obtain ⟨k, rfl⟩ : ∃ j, k = j + 1 := ⟨k - 1, by omega⟩
    obtain rfl : i = N := by omega
    rw [R1_Set_l1_s]
    unfold R1_Set_b1 R1_Set_r3
    try dsimp only
    rw [st_len, st_lss]
    simp only [onB_ite, run_ite, decide_eq_true_eq]
    rw [if_neg (by omega)]
    exact ⟨n, h, v, rfl, x, Ev.refl f⟩
  | succ j ih =>
    intro i k n h v hij hk t hb x f hn
    obtain ⟨k, rfl⟩ : ∃ j, k = j + 1 := ⟨k - 1, by omega⟩
    have hi : i < N := by omega
    rw [R1_Set_l1_s]
    unfold R1_Set_b1 R1_Set_r3
    try dsimp only
    rw [st_len, st_lss]
    simp only [onB_ite, run_ite, decide_eq_true_eq]
    rw [if_pos (by omega)]
    unfold R1_Set_r5
    try dsimp only
    rw [t.get hi, onB_ite, run_ite]
    by_cases hs : s i = true
    · rw [if_pos hs]
      unfold R1_Set_r6
      try dsimp only
      obtain ⟨b0, gl, hb0⟩ := x
      obtain ⟨h', v', e, g', f', k'⟩ := Gl.pushI (β := Value) (y := 0) (z := (i : Int)) gl f (by rw [nats_len]; have := filt_len (s := s) (i := i); omega)
      rw [show (Value.int .i64 0) = i64 0 from rfl, e]
      unfold R1_Set_k2 R1_Set_r4
      try dsimp only
      rw [show (Value.int .i64 1) = i64 1 from rfl, sx_add (by omega)]
      have hkk : ∀ c, c < lo → h'.get c = h.get c := fun c hc => k' c (by omega) fun h0 e => by have := hb0 h0; omega
      obtain ⟨n2, h2, v2, r1, r2, r3⟩ := ih (i + 1) k (n + 2) h' v' (by omega) (by omega) (t.keep (hkk b hb)) hb ⟨n + 1, by
        rw [filt_succ, if_pos hs]
        have : nats ((List.range i).filter s ++ [i]) = nats ((List.range i).filter s) ++ [(i : Int)] := by unfold nats; rw [List.map_append]; rfl
        rw [this]; exact g', fun _ => by omega⟩ f' (by omega)
      exact ⟨n2, h2, v2, r1, r2, r3.f, by have := r3.le; omega, fun c hc hcn => by rw [r3.keep c (by omega) hcn, hkk c (by omega)]⟩
    · rw [if_neg hs]
      unfold R1_Set_k2 R1_Set_r4
      try dsimp only
      rw [show (Value.int .i64 1) = i64 1 from rfl, sx_add (by omega)]
      exact ih (i + 1) k n h v (by omega) (by omega) t hb (by rw [filt_succ, if_neg hs]; exact x) f hn

theorem rset_spec {F b : Nat} {s : Nat → Bool} (hF : 1000000 ≤ F) (hN : N ≤ 600) (t : TB h b N s) (f : Fr n h) :
    ∃ n' h' v, (R1_Set F (sl b 0 N N)).run n h = some (v, n', h') ∧ NewI h' n v (nats ((List.range N).filter s)) ∧ Ev No n h n' h' := by
  unfold R1_Set R1_Set_r0 R1_Set_r1 R1_Set_r2
  try dsimp only
  obtain ⟨n', h', v', r1, r2, r3⟩ := rset_l1 (F := F) (lo := n) hN (E := fun x3 => R1_Set_k0 F x3) N 0 F n h nsl (by omega) (by omega) t (f.lt t) NewI.nil f (Nat.le_refl _)
  rw [show (Value.slice none 0 0) = nsl from rfl, show (Value.int .i64 0) = i64 ((0 : Nat) : Int) from rfl, r1]
  exact ⟨n', h', v', rfl, r2, r3.f, r3.le, fun c hc _ => r3.keep c hc (by omega)⟩

/-- Who reaches itself. -/
noncomputable def selfB (adj : Nat → List Nat) (i : Nat) : Bool := propB (∃ b, b ∈ adj i ∧ Rch adj b i)

theorem rchS_row (ok : GOk N adj) {i q : Nat} (hi : i < N) : RchS adj (stOf N (nats (adj i))) (-1) q ↔ ∃ b, b ∈ adj i ∧ Rch adj b q := by
  constructor
  · intro r
    induction r with
    | @start a h1 h2 =>
      refine ⟨a, ?_, .refl⟩
      exact nats_mem.1 h1.2
    | step _ h2 _ ih =>
      obtain ⟨b, hb, hr⟩ := ih
      exact ⟨b, hb, .step hr h2⟩
  · rintro ⟨b, hb, hr⟩
    induction hr with
    | refl => exact .start ⟨ok.lt i hi b hb, nats_mem.2 hb⟩ (by omega)
    | step _ h2 ih => exact .step ih h2 (by omega)

theorem rloops_l1 {F : Nat} (hF : 1000000 ≤ F) (ok : GOk N adj) {lo : Nat} (hml : m ≤ lo) {E : Value → M Value} : ∀ j i k n (h : H) (v : Value), i + j = N → j < k → Gr h m tv N adj → NewI h lo v (nats ((List.range i).filter (selfB adj))) → Fr n h → lo ≤ n →
    ∃ n' h' v', (R1_Loops_l1 F E k tv v (i64 i)).run n h = (E v').run n' h' ∧ NewI h' lo v' (nats ((List.range N).filter (selfB adj))) ∧ Ev (fun c => lo ≤ c) n h n' h' := by
  have hN := ok.few
  intro j
  induction j with
  | zero =>
    intro i k n h v hij hk gr x f hn
    obtain ⟨k, rfl⟩ : ∃ j, k = j + 1 := ⟨k - 1, by omega⟩
    obtain rfl : i = N := by omega
    rw [R1_Loops_l1_s]
    unfold R1_Loops_b1 R1_Loops_r3
    try dsimp only
    rw [gr.len, st_lss]
    simp only [onB_ite, run_ite, decide_eq_true_eq]
    rw [if_neg (by omega)]
    exact ⟨n, h, v, rfl, x, Ev.refl f⟩
  | succ j ih =>
    intro i k n h v hij hk gr x f hn
    obtain ⟨k, rfl⟩ : ∃ j, k = j + 1 := ⟨k - 1, by omega⟩
    have hi : i < N := by omega
    rw [R1_Loops_l1_s]
    unfold R1_Loops_b1 R1_Loops_r3
    try dsimp only
    rw [gr.len, st_lss]
    simp only [onB_ite, run_ite, decide_eq_true_eq]
    rw [if_pos (by omega)]
    unfold R1_Loops_r5
    try dsimp only
    obtain ⟨rv, er, hg, fg, kg, hr⟩ := gr.row (β := Value) (n := n) hi
    obtain ⟨n1, h1, seen, e1, t1, q1, ev1⟩ := reach_spec (F := F) (w := -1) hF gr (by omega) ok (hr.kept fg kg) (by rw [nats_len]; exact ok.short i hi) f
    rw [er, show (Value.int .i64 (-1)) = i64 (-1) from rfl, run_bnd e1, t1.get hi, onB_ite, run_ite]
    have es : seen i = selfB adj i := by
      rw [Bool.eq_iff_iff, q1 i]
      unfold selfB
      rw [propB_iff]
      exact rchS_row ok hi
    rw [es]
    have le1 := ev1.le
    have x1 : NewI h1 lo v (nats ((List.range i).filter (selfB adj))) := x.ev f ev1 fun c hc => hc.elim
    have gr1 := gr.no ev1 (by omega)
    by_cases hs : selfB adj i = true
    · rw [if_pos hs]
      unfold R1_Loops_r6
      try dsimp only
      obtain ⟨b0, gl, hb0⟩ := x1
      obtain ⟨h', v', e, g', f', k'⟩ := Gl.pushI (β := Value) (y := 0) (z := (i : Int)) gl ev1.f (by rw [nats_len]; have := filt_len (s := selfB adj) (i := i); omega)
      rw [show (Value.int .i64 0) = i64 0 from rfl, e]
      unfold R1_Loops_k2 R1_Loops_r4
      try dsimp only
      rw [show (Value.int .i64 1) = i64 1 from rfl, sx_add (by omega)]
      have hkk : ∀ c, c < lo → h'.get c = h1.get c := fun c hc => k' c (by omega) fun h0 e => by have := hb0 h0; omega
      obtain ⟨n2, h2, v2, r1, r2, r3⟩ := ih (i + 1) k (n1 + 2) h' v' (by omega) (by omega) (gr1.kept fun c hc => hkk c (by omega)) ⟨n1 + 1, by
        rw [filt_succ, if_pos hs]
        have : nats ((List.range i).filter (selfB adj) ++ [i]) = nats ((List.range i).filter (selfB adj)) ++ [(i : Int)] := by unfold nats; rw [List.map_append]; rfl
        rw [this]; exact g', fun _ => by omega⟩ f' (by omega)
      exact ⟨n2, h2, v2, r1, r2, r3.f, by have := r3.le; omega, fun c hc hcn => by rw [r3.keep c (by omega) hcn, hkk c (by omega), ev1.no hc]⟩
    · rw [if_neg hs]
      unfold R1_Loops_k2 R1_Loops_r4
      try dsimp only
      rw [show (Value.int .i64 1) = i64 1 from rfl, sx_add (by omega)]
      obtain ⟨n2, h2, v2, r1, r2, r3⟩ := ih (i + 1) k n1 h1 v (by omega) (by omega) gr1 (by rw [filt_succ, if_neg hs]; exact x1) ev1.f (by omega)
      exact ⟨n2, h2, v2, r1, r2, r3.f, by have := r3.le; omega, fun c hc hcn => by rw [r3.keep c (by omega) hcn, ev1.no hc]⟩

theorem rloops_spec {F : Nat} (hF : 1000000 ≤ F) (ok : GOk N adj) (gr : Gr h m tv N adj) (hm : m ≤ n) (f : Fr n h) :
    ∃ n' h' v, (R1_Loops F tv).run n h = some (v, n', h') ∧ NewI h' n v (nats ((List.range N).filter (selfB adj))) ∧ Ev No n h n' h' := by
  have hN := ok.few
  unfold R1_Loops R1_Loops_r0 R1_Loops_r1 R1_Loops_r2
  try dsimp only
  obtain ⟨n', h', v', r1, r2, r3⟩ := rloops_l1 (F := F) (lo := n) hF ok hm (E := fun x3 => R1_Loops_k0 F x3) N 0 F n h nsl (by omega) (by omega) gr NewI.nil f (Nat.le_refl _)
  rw [show (Value.slice none 0 0) = nsl from rfl, show (Value.int .i64 0) = i64 ((0 : Nat) : Int) from rfl, r1]
  exact ⟨n', h', v', rfl, r2, r3.f, r3.le, fun c hc _ => r3.keep c hc (by omega)⟩

/-- All of a set, in order. -/
theorem all_range {C : Nat → Bool} {p lo hi : Nat} (x : SetAt h p lo hi C) {s : Nat → Bool} (hs : ∀ v, C v = true ↔ (v < N ∧ s v = true)) : ints (setL C) = nats ((List.range N).filter s) := by
  have e : setL C = (List.range N).filter s := by
    refine sorted_ext setL_sorted (List.Pairwise.filter _ List.pairwise_lt_range) fun v => ?_
    rw [setL_mem x, hs v, List.mem_filter, List.mem_range]
  rw [e]

/-- A slice that came in, cut. -/
theorem cut_ints {v : Value} {zs : List Int} (hv : IntsA h v zs) (hl : zs.length < 9223372036854775808) {k : Nat} (h1 : k < zs.length) : ∃ v', (∀ K : Value → M Value, bnd (opSlice 1 v none (some (i64 k)) none) K = K v') ∧ IntsA h v' (zs.take k) := by
  rcases hv with ⟨rfl, _⟩ | ⟨b, cap, xs, rfl, g1, g2, g3⟩
  · simp at h1
  · have es : opSlice 1 (sl b 0 zs.length cap) none (some (i64 k)) none = ret (sl b 0 k cap) := by
      show (if (0 : Int) ≤ 0 ∧ (0 : Int) ≤ (k : Int) then (if (k : Int) ≤ (zs.length : Int) then (if cap = U + 1 then ret (sl b (0 + (0 : Int).toNat * 1) ((k : Int) - 0).toNat cap) else if cap < U then ret (sl b (0 + (0 : Int).toNat * 1) ((k : Int) - 0).toNat (cap - (0 : Int).toNat)) else fail) else fail) else fail) = _
      rw [if_pos (by omega), if_pos (by omega), if_neg (by unfold U; omega), if_pos (by unfold U; omega)]
      simp
    refine ⟨sl b 0 k cap, fun K => by rw [es, ret_bnd], .inr ⟨b, cap, xs, ?_, by rw [List.length_take]; omega, g2, fun h0 => ?_⟩⟩
    · rw [List.length_take, Nat.min_eq_left (by omega)]
    · have hz : zs ≠ [] := by rintro rfl; simp at h0
      refine ⟨(g3 hz).1, (g3 hz).2.1, fun i hi => ?_⟩
      rw [List.length_take] at hi
      rw [(g3 hz).2.2 i (by omega), List.map_take, List.getElem?_take, if_pos (by omega)]
end

theorem greach_law_k0 {F n n0 g ob N : Nat} {h : H} {O : Nat → Prop} {adj : Nat → List Nat} {v2 : Value} {zs : List Int} (hF : 1000000 ≤ F) (hn : 8 ≤ n) (hb : h.get 0 = some ⟨deB, .ro⟩) (x : MadeAt n0 n h g N (sl ob 0 N N) O ob adj) (f : Fr n h) (rd : RdI h v2 zs) (hz : zs.length ≤ 10) :
    ∃ n' h', (L5_GraphReach_k0 F v2 (pt g 0)).run n h = some (.bool true, n', h') := by
  have gr := x.gr f
  have hN := x.few
  have hN1 := x.pos
  unfold L5_GraphReach_k0 L5_GraphReach_r7
  try dsimp only
  have chk : ∀ {n : Nat} {h' : H} {k : Unit → M Value}, GB h' g N (sl ob 0 N N) → (bnd (opChk false (pt g 1) (sl ob 0 N N)) k).run n h' = (k ()).run n h' := fun hg => run_chk hg (by decide) rfl (by simp [veq])
  have fa : ∀ k : Value → M Value, bnd (opFieldAddr 1 (pt g 0)) k = k (pt g 1) := fun k => rfl
  rw [x.var.all, fa, ld1 x.var (by decide) rfl]
  obtain ⟨n1, h1, p1, C1, e1, x1, c1, ev1⟩ := greach_spec (F := F) hF gr (Nat.le_refl _) x.ok rd (by omega) f
  have gb1 := x.var.ev ev1 x.glt (fun h => h)
  have gr1 := gr.no ev1 (Nat.le_refl _)
  have l1 := ev1.le
  rw [run_bnd e1, chk gb1]
  obtain ⟨n2, h2, w2, e2, y2, ev2⟩ := at_all (F := F) (by omega) (by omega) (by rw [ev1.no (by omega)]; exact hb) x1 ev1.f
  have gb2 := gb1.ev ev2 (by have := x.glt; omega) (fun h => h)
  have gr2 := gr1.no ev2 (by omega)
  have l2 := ev2.le
  rw [run_bnd e2, chk gb2]
  have rd2 : RdI h2 v2 zs := rd.kept f fun c hc => by rw [ev2.no (by omega), ev1.no hc]
  obtain ⟨n3, h3, seen, e3, t3, q3, ev3⟩ := reach_spec (F := F) (w := -1) hF gr2 (by omega) x.ok rd2 (by omega) ev2.f
  rw [show (Value.int .i64 (-1)) = i64 (-1) from rfl, run_bnd e3]
  have l3 := ev3.le
  obtain ⟨n4, h4, w4, e4, y4, ev4⟩ := rset_spec (F := F) hF (by omega) t3 ev3.f
  have l4 := ev4.le
  rw [run_bnd e4]
  have hC : ∀ v, C1 v = true ↔ (v < N ∧ seen v = true) := fun v => by
    rw [c1 v, q3 v]
    refine ⟨fun r => ⟨?_, r⟩, fun h => h.2⟩
    have hlt : ∀ v, RchS adj (stOf N zs) (-1) v → v < N := fun v r => by
      induction r with
      | start h1 _ => exact h1.1
      | step _ h2 _ ih => exact x.ok.lt _ ih _ h2
    exact hlt v r
  have ea := all_range x1 hC
  rw [ea] at y2
  have y24 : RdI h4 w2 (nats ((List.range N).filter seen)) := y2.rd.kept ev2.f fun c hc => by rw [ev4.no (by omega), ev3.no hc]
  have hfl : (nats ((List.range N).filter seen)).length ≤ N := by rw [nats_len]; exact filt_len
  rw [run_bnd (req_spec y24 y4.rd (by omega) (by omega)), decide_eq_true rfl, onB_ite, run_ite, if_pos rfl]
  have gb4 : GB h4 g N (sl ob 0 N N) := by unfold GB; rw [ev4.no (by have := x.glt; omega), ev3.no (by have := x.glt; omega)]; exact gb2
  have gr4 : Gr h4 n (sl ob 0 N N) N adj := (gr2.no ev3 (by omega)).no ev4 (by omega)
  rw [gb4.all, fa, ld1 gb4 (by decide) rfl]
  obtain ⟨n5, h5, p5, C5, e5, x5, c5, ev5⟩ := gloops_spec (F := F) hF x.ok hN1 gr4 (by omega) ev4.f
  have gb5 := gb4.ev ev5 (by have := x.glt; omega) (fun h => h)
  have l5 := ev5.le
  rw [run_bnd e5, chk gb5]
  obtain ⟨n6, h6, w6, e6, y6, ev6⟩ := at_all (F := F) (by omega) (by omega) (by rw [ev5.no (by omega), ev4.no (by omega), ev3.no (by omega), ev2.no (by omega), ev1.no (by omega)]; exact hb) x5 ev5.f
  have gb6 := gb5.ev ev6 (by have := x.glt; omega) (fun h => h)
  have gr6 := (gr4.no ev5 (by omega)).no ev6 (by omega)
  have l6 := ev6.le
  rw [run_bnd e6, chk gb6]
  obtain ⟨n7, h7, w7, e7, y7, ev7⟩ := rloops_spec (F := F) hF x.ok gr6 (by omega) ev6.f
  rw [run_bnd e7]
  have ea5 := all_range x5 (N := N) (s := selfB adj) fun v => by
    rw [c5 v]
    unfold selfB
    rw [propB_iff]
  rw [ea5] at y6
  have y67 : RdI h7 w6 (nats ((List.range N).filter (selfB adj))) := y6.rd.kept ev6.f fun c hc => ev7.no hc
  have hfl5 : (nats ((List.range N).filter (selfB adj))).length ≤ N := by rw [nats_len]; exact filt_len
  rw [run_bnd (req_spec y67 y7.rd (by omega) (by omega)), decide_eq_true rfl]
  exact ⟨n7, h7, rfl⟩

theorem greachL_run {F : Nat} (hF : 1000000 ≤ F) (hbg : gaveTrue ((L5_begun F).run 8 (baseH deB)) = true) (hbg0 : (((L5_begun F).run 8 (baseH deB)).map fun x => x.2.2.get 0) = some (some ⟨deB, .ro⟩)) (h : H) (us : List Value) (f : Fr 8 h) (hb : h.get 0 = some ⟨deB, .ro⟩) (ha : ArgsAre h [.int, .flat 2, .flat 1] us) : ∃ n' h', (L5_GraphReach_m F us).run 8 h = some (.bool true, n', h') := by
  obtain ⟨v0, v1, v2, rfl, a0, a1, a2⟩ := args3 ha
  obtain ⟨z, rfl, hz⟩ := a0
  obtain ⟨len, Z, hp, _, hZ⟩ := a1.pairs f
  obtain ⟨zs, hv2, hl2⟩ := a2.ints f
  show ∃ n' h', (L5_GraphReach F (i64 z) v1 v2).run 8 h = _
  obtain ⟨n1, h1, e1, f1, l1, k1⟩ := run_over_true hbg hbg0 f hb
  unfold L5_GraphReach L5_GraphReach_r0 L5_GraphReach_r1
  try dsimp only
  rw [run_bnd e1]
  unfold L5_GraphReach_r2
  simp only [st_not, onB_ite, Bool.not_true, Bool.false_eq_true, if_false]
  unfold L5_GraphReach_r4
  try dsimp only
  obtain ⟨n2, h2, g, ob, O, e2, x2, ev2⟩ := made_var (F := F) hF l1 hz hZ (hp.keep k1) f1
  rw [show (Value.int .i64 0) = i64 0 from rfl, show (Value.slice none 0 0) = nsl from rfl, e2]
  generalize nodesOf z = N at *
  generalize madeL N Z (min len 80) = adj at *
  have l2 := ev2.le
  have hv2' : IntsA h2 v2 zs := hv2.keep fun c hc => by rw [ev2.no (by omega), k1 c hc]
  have hb2 : h2.get 0 = some ⟨deB, .ro⟩ := by rw [ev2.no (by omega), k1 0 (by omega)]; exact hb
  unfold L5_GraphReach_r5
  try dsimp only
  rw [hv2'.rd.len, List.length_map, show (Value.int .i64 10) = i64 ((10 : Nat) : Int) from rfl, st_gtr, onB_ite, run_ite]
  by_cases hc : ((10 : Nat) : Int) < (zs.length : Int)
  · rw [if_pos (by rw [decide_eq_true_eq]; exact hc)]
    unfold L5_GraphReach_r6
    try dsimp only
    obtain ⟨v', es, hv'⟩ := cut_ints hv2' hl2 (k := 10) (by omega)
    rw [show (Value.int .i64 10) = i64 ((10 : Nat) : Int) from rfl, es]
    exact greach_law_k0 hF (by omega) hb2 x2 ev2.f hv'.rd (by rw [List.length_take]; omega)
  · rw [if_neg (by rw [decide_eq_true_eq]; exact hc)]
    exact greach_law_k0 hF (by omega) hb2 x2 ev2.f hv2'.rd (by omega)

theorem greachL_law (h : H) (us : List Value) (f : Fr 8 h) (hb : h.get 0 = some ⟨deB, .ro⟩) (ha : ArgsAre h [.int, .flat 2, .flat 1] us) : ∃ n' h', (L5_GraphReach_m 1000000 us).run 8 h = some (.bool true, n', h') := greachL_run (Nat.le_refl _) begunT_runs begunT_keeps h us f hb ha

end Go.Fw
