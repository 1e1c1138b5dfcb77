/-
  The search for parts, said of the abstract machine: how a visit begins, how it ends, a visit.
-/
import Derived.Test.YtddafkflndhnfaaDoorLawTar
set_option maxRecDepth 20000
set_option linter.unusedVariables false
namespace Go.Fw

theorem nats_map {l : List Nat} : (nats l).map i64 = l.map fun m : Nat => i64 (m : Int) := by unfold nats; rw [List.map_map]; rfl
theorem nats_inj {l l' : List Nat} (h : nats l = nats l') : l = l' := by
  unfold nats at h
  exact List.map_inj_right (fun a b e => by omega) |>.1 h
theorem nats_mem {l : List Nat} {a : Nat} : ((a : Nat) : Int) ∈ nats l ↔ a ∈ l := by
  unfold nats
  rw [List.mem_map]
  exact ⟨fun ⟨b, hb, e⟩ => by rw [Int.natCast_inj] at e; rw [← e]; exact hb, fun h => ⟨a, h, rfl⟩⟩
theorem nats_idx {a : Nat} : ∀ {l : List Nat}, (nats l).idxOf (a : Int) = l.idxOf a
  | [] => rfl
  | b :: l => by
    have ih := nats_idx (a := a) (l := l)
    show ((b : Int) :: nats l).idxOf (a : Int) = _
    rw [List.idxOf_cons, List.idxOf_cons, ih]
    have : ((b : Int) == (a : Int)) = (b == a) := by
      rw [Bool.eq_iff_iff, beq_iff_eq, beq_iff_eq]; omega
    rw [this]

theorem partOf_mem {N v : Nat} {l : List Nat} (hl : ∀ v, v ∈ l → v < N) : v ∈ partOf N l ↔ v ∈ l := by
  unfold partOf
  rw [List.mem_filter, List.mem_range, decide_eq_true_eq]
  exact ⟨fun h => h.2, fun h => ⟨hl v h, h⟩⟩
theorem partOf_perm {N : Nat} {l : List Nat} (hn : l.Nodup) (hl : ∀ v, v ∈ l → v < N) : (partOf N l).Perm l :=
  (List.perm_ext_iff_of_nodup (List.nodup_range.filter _) hn).2 fun v => partOf_mem hl
theorem sorted_part {N : Nat} {l : List Nat} (hn : l.Nodup) (hl : ∀ v, v ∈ l → v < N) : sortI (nats l) = nats (partOf N l) := by
  refine List.Perm.eq_of_pairwise (le := fun a b : Int => a ≤ b) (fun a b _ _ h1 h2 => by omega) ((sortBy_pw id _).imp fun {a b} h => h) ?_ ((sortBy_perm id _).trans ((partOf_perm hn hl).map _).symm)
  unfold nats
  rw [List.pairwise_map]
  unfold partOf
  refine List.Pairwise.filter _ ?_
  exact (List.pairwise_lt_range).imp fun {a b} h => by omega

section
variable {n : Nat} {h h' : H} {lo m q p bn bl bs N : Nat} {tv sv pv : Value} {s s' : TS} {sb pb : Nat} {ivs : List Value}

/-- A visit begins. -/
theorem vis_begin {F a : Nat} {rc : Value → Value → M Value} {K : Value → Value → M Value} (fx : Fx lo q p bn bl bs) (ha : a < N) (x : FE h q p bn bl bs N tv s) (f : Fr n h) (hn : q ≤ n) (hs : s.st.length ≤ 1000) (hx : s.nx ≤ 1000) :
    ∃ n' h', (graph_finder_visit_r0 F rc (pt p 0) (i64 a) fun x0 x1 => graph_finder_visit_r1 F rc x0 x1 fun x0 x1 => graph_finder_visit_r2 F rc x0 x1 fun x0 x1 => graph_finder_visit_r3 F rc x0 x1 fun x0 x1 => K x0 x1).run n h = (K (pt p 0) (i64 a)).run n' h' ∧
      FE h' q p bn bl bs N tv (tStart a s) ∧ Ev (fun c => lo ≤ c) n h n' h' := by
  obtain ⟨sv, sb, pv, pb, ivs, w⟩ := x
  have hpn := f.lt w.hp
  unfold graph_finder_visit_r0
  try dsimp only
  rw [ldF w.hp rfl, show (Value.int .i64 1) = i64 1 from rfl, sx_add (by omega), stF w.hp rfl (by simp)]
  have e0 : (fcs N tv (sl bn 0 N N) (sl bl 0 N N) (sl bs 0 N N) sv pv s.nx).set 6 (.int .i64 ((s.nx : Int) + 1)) = fcs N tv (sl bn 0 N N) (sl bl 0 N N) (sl bs 0 N N) sv pv (s.nx + 1) := rfl
  rw [e0]
  have f1 := f.set ⟨fcs N tv (sl bn 0 N N) (sl bl 0 N N) (sl bs 0 N N) sv pv (s.nx + 1), .own⟩ hpn
  have g1 : (h.set p ⟨fcs N tv (sl bn 0 N N) (sl bl 0 N N) (sl bs 0 N N) sv pv (s.nx + 1), .own⟩).get p = some ⟨fcs N tv (sl bn 0 N N) (sl bl 0 N N) (sl bs 0 N N) sv pv (s.nx + 1), .own⟩ := H.get_set_same _ _ _
  have k1 : ∀ c, c ≠ p → (h.set p ⟨fcs N tv (sl bn 0 N N) (sl bl 0 N N) (sl bs 0 N N) sv pv (s.nx + 1), .own⟩).get c = h.get c := fun c hc => H.get_set_ne _ _ hc
  generalize h.set p ⟨fcs N tv (sl bn 0 N N) (sl bl 0 N N) (sl bs 0 N N) sv pv (s.nx + 1), .own⟩ = h1 at f1 g1 k1
  have tn1 : TI h1 bn N fun i => (s.num i : Int) := w.tn.keep (k1 _ fx.d1.symm)
  have tl1 : TI h1 bl N fun i => (s.low i : Int) := w.tl.keep (k1 _ fx.d2.symm)
  have tb1 : TB h1 bs N s.on := w.tb.keep (k1 _ fx.d3.symm)
  unfold graph_finder_visit_r1
  try dsimp only
  obtain ⟨h2, e2, t2, ev2⟩ := TI.set (β := Value) tn1 f1 ha (z := ((s.nx + 1 : Nat) : Int))
  have g2 : h2.get p = _ := (ev2.keep p hpn fx.d1).trans g1
  obtain ⟨h3, e3, t3, ev3⟩ := TI.set (β := Value) (tl1.keep (ev2.keep _ (f1.lt tl1) fx.d4.symm)) ev2.f ha (z := ((s.nx + 1 : Nat) : Int))
  rw [ldF g1 rfl, ldF g1 rfl, ldF g1 rfl, ldF g1 rfl, e2, e3]
  have g3 : h3.get p = _ := (ev3.keep p hpn fx.d2).trans g2
  have k3 : ∀ c, c < n → c ≠ p → c ≠ bn → c ≠ bl → h3.get c = h.get c := fun c hc c1 c2 c3 => by rw [ev3.keep c hc c3, ev2.keep c hc c2, k1 c c1]
  have hsb : sv ≠ nsl → q ≤ sb ∧ sb < n := fun hv => ⟨(w.sq hv).1, w.st.lt' hv f⟩
  have u1 := fx.u1
  have u2 := fx.u2
  have u3 := fx.u3
  have u4 := fx.u4
  have st3 : GqI h3 sv sb s.st := w.st.keep' fun hv => by have := hsb hv; exact k3 sb this.2 (by omega) (by omega) (by omega)
  unfold graph_finder_visit_r2
  try dsimp only
  obtain ⟨h4, v4, e4, q4, ⟨zs4, z4⟩, f4, k4⟩ := Gq.pushG (y := i64 0) (x := i64 (a : Int)) st3 ev3.f rfl allN (by unfold nats; simp; omega)
  have q4 : GqI h4 v4 (n + 1) (s.st ++ [a]) := by unfold GqI nats; rw [List.map_append, List.map_append]; exact q4
  rw [ldF g3 rfl, show (Value.int .i64 0) = i64 0 from rfl, e4]
  have g4 : h4.get p = _ := (k4 p hpn fun hv => by have := hsb hv; omega).trans g3
  have v4n : v4 ≠ nsl := by
    rcases q4 with ⟨e, _⟩ | ⟨o, xs, kd, c, e, _⟩
    · unfold nats at e; simp at e
    · rw [e]; intro e; cases e
  have v4o : one v4 = true := by
    rcases q4 with ⟨_, e⟩ | ⟨o, xs, kd, c, e, _⟩ <;> rw [e] <;> rfl
  rw [stF g4 v4o (by simp)]
  have e5 : (fcs N tv (sl bn 0 N N) (sl bl 0 N N) (sl bs 0 N N) sv pv (s.nx + 1)).set 5 v4 = fcs N tv (sl bn 0 N N) (sl bl 0 N N) (sl bs 0 N N) v4 pv (s.nx + 1) := rfl
  rw [e5]
  have f5 := f4.set ⟨fcs N tv (sl bn 0 N N) (sl bl 0 N N) (sl bs 0 N N) v4 pv (s.nx + 1), .own⟩ (show p < n + 2 by omega)
  have g5 : (h4.set p ⟨fcs N tv (sl bn 0 N N) (sl bl 0 N N) (sl bs 0 N N) v4 pv (s.nx + 1), .own⟩).get p = some ⟨fcs N tv (sl bn 0 N N) (sl bl 0 N N) (sl bs 0 N N) v4 pv (s.nx + 1), .own⟩ := H.get_set_same _ _ _
  have k5 : ∀ c, c ≠ p → (h4.set p ⟨fcs N tv (sl bn 0 N N) (sl bl 0 N N) (sl bs 0 N N) v4 pv (s.nx + 1), .own⟩).get c = h4.get c := fun c hc => H.get_set_ne _ _ hc
  generalize h4.set p ⟨fcs N tv (sl bn 0 N N) (sl bl 0 N N) (sl bs 0 N N) v4 pv (s.nx + 1), .own⟩ = h5 at f5 g5 k5
  have k35 : ∀ c, c < n → c ≠ p → (sv ≠ nsl → c ≠ sb) → h5.get c = h3.get c := fun c hc c1 c2 => by rw [k5 c c1, k4 c hc c2]
  unfold graph_finder_visit_r3
  try dsimp only
  have tb3 : TB h3 bs N s.on := tb1.keep (by rw [ev3.keep _ (f1.lt tb1) fx.d6.symm, ev2.keep _ (f1.lt tb1) fx.d5.symm])
  have hbs := f1.lt tb1
  have hbn := f1.lt tn1
  have hbl := f1.lt tl1
  have tb5 : TB h5 bs N s.on := tb3.keep (k35 bs hbs fx.d3.symm fun hv => by have := hsb hv; omega)
  obtain ⟨h6, e6, t6, ev6⟩ := TB.set (β := Value) tb5 f5 ha (z := true)
  rw [ldF g5 rfl, e6]
  have k06 : ∀ c, c < n → c ≠ p → c ≠ bn → c ≠ bl → c ≠ bs → (sv ≠ nsl → c ≠ sb) → h6.get c = h.get c := fun c hc c1 c2 c3 c4 c5 => by
    rw [ev6.keep c (by omega) c4, k35 c hc c1 c5, k3 c hc c1 c2 c3]
  refine ⟨n + 2, h6, rfl, ⟨v4, n + 1, pv, pb, ivs, ?_⟩, ev6.f, by omega, fun c hc hq => ?_⟩
  · have up : ∀ (u : Nat → Nat), (fun i => ((upd u a (s.nx + 1) i : Nat) : Int)) = upd (fun i => ((u i : Nat) : Int)) a ((s.nx + 1 : Nat) : Int) := fun u => by
      funext i; unfold upd; split <;> rfl
    have pk : ∀ c, q ≤ c → c < n → (sv ≠ nsl → c ≠ sb) → h6.get c = h.get c := fun c h1 h2 h3 => k06 c h2 (by omega) (by omega) (by omega) (by omega) h3
    refine ⟨?_, ?_, ?_, t6, ?_, fun _ => ⟨by omega, fun xs hxs => ?_⟩, v4o, w.pl.keep fun h0 => pk pb (w.pq h0).1 (w.pl.lt f h0) (w.pq h0).2, fun h0 => ⟨(w.pq h0).1, fun _ => by have := w.pl.lt f h0; omega⟩, w.pp.turn f (fun c h1 h2 h3 h4 => pk c h1 h2 h4) (by omega)⟩
    · rw [ev6.keep p (by omega) fx.d3]; exact g5
    · show TI h6 bn N fun i => ((upd s.num a (s.nx + 1) i : Nat) : Int)
      rw [up]
      exact t2.keep (by rw [ev6.keep bn (by omega) fx.d5, k35 bn hbn fx.d1.symm fun hv => by have := hsb hv; omega, ev3.keep bn hbn fx.d4])
    · show TI h6 bl N fun i => ((upd s.low a (s.nx + 1) i : Nat) : Int)
      rw [up]
      exact t3.keep (by rw [ev6.keep bl (by omega) fx.d6, k35 bl hbl fx.d2.symm fun hv => by have := hsb hv; omega])
    · show GqI h6 v4 (n + 1) (s.st ++ [a])
      exact q4.keep' fun _ => by rw [ev6.keep (n + 1) (by omega) (by omega), k5 (n + 1) (by omega)]
    · rw [ev6.keep (n + 1) (by omega) (by omega), k5 (n + 1) (by omega), z4] at hxs
      cases hxs
  · exact k06 c hc (by have := fx.l1; omega) (by have := fx.l2; omega) (by have := fx.l3; omega) (by have := fx.l4; omega) fun hv => by have := hsb hv; have := fx.l1; omega

theorem PartsIn.push {ps : List (List Nat)} {sv' v : Value} {pb' b : Nat} {P : List Nat} (x : PartsIn h q sv sb ivs pb ps) (f : Fr n h) (hk : ∀ c, q ≤ c → c < n → c ≠ pb → (sv ≠ nsl → c ≠ sb) → h'.get c = h.get c)
    (g : GlI h' v b (nats P)) (h0 : P ≠ []) (hq : q ≤ b) (hb : b ≠ pb') (hs : b ≠ sb) (hpb : n ≤ pb') (hsv : sv ≠ nsl) : PartsIn h' q sv' sb (ivs ++ [v]) pb' (ps ++ [P]) := by
  refine ⟨by rw [List.length_append, List.length_append, x.1]; rfl, fun i u P' hu hP => ?_⟩
  rcases Nat.lt_or_ge i ivs.length with hi | hi
  · rw [List.getElem?_append_left hi] at hu
    rw [List.getElem?_append_left (by rw [← x.1]; exact hi)] at hP
    obtain ⟨c, gc, c0, c1, c2, c3⟩ := x.2 i u P' hu hP
    have hne : (nats P').map i64 ≠ [] := by unfold nats; simpa using c0
    have hlt := gc.lt f hne
    exact ⟨c, gc.keep fun _ => hk c c1 hlt c2 c3, c0, c1, by omega, fun _ => c3 hsv⟩
  · rw [List.getElem?_append_right hi] at hu
    rw [List.getElem?_append_right (by rw [← x.1]; exact hi)] at hP
    have hz : i - ivs.length = 0 := by
      have := (List.getElem?_eq_some_iff.1 hu).1
      simp at this; omega
    rw [hz] at hu
    rw [← x.1, hz] at hP
    simp only [List.getElem?_cons_zero, Option.some.injEq] at hu hP
    subst hu
    subst hP
    exact ⟨b, g, h0, hq, hb, fun _ => hs⟩

theorem nodupN_len {l : List Nat} (hn : l.Nodup) (hl : ∀ v, v ∈ l → v < N) : l.length ≤ N := by
  rw [← (partOf_perm hn hl).length_eq]
  unfold partOf
  exact Nat.le_trans (List.length_filter_le _ _) (by simp)
theorem parts_len {ps : List (List Nat)} (hd : ps.Pairwise fun P Q => ∀ v, v ∈ P → v ∉ Q) (h0 : ∀ P, P ∈ ps → P ≠ []) (hl : ∀ P, P ∈ ps → ∀ v, v ∈ P → v < N) : ps.length ≤ N := by
  have hh : ∀ P : List Nat, P ≠ [] → P.headD 0 ∈ P := fun P hP => by
    match P, hP with
    | a :: _, _ => exact List.mem_cons_self
  have : (ps.map fun P => P.headD 0).length ≤ N := nodupN_len (by
    show List.Pairwise _ _
    rw [List.pairwise_map]
    refine List.Pairwise.imp_of_mem (fun {P Q} hP hQ h e => ?_) hd
    exact h _ (hh P (h0 P hP)) (by rw [e]; exact hh Q (h0 Q hQ))) fun v hv => by
      rw [List.mem_map] at hv
      obtain ⟨P, hP, rfl⟩ := hv
      exact hl P hP _ (hh P (h0 P hP))
  rwa [List.length_map] at this

/-- A visit ends. -/
theorem vis_end {F a : Nat} {rc : Value → Value → M Value} {t : TS} (hF : 1000000 ≤ F) (fx : Fx lo q p bn bl bs) (hN : N ≤ 600) (ha : a < N) (x : FE h q p bn bl bs N tv t) (f : Fr n h) (hn : q ≤ n) (ai : a ∈ t.st) (hnd : t.st.Nodup) (hlt : ∀ v, v ∈ t.st → v < N) (hps : t.ps.length ≤ 1000) :
    ∃ v n' h', (graph_finder_visit_k2 F rc (pt p 0) (i64 a)).run n h = some (v, n', h') ∧ FE h' q p bn bl bs N tv (tEnd N a t) ∧ Ev (fun c => lo ≤ c) n h n' h' := by
  have hsl := nodupN_len hnd hlt
  obtain ⟨sv, sb, pv, pb, ivs, w⟩ := x
  have hpn := f.lt w.hp
  have u1 := fx.u1
  have u2 := fx.u2
  have u3 := fx.u3
  have u4 := fx.u4
  have l1 := fx.l1
  unfold graph_finder_visit_k2 graph_finder_visit_r13
  try dsimp only
  rw [ldF w.hp rfl, w.tl.get ha, ldF w.hp rfl, w.tn.get ha, st_lss]
  simp only [onB_ite, run_ite, decide_eq_true_eq]
  unfold tEnd
  by_cases hlo : t.low a < t.num a
  · rw [if_pos (by omega), if_pos hlo]
    exact ⟨_, n, h, rfl, ⟨sv, sb, pv, pb, ivs, w⟩, Ev.refl f⟩
  rw [if_neg (by omega), if_neg hlo]
  have hik : t.st.idxOf a < t.st.length := List.idxOf_lt_length_of_mem ai
  have svn : sv ≠ nsl := fun e => by
    rcases w.st with ⟨e1, _⟩ | ⟨o, xs, kd, c, e1, _⟩
    · unfold nats at e1
      rw [List.map_map, List.map_eq_nil_iff] at e1
      rw [e1] at ai; cases ai
    · rw [e] at e1; cases e1
  obtain ⟨hq1, hno⟩ := w.sq svn
  have hsn := w.st.lt' svn f
  unfold graph_finder_visit_r14
  try dsimp only
  have eidx : idxI (a : Int) (nats t.st) = ((t.st.idxOf a : Nat) : Int) := by unfold idxI; rw [if_pos (nats_mem.2 ai), nats_idx]
  rw [ldF w.hp rfl, run_bnd (index_spec (F := F) (x := (a : Int)) (by rw [nats_len]; omega) (by rw [nats_len]; omega) w.st.rd), eidx]
  generalize hk : t.st.idxOf a = k at hik ⊢
  have hl2 : ((nats t.st).map i64).length = t.st.length := by rw [List.length_map, nats_len]
  unfold graph_finder_visit_r15
  try dsimp only
  obtain ⟨v1, hv1, es1, rd1⟩ := Gq.tailAt (β := Value) w.st svn (i := k) (by rw [hl2]; omega) hno
  have ecs : ((nats t.st).map i64).drop k = (nats (t.st.drop k)).map i64 := by unfold nats; rw [List.map_map, List.map_map, List.map_drop]
  rw [ecs] at rd1
  have hpart0 : t.st.drop k ≠ [] := fun e => by
    have := congrArg List.length e
    rw [List.length_drop] at this; simp at this; omega
  have hpl : (t.st.drop k).length ≤ 600 := by rw [List.length_drop]; omega
  have hplt : ∀ v, v ∈ t.st.drop k → v < N := fun v hv => hlt v (List.mem_of_mem_drop hv)
  have hpnd : (t.st.drop k).Nodup := hnd.sublist (List.drop_sublist _ _)
  have hcut : GqI h sv sb t.st := w.st
  generalize hpe : t.st.drop k = part at rd1 hpart0 hpl hplt hpnd ⊢
  have hcl : ((nats part).map i64).length = part.length := by rw [List.length_map, nats_len]
  have hcne : (nats part).map i64 ≠ [] := by unfold nats; simpa using hpart0
  obtain ⟨h1, e1, b1, ev1⟩ := clone_rd (F := F) rd1 hv1 f hcne allN (by rw [hcl]; omega)
  rw [ldF w.hp rfl, es1, run_bnd e1, hcl]
  have g1 : h1.get p = _ := (ev1.no hpn).trans w.hp
  have k1 : ∀ c, c < n → h1.get c = h.get c := fun c hc => ev1.no hc
  unfold graph_finder_visit_r16
  try dsimp only
  obtain ⟨v2, hv2, es2, q2⟩ := Gq.cut (β := Value) (w.st.keep' fun _ => k1 sb hsn) svn (i := k) (by rw [hl2]; omega) (fun xs hx => hno xs (by rw [← k1 sb hsn]; exact hx))
  have q2' : GqI h1 v2 sb (t.st.take k) := by
    have : ((nats t.st).map i64).take k = (nats (t.st.take k)).map i64 := by unfold nats; rw [List.map_map, List.map_map, List.map_take]
    rw [this] at q2; exact q2
  have v2o : one v2 = true := by
    rcases q2 with ⟨_, e⟩ | ⟨o, xs, kd, c, e, _⟩ <;> rw [e] <;> rfl
  rw [ldF g1 rfl, es2, stF g1 v2o (by simp)]
  have e2 : (fcs N tv (sl bn 0 N N) (sl bl 0 N N) (sl bs 0 N N) sv pv t.nx).set 5 v2 = fcs N tv (sl bn 0 N N) (sl bl 0 N N) (sl bs 0 N N) v2 pv t.nx := rfl
  rw [e2]
  have f2 := ev1.f.set ⟨fcs N tv (sl bn 0 N N) (sl bl 0 N N) (sl bs 0 N N) v2 pv t.nx, .own⟩ (show p < n + 2 by omega)
  have g2 : (h1.set p ⟨fcs N tv (sl bn 0 N N) (sl bl 0 N N) (sl bs 0 N N) v2 pv t.nx, .own⟩).get p = some ⟨fcs N tv (sl bn 0 N N) (sl bl 0 N N) (sl bs 0 N N) v2 pv t.nx, .own⟩ := H.get_set_same _ _ _
  have k2 : ∀ c, c ≠ p → (h1.set p ⟨fcs N tv (sl bn 0 N N) (sl bl 0 N N) (sl bs 0 N N) v2 pv t.nx, .own⟩).get c = h1.get c := fun c hc => H.get_set_ne _ _ hc
  generalize h1.set p ⟨fcs N tv (sl bn 0 N N) (sl bl 0 N N) (sl bs 0 N N) v2 pv t.nx, .own⟩ = h2 at f2 g2 k2
  unfold graph_finder_visit_r17
  try dsimp only
  rw [st_len]
  have k02 : ∀ c, c < n → c ≠ p → h2.get c = h.get c := fun c hc hp => by rw [k2 c hp, k1 c hc]
  have gl2 : GlI h2 (sl (n + 1) 0 part.length (U + 1)) (n + 1) (nats part) := .inr ⟨hcne, by rw [hcl], by rw [k2 _ (by omega)]; exact b1⟩
  obtain ⟨h3, r3, t3, ev3⟩ := vis_l1 (F := F) (rc := rc) (pa := sl (n + 1) 0 part.length (U + 1)) (b := n + 1) fx (by omega) (by omega) hplt (E := fun x0 x7 => graph_finder_visit_k0 F rc x0 x7) part.length 0 F (n + 2) h2 t.on (by omega) (by omega) ⟨_, g2, rfl⟩ (w.tb.keep (k02 _ (f.lt w.tb) fx.d3.symm)) gl2 f2
  rw [show (Value.int .i64 0) = i64 ((0 : Nat) : Int) from rfl, r3]
  rw [List.drop_zero] at t3
  have g3 : h3.get p = _ := (ev3.keep p (by omega) fx.d3).trans g2
  have k03 : ∀ c, c < n → c ≠ p → c ≠ bs → h3.get c = h.get c := fun c hc hp hb => by rw [ev3.keep c (by omega) hb, k02 c hc hp]
  have b3 : h3.get (n + 1) = some ⟨(nats part).map i64, .grow⟩ := by rw [ev3.keep (n + 1) (by omega) (by omega), k2 _ (by omega)]; exact b1
  unfold graph_finder_visit_k0 graph_finder_visit_r22
  try dsimp only
  have hsort := sort_spec (F := F) (c := U + 1) ev3.f b3 (by unfold nats; simpa using hpart0) (by rw [nats_len]; omega)
  rw [nats_len, sorted_part hpnd hplt] at hsort
  rw [run_bnd hsort]
  have f4 := ev3.f.set ⟨(nats (partOf N part)).map i64, .grow⟩ (show n + 1 < n + 2 by omega)
  have g4 : (h3.set (n + 1) ⟨(nats (partOf N part)).map i64, .grow⟩).get (n + 1) = some ⟨(nats (partOf N part)).map i64, .grow⟩ := H.get_set_same _ _ _
  have k4 : ∀ c, c ≠ n + 1 → (h3.set (n + 1) ⟨(nats (partOf N part)).map i64, .grow⟩).get c = h3.get c := fun c hc => H.get_set_ne _ _ hc
  generalize h3.set (n + 1) ⟨(nats (partOf N part)).map i64, .grow⟩ = h4 at f4 g4 k4
  have gp4 : h4.get p = _ := (k4 p (by omega)).trans g3
  have k04 : ∀ c, c < n → c ≠ p → c ≠ bs → h4.get c = h.get c := fun c hc hp hb => by rw [k4 c (by omega), k03 c hc hp hb]
  unfold graph_finder_visit_r23
  try dsimp only
  rw [ldF gp4 rfl, run_single f4 rfl]
  have ev5 := Ev.new f4 ⟨[sl (n + 1) 0 part.length (U + 1)], .own⟩
  have m5 : (h4.set (n + 2) ⟨[sl (n + 1) 0 part.length (U + 1)], .own⟩).get (n + 2) = some ⟨[sl (n + 1) 0 part.length (U + 1)], .own⟩ := H.get_set_same _ _ _
  generalize h4.set (n + 2) ⟨[sl (n + 1) 0 part.length (U + 1)], .own⟩ = h5 at ev5 m5
  have k05 : ∀ c, c < n → c ≠ p → c ≠ bs → h5.get c = h.get c := fun c hc hp hb => by rw [ev5.no (by omega), k04 c hc hp hb]
  have gl5 : Gl h5 pv pb ivs := w.pl.keep fun h0 => k05 pb (w.pl.lt f h0) (by have := (w.pq h0).1; omega) (by have := (w.pq h0).1; omega)
  have hil : ivs.length = t.ps.length := w.pp.1
  have hall : ivs.all one = true := by
    rw [List.all_eq_true]
    intro u hu
    obtain ⟨i, hi, rfl⟩ := List.mem_iff_getElem.1 hu
    obtain ⟨b, gb, _⟩ := w.pp.2 i ivs[i] (t.ps[i]'(by omega)) (List.getElem?_eq_getElem hi) (List.getElem?_eq_getElem (by omega))
    exact gb.one_v
  obtain ⟨h6, e6, gl6, f6, k6⟩ := run_append (β := Value) (bytes := 24) (km := .own) gl5 ev5.f m5 (by decide) rfl hall (fun h0 => by have := w.pl.lt f h0; omega) (by omega)
  rw [e6]
  have gp6 : h6.get p = _ := (k6 p (by omega) fun h0 => by have := (w.pq h0).1; omega).trans ((ev5.no (by omega)).trans gp4)
  rw [stF gp6 rfl (by simp)]
  have e7 : (fcs N tv (sl bn 0 N N) (sl bl 0 N N) (sl bs 0 N N) v2 pv t.nx).set 7 (sl (n + 2 + 1) 0 (ivs.length + 1) (U + 1)) = fcs N tv (sl bn 0 N N) (sl bl 0 N N) (sl bs 0 N N) v2 (sl (n + 2 + 1) 0 (ivs.length + 1) (U + 1)) t.nx := rfl
  rw [e7]
  have f7 := f6.set ⟨fcs N tv (sl bn 0 N N) (sl bl 0 N N) (sl bs 0 N N) v2 (sl (n + 2 + 1) 0 (ivs.length + 1) (U + 1)) t.nx, .own⟩ (show p < n + 2 + 1 + 1 by omega)
  have g7 : (h6.set p ⟨fcs N tv (sl bn 0 N N) (sl bl 0 N N) (sl bs 0 N N) v2 (sl (n + 2 + 1) 0 (ivs.length + 1) (U + 1)) t.nx, .own⟩).get p = some ⟨fcs N tv (sl bn 0 N N) (sl bl 0 N N) (sl bs 0 N N) v2 (sl (n + 2 + 1) 0 (ivs.length + 1) (U + 1)) t.nx, .own⟩ := H.get_set_same _ _ _
  have k7 : ∀ c, c ≠ p → (h6.set p ⟨fcs N tv (sl bn 0 N N) (sl bl 0 N N) (sl bs 0 N N) v2 (sl (n + 2 + 1) 0 (ivs.length + 1) (U + 1)) t.nx, .own⟩).get c = h6.get c := fun c hc => H.get_set_ne _ _ hc
  generalize h6.set p ⟨fcs N tv (sl bn 0 N N) (sl bl 0 N N) (sl bs 0 N N) v2 (sl (n + 2 + 1) 0 (ivs.length + 1) (U + 1)) t.nx, .own⟩ = h7 at f7 g7 k7
  have k07 : ∀ c, c < n → c ≠ p → c ≠ bs → (ivs ≠ [] → c ≠ pb) → h7.get c = h.get c := fun c hc hp hb hpb => by rw [k7 c hp, k6 c (by omega) hpb, k05 c hc hp hb]
  have npb : ∀ c, c < q → ivs ≠ [] → c ≠ pb := fun c hc h0 => by have := (w.pq h0).1; omega
  have k17 : h7.get (n + 1) = some ⟨(nats (partOf N part)).map i64, .grow⟩ := by
    rw [k7 _ (by omega), k6 _ (by omega) fun h0 => by have := w.pl.lt f h0; omega, ev5.no (by omega)]; exact g4
  have hpol : (partOf N part).length = part.length := (partOf_perm hpnd hplt).length_eq
  have hpo0 : partOf N part ≠ [] := fun e => hpart0 (List.eq_nil_of_length_eq_zero (by rw [← hpol, e]; rfl))
  refine ⟨_, n + 2 + 1 + 1, h7, rfl, ⟨v2, sb, _, n + 2 + 1, ivs ++ [sl (n + 1) 0 part.length (U + 1)], g7, w.tn.keep (k07 bn (f.lt w.tn) fx.d1.symm fx.d5 (npb bn u2)), w.tl.keep (k07 bl (f.lt w.tl) fx.d2.symm fx.d6 (npb bl u3)), ?_, ?_, fun _ => ⟨hq1, fun xs hx => ?_⟩, v2o, ?_, fun _ => ⟨by omega, fun _ => by omega⟩, ?_⟩, f7, by omega, fun c hc hq => ?_⟩
  · have : TB h7 bs N (fun v => t.on v && !decide (v ∈ part)) := t3.keep (by
      have hbs := f.lt w.tb
      rw [k7 bs fx.d3.symm, k6 bs (by omega) (npb bs u4), ev5.no (by omega), k4 bs (by omega)])
    exact this
  · exact q2'.keep' fun _ => by
      rw [k07 sb hsn (by omega) (by omega) fun h0 => ((w.pq h0).2 svn).symm, k1 sb hsn]
  · rw [k07 sb hsn (by omega) (by omega) fun h0 => ((w.pq h0).2 svn).symm] at hx
    exact hno xs hx
  · refine gl6.keep fun _ => k7 _ (by omega)
  · refine w.pp.push f (fun c c1 c2 c3 c4 => k07 c c2 (by omega) (by omega) fun _ => c3) (.inr ⟨by unfold nats; simpa using hpo0, by rw [List.length_map, nats_len, hpol], k17⟩) hpo0 (by omega) (by omega) (by omega) (by omega) svn
  · exact k07 c hc (by omega) (by have := fx.l4; omega) fun h0 => by have := (w.pq h0).1; omega

/-- A visit. -/
theorem vis_run {F : Nat} {adj : Nat → List Nat} (hF : 1000000 ≤ F) (ok : GOk N adj) (fx : Fx lo q p bn bl bs) (hm : m ≤ lo) : ∀ (kk : Nat) (g : Nat → Prop), RecOK (graph_finder_visit F kk) lo q p bn bl bs N tv adj g m kk
  | 0, g => fun b r n h hb fe gr f hn h0 hg inv hc hx => absurd hc (Nat.not_lt_zero _)
  | kk + 1, g => fun a s n h ha fe gr f hn h0 hg inv hc hx => by
    have hN := ok.few
    have hlt' : ∀ a, a < N → ∀ b, b ∈ adj a → b < N := fun a ha b hb => ok.lt a ha b hb
    have nd : ∀ (g : Nat → Prop) (t : TS), TInv adj N g t → t.st.Nodup ∧ (∀ v, v ∈ t.st → v < N) ∧ t.ps.length ≤ 1000 := fun g t i => by
      refine ⟨i.inc.imp fun {x y} h e => by subst e; omega, fun v hv => i.lt v (i.vis v hv), ?_⟩
      have := parts_len (N := N) i.dis (fun P hP => (i.scc P hP).1) fun P hP v hv => i.lt v ((i.prt v).1 (List.mem_flatten.2 ⟨P, hP, hv⟩)).1
      omega
    have hst := nodupN_len (nd g s inv).1 (nd g s inv).2.1
    have tm := inv.start h0 ha hg
    have e1 : cnt N (vis (tStart a s)) + 1 = cnt N (vis s) := by
      have h := cnt_put (s := vis s) (a := a) (decide_eq_false (by simp [h0])) N
      rw [if_pos ha] at h
      have : vis (tStart a s) = putM (vis s) a := by
        funext m
        unfold vis putM
        by_cases e : m = a
        · subst e
          rw [decide_eq_true (show (tStart m s).num m ≠ 0 by rw [show (tStart m s).num m = s.nx + 1 from upd_same]; omega)]
          simp
        · rw [show (tStart a s).num m = s.num m from upd_ne e, decide_eq_false e, Bool.or_false]
      rw [this]; exact h
    have hnx : (tStart a s).nx = s.nx + 1 := rfl
    show ∃ v n' h', (graph_finder_visit_s F (graph_finder_visit F kk) (pt p 0) (i64 a)).run n h = _ ∧ _
    unfold graph_finder_visit_s
    obtain ⟨n1, h1, r1, fe1, ev1⟩ := vis_begin (F := F) (rc := graph_finder_visit F kk) (K := fun x0 x1 => graph_finder_visit_r4 F (graph_finder_visit F kk) x0 x1 (fun x0 x1 x60 x61 x62 => graph_finder_visit_l3 F (graph_finder_visit F kk) (fun x0 x1 => graph_finder_visit_k2 F (graph_finder_visit F kk) x0 x1) F x0 x1 x60 x61 x62)) fx ha fe f hn (by omega) (by omega)
    rw [r1]
    have le1 := ev1.le
    have l1 := fx.l1
    have u1 := fx.u1
    have gr1 := gr.ev ev1 (by omega) fun c hc => by omega
    unfold graph_finder_visit_r4
    try dsimp only
    obtain ⟨rv, er, hb, fb, kb, hr⟩ := gr1.row (β := Value) (n := n1) ha
    have hr1 : RdI h1 rv (nats (adj a)) := hr.kept fb kb
    obtain ⟨sv, sb, pv, pb, ivs, w⟩ := id fe1
    rw [st_nil, st_field, st_field, show (0 + 0 + 1 : Nat) = 1 from rfl, ld1 w.hp (by decide) rfl, er, hr1.lenN]
    obtain ⟨n2, h2, r2, fe2, tm2, ev2⟩ := vis_l3 (F := F) ok fx hm ha inv h0 hg (vis_run hF ok fx hm kk (more g a)) fb hr (E := fun x0 x1 => graph_finder_visit_k2 F (graph_finder_visit F kk) x0 x1) (adj a).length 0 F n1 h1 (tStart a s) (by omega) (by have := ok.short a ha; omega) fe1 gr1 ev1.f (by omega) tm (by omega) (by omega) kb
    rw [show (Value.int .i64 0) = i64 ((0 : Nat) : Int) from rfl, r2]
    rw [List.drop_zero] at fe2 tm2
    have le2 := ev2.le
    obtain ⟨e, he, _⟩ := tm2.ext
    obtain ⟨d1, d2, d3⟩ := nd _ _ tm2.inv
    obtain ⟨v, n3, h3, r3, fe3, ev3⟩ := vis_end (F := F) (rc := graph_finder_visit F kk) hF fx (by omega) ha fe2 ev2.f (by omega) (by rw [he]; simp) d1 d2 d3
    exact ⟨v, n3, h3, r3, fe3, (ev1.trans ev2 fun _ _ h => h).trans ev3 fun _ _ h => h⟩

end

end Go.Fw
