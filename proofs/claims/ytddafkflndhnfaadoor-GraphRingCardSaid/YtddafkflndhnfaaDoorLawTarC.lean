/-
  graph.Parts, said of the abstract machine: the search, the parts' order, the parts.
-/
import Derived.Test.YtddafkflndhnfaaDoorLawTarB
import Derived.Test.YtddafkflndhnfaaDoorFwTopo
set_option maxRecDepth 20000
set_option linter.unusedVariables false
namespace Go.Fw

/-- The block of a slice. -/
theorem blk_sl {b o l c : Nat} : blkOf (sl b o l c) = b := rfl

/-- Lists of numbers that may be read, in blocks from lo on. -/
def RdP (lo : Nat) (h : H) (v : Value) (L : List (List Nat)) : Prop := ∃ ivs, Rd h v ivs ∧ ivs.length = L.length ∧ (ivs ≠ [] → lo ≤ blkOf v) ∧ ∀ (i : Nat) (u : Value) (P : List Nat), ivs[i]? = some u → L[i]? = some P → RdI h u (nats P) ∧ (P ≠ [] → lo ≤ blkOf u)

theorem Rd.here {h h' : H} {v : Value} {cs : List Value} (x : Rd h v cs) (hk : cs ≠ [] → h'.get (blkOf v) = h.get (blkOf v)) : Rd h' v cs := by
  rcases x with x | ⟨b, o, c, k, rfl, hb⟩
  · exact .inl x
  · refine .inr ⟨b, o, c, k, rfl, fun h0 => ?_⟩
    obtain ⟨xs, h1, h2⟩ := hb h0
    exact ⟨xs, (hk h0).trans h1, h2⟩
theorem Rd.some {h : H} {v : Value} {cs : List Value} (x : Rd h v cs) (h0 : cs ≠ []) : (h.get (blkOf v)).isSome = true := by
  rcases x with ⟨e, _⟩ | ⟨b, o, c, k, rfl, hb⟩
  · exact absurd e h0
  · obtain ⟨xs, h1, _⟩ := hb h0
    show (h.get b).isSome = true
    rw [h1]; rfl
theorem nats_ne {P : List Nat} : (nats P).map i64 ≠ [] ↔ P ≠ [] := by unfold nats; simp

section
variable {n : Nat} {h h' h0 : H} {lo m q p bn bl bs N g : Nat} {tv sv pv : Value} {s s' : TS} {sb pb : Nat} {ivs : List Value} {adj : Nat → List Nat}

theorem RdP.len {v : Value} {L : List (List Nat)} (x : RdP lo h v L) {k : Value → M Value} : bnd (opLen v) k = k (i64 L.length) := by
  obtain ⟨ivs, h1, h2, _⟩ := x
  rw [h1.len, h2]
theorem RdP.rowB {hb : H} {nb : Nat} {v : Value} {L : List (List Nat)} (x : RdP lo hb v L) (fb : Fr nb hb) (hk : ∀ b, b < nb → h.get b = hb.get b) {i : Nat} {P : List Nat} (hP : L[i]? = some P) : ∃ u, (∀ k : Value → M Value, (bnd (opIndexAddr 1 v (i64 i)) fun p => bnd (opLoad p) k).run n h = (k u).run n h) ∧ RdI hb u (nats P) ∧ one u = true ∧ (P ≠ [] → lo ≤ blkOf u) := by
  obtain ⟨ivs, h1, h2, _, h3⟩ := x
  have hi := (List.getElem?_eq_some_iff.1 hP).1
  have hv : ivs[i]? = some (ivs[i]'(by omega)) := List.getElem?_eq_getElem _
  refine ⟨_, fun k => (h1.kept fb hk).get hv, (h3 i _ P hv hP).1, ?_, (h3 i _ P hv hP).2⟩
  rcases (h3 i _ P hv hP).1 with ⟨_, e⟩ | ⟨_, _, _, _, e, _⟩ <;> rw [e] <;> rfl
theorem RdP.row {v : Value} {L : List (List Nat)} (x : RdP lo h v L) {i : Nat} {P : List Nat} (hP : L[i]? = some P) : ∃ u, (∀ k : Value → M Value, (bnd (opIndexAddr 1 v (i64 i)) fun p => bnd (opLoad p) k).run n h = (k u).run n h) ∧ RdI h u (nats P) ∧ one u = true ∧ (P ≠ [] → lo ≤ blkOf u) := by
  obtain ⟨ivs, h1, h2, _, h3⟩ := x
  have hi := (List.getElem?_eq_some_iff.1 hP).1
  have hv : ivs[i]? = some (ivs[i]'(by omega)) := List.getElem?_eq_getElem _
  refine ⟨_, fun k => h1.get hv, (h3 i _ P hv hP).1, ?_, (h3 i _ P hv hP).2⟩
  rcases (h3 i _ P hv hP).1 with ⟨_, e⟩ | ⟨_, _, _, _, e, _⟩ <;> rw [e] <;> rfl
theorem RdP.kept {v : Value} {L : List (List Nat)} (x : RdP lo h v L) (f : Fr m h) (hk : ∀ b, b < m → h'.get b = h.get b) : RdP lo h' v L := by
  obtain ⟨ivs, h1, h2, h4, h3⟩ := x
  exact ⟨ivs, h1.kept f hk, h2, h4, fun i u P hu hP => ⟨(h3 i u P hu hP).1.kept f hk, (h3 i u P hu hP).2⟩⟩
/-- What lies ahead of lo may turn. -/
theorem RdP.from_ {v : Value} {L : List (List Nat)} (x : RdP lo h v L) (f : Fr m h) (hk : ∀ b, lo ≤ b → b < m → h'.get b = h.get b) : RdP lo h' v L := by
  obtain ⟨ivs, h1, h2, h4, h3⟩ := x
  have lt : ∀ {v : Value} {cs : List Value}, Rd h v cs → cs ≠ [] → blkOf v < m := fun {v cs} x h0 => by
    rcases Nat.lt_or_ge (blkOf v) m with q | q
    · exact q
    · have := x.some h0
      rw [f _ q] at this; cases this
  exact ⟨ivs, h1.here fun h0 => hk _ (h4 h0) (lt h1 h0), h2, h4, fun i u P hu hP => ⟨(h3 i u P hu hP).1.here fun h0 => hk _ ((h3 i u P hu hP).2 (nats_ne.1 h0)) (lt (h3 i u P hu hP).1 h0), (h3 i u P hu hP).2⟩⟩
theorem RdP.mono {lo' : Nat} {v : Value} {L : List (List Nat)} (x : RdP lo h v L) (hl : lo' ≤ lo) : RdP lo' h v L := by
  obtain ⟨ivs, h1, h2, h4, h3⟩ := x
  exact ⟨ivs, h1, h2, fun h0 => Nat.le_trans hl (h4 h0), fun i u P hu hP => ⟨(h3 i u P hu hP).1, fun h0 => Nat.le_trans hl ((h3 i u P hu hP).2 h0)⟩⟩

theorem tall_nx (hlt : ∀ a, a < N → ∀ b, b ∈ adj a → b < N) {k : Nat} : ∀ i, i ≤ N → (tall adj N k i).nx + cnt N (vis (tall adj N k i)) ≤ N
  | 0, _ => by
    show 0 + cnt N _ ≤ N
    have := cnt_le N (vis tInit)
    show 0 + cnt N (vis tInit) ≤ N
    omega
  | i + 1, hi => by
    have ih := tall_nx hlt (k := k) i (by omega)
    unfold tall
    split
    · rename_i h0
      exact Nat.le_trans (tvis_nx hlt k i _ (by omega) h0) ih
    · exact ih

/-- All nodes are visited. -/
theorem parts_l17 {F : Nat} (hF : 1000000 ≤ F) (ok : GOk N adj) (fx : Fx lo q p bn bl bs) (hm : m ≤ lo) {E : Value → Value → M Value} : ∀ j i k n (h : H), i + j = N → j < k → FE h q p bn bl bs N tv (tall adj N F i) → Gr h m tv N adj → Fr n h → q ≤ n →
    ∃ n' h', (graph_Parts_l17 F E k (pt g 0) (pt p 0) (i64 N) (i64 i)).run n h = (E (pt g 0) (pt p 0)).run n' h' ∧ FE h' q p bn bl bs N tv (tall adj N F N) ∧ Ev (fun c => lo ≤ c) n h n' h' := by
  have hN := ok.few
  have hlt' : ∀ a, a < N → ∀ b, b ∈ adj a → b < N := fun a ha b hb => ok.lt a ha b hb
  intro j
  induction j with
  | zero =>
    intro i k n h hij hk fe gr f hn
    obtain ⟨k, rfl⟩ : ∃ j, k = j + 1 := ⟨k - 1, by omega⟩
    obtain rfl : i = N := by omega
    rw [graph_Parts_l17_s]
    unfold graph_Parts_b17 graph_Parts_r5
    try dsimp only
    rw [st_lss]
    simp only [onB_ite, run_ite, decide_eq_true_eq]
    rw [if_neg (by omega)]
    exact ⟨n, h, rfl, fe, Ev.refl f⟩
  | succ j ih =>
    intro i k n h hij hk fe gr f hn
    obtain ⟨k, rfl⟩ : ∃ j, k = j + 1 := ⟨k - 1, by omega⟩
    have hi : i < N := by omega
    obtain ⟨sv, sb, pv, pb, ivs, w⟩ := id fe
    have l1 := fx.l1
    have u1 := fx.u1
    rw [graph_Parts_l17_s]
    unfold graph_Parts_b17 graph_Parts_r5
    try dsimp only
    rw [st_lss]
    simp only [onB_ite, run_ite, decide_eq_true_eq]
    rw [if_pos (by omega)]
    unfold graph_Parts_r6 graph_Parts_r7
    try dsimp only
    rw [ldF w.hp rfl, w.tn.get hi, st_eql]
    simp only [onB_ite, run_ite, beq_iff_eq]
    have et : tall adj N F (i + 1) = if (tall adj N F i).num i = 0 then tvis adj N F i (tall adj N F i) else tall adj N F i := rfl
    by_cases h0 : (tall adj N F i).num i = 0
    · rw [if_pos (by omega)]
      rw [if_pos h0] at et
      unfold graph_Parts_r8
      try dsimp only
      have hnx := tall_nx hlt' (k := F) i (by omega)
      obtain ⟨v, n1, h1, e1, fe1, ev1⟩ := vis_run hF ok fx hm F (fun _ => False) i (tall adj N F i) n h hi fe gr f hn h0 (fun _ h => h.elim) (tall_inv hlt' (by omega) i (by omega)).1 (Nat.lt_of_le_of_lt (cnt_le _ _) (by omega)) (by omega)
      rw [run_bnd e1]
      unfold graph_Parts_k18 graph_Parts_r9
      try dsimp only
      rw [sx_add (by omega)]
      have le1 := ev1.le
      rw [← et] at fe1
      obtain ⟨n', h', r1, r2, r3⟩ := ih (i + 1) k n1 h1 (by omega) (by omega) fe1 (gr.ev ev1 (by omega) fun c hc => by omega) ev1.f (by omega)
      exact ⟨n', h', r1, r2, ev1.trans r3 fun _ _ h => h⟩
    · rw [if_neg (by omega)]
      rw [if_neg h0] at et
      unfold graph_Parts_k18 graph_Parts_r9
      try dsimp only
      rw [sx_add (by omega)]
      exact ih (i + 1) k n h (by omega) (by omega) (by rw [et]; exact fe) gr f hn

/-! ## In order -/

theorem keysM_run : ∀ {vs : List Value} {ks : List Int}, vs.length = ks.length → (∀ (i : Nat) (v : Value) (z : Int), vs[i]? = some v → ks[i]? = some z → ∃ b o len c kd xs, v = sl b o len c ∧ len ≠ 0 ∧ h.get b = some ⟨xs, kd⟩ ∧ kd ≠ .dead ∧ xs[o]? = some (i64 z)) →
    (keysM vs).run n h = some (ks.zip vs, n, h)
  | [], ks, hl, _ => by
    have : ks = [] := List.eq_nil_of_length_eq_zero (by rw [← hl]; rfl)
    subst this; rfl
  | v :: vs, [], hl, _ => by simp at hl
  | v :: vs, z :: ks, hl, hk => by
    obtain ⟨b, o, len, c, kd, xs, rfl, h1, h2, h3, h4⟩ := hk 0 v z rfl rfl
    have ih := keysM_run (vs := vs) (ks := ks) (by simpa using hl) fun i u y hu hy => hk (i + 1) u y (by simpa using hu) (by simpa using hy)
    have hrd : (rd b o).run n h = some (i64 z, n, h) := by
      show rdF b o n h = _
      unfold rdF
      rw [h2]
      cases kd <;> first | exact absurd rfl h3 | (dsimp only; rw [h4])
    show (if len = 0 then fail else bnd (rd b o) _).run n h = _
    rw [if_neg h1, run_bnd hrd]
    show (bnd (keysM vs) _).run n h = _
    rw [run_bnd ih]
    rfl


section
variable {n : Nat} {h h' hb : H} {lo m q p bn bl bs N g nb : Nat} {tv sv pv : Value} {s s' : TS} {sb pb : Nat} {ivs : List Value} {adj : Nat → List Nat}

/-- The parts, sorted by their first ones. -/
theorem sort_parts {F : Nat} (w : FS h q p bn bl bs N tv s sv sb pv pb ivs) (f : Fr n h) (hN : N ≤ 600) (hne : s.ps ≠ []) (hd : s.ps.Pairwise fun P P' => ∀ v, v ∈ P → v ∉ P') (hl : ∀ P, P ∈ s.ps → ∀ v, v ∈ P → v < N) :
    ∃ h' Q, (slices_SortFunc F pv (.func (.func 49) #[] #[])).run n h = some (undef, n, h') ∧ Q.Perm s.ps ∧ Q.Pairwise (fun P P' => Go.Fw.hd P ≤ Go.Fw.hd P') ∧ RdP q h' pv Q ∧ Ev (fun c => c = pb) n h n h' := by
  have hil := w.pp.1
  have h0 : ∀ P, P ∈ s.ps → P ≠ [] := fun P hP => by
    obtain ⟨i, hi⟩ := List.mem_iff_getElem?.1 hP
    have hi' := (List.getElem?_eq_some_iff.1 hi).1
    obtain ⟨_, _, h0, _⟩ := w.pp.2 i (ivs[i]'(by omega)) P (List.getElem?_eq_getElem _) hi
    exact h0
  have hivs : ivs ≠ [] := fun e => hne (List.eq_nil_of_length_eq_zero (by rw [← hil, e]; rfl))
  have hpl := parts_len (N := N) hd h0 hl
  have hpb := w.pl.lt f hivs
  rcases w.pl with ⟨e, _⟩ | ⟨_, rfl, hb⟩
  · exact absurd e hivs
  have hl0 : ivs.length ≠ 0 := fun e => hivs (List.eq_nil_of_length_eq_zero e)
  have hks : (keysM ivs).run n h = some ((s.ps.map fun P => ((Go.Fw.hd P : Nat) : Int)).zip ivs, n, h) := by
    refine keysM_run (by rw [List.length_map]; exact hil) fun i v z hv hz => ?_
    rw [List.getElem?_map, Option.map_eq_some_iff] at hz
    obtain ⟨P, hP, rfl⟩ := hz
    obtain ⟨b, gb, hP0, _⟩ := w.pp.2 i v P hv hP
    rcases gb with ⟨e, _⟩ | ⟨_, rfl, hb⟩
    · exact absurd (by unfold nats at e; simpa using e) hP0
    · refine ⟨b, 0, _, _, .grow, _, rfl, ?_, hb, by decide, ?_⟩
      · rw [List.length_map, nats_len]; exact fun e => hP0 (List.eq_nil_of_length_eq_zero e)
      · match P, hP0 with
        | a :: r, _ => rfl
  have ezip : (s.ps.map fun P => ((Go.Fw.hd P : Nat) : Int)).zip ivs = (s.ps.zip ivs).map fun z => (((Go.Fw.hd z.1 : Nat) : Int), z.2) := by
    rw [List.zip_map_left]; rfl
  have hzz : ∀ z, z ∈ s.ps.zip ivs → ∃ i, s.ps[i]? = some z.1 ∧ ivs[i]? = some z.2 := fun z hz => by
    obtain ⟨i, hi⟩ := List.mem_iff_getElem?.1 hz
    rw [List.getElem?_zip_eq_some] at hi
    exact ⟨i, hi.1, hi.2⟩
  have hok : keysOK pb ((s.ps.map fun P => ((Go.Fw.hd P : Nat) : Int)).zip ivs) = true := by
    unfold keysOK
    rw [Bool.and_eq_true, List.all_eq_true, decide_eq_true_eq]
    constructor
    · intro x hx
      rw [ezip, List.mem_map] at hx
      obtain ⟨z, hz, rfl⟩ := hx
      obtain ⟨i, h1, h2⟩ := hzz z hz
      obtain ⟨b, gb, hP0, _, hnb, _⟩ := w.pp.2 i z.2 z.1 h2 h1
      have hlt := hl z.1 (List.mem_of_getElem? h1) _ (hd_mem hP0)
      refine decide_eq_true ⟨by omega, by omega, ?_⟩
      rcases gb with ⟨e, _⟩ | ⟨_, e, _⟩
      · exact absurd (by unfold nats at e; simpa using e) hP0
      · rw [e]; exact hnb
    · rw [List.map_fst_zip (by rw [List.length_map]; omega), List.pairwise_map]
      refine List.Pairwise.imp_of_mem (fun {P P'} hP hP' hq e => ?_) hd
      have e : Go.Fw.hd P = Go.Fw.hd P' := by omega
      exact hq _ (hd_mem (h0 P hP)) (by rw [e]; exact hd_mem (h0 P' hP'))
  have hsp := sortBy_perm (fun z : List Nat × Value => ((Go.Fw.hd z.1 : Nat) : Int)) (s.ps.zip ivs)
  have hspw := sortBy_pw (fun z : List Nat × Value => ((Go.Fw.hd z.1 : Nat) : Int)) (s.ps.zip ivs)
  have esort : (sortBy (fun x : Int × Value => x.1) ((s.ps.map fun P => ((Go.Fw.hd P : Nat) : Int)).zip ivs)).map (fun x => x.2) = (sortBy (fun z : List Nat × Value => ((Go.Fw.hd z.1 : Nat) : Int)) (s.ps.zip ivs)).map Prod.snd := by
    rw [ezip, sortBy_map, List.map_map]
    rfl
  generalize hzs : sortBy (fun z : List Nat × Value => ((Go.Fw.hd z.1 : Nat) : Int)) (s.ps.zip ivs) = zs at hsp hspw esort
  have hzl : zs.length = ivs.length := by rw [hsp.length_eq, List.length_zip]; omega
  have hsl : (zs.map Prod.snd).length = ivs.length := by rw [List.length_map, hzl]
  have ho : ∀ z, z ∈ zs → one z.2 = true := fun z hz => by
    obtain ⟨i, h1, h2⟩ := hzz z (hsp.mem_iff.1 hz)
    obtain ⟨b, gb, _⟩ := w.pp.2 i z.2 z.1 h2 h1
    exact gb.one_v
  have hw : (wrN pb 0 (zs.map Prod.snd)).run n h = some ((), n, h.set pb ⟨over ivs 0 (zs.map Prod.snd), .grow⟩) := by
    show wrNF pb 0 _ n h = _
    unfold wrNF
    rw [if_pos (by rw [List.all_map, List.all_eq_true]; exact ho), hb]
    dsimp only
    rw [if_pos (by rw [Nat.zero_add, hsl]; exact Nat.le_refl _)]
  have eo : over ivs 0 (zs.map Prod.snd) = zs.map Prod.snd := by
    unfold over
    rw [List.take_zero, List.nil_append, Nat.zero_add, hsl, List.drop_of_length_le (Nat.le_refl _), List.append_nil]
  rw [eo] at hw
  refine ⟨h.set pb ⟨zs.map Prod.snd, .grow⟩, zs.map Prod.fst, ?_, ?_, ?_, ⟨zs.map Prod.snd, .inr ⟨pb, 0, U + 1, .grow, by rw [hsl], fun _ => ⟨_, H.get_set_same _ _ _, by decide, fun i _ => by rw [Nat.zero_add]⟩⟩, by rw [List.length_map, List.length_map], fun _ => (w.pq hivs).1, fun i u P hu hP => ?_⟩, f.set _ hpb, Nat.le_refl _, fun c _ hc => H.get_set_ne _ _ hc⟩
  · show (sortByM 49 (sl pb 0 ivs.length (U + 1)) (.func (.func 49) #[] #[])).run n h = _
    unfold sortByM
    dsimp only
    have hc : ¬ (ivs.length = 0 ∨ 1000000 < ivs.length ∨ (49 : FuncId) ≠ 49 ∨ (#[] : Array Value).size ≠ 0 ∨ (#[] : Array Value).size ≠ 0) := by
      rintro (h | h | h | h | h)
      · exact hl0 h
      · omega
      · exact h rfl
      · exact h rfl
      · exact h rfl
    rw [if_neg hc, run_rdN, hb, ldN_some (by decide) (by simp)]
    have e : (ivs.drop 0).take ivs.length = ivs := by rw [List.drop_zero, List.take_length]
    rw [e, run_bnd hks, if_pos hok, esort, run_bnd hw]
    rfl
  · have := hsp.map Prod.fst
    rw [List.map_fst_zip (by omega)] at this
    exact this
  · rw [List.pairwise_map]
    exact hspw.imp fun {a b} h => by omega
  · rw [List.getElem?_map, Option.map_eq_some_iff] at hu hP
    obtain ⟨z, hz, rfl⟩ := hu
    obtain ⟨z', hz', rfl⟩ := hP
    rw [hz] at hz'
    simp only [Option.some.injEq] at hz'
    subst hz'
    obtain ⟨j, h1, h2⟩ := hzz z (hsp.mem_iff.1 (List.mem_of_getElem? hz))
    obtain ⟨b, gb, hP0, hqb, hnb, _⟩ := w.pp.2 j z.2 z.1 h2 h1
    refine ⟨Gl.rd (gb.keep fun _ => H.get_set_ne _ _ hnb), fun h0 => ?_⟩
    rcases gb with ⟨e, _⟩ | ⟨_, e, _⟩
    · exact absurd e (nats_ne.2 h0)
    · rw [e]; exact hqb

/-! ## Which part each node is of -/

def ofF (Q : List (List Nat)) : Nat → Nat → Nat
  | 0, _ => 0
  | k + 1, a => if a ∈ (Q[k]?).getD [] then k else ofF Q k a

theorem QOk.disj {Q : List (List Nat)} (qo : QOk adj N Q) {j k : Nat} {P P' : List Nat} (h1 : Q[j]? = some P) (h2 : Q[k]? = some P') {a : Nat} (ha : a ∈ P) (hb : a ∈ P') : j = k := by
  have e1 := (qo.scc P (List.mem_of_getElem? h1)).2 a ha
  have e2 := (qo.scc P' (List.mem_of_getElem? h2)).2 a hb
  have e : P = P' := e1.trans e2.symm
  subst e
  obtain ⟨hj, e1⟩ := List.getElem?_eq_some_iff.1 h1
  obtain ⟨hk, e2⟩ := List.getElem?_eq_some_iff.1 h2
  rcases Nat.lt_trichotomy j k with h | h | h
  · have := List.pairwise_iff_getElem.1 qo.inc j k hj hk h
    rw [e1, e2] at this; omega
  · exact h
  · have := List.pairwise_iff_getElem.1 qo.inc k j hk hj h
    rw [e1, e2] at this; omega

theorem ofF_at {Q : List (List Nat)} (qo : QOk adj N Q) : ∀ (M k : Nat) (P : List Nat), k < M → Q[k]? = some P → ∀ a, a ∈ P → ofF Q M a = k
  | 0, k, P, hk, _, _, _ => by omega
  | M + 1, k, P, hk, hP, a, ha => by
    unfold ofF
    by_cases e : a ∈ (Q[M]?).getD []
    · rw [if_pos e]
      cases hQ : Q[M]? with
      | none => rw [hQ] at e; cases e
      | some P' =>
        rw [hQ] at e
        exact qo.disj hQ hP e ha
    · rw [if_neg e]
      refine ofF_at qo M k P ?_ hP a ha
      rcases Nat.lt_or_eq_of_le (Nat.le_of_lt_succ hk) with h | h
      · exact h
      · subst h; rw [hP] at e; exact absurd ha e

theorem parts_l15 {F ob kk : Nat} {x1 x3 x64 x65 x66 : Value} {rv : Value} {P : List Nat} (fb : Fr nb hb) (hr : RdI hb rv (nats P)) (hP : ∀ a, a ∈ P → a < N) (hs : P.length ≤ 1000000) (hob : nb ≤ ob) {E : Value → Value → Value → Value → Value → Value → M Value} : ∀ j i k n (h : H) (u : Nat → Nat), i + j = P.length → j < k →
    (∀ c, c < nb → h.get c = hb.get c) → TI h ob N (fun a => (u a : Int)) → Fr n h →
    ∃ h', (graph_Parts_l15 F E k x1 x3 (sl ob 0 N N) (i64 kk) x64 x65 x66 rv (i64 P.length) (i64 i)).run n h = (E x1 x3 (sl ob 0 N N) x64 x65 x66).run n h' ∧ TI h' ob N (fun a => ((if a ∈ P.drop i then kk else u a : Nat) : Int)) ∧ Ev (fun c => c = ob) n h n h' := by
  intro j
  induction j with
  | zero =>
    intro i k n h u hij hk hk0 tu f
    obtain ⟨k, rfl⟩ : ∃ j, k = j + 1 := ⟨k - 1, by omega⟩
    rw [graph_Parts_l15_s]
    unfold graph_Parts_b15 graph_Parts_r16
    try dsimp only
    rw [st_lss]
    simp only [onB_ite, run_ite, decide_eq_true_eq]
    rw [if_neg (by omega)]
    refine ⟨h, rfl, ?_, Ev.refl f⟩
    have e : (fun a => ((if a ∈ P.drop i then kk else u a : Nat) : Int)) = fun a => (u a : Int) := by
      funext a; rw [List.drop_of_length_le (by omega), if_neg (by simp)]
    rw [e]; exact tu
  | succ j ih =>
    intro i k n h u hij hk hk0 tu f
    obtain ⟨k, rfl⟩ : ∃ j, k = j + 1 := ⟨k - 1, by omega⟩
    have hi : i < P.length := by omega
    rw [graph_Parts_l15_s]
    unfold graph_Parts_b15 graph_Parts_r16
    try dsimp only
    rw [st_lss]
    simp only [onB_ite, run_ite, decide_eq_true_eq]
    rw [if_pos (by omega)]
    unfold graph_Parts_r17
    try dsimp only
    rw [RdI.getN (hr.kept fb hk0) hi]
    unfold graph_Parts_r18
    try dsimp only
    obtain ⟨h1, e1, t1, ev1⟩ := TI.set (β := Value) tu f (hP _ (List.getElem_mem hi)) (z := (kk : Int))
    rw [e1]
    unfold graph_Parts_r19
    try dsimp only
    rw [sx_add (by omega)]
    have e2 : upd (fun a => ((u a : Nat) : Int)) P[i] (kk : Int) = fun a => ((upd u P[i] kk a : Nat) : Int) := by
      funext a; unfold upd; split <;> rfl
    rw [e2] at t1
    obtain ⟨h', r1, r2, r3⟩ := ih (i + 1) k n h1 (upd u P[i] kk) (by omega) (by omega) (fun c hc => by rw [ev1.keep c (by have := Fr.lt f tu; omega) (by omega)]; exact hk0 c hc) t1 ev1.f
    refine ⟨h', r1, ?_, ev1.trans r3 fun _ _ h => h⟩
    have e : (fun a => ((if a ∈ P.drop (i + 1) then kk else upd u P[i] kk a : Nat) : Int)) = fun a => ((if a ∈ P.drop i then kk else u a : Nat) : Int) := by
      funext a
      rw [List.drop_eq_getElem_cons hi]
      unfold upd
      by_cases h1 : a ∈ P.drop (i + 1)
      · rw [if_pos h1, if_pos (List.mem_cons_of_mem _ h1)]
      · rw [if_neg h1]
        by_cases h2 : a = P[i]
        · rw [if_pos h2, if_pos (by rw [h2]; exact List.mem_cons_self)]
        · rw [if_neg h2, if_neg fun q => (List.mem_cons.1 q).elim h2 h1]
    rw [e] at r2
    exact r2


theorem TI.ltn {b : Nat} {u : Nat → Int} (t : TI h b N u) (f : Fr n h) : b < n := f.lt t

theorem parts_l13 {F ob MM : Nat} {x1 x3 : Value} {Q : List (List Nat)} (hF : 1000000 ≤ F) (fb : Fr nb hb) (rq : RdP lo hb pv Q) (hQ : Q.length = MM) (hM : MM ≤ 1000) (hlt : ∀ P, P ∈ Q → (∀ a, a ∈ P → a < N) ∧ P.length ≤ 1000) (hob : nb ≤ ob) {E : Value → Value → Value → M Value} : ∀ j i k n (h : H), i + j = MM → j < k →
    (∀ c, c < nb → h.get c = hb.get c) → TI h ob N (fun a => (ofF Q i a : Int)) → Fr n h →
    ∃ h', (graph_Parts_l13 F E k x1 x3 (sl ob 0 N N) pv (i64 MM) (i64 i)).run n h = (E x1 x3 (sl ob 0 N N)).run n h' ∧ TI h' ob N (fun a => (ofF Q MM a : Int)) ∧ Ev (fun c => c = ob) n h n h' := by
  intro j
  induction j with
  | zero =>
    intro i k n h hij hk hk0 tu f
    obtain ⟨k, rfl⟩ : ∃ j, k = j + 1 := ⟨k - 1, by omega⟩
    obtain rfl : i = MM := by omega
    rw [graph_Parts_l13_s]
    unfold graph_Parts_b13 graph_Parts_r13
    try dsimp only
    rw [st_lss]
    simp only [onB_ite, run_ite, decide_eq_true_eq]
    rw [if_neg (by omega)]
    exact ⟨h, rfl, tu, Ev.refl f⟩
  | succ j ih =>
    intro i k n h hij hk hk0 tu f
    obtain ⟨k, rfl⟩ : ∃ j, k = j + 1 := ⟨k - 1, by omega⟩
    have hi : i < Q.length := by omega
    have hPi := List.getElem?_eq_getElem hi
    have hPQ : Q[i] ∈ Q := List.getElem_mem hi
    have hon := tu.ltn f
    rw [graph_Parts_l13_s]
    unfold graph_Parts_b13 graph_Parts_r13
    try dsimp only
    rw [st_lss]
    simp only [onB_ite, run_ite, decide_eq_true_eq]
    rw [if_pos (by omega)]
    obtain ⟨rv, er, hr, _, _⟩ := rq.rowB (n := n) fb hk0 hPi
    unfold graph_Parts_r14
    try dsimp only
    rw [er]
    unfold graph_Parts_r15
    try dsimp only
    rw [RdI.lenN (hr.kept fb hk0)]
    obtain ⟨h1, r1, t1, ev1⟩ := parts_l15 (F := F) (kk := i) (x1 := x1) (x3 := x3) (x64 := pv) (x65 := i64 MM) (x66 := i64 i) fb hr (hlt _ hPQ).1 (by have := (hlt _ hPQ).2; omega) hob (E := fun x1 x3 x5 x64 x65 x66 => graph_Parts_k14 F (graph_Parts_l13 F E k) x1 x3 x5 x64 x65 x66) Q[i].length 0 F n h (ofF Q i) (by omega) (by have := (hlt _ hPQ).2; omega) hk0 tu f
    rw [show (Value.int .i64 0) = i64 ((0 : Nat) : Int) from rfl, r1]
    unfold graph_Parts_k14 graph_Parts_r20
    try dsimp only
    rw [sx_add (by omega)]
    have e : (fun a => ((if a ∈ Q[i].drop 0 then i else ofF Q i a : Nat) : Int)) = fun a => (ofF Q (i + 1) a : Int) := by
      funext a
      rw [List.drop_zero]
      show _ = ((if a ∈ (Q[i]?).getD [] then i else ofF Q i a : Nat) : Int)
      rw [hPi]
      simp only [Option.getD_some]
    rw [e] at t1
    obtain ⟨h', r2, r3, r4⟩ := ih (i + 1) k n h1 (by omega) (by omega) (fun c hc => by rw [ev1.keep c (by omega) (by omega)]; exact hk0 c hc) t1 ev1.f
    exact ⟨h', r2, r3, ev1.trans r4 fun _ _ h => h⟩

/-! ## How many edges lead into each part -/

/-- Some keys more. -/
theorem TI.bump {MM ab k : Nat} {ah : Nat → Int} (t : TI h ab MM ah) (f : Fr n h) (hk : k < MM) (z : Int) :
    ∃ h', (∀ K : Value → M Value, (bnd (opIndexAddr 1 (sl ab 0 MM MM) (i64 k)) fun p => bnd (opStore p (i64 (ah k + z))) K).run n h = (K undef).run n h') ∧ TI h' ab MM (fun j => ah j + z * ([k].count j : Nat)) ∧ Ev (fun c => c = ab) n h n h' := by
  obtain ⟨h1, e1, t1, ev1⟩ := TI.set (β := Value) t f hk (z := ah k + z)
  refine ⟨h1, e1, ?_, ev1⟩
  have e : upd ah k (ah k + z) = fun j => ah j + z * ([k].count j : Nat) := by
    funext j
    unfold upd
    by_cases hj : j = k
    · subst hj; rw [if_pos rfl]; simp
    · rw [if_neg hj, count_zero_of (by simpa using hj)]; simp
  rw [e] at t1
  exact t1

theorem parts_l10 {F ob ab MM a : Nat} {x1 x3 x90 x91 x92 : Value} {rv : Value} {u : Nat → Nat} {L : List Nat} (fb : Fr nb hb) (hr : RdI hb rv (nats L)) (hL : ∀ b, b ∈ L → b < N) (hs : L.length ≤ 1000) (ha : a < N) (hu : ∀ b, b < N → u b < MM) (hM : MM ≤ 1000) (hob : nb ≤ ob) (hab : nb ≤ ab) (hne : ob ≠ ab) {E : Value → Value → Value → Value → Value → Value → Value → M Value} : ∀ j i k n (h : H) (ah : Nat → Int), i + j = L.length → j < k →
    (∀ c, c < nb → h.get c = hb.get c) → TI h ob N (fun a => (u a : Int)) → TI h ab MM ah → (∀ j, 0 ≤ ah j ∧ ah j ≤ 1000000000 + i) → Fr n h →
    ∃ h', (graph_Parts_l10 F E k x1 x3 (sl ob 0 N N) (sl ab 0 MM MM) (i64 a) x90 x91 x92 rv (i64 L.length) (i64 i)).run n h = (E x1 x3 (sl ob 0 N N) (sl ab 0 MM MM) x90 x91 x92).run n h' ∧
      TI h' ab MM (fun j => ah j + (((((L.drop i).map u).filter fun k => decide (k ≠ u a)).count j : Nat) : Int)) ∧ Ev (fun c => c = ab) n h n h' := by
  intro j
  induction j with
  | zero =>
    intro i k n h ah hij hk hk0 tu ta hah f
    obtain ⟨k, rfl⟩ : ∃ j, k = j + 1 := ⟨k - 1, by omega⟩
    rw [graph_Parts_l10_s]
    unfold graph_Parts_b10 graph_Parts_r26
    try dsimp only
    rw [st_lss]
    simp only [onB_ite, run_ite, decide_eq_true_eq]
    rw [if_neg (by omega)]
    refine ⟨h, rfl, ?_, Ev.refl f⟩
    have e : (fun j => ah j + (((((L.drop i).map u).filter fun k => decide (k ≠ u a)).count j : Nat) : Int)) = ah := by
      funext j; rw [List.drop_of_length_le (by omega)]; simp
    rw [e]; exact ta
  | succ j ih =>
    intro i k n h ah hij hk hk0 tu ta hah f
    obtain ⟨k, rfl⟩ : ∃ j, k = j + 1 := ⟨k - 1, by omega⟩
    have hi : i < L.length := by omega
    have hbN := hL L[i] (List.getElem_mem hi)
    have hobn := tu.ltn f
    have habn := TI.ltn ta f
    have edrop : L.drop i = L[i] :: L.drop (i + 1) := List.drop_eq_getElem_cons hi
    rw [graph_Parts_l10_s]
    unfold graph_Parts_b10 graph_Parts_r26
    try dsimp only
    rw [st_lss]
    simp only [onB_ite, run_ite, decide_eq_true_eq]
    rw [if_pos (by omega)]
    unfold graph_Parts_r27
    try dsimp only
    rw [RdI.getN (hr.kept fb hk0) hi]
    unfold graph_Parts_r28
    try dsimp only
    rw [tu.get ha, tu.get hbN, st_neq]
    simp only [onB_ite, run_ite, bne_iff_ne]
    rw [edrop, List.map_cons]
    by_cases hu' : u a = u L[i]
    · rw [if_neg (by omega)]
      unfold graph_Parts_k11 graph_Parts_r30
      try dsimp only
      rw [sx_add (by omega)]
      have e : (u L[i] :: (L.drop (i + 1)).map u).filter (fun k => decide (k ≠ u a)) = ((L.drop (i + 1)).map u).filter fun k => decide (k ≠ u a) := by
        rw [List.filter_cons_of_neg (by rw [hu']; simp)]
      rw [e]
      exact ih (i + 1) k n h ah (by omega) (by omega) hk0 tu ta (fun j => by have := hah j; omega) f
    · rw [if_pos (by omega)]
      unfold graph_Parts_r29
      try dsimp only
      have hb1 := hah (u L[i])
      obtain ⟨h1, e1, t1, ev1⟩ := TI.bump ta f (hu _ hbN) 1
      rw [tu.get hbN, TI.get ta (hu _ hbN), show (Value.int .i64 1) = i64 1 from rfl, sx_add (by omega), e1]
      unfold graph_Parts_k11 graph_Parts_r30
      try dsimp only
      rw [sx_add (by omega)]
      have e : (u L[i] :: (L.drop (i + 1)).map u).filter (fun k => decide (k ≠ u a)) = u L[i] :: ((L.drop (i + 1)).map u).filter fun k => decide (k ≠ u a) := by
        rw [List.filter_cons_of_pos (by simpa using fun q => hu' q.symm)]
      rw [e]
      obtain ⟨h', r1, r2, r3⟩ := ih (i + 1) k n h1 _ (by omega) (by omega) (fun c hc => by rw [ev1.keep c (by omega) (by omega)]; exact hk0 c hc) (tu.keep (ev1.keep ob hobn hne)) t1 (fun j => by
        have := hah j
        have h2 : ([u L[i]].count j : Nat) ≤ 1 := List.count_le_length
        constructor <;> omega) ev1.f
      refine ⟨h', r1, ?_, ev1.trans r3 fun _ _ h => h⟩
      have e2 : (fun j => ah j + 1 * (([u L[i]].count j : Nat) : Int) + (((((L.drop (i + 1)).map u).filter fun k => decide (k ≠ u a)).count j : Nat) : Int)) = fun j => ah j + (((u L[i] :: ((L.drop (i + 1)).map u).filter fun k => decide (k ≠ u a)).count j : Nat) : Int) := by
        funext j
        rw [show u L[i] :: ((L.drop (i + 1)).map u).filter (fun k => decide (k ≠ u a)) = [u L[i]] ++ ((L.drop (i + 1)).map u).filter (fun k => decide (k ≠ u a)) from rfl, List.count_append]
        omega
      rw [e2] at r2
      exact r2

theorem parts_l8 {F ob ab MM : Nat} {x1 x3 : Value} {u : Nat → Nat} (hF : 1000000 ≤ F) (ok : GOk N adj) (fb : Fr nb hb) (hu : ∀ b, b < N → u b < MM) (hM : MM ≤ 1000) (hm : m ≤ nb) (hob : nb ≤ ob) (hab : nb ≤ ab) (hne : ob ≠ ab) {E : Value → Value → Value → Value → M Value} : ∀ j i k n (h : H), i + j = N → j < k →
    (∀ c, c < nb → h.get c = hb.get c) → Gr h m tv N adj → TI h ob N (fun a => (u a : Int)) → TI h ab MM (fun j => (((List.range i).flatMap (outK adj u)).count j : Nat)) → Fr n h → nb ≤ n →
    ∃ h', (graph_Parts_l8 F E k x1 x3 (sl ob 0 N N) (sl ab 0 MM MM) tv (i64 N) (i64 i)).run n h = (E x1 x3 (sl ob 0 N N) (sl ab 0 MM MM)).run n h' ∧
      TI h' ab MM (fun j => (((List.range N).flatMap (outK adj u)).count j : Nat)) ∧ Ev (fun c => c = ab) n h n h' := by
  have hN := ok.few
  intro j
  induction j with
  | zero =>
    intro i k n h hij hk hk0 gr tu ta f hn
    obtain ⟨k, rfl⟩ : ∃ j, k = j + 1 := ⟨k - 1, by omega⟩
    obtain rfl : i = N := by omega
    rw [graph_Parts_l8_s]
    unfold graph_Parts_b8 graph_Parts_r23
    try dsimp only
    rw [st_lss]
    simp only [onB_ite, run_ite, decide_eq_true_eq]
    rw [if_neg (by omega)]
    exact ⟨h, rfl, ta, Ev.refl f⟩
  | succ j ih =>
    intro i k n h hij hk hk0 gr tu ta f hn
    obtain ⟨k, rfl⟩ : ∃ j, k = j + 1 := ⟨k - 1, by omega⟩
    have hi : i < N := by omega
    have hobn := tu.ltn f
    have habn := TI.ltn ta f
    have hsi := ok.short i hi
    rw [graph_Parts_l8_s]
    unfold graph_Parts_b8 graph_Parts_r23
    try dsimp only
    rw [st_lss]
    simp only [onB_ite, run_ite, decide_eq_true_eq]
    rw [if_pos (by omega)]
    obtain ⟨rv, er, hg, fg, kg, hr⟩ := gr.row (β := Value) (n := n) hi
    unfold graph_Parts_r24
    try dsimp only
    rw [er]
    unfold graph_Parts_r25
    try dsimp only
    rw [RdI.lenN (hr.kept fg kg)]
    have hcl : ∀ j, ((((List.range i).flatMap (outK adj u)).count j : Nat) : Int) ≤ 1000 * i := fun j => by
      have h1 : ((List.range i).flatMap (outK adj u)).length ≤ 1000 * i := by
        have : ∀ l : List Nat, (∀ a, a ∈ l → a < N) → (l.flatMap (outK adj u)).length ≤ 1000 * l.length := by
          intro l
          induction l with
          | nil => intro _; simp
          | cons a l ih2 =>
            intro hl
            have h2 := ih2 fun b hb => hl b (List.mem_cons_of_mem _ hb)
            have h3 : (outK adj u a).length ≤ 1000 := by
              unfold outK
              have := List.length_filter_le (fun k => decide (k ≠ u a)) ((adj a).map u)
              rw [List.length_map] at this
              have := ok.short a (hl a List.mem_cons_self)
              omega
            rw [List.flatMap_cons, List.length_append, List.length_cons]
            omega
        have := this (List.range i) fun a ha => by rw [List.mem_range] at ha; omega
        rwa [List.length_range] at this
      have := List.count_le_length (a := j) (l := (List.range i).flatMap (outK adj u))
      omega
    obtain ⟨h1, r1, t1, ev1⟩ := parts_l10 (F := F) (a := i) (x1 := x1) (x3 := x3) (x90 := tv) (x91 := i64 N) (x92 := i64 i) (ob := ob) (ab := ab) (MM := MM) fg hr (fun b hb => ok.lt i hi b hb) hsi hi hu hM (by omega) (by omega) hne (E := fun x1 x3 x5 x10 x90 x91 x92 => graph_Parts_k9 F (graph_Parts_l8 F E k) x1 x3 x5 x10 x90 x91 x92) (adj i).length 0 F n h _ (by omega) (by omega) kg tu ta (fun j => by have := hcl j; constructor <;> omega) f
    rw [show (Value.int .i64 0) = i64 ((0 : Nat) : Int) from rfl, r1]
    unfold graph_Parts_k9 graph_Parts_r31
    try dsimp only
    rw [sx_add (by omega)]
    have e : (fun j => ((((List.range i).flatMap (outK adj u)).count j : Nat) : Int) + ((((((adj i).drop 0).map u).filter fun k => decide (k ≠ u i)).count j : Nat) : Int)) = fun j => ((((List.range (i + 1)).flatMap (outK adj u)).count j : Nat) : Int) := by
      funext j
      rw [List.range_succ, List.flatMap_append, List.count_append, List.drop_zero, List.flatMap_singleton]
      unfold outK
      omega
    rw [e] at t1
    obtain ⟨h', r2, r3, r4⟩ := ih (i + 1) k n h1 (by omega) (by omega) (fun c hc => by rw [ev1.keep c (by omega) (by omega)]; exact hk0 c hc) (gr.ev (P := fun c => c = ab) ev1 (by omega) fun c hc => by omega) (tu.keep (ev1.keep ob hobn hne)) t1 ev1.f hn
    exact ⟨h', r2, r3, ev1.trans r4 fun _ _ h => h⟩

/-! ## One part after the other -/

theorem parts_l5 {F ob ab MM kk : Nat} {x1 x3 x15 x127 x128 x151 x152 x153 : Value} {rv : Value} {u : Nat → Nat} {L : List Nat} (fb : Fr nb hb) (hr : RdI hb rv (nats L)) (hL : ∀ b, b ∈ L → b < N) (hs : L.length ≤ 1000) (hu : ∀ b, b < N → u b < MM) (hM : MM ≤ 1000) (hob : nb ≤ ob) (hab : nb ≤ ab) (hne : ob ≠ ab) {E : Value → Value → Value → Value → Value → Value → Value → Value → Value → Value → Value → M Value} : ∀ j i k n (h : H) (ah : Nat → Int), i + j = L.length → j < k →
    (∀ c, c < nb → h.get c = hb.get c) → TI h ob N (fun a => (u a : Int)) → TI h ab MM ah → (∀ j, ah j ≤ 1000000000 ∧ -1000000000 - i ≤ ah j) → Fr n h →
    ∃ h', (graph_Parts_l5 F E k x1 x3 (sl ob 0 N N) (sl ab 0 MM MM) x15 (i64 kk) x127 x128 x151 x152 x153 rv (i64 L.length) (i64 i)).run n h = (E x1 x3 (sl ob 0 N N) (sl ab 0 MM MM) x15 (i64 kk) x127 x128 x151 x152 x153).run n h' ∧
      TI h' ab MM (fun j => ah j - (((((L.drop i).map u).filter fun k => decide (k ≠ kk)).count j : Nat) : Int)) ∧ Ev (fun c => c = ab) n h n h' := by
  intro j
  induction j with
  | zero =>
    intro i k n h ah hij hk hk0 tu ta hah f
    obtain ⟨k, rfl⟩ : ∃ j, k = j + 1 := ⟨k - 1, by omega⟩
    rw [graph_Parts_l5_s]
    unfold graph_Parts_b5 graph_Parts_r42
    try dsimp only
    rw [st_lss]
    simp only [onB_ite, run_ite, decide_eq_true_eq]
    rw [if_neg (by omega)]
    refine ⟨h, rfl, ?_, Ev.refl f⟩
    have e : (fun j => ah j - (((((L.drop i).map u).filter fun k => decide (k ≠ kk)).count j : Nat) : Int)) = ah := by
      funext j; rw [List.drop_of_length_le (by omega)]; simp
    rw [e]; exact ta
  | succ j ih =>
    intro i k n h ah hij hk hk0 tu ta hah f
    obtain ⟨k, rfl⟩ : ∃ j, k = j + 1 := ⟨k - 1, by omega⟩
    have hi : i < L.length := by omega
    have hbN := hL L[i] (List.getElem_mem hi)
    have hobn := tu.ltn f
    have habn := TI.ltn ta f
    have edrop : L.drop i = L[i] :: L.drop (i + 1) := List.drop_eq_getElem_cons hi
    rw [graph_Parts_l5_s]
    unfold graph_Parts_b5 graph_Parts_r42
    try dsimp only
    rw [st_lss]
    simp only [onB_ite, run_ite, decide_eq_true_eq]
    rw [if_pos (by omega)]
    unfold graph_Parts_r43
    try dsimp only
    rw [RdI.getN (hr.kept fb hk0) hi]
    unfold graph_Parts_r44
    try dsimp only
    rw [tu.get hbN, st_neq]
    simp only [onB_ite, run_ite, bne_iff_ne]
    rw [edrop, List.map_cons]
    by_cases hu' : u L[i] = kk
    · rw [if_neg (by omega)]
      unfold graph_Parts_k6 graph_Parts_r46
      try dsimp only
      rw [sx_add (by omega)]
      have e : (u L[i] :: (L.drop (i + 1)).map u).filter (fun k => decide (k ≠ kk)) = ((L.drop (i + 1)).map u).filter fun k => decide (k ≠ kk) := by
        rw [List.filter_cons_of_neg (by rw [hu']; simp)]
      rw [e]
      exact ih (i + 1) k n h ah (by omega) (by omega) hk0 tu ta (fun j => by have := hah j; omega) f
    · rw [if_pos (by omega)]
      unfold graph_Parts_r45
      try dsimp only
      have hb1 := hah (u L[i])
      obtain ⟨h1, e1, t1, ev1⟩ := TI.bump ta f (hu _ hbN) (-1)
      rw [tu.get hbN, TI.get ta (hu _ hbN), show (Value.int .i64 1) = i64 1 from rfl, sx_sub (by omega), show ah (u L[i]) - 1 = ah (u L[i]) + -1 by omega, e1]
      unfold graph_Parts_k6 graph_Parts_r46
      try dsimp only
      rw [sx_add (by omega)]
      have e : (u L[i] :: (L.drop (i + 1)).map u).filter (fun k => decide (k ≠ kk)) = u L[i] :: ((L.drop (i + 1)).map u).filter fun k => decide (k ≠ kk) := by
        rw [List.filter_cons_of_pos (by simpa using hu')]
      rw [e]
      obtain ⟨h', r1, r2, r3⟩ := ih (i + 1) k n h1 _ (by omega) (by omega) (fun c hc => by rw [ev1.keep c (by omega) (by omega)]; exact hk0 c hc) (tu.keep (ev1.keep ob hobn hne)) t1 (fun j => by
        have := hah j
        have h2 : ([u L[i]].count j : Nat) ≤ 1 := List.count_le_length
        constructor <;> omega) ev1.f
      refine ⟨h', r1, ?_, ev1.trans r3 fun _ _ h => h⟩
      have e2 : (fun j => ah j + -1 * (([u L[i]].count j : Nat) : Int) - (((((L.drop (i + 1)).map u).filter fun k => decide (k ≠ kk)).count j : Nat) : Int)) = fun j => ah j - (((u L[i] :: ((L.drop (i + 1)).map u).filter fun k => decide (k ≠ kk)).count j : Nat) : Int) := by
        funext j
        rw [show u L[i] :: ((L.drop (i + 1)).map u).filter (fun k => decide (k ≠ kk)) = [u L[i]] ++ ((L.drop (i + 1)).map u).filter (fun k => decide (k ≠ kk)) from rfl, List.count_append]
        omega
      rw [e2] at r2
      exact r2

theorem parts_l3 {F ob ab MM kk : Nat} {x3 x15 x127 x128 : Value} {rv : Value} {u : Nat → Nat} {P : List Nat} (hF : 1000000 ≤ F) (ok : GOk N adj) (fb : Fr nb hb) (gb : GB hb g N tv) (grb : Gr hb m tv N adj) (hm : m ≤ nb) (hr : RdI hb rv (nats P)) (hP : ∀ a, a ∈ P → a < N ∧ u a = kk) (hs : P.length ≤ 1000) (hu : ∀ b, b < N → u b < MM) (hM : MM ≤ 1000) (hob : nb ≤ ob) (hab : nb ≤ ab) (hne : ob ≠ ab) {E : Value → Value → Value → Value → Value → Value → Value → M Value} : ∀ j i k n (h : H) (ah : Nat → Int), i + j = P.length → j < k →
    (∀ c, c < nb → h.get c = hb.get c) → TI h ob N (fun a => (u a : Int)) → TI h ab MM ah → (∀ j, ah j ≤ 1000000 ∧ -1000000 - 1000 * i ≤ ah j) → Fr n h → nb ≤ n →
    ∃ h', (graph_Parts_l3 F E k (pt g 0) x3 (sl ob 0 N N) (sl ab 0 MM MM) x15 (i64 kk) x127 x128 rv (i64 P.length) (i64 i)).run n h = (E (pt g 0) x3 (sl ob 0 N N) (sl ab 0 MM MM) x15 x127 x128).run n h' ∧
      TI h' ab MM (fun j => ah j - ((((P.drop i).flatMap (outK adj u)).count j : Nat) : Int)) ∧ Ev (fun c => c = ab) n h n h' := by
  intro j
  induction j with
  | zero =>
    intro i k n h ah hij hk hk0 tu ta hah f hn
    obtain ⟨k, rfl⟩ : ∃ j, k = j + 1 := ⟨k - 1, by omega⟩
    rw [graph_Parts_l3_s]
    unfold graph_Parts_b3 graph_Parts_r39
    try dsimp only
    rw [st_lss]
    simp only [onB_ite, run_ite, decide_eq_true_eq]
    rw [if_neg (by omega)]
    refine ⟨h, rfl, ?_, Ev.refl f⟩
    have e : (fun j => ah j - ((((P.drop i).flatMap (outK adj u)).count j : Nat) : Int)) = ah := by
      funext j; rw [List.drop_of_length_le (by omega)]; simp
    rw [e]; exact ta
  | succ j ih =>
    intro i k n h ah hij hk hk0 tu ta hah f hn
    obtain ⟨k, rfl⟩ : ∃ j, k = j + 1 := ⟨k - 1, by omega⟩
    have hi : i < P.length := by omega
    obtain ⟨haN, hau⟩ := hP P[i] (List.getElem_mem hi)
    have hobn := tu.ltn f
    have habn := TI.ltn ta f
    have hsi := ok.short P[i] haN
    have edrop : P.drop i = P[i] :: P.drop (i + 1) := List.drop_eq_getElem_cons hi
    have gbh : GB h g N tv := by unfold GB; rw [hk0 g (gb.lt fb)]; exact gb
    obtain ⟨g1, hg, fg, kg, iv, q1, q2⟩ := grb
    have gr : Gr h m tv N adj := ⟨g1, hg, fg, fun c hc => by rw [hk0 c (by omega)]; exact kg c hc, iv, q1, q2⟩
    rw [graph_Parts_l3_s]
    unfold graph_Parts_b3 graph_Parts_r39
    try dsimp only
    rw [st_lss]
    simp only [onB_ite, run_ite, decide_eq_true_eq]
    rw [if_pos (by omega)]
    unfold graph_Parts_r40
    try dsimp only
    rw [RdI.getN (hr.kept fb hk0) hi]
    unfold graph_Parts_r41
    try dsimp only
    obtain ⟨rw', er, hg', fg', kg', hr'⟩ := gr.row (β := Value) (n := n) haN
    rw [gbh.t, er, RdI.lenN (hr'.kept fg' kg')]
    obtain ⟨h1, r1, t1, ev1⟩ := parts_l5 (F := F) (kk := kk) (x1 := pt g 0) (x3 := x3) (x15 := x15) (x127 := x127) (x128 := x128) (x151 := rv) (x152 := i64 P.length) (x153 := i64 i) (ob := ob) (ab := ab) (MM := MM) fg' hr' (fun b hb => ok.lt _ haN b hb) hsi hu hM (by omega) (by omega) hne (E := fun x1 x3 x5 x10 x15 x16 x127 x128 x151 x152 x153 => graph_Parts_k4 F (graph_Parts_l3 F E k) x1 x3 x5 x10 x15 x16 x127 x128 x151 x152 x153) (adj P[i]).length 0 F n h ah (by omega) (by omega) kg' tu ta (fun j => by have := hah j; constructor <;> omega) f
    rw [show (Value.int .i64 0) = i64 ((0 : Nat) : Int) from rfl, r1]
    unfold graph_Parts_k4 graph_Parts_r47
    try dsimp only
    rw [sx_add (by omega)]
    have e : (fun j => ah j - ((((((adj P[i]).drop 0).map u).filter fun k => decide (k ≠ kk)).count j : Nat) : Int)) = fun j => ah j - (((outK adj u P[i]).count j : Nat) : Int) := by
      funext j
      rw [List.drop_zero]
      unfold outK
      rw [hau]
    rw [e] at t1
    have hlo : ∀ j, (((outK adj u P[i]).count j : Nat) : Int) ≤ 1000 := fun j => by
      have h2 := List.count_le_length (a := j) (l := outK adj u P[i])
      have h3 : (outK adj u P[i]).length ≤ 1000 := by
        unfold outK
        have := List.length_filter_le (fun k => decide (k ≠ u P[i])) ((adj P[i]).map u)
        rw [List.length_map] at this
        omega
      omega
    obtain ⟨h', r2, r3, r4⟩ := ih (i + 1) k n h1 _ (by omega) (by omega) (fun c hc => by rw [ev1.keep c (by omega) (by omega)]; exact hk0 c hc) (tu.keep (ev1.keep ob hobn hne)) t1 (fun j => by
      have := hah j
      have := hlo j
      constructor <;> omega) ev1.f hn
    refine ⟨h', r2, ?_, ev1.trans r4 fun _ _ h => h⟩
    have e2 : (fun j => ah j - (((outK adj u P[i]).count j : Nat) : Int) - ((((P.drop (i + 1)).flatMap (outK adj u)).count j : Nat) : Int)) = fun j => ah j - ((((P.drop i).flatMap (outK adj u)).count j : Nat) : Int) := by
      funext j
      rw [edrop, List.flatMap_cons, List.count_append]
      omega
    rw [e2] at r3
    exact r3

end

end
end Go.Fw
