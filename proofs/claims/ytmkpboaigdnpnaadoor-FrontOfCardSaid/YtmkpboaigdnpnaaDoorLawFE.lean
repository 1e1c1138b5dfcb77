/-
  FrontBelow, said of the abstract machine.
-/
import Derived.Test.YtmkpboaigdnpnaaDoorLawFD
set_option maxRecDepth 20000
set_option linter.unusedVariables false
namespace Go.Fw

section
variable {adj : Nat → List Nat} {N : Nat} {o : List Nat} {place : Nat → Nat} {up : Nat → Int}

theorem nats_len {l : List Nat} : (nats l).length = l.length := by unfold nats; rw [List.length_map]
theorem nats_get {l : List Nat} {i : Nat} (hi : i < (nats l).length) : (nats l)[i] = (((l[i]'(by rw [nats_len] at hi; exact hi)) : Nat) : Int) := by simp [nats]

theorem below_l6 {F m n g2 bu a b : Nat} {t2v x6 x7 x11 x12 : Value} {h : H} (hF : 1000000 ≤ F) (hN : N ≤ 600) (P : Pl adj N 0 o place) (D : DomT adj 0 o place up) (tu : TI h bu N up) (gb : GB h g2 N t2v) (gr : Gr h m t2v N (turnA N adj)) (hb : b < N) (hl : (turnA N adj b).length ≤ 700000) {E : Value → Value → Value → Value → Value → Value → Value → Value → Value → M Value} : ∀ j i k s, i + j = (turnA N adj b).length → j < k →
    (L7_FrontBelow_l6 F E k x6 x7 (sl bu 0 N N) (pt g2 0) (i64 (a : Int)) x11 x12 (i64 (b : Int)) (bo s) (i64 (i : Nat))).run n h = (E x6 x7 (sl bu 0 N N) (pt g2 0) (i64 (a : Int)) x11 x12 (i64 (b : Int)) (bo (s || ((turnA N adj b).drop i).any (domB adj 0 a)))).run n h := by
  obtain ⟨rv, e1, h0, f0, k0, hr⟩ := gr.row (β := Value) (n := n) hb
  have hr' : RdI h rv (nats (turnA N adj b)) := hr.kept f0 k0
  intro j
  induction j with
  | zero =>
    intro i k s hij hk
    obtain ⟨k, rfl⟩ : ∃ j, k = j + 1 := ⟨k - 1, by omega⟩
    rw [L7_FrontBelow_l6_s]
    unfold L7_FrontBelow_b6 L7_FrontBelow_r18
    try dsimp only
    rw [gb.t, e1, hr'.lenI, nats_len, st_lss, onB_ite, run_ite, if_neg (by simp; omega), List.drop_of_length_le (by omega)]
    simp
  | succ j ih =>
    intro i k s hij hk
    obtain ⟨k, rfl⟩ : ∃ j, k = j + 1 := ⟨k - 1, by omega⟩
    have hi : i < (turnA N adj b).length := by omega
    rw [L7_FrontBelow_l6_s]
    unfold L7_FrontBelow_b6 L7_FrontBelow_r18
    try dsimp only
    rw [gb.t, e1, hr'.lenI, nats_len, st_lss, onB_ite, run_ite, if_pos (by simp; omega)]
    unfold L7_FrontBelow_r20
    try dsimp only
    rw [List.drop_eq_getElem_cons hi, List.any_cons]
    cases s with
    | true =>
      rw [onB_ite, run_ite, if_pos rfl]
      unfold L7_FrontBelow_r19
      try dsimp only
      rw [sx_add (by omega)]
      have := ih (i + 1) k true (by omega) (by omega)
      simpa using this
    | false =>
      rw [onB_ite, run_ite, if_neg (by decide)]
      have hil : i < (nats (turnA N adj b)).length := by rw [nats_len]; exact hi
      rw [gb.t, e1, hr'.getI hil, nats_get, run_bnd (above_nat hF P D tu hN a _)]
      unfold L7_FrontBelow_r19
      try dsimp only
      rw [sx_add (by omega)]
      have := ih (i + 1) k (domB adj 0 a (turnA N adj b)[i]) (by omega) (by omega)
      rw [Bool.false_or]
      exact this

/-- What stays as it is while FrontBelow looks at all. -/
structure FB (adj : Nat → List Nat) (N : Nat) (h : H) (m g g2 bt bu : Nat) (tv t2v : Value) (S : Nat → Nat → Bool) (up : Nat → Int) : Prop where
  vg : GB h g N tv
  vt : GB h g2 N t2v
  gr : Gr h m t2v N (turnA N adj)
  tu : TI h bu N up
  lt : g < m ∧ g2 < m ∧ bu < m ∧ 0 < m
  tz : h.get 0 = some ⟨deB, .ro⟩
  fr : ∃ h0, Fr m h0 ∧ (∀ c, c < m → h.get c = h0.get c) ∧ FS h0 0 bt N S

theorem FB.kept {h h' : H} {m g g2 bt bu : Nat} {tv t2v : Value} {S : Nat → Nat → Bool} (x : FB adj N h m g g2 bt bu tv t2v S up) (hk : ∀ c, c < m → h'.get c = h.get c) : FB adj N h' m g g2 bt bu tv t2v S up := by
  obtain ⟨h0, f0, k0, x0⟩ := x.fr
  exact ⟨by unfold GB; rw [hk g x.lt.1]; exact x.vg, by unfold GB; rw [hk g2 x.lt.2.1]; exact x.vt, x.gr.kept hk, x.tu.keep (hk _ x.lt.2.2.1), x.lt, (hk 0 x.lt.2.2.2).trans x.tz, ⟨h0, f0, fun c hc => (hk c hc).trans (k0 c hc), x0⟩⟩

theorem FB.fs {h : H} {m g g2 bt bu : Nat} {tv t2v : Value} {S : Nat → Nat → Bool} (x : FB adj N h m g g2 bt bu tv t2v S up) : FS h 0 bt N S := by
  obtain ⟨h0, f0, k0, x0⟩ := x.fr
  exact x0.kept f0 fun c hc _ => k0 c hc

theorem below_l3 {F m n g g2 bu bt a : Nat} {tv t2v vl : Value} {h : H} {S : Nat → Nat → Bool} (hF : 1000000 ≤ F) (ok : GOk N adj) (P : Pl adj N 0 o place) (D : DomT adj 0 o place up) (x : FB adj N h m g g2 bt bu tv t2v S up) (hS : ∀ q i, S q i = true ↔ Frt adj 0 q i) {L : List Nat} (hv : RdI h vl (nats L)) (hL : ∀ b, b ∈ L → S a b = true) (hlen : L.length ≤ 100000) {E : Value → Value → Value → Value → Value → M Value} : ∀ j i k, i + j = L.length → j < k →
    (L7_FrontBelow_l3 F E k (pt g 0) (sl bt 0 N N) (sl bu 0 N N) (pt g2 0) (i64 (a : Int)) vl (i64 (i : Nat))).run n h = (E (pt g 0) (sl bt 0 N N) (sl bu 0 N N) (pt g2 0) (i64 (a : Int))).run n h := by
  have hN := ok.few
  intro j
  induction j with
  | zero =>
    intro i k hij hk
    obtain ⟨k, rfl⟩ : ∃ j, k = j + 1 := ⟨k - 1, by omega⟩
    rw [L7_FrontBelow_l3_s]
    unfold L7_FrontBelow_b3 L7_FrontBelow_r13
    try dsimp only
    rw [hv.lenI, nats_len, st_lss, onB_ite, run_ite, if_neg (by simp; omega)]
  | succ j ih =>
    intro i k hij hk
    obtain ⟨k, rfl⟩ : ∃ j, k = j + 1 := ⟨k - 1, by omega⟩
    have hi : i < L.length := by omega
    rw [L7_FrontBelow_l3_s]
    unfold L7_FrontBelow_b3 L7_FrontBelow_r13
    try dsimp only
    rw [hv.lenI, nats_len, st_lss, onB_ite, run_ite, if_pos (by simp; omega)]
    unfold L7_FrontBelow_r15
    try dsimp only
    have hil : i < (nats L).length := by rw [nats_len]; exact hi
    rw [hv.getI hil, nats_get]
    have hmem : L[i] ∈ L := List.getElem_mem hi
    have hb := hL _ hmem
    generalize L[i] = b at *
    obtain ⟨p, hp1, hp2, hp3, hp4⟩ := (hS a b).1 hb
    have hpN : p < N := P.ord.lt p ((P.ord.mem p).2 hp1)
    have hbN := ok.lt p hpN b hp2
    have hl : (turnA N adj b).length ≤ 700000 := by
      have := turnL_len (b := b) ok N 0 (by omega) (.inr rfl)
      unfold turnA; omega
    unfold L7_FrontBelow_r16 L7_FrontBelow_r17
    try dsimp only
    rw [show (Value.bool false) = bo false from rfl, show (Value.int .i64 0) = i64 ((0 : Nat) : Int) from rfl, below_l6 (F := F) hF hN P D x.tu x.vt x.gr hbN hl (turnA N adj b).length 0 F false (by omega) (by omega)]
    have hany : ((turnA N adj b).drop 0).any (domB adj 0 a) = true := by
      rw [List.drop_zero, List.any_eq_true]
      exact ⟨p, turnA_mem.2 ⟨hpN, hp2⟩, domB_iff.2 hp3⟩
    rw [hany]
    unfold L7_FrontBelow_k5 L7_FrontBelow_r21
    try dsimp only
    rw [Bool.or_true, st_not, onB_ite, run_ite, if_neg (by decide), st_neq, onB_ite, run_ite]
    have next : (L7_FrontBelow_k4 F (L7_FrontBelow_l3 F E k) (pt g 0) (sl bt 0 N N) (sl bu 0 N N) (pt g2 0) (i64 (a : Int)) vl (i64 (i : Nat))).run n h = (E (pt g 0) (sl bt 0 N N) (sl bu 0 N N) (pt g2 0) (i64 (a : Int))).run n h := by
      unfold L7_FrontBelow_k4 L7_FrontBelow_r14
      try dsimp only
      rw [sx_add (by omega)]
      exact ih (i + 1) k (by omega) (by omega)
    by_cases e : a = b
    · rw [if_neg (by rw [e]; simp), onB_ite, run_ite, if_neg (by decide)]
      exact next
    · have hd : domB adj 0 a b = false := by
        cases q : domB adj 0 a b with
        | false => rfl
        | true => exact absurd (domB_iff.1 q) (hp4.resolve_left e)
      rw [if_pos (by rw [bne_iff_ne]; omega), run_bnd (above_nat hF P D x.tu hN a b), hd, onB_ite, run_ite, if_neg (by decide)]
      exact next

theorem below_l1 {F m g g2 bu bt : Nat} {tv t2v : Value} {hB : H} {S : Nat → Nat → Bool} (hF : 1000000 ≤ F) (ok : GOk N adj) (P : Pl adj N 0 o place) (D : DomT adj 0 o place up) (xB : FB adj N hB m g g2 bt bu tv t2v S up) (hS : ∀ q i, S q i = true ↔ Frt adj 0 q i) {E : M Value} : ∀ j i k n (h : H), i + j = N → j < k → (∀ c, c < m → h.get c = hB.get c) → m ≤ n → Fr n h →
    ∃ n' h', (L7_FrontBelow_l1 F E k (pt g 0) (sl bt 0 N N) (sl bu 0 N N) (pt g2 0) (i64 (i : Nat))).run n h = E.run n' h' := by
  have hN := ok.few
  intro j
  induction j with
  | zero =>
    intro i k n h hij hk hkB hm f
    obtain ⟨k, rfl⟩ : ∃ j, k = j + 1 := ⟨k - 1, by omega⟩
    have x := xB.kept hkB
    rw [L7_FrontBelow_l1_s]
    unfold L7_FrontBelow_b1 L7_FrontBelow_r9
    try dsimp only
    rw [x.vg.nn, st_lss, onB_ite, run_ite, if_neg (by simp; omega)]
    exact ⟨n, h, rfl⟩
  | succ j ih =>
    intro i k n h hij hk hkB hm f
    obtain ⟨k, rfl⟩ : ∃ j, k = j + 1 := ⟨k - 1, by omega⟩
    have x := xB.kept hkB
    rw [L7_FrontBelow_l1_s]
    unfold L7_FrontBelow_b1 L7_FrontBelow_r9
    try dsimp only
    rw [x.vg.nn, st_lss, onB_ite, run_ite, if_pos (by simp; omega)]
    unfold L7_FrontBelow_r11
    try dsimp only
    obtain ⟨p, O, e1, bs, _⟩ := x.fs.get (β := Value) (n := n) (show i < N by omega)
    obtain ⟨n1, h1, vl, e2, nw, ev1⟩ := all_spec (F := F) (by omega) (by have := x.lt; omega) x.tz bs f
    rw [e1, run_bnd e2]
    have k1 : ∀ c, c < m → h1.get c = hB.get c := fun c hc => by rw [ev1.no (by omega)]; exact hkB c hc
    have x1 := xB.kept k1
    have sm : ∀ q, S i q = true → q < 5000 := fun q hq => bs.small hq
    have hlen : (setL (S i)).length ≤ 100000 := by
      have := upTo_len (s := S i) (k := 80)
      unfold setL; omega
    unfold L7_FrontBelow_r12
    try dsimp only
    rw [show (Value.int .i64 0) = i64 ((0 : Nat) : Int) from rfl, below_l3 (F := F) (m := m) (a := i) hF ok P D x1 hS (show RdI h1 vl (nats (setL (S i))) from nw.rd) (fun b hb => (setL_memS sm).1 hb) hlen (setL (S i)).length 0 F (by omega) (by omega)]
    unfold L7_FrontBelow_k2 L7_FrontBelow_r10
    try dsimp only
    rw [sx_add (by omega)]
    exact ih (i + 1) k n1 h1 (by omega) (by omega) k1 (by have := ev1.le; omega) ev1.f
end

theorem frontbelow_run {F : Nat} (hF : 1000000 ≤ F) (hbg : gaveTrue ((L7_begun F).run 8 (baseH deB)) = true) (hbk : (((L7_begun F).run 8 (baseH deB)).map fun x => x.2.2.get 0) = some (some ⟨deB, .ro⟩)) (h : H) (us : List Value) (f : Fr 8 h) (hb : h.get 0 = some ⟨deB, .ro⟩) (ha : ArgsAre h [.int, .flat 2] us) :
    ∃ n' h', (L7_FrontBelow_m F us).run 8 h = some (.bool true, n', h') := by
  obtain ⟨_, v, rfl, ⟨z, rfl, hz⟩, hv⟩ := args2 ha
  obtain ⟨len, Z, hp, hl, hZ⟩ := hv.pairs f
  show ∃ n' h', (L7_FrontBelow F (i64 z) v).run 8 h = some (.bool true, n', h')
  unfold L7_FrontBelow L7_FrontBelow_r0 L7_FrontBelow_r1
  try dsimp only
  obtain ⟨n1, h1, e1, f1, l1, k1⟩ := run_over_true hbg hbk f hb
  rw [run_bnd e1]
  have z1 : h1.get 0 = some ⟨deB, .ro⟩ := (k1 0 (by omega)).trans hb
  unfold L7_FrontBelow_r2
  simp only [st_not, onB_ite, Bool.not_true, Bool.false_eq_true, if_false]
  unfold L7_FrontBelow_r4
  try dsimp only
  obtain ⟨n2, h2, g, ob, O, e2, x2, ev2⟩ := made_var (F := F) hF l1 hz hZ (hp.keep k1) f1
  rw [show (Value.int .i64 0) = i64 0 from rfl, show (Value.slice none 0 0) = nsl from rfl, e2]
  generalize nodesOf z = N at *
  generalize madeL N Z (min len 80) = adj at *
  have gr2 := x2.gr ev2.f
  have hN := x2.few
  have hN1 := x2.pos
  have hgl := x2.glt
  have le2 := ev2.le
  unfold L7_FrontBelow_r5
  try dsimp only
  obtain ⟨n3, h3, bt, S, e3, x3, s3, ev3⟩ := frt_in (F := F) (root := 0) hF gr2 (Nat.le_refl _) x2.ok (by omega) ev2.f
  have le3 := ev3.le
  rw [x2.var.all, show (Value.int .i64 0) = i64 ((0 : Nat) : Int) from rfl, run_bnd e3]
  have gr3 := gr2.no ev3 (Nat.le_refl _)
  have gb3 := x2.var.ev ev3 x2.glt (fun h => h)
  unfold L7_FrontBelow_r6
  try dsimp only
  obtain ⟨n4, h4, bu, up, o, place, e4, t4, P, D, lb4, ev4⟩ := up_in (F := F) (root := 0) hF gr3 (by omega) x2.ok (by omega) ev3.f
  have le4 := ev4.le
  rw [gb3.all, show (Value.int .i64 0) = i64 ((0 : Nat) : Int) from rfl, run_bnd e4]
  have gr4 := gr3.no ev4 (by omega)
  have gb4 := gb3.ev ev4 (by omega) (fun h => h)
  unfold L7_FrontBelow_r7
  try dsimp only
  obtain ⟨n5, h5, ob2, O2, e5, x5, o5, ev5⟩ := turn_spec (F := F) (by omega) gr4 (by omega) x2.ok ev4.f
  have le5 := ev5.le
  rw [gb4.all, run_bnd e5, run_ptr ev5.f (by rfl)]
  have ev6 := Ev.new ev5.f ⟨[i64 0, nsl], .own⟩
  obtain ⟨h7, e7, g7, ev7⟩ := GB.put (β := Value) (N := N) (tv := sl ob2 0 N N) (H.get_set_same h5 n5 ⟨[i64 0, nsl], .own⟩) rfl ev6.f rfl
  rw [e7]
  have ev57 : Ev No n5 h5 (n5 + 1) h7 := ev6.trans ev7 fun c hc q => by omega
  have x7 : OL h7 ob2 N O2 (fun b => nats (turnA N adj b)) := x5.keep fun c hc => ev57.no (x5.lt ev5.f hc)
  have ev47 : Ev No n4 h4 (n5 + 1) h7 := ev5.trans ev57 fun _ _ h => h
  have gb7 := gb4.ev ev47 (by omega) (fun h => h)
  have tu7 := t4.ev ev47 (TV.lt t4 ev4.f) (fun h => h)
  have ev37 : Ev No n3 h3 (n5 + 1) h7 := ev4.trans ev47 fun _ _ h => h
  have ev17 : Ev No n1 h1 (n5 + 1) h7 := ((ev2.trans ev3 fun _ _ h => h).trans ev37 fun _ _ h => h)
  have fs7 : FS h7 0 bt N S := (x3.mono (Nat.zero_le _)).kept ev3.f fun c hc _ => ev37.no hc
  have xB : FB adj N h7 (n5 + 1) g n5 bt bu (sl ob 0 N N) (sl ob2 0 N N) S up := ⟨gb7, g7, x7.gr ev57.f fun _ _ => rfl, tu7, ⟨by omega, by omega, by have := TV.lt t4 ev4.f; omega, by omega⟩, (ev17.no (by omega)).trans z1, ⟨h7, ev57.f, fun _ _ => rfl, fs7⟩⟩
  unfold L7_FrontBelow_r8
  try dsimp only
  obtain ⟨n8, h8, e8⟩ := below_l1 (F := F) hF x2.ok P D xB s3 (E := L7_FrontBelow_k0 F) N 0 F (n5 + 1) h7 (by omega) (by omega) (fun _ _ => rfl) (Nat.le_refl _) ev57.f
  rw [show (Value.int .i64 0) = i64 ((0 : Nat) : Int) from rfl, e8]
  exact ⟨n8, h8, rfl⟩

theorem frontbelow_law (h : H) (us : List Value) (f : Fr 8 h) (hb : h.get 0 = some ⟨deB, .ro⟩) (ha : ArgsAre h [.int, .flat 2] us) : ∃ n' h', (L7_FrontBelow_m 1000000 us).run 8 h = some (.bool true, n', h') := frontbelow_run (Nat.le_refl _) begunF_runs begunF_keeps h us f hb ha

end Go.Fw
