/-
  FrontMeet and FrontBelow, said of the abstract machine.
-/
import Derived.Test.YtmkpboaigdnpnaaDoorLawFC
set_option maxRecDepth 20000
set_option linter.unusedVariables false
namespace Go.Fw

section
variable {adj : Nat → List Nat} {N : Nat}

/-- What stays as it is while the law looks at all. -/
structure FM (adj : Nat → List Nat) (N : Nat) (h : H) (m g bt ba : Nat) (tv : Value) (S : Nat → Nat → Bool) (all : Nat → Bool) : Prop where
  gr : Gr h m tv N adj
  gb : GB h g N tv
  fs : FS h 0 bt N S
  ta : TB h ba N all
  lt : g < m ∧ ba < m
  fr : ∃ h0, Fr m h0 ∧ (∀ c, c < m → h.get c = h0.get c) ∧ FS h0 0 bt N S
  vq : veq tv tv = true

theorem FS.mono {h : H} {lo lo' bt N : Nat} {S : Nat → Nat → Bool} (x : FS h lo bt N S) (hl : lo' ≤ lo) : FS h lo' bt N S := by
  obtain ⟨h1, ps, O, t, b, o, d⟩ := x
  exact ⟨by omega, ps, O, t, b, fun a ha c hc => ⟨by have := (o a ha c hc).1; omega, (o a ha c hc).2⟩, d⟩

theorem FM.kept {h h' : H} {m g bt ba : Nat} {tv : Value} {S : Nat → Nat → Bool} {all : Nat → Bool} (x : FM adj N h m g bt ba tv S all) (hk : ∀ c, c < m → h'.get c = h.get c) : FM adj N h' m g bt ba tv S all := by
  obtain ⟨h0, f0, k0, x0⟩ := x.fr
  exact ⟨x.gr.kept hk, by unfold GB; rw [hk g x.lt.1]; exact x.gb, x0.kept f0 fun c hc _ => (hk c hc).trans (k0 c hc), x.ta.keep (hk _ x.lt.2), x.lt, ⟨h0, f0, fun c hc => (hk c hc).trans (k0 c hc), x0⟩, x.vq⟩

theorem meet_l3 {F m g bt ba a : Nat} {tv : Value} {S : Nat → Nat → Bool} {all : Nat → Bool} {hB : H} (hF : 1000000 ≤ F) (ok : GOk N adj) (h1N : 0 < N) (xB : FM adj N hB m g bt ba tv S all) (hall : ∀ q, all q = true ↔ Rch adj 0 q) (hS : ∀ q i, S q i = true ↔ Frt adj 0 q i) (ha : a < N) {E : Value → Value → Value → Value → M Value} : ∀ j i k n (h : H), i + j = (adj a).length → j < k → (∀ c, c < m → h.get c = hB.get c) → m ≤ n → Fr n h →
    ∃ n' h', (L7_FrontMeet_l3 F E k (pt g 0) (sl bt 0 N N) (sl ba 0 N N) (i64 (a : Nat)) (i64 (i : Nat))).run n h = (E (pt g 0) (sl bt 0 N N) (sl ba 0 N N) (i64 (a : Nat))).run n' h' ∧ (∀ c, c < m → h'.get c = hB.get c) ∧ m ≤ n' ∧ Fr n' h' := by
  have hN := ok.few
  have hs := ok.short a ha
  intro j
  induction j with
  | zero =>
    intro i k n h hij hk hkB hm f
    obtain ⟨k, rfl⟩ : ∃ j, k = j + 1 := ⟨k - 1, by omega⟩
    have x := xB.kept hkB
    obtain ⟨rv, e1, h0, f0, k0, hr⟩ := x.gr.row (β := Value) (n := n) ha
    have hr' : RdI h rv (nats (adj a)) := hr.kept f0 k0
    rw [L7_FrontMeet_l3_s]
    unfold L7_FrontMeet_b3 L7_FrontMeet_r11
    try dsimp only
    rw [x.ta.get ha, onB_ite, run_ite]
    by_cases hal : all a = true
    · rw [if_pos hal, x.gb.t, e1, hr'.lenI, show (nats (adj a)).length = (adj a).length by unfold nats; rw [List.length_map], st_lss, onB_ite, run_ite, if_neg (by simp; omega)]
      exact ⟨n, h, rfl, hkB, hm, f⟩
    · rw [if_neg hal, onB_ite, run_ite, if_neg (by decide)]
      exact ⟨n, h, rfl, hkB, hm, f⟩
  | succ j ih =>
    intro i k n h hij hk hkB hm f
    obtain ⟨k, rfl⟩ : ∃ j, k = j + 1 := ⟨k - 1, by omega⟩
    have hi : i < (adj a).length := by omega
    have x := xB.kept hkB
    obtain ⟨rv, e1, h0, f0, k0, hr⟩ := x.gr.row (β := Value) (n := n) ha
    have hr' : RdI h rv (nats (adj a)) := hr.kept f0 k0
    rw [L7_FrontMeet_l3_s]
    unfold L7_FrontMeet_b3 L7_FrontMeet_r11
    try dsimp only
    rw [x.ta.get ha, onB_ite, run_ite]
    by_cases hal : all a = true
    · rw [if_pos hal, x.gb.t, e1, hr'.lenI, show (nats (adj a)).length = (adj a).length by unfold nats; rw [List.length_map], st_lss, onB_ite, run_ite, if_pos (by simp; omega)]
      unfold L7_FrontMeet_r13
      try dsimp only
      have hil : i < (nats (adj a)).length := by unfold nats; rw [List.length_map]; exact hi
      rw [x.gb.t, e1, hr'.getI hil]
      have e : (nats (adj a))[i]'hil = (((adj a)[i] : Nat) : Int) := by simp [nats]
      rw [e]
      have hmem : (adj a)[i] ∈ adj a := List.getElem_mem hi
      generalize (adj a)[i] = b at *
      have hbN := ok.lt a ha b hmem
      have hra : Rch adj 0 a := (hall a).1 hal
      have next : ∀ n1 (h1 : H), (∀ c, c < m → h1.get c = hB.get c) → m ≤ n1 → Fr n1 h1 → ∃ n' h', (L7_FrontMeet_k4 F (L7_FrontMeet_l3 F E k) (pt g 0) (sl bt 0 N N) (sl ba 0 N N) (i64 (a : Nat)) (i64 (i : Nat))).run n1 h1 = (E (pt g 0) (sl bt 0 N N) (sl ba 0 N N) (i64 (a : Nat))).run n' h' ∧ (∀ c, c < m → h'.get c = hB.get c) ∧ m ≤ n' ∧ Fr n' h' := fun n1 h1 k1 l1 f1 => by
        unfold L7_FrontMeet_k4 L7_FrontMeet_r12
        try dsimp only
        rw [sx_add (by omega)]
        exact ih (i + 1) k n1 h1 (by omega) (by omega) k1 l1 f1
      unfold L7_FrontMeet_r14
      try dsimp only
      obtain ⟨n1, h1, e2, ev1⟩ := rabove_spec (F := F) (root := 0) (a := a) (b := b) hF x.gr hm ok h1N ha hbN f
      have k1 : ∀ c, c < m → h1.get c = hB.get c := fun c hc => by rw [ev1.no (by omega)]; exact hkB c hc
      have l1 : m ≤ n1 := by have := ev1.le; omega
      have x1 := xB.kept k1
      have has : (a = b ∨ ¬ Dom adj 0 a b) → ∃ n' h', (L7_FrontMeet_r15 F (pt g 0) (sl bt 0 N N) (sl ba 0 N N) (i64 (a : Nat)) (i64 (i : Nat)) (i64 (b : Int)) fun x6 x7 x8 x9 x10 x70 => onB x70 (L7_FrontMeet_r16 F fun x4 => ret x4) (L7_FrontMeet_k4 F (L7_FrontMeet_l3 F E k) x6 x7 x8 x9 x10)).run n1 h1 = (E (pt g 0) (sl bt 0 N N) (sl ba 0 N N) (i64 (a : Nat))).run n' h' ∧ (∀ c, c < m → h'.get c = hB.get c) ∧ m ≤ n' ∧ Fr n' h' := fun hc => by
        unfold L7_FrontMeet_r15
        try dsimp only
        obtain ⟨p, O, e3, bs, _⟩ := x1.fs.get (β := Value) (n := n1) ha
        have hsb : S a b = true := (hS a b).2 ⟨a, hra, hmem, Dom.self hra, hc⟩
        rw [e3, run_bnd (has_nat bs b), hsb, st_not, onB_ite, run_ite, if_neg (by decide)]
        exact next n1 h1 k1 l1 ev1.f
      rw [x.gb.t, show (Value.int .i64 0) = i64 ((0 : Nat) : Int) from rfl, run_bnd e2, onB_ite, run_ite]
      cases hd : domB adj 0 a b with
      | true =>
        rw [if_pos rfl, st_neq]
        simp only [onB_ite, run_ite]
        by_cases e3 : a = b
        · rw [if_neg (by rw [e3]; simp)]
          exact has (.inl e3)
        · rw [if_pos (by rw [bne_iff_ne]; omega)]
          exact next n1 h1 k1 l1 ev1.f
      | false =>
        rw [if_neg (by decide), onB_ite, run_ite, if_neg (by decide)]
        exact has (.inr fun q => by rw [domB_iff.2 q] at hd; cases hd)
    · rw [if_neg hal, onB_ite, run_ite, if_neg (by decide)]
      exact ⟨n, h, rfl, hkB, hm, f⟩

theorem meet_L1 {F m g bt ba : Nat} {tv : Value} {S : Nat → Nat → Bool} {all : Nat → Bool} {hB : H} (hF : 1000000 ≤ F) (ok : GOk N adj) (h1N : 0 < N) (xB : FM adj N hB m g bt ba tv S all) (hall : ∀ q, all q = true ↔ Rch adj 0 q) (hS : ∀ q i, S q i = true ↔ Frt adj 0 q i) {E : M Value} : ∀ j i k n (h : H), i + j = N → j < k → (∀ c, c < m → h.get c = hB.get c) → m ≤ n → Fr n h →
    ∃ n' h', (L7_FrontMeet_l1 F E k (pt g 0) (sl bt 0 N N) (sl ba 0 N N) (i64 (i : Nat))).run n h = E.run n' h' := by
  have hN := ok.few
  intro j
  induction j with
  | zero =>
    intro i k n h hij hk hkB hm f
    obtain ⟨k, rfl⟩ : ∃ j, k = j + 1 := ⟨k - 1, by omega⟩
    have x := xB.kept hkB
    rw [L7_FrontMeet_l1_s]
    unfold L7_FrontMeet_b1 L7_FrontMeet_r8
    try dsimp only
    rw [x.gb.nn, st_lss, onB_ite, run_ite, if_neg (by simp; omega)]
    exact ⟨n, h, rfl⟩
  | succ j ih =>
    intro i k n h hij hk hkB hm f
    obtain ⟨k, rfl⟩ : ∃ j, k = j + 1 := ⟨k - 1, by omega⟩
    have x := xB.kept hkB
    have hs := ok.short i (by omega)
    rw [L7_FrontMeet_l1_s]
    unfold L7_FrontMeet_b1 L7_FrontMeet_r8
    try dsimp only
    rw [x.gb.nn, st_lss, onB_ite, run_ite, if_pos (by simp; omega)]
    unfold L7_FrontMeet_r10
    try dsimp only
    obtain ⟨n1, h1, e1, k1, l1, f1⟩ := meet_l3 (F := F) (a := i) hF ok h1N xB hall hS (by omega) (E := fun x6 x7 x8 x9 => L7_FrontMeet_k2 F (L7_FrontMeet_l1 F E k) x6 x7 x8 x9) (adj i).length 0 F n h (by omega) (by omega) hkB hm f
    rw [show (Value.int .i64 0) = i64 ((0 : Nat) : Int) from rfl, e1]
    unfold L7_FrontMeet_k2 L7_FrontMeet_r9
    try dsimp only
    rw [sx_add (by omega)]
    exact ih (i + 1) k n1 h1 (by omega) (by omega) k1 l1 f1
end

theorem frontmeet_run {F : Nat} (hF : 1000000 ≤ F) (hbg : gaveTrue ((L7_begun F).run 8 (baseH deB)) = true) (hbk : (((L7_begun F).run 8 (baseH deB)).map fun x => x.2.2.get 0) = some (some ⟨deB, .ro⟩)) (h : H) (us : List Value) (f : Fr 8 h) (hb : h.get 0 = some ⟨deB, .ro⟩) (ha : ArgsAre h [.int, .flat 2] us) :
    ∃ n' h', (L7_FrontMeet_m F us).run 8 h = some (.bool true, n', h') := by
  obtain ⟨_, v, rfl, ⟨z, rfl, hz⟩, hv⟩ := args2 ha
  obtain ⟨len, Z, hp, hl, hZ⟩ := hv.pairs f
  show ∃ n' h', (L7_FrontMeet F (i64 z) v).run 8 h = some (.bool true, n', h')
  unfold L7_FrontMeet L7_FrontMeet_r0 L7_FrontMeet_r1
  try dsimp only
  obtain ⟨n1, h1, e1, f1, l1, k1⟩ := run_over_true hbg hbk f hb
  rw [run_bnd e1]
  unfold L7_FrontMeet_r2
  simp only [st_not, onB_ite, Bool.not_true, Bool.false_eq_true, if_false]
  unfold L7_FrontMeet_r4
  try dsimp only
  obtain ⟨n2, h2, g, ob, O, e2, x2, ev2⟩ := made_var (F := F) hF l1 hz hZ (hp.keep k1) f1
  rw [show (Value.int .i64 0) = i64 0 from rfl, show (Value.slice none 0 0) = nsl from rfl, e2]
  generalize nodesOf z = N at *
  generalize madeL N Z (min len 80) = adj at *
  have gr2 := x2.gr ev2.f
  have hN := x2.few
  have hN1 := x2.pos
  have hgl := x2.glt
  unfold L7_FrontMeet_r5
  try dsimp only
  obtain ⟨n3, h3, bt, S, e3, x3, s3, ev3⟩ := frt_in (F := F) (root := 0) hF gr2 (Nat.le_refl _) x2.ok (by omega) ev2.f
  have le3 := ev3.le
  rw [x2.var.all, show (Value.int .i64 0) = i64 ((0 : Nat) : Int) from rfl, run_bnd e3]
  have gr3 := gr2.no ev3 (Nat.le_refl _)
  have gb3 := x2.var.ev ev3 x2.glt (fun h => h)
  unfold L7_FrontMeet_r6
  try dsimp only
  obtain ⟨n4, h4, ba, all, e4, t4, q4, lb4, ev4⟩ := reach_one (F := F) (root := 0) (w := -1) hF gr3 (by omega) x2.ok ev3.f
  have e4' := e4 (fun v23 => L7_FrontMeet_r7 F (pt g 0) (sl bt 0 N N) v23 fun x6 x7 x8 x9 => L7_FrontMeet_l1 F (L7_FrontMeet_k0 F) F x6 x7 x8 x9)
  rw [gb3.t, show (Value.int .i64 0) = i64 ((0 : Nat) : Int) from rfl, show (Value.int .i64 (-1)) = i64 (-1) from rfl]
  have fs4 : FS h4 0 bt N S := (x3.mono (Nat.zero_le _)).kept ev3.f fun c hc _ => ev4.no hc
  have xB : FM adj N h4 n4 g bt ba (sl ob 0 N N) S all := ⟨(gr3.no ev4 (by omega)).mono ev4.f (by have := ev4.le; omega), gb3.ev ev4 (by omega) (fun h => h), fs4, t4, ⟨by have := ev4.le; omega, TV.lt t4 ev4.f⟩, ⟨h4, ev4.f, fun _ _ => rfl, fs4⟩, by simp [veq]⟩
  obtain ⟨n5, h5, e5⟩ := meet_L1 (F := F) hF x2.ok (by omega) xB (fun q => (q4 q).trans (rchS_rch (by omega))) s3 (E := L7_FrontMeet_k0 F) N 0 F n4 h4 (by omega) (by omega) (fun _ _ => rfl) (Nat.le_refl _) ev4.f
  refine ⟨n5, h5, Eq.trans e4' ?_⟩
  unfold L7_FrontMeet_r7
  try dsimp only
  rw [show (Value.int .i64 0) = i64 ((0 : Nat) : Int) from rfl, e5]
  rfl

theorem begunF_runs : gaveTrue ((L7_begun 1000000).run 8 (baseH deB)) = true := by kernel_rfl
theorem begunF_keeps : (((L7_begun 1000000).run 8 (baseH deB)).map fun x => x.2.2.get 0) = some (some ⟨deB, .ro⟩) := by kernel_rfl

theorem frontmeet_law (h : H) (us : List Value) (f : Fr 8 h) (hb : h.get 0 = some ⟨deB, .ro⟩) (ha : ArgsAre h [.int, .flat 2] us) : ∃ n' h', (L7_FrontMeet_m 1000000 us).run 8 h = some (.bool true, n', h') := frontmeet_run (Nat.le_refl _) begunF_runs begunF_keeps h us f hb ha

end Go.Fw
