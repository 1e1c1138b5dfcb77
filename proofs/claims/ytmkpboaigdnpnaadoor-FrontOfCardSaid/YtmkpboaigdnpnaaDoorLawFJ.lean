/-
  FrontOf, said of the abstract machine.
-/
import Derived.Test.YtmkpboaigdnpnaaDoorLawFI
set_option maxRecDepth 20000
set_option linter.unusedVariables false
namespace Go.Fw

/-- What stays as it is while FrontOf looks. -/
structure FO (N : Nat) (h : H) (m g bt : Nat) (tv wv : Value) (S : Nat → Nat → Bool) (R : Nat → List Int) : Prop where
  vg : GB h g N tv
  wr : ∃ lo hi, RL h lo hi wv N R ∧ hi ≤ m
  lt : g < m ∧ 0 < m
  tz : h.get 0 = some ⟨deB, .ro⟩
  fr : ∃ h0, Fr m h0 ∧ (∀ c, c < m → h.get c = h0.get c) ∧ FS h0 0 bt N S

theorem FO.kept {N : Nat} {h h' : H} {m g bt : Nat} {tv wv : Value} {S : Nat → Nat → Bool} {R : Nat → List Int} (x : FO N h m g bt tv wv S R) (hk : ∀ c, c < m → h'.get c = h.get c) : FO N h' m g bt tv wv S R := by
  obtain ⟨h0, f0, k0, x0⟩ := x.fr
  obtain ⟨lo, hi, w, hh⟩ := x.wr
  exact ⟨by unfold GB; rw [hk g x.lt.1]; exact x.vg, ⟨lo, hi, w.keep fun c _ hc => hk c (by omega), hh⟩, x.lt, (hk 0 x.lt.2).trans x.tz, ⟨h0, f0, fun c hc => (hk c hc).trans (k0 c hc), x0⟩⟩

theorem FO.no {N n n' : Nat} {h h' : H} {m g bt : Nat} {tv wv : Value} {S : Nat → Nat → Bool} {R : Nat → List Int} (x : FO N h m g bt tv wv S R) (e : Ev No n h n' h') (hm : m ≤ n) : FO N h' m g bt tv wv S R := x.kept fun c hc => e.no (by omega)

theorem FO.fs {N : Nat} {h : H} {m g bt : Nat} {tv wv : Value} {S : Nat → Nat → Bool} {R : Nat → List Int} (x : FO N h m g bt tv wv S R) : FS h 0 bt N S := by
  obtain ⟨h0, f0, k0, x0⟩ := x.fr
  exact x0.kept f0 fun c hc _ => k0 c hc

section
variable {N : Nat}

theorem fo_l9 {F m g bt : Nat} {tv wv x3 : Value} {S : Nat → Nat → Bool} {R : Nat → List Int} (hF : 1000000 ≤ F) (hN : N ≤ 600) (hR : ∀ a, a < N → R a = ints (setL (S a))) {E : Value → Value → Value → Value → M Value} : ∀ j i k n (h : H), i + j = N → j < k → FO N h m g bt tv wv S R → m ≤ n → Fr n h →
    ∃ n' h', (L7_FrontOf_l9 F E k x3 (pt g 0) (sl bt 0 N N) wv (i64 (i : Nat))).run n h = (E x3 (pt g 0) (sl bt 0 N N) wv).run n' h' ∧ Ev No n h n' h' := by
  intro j
  induction j with
  | zero =>
    intro i k n h hij hk x hm f
    obtain ⟨k, rfl⟩ : ∃ j, k = j + 1 := ⟨k - 1, by omega⟩
    rw [L7_FrontOf_l9_s]
    unfold L7_FrontOf_b9 L7_FrontOf_r12
    try dsimp only
    rw [x.vg.nn, st_lss, onB_ite, run_ite, if_neg (by simp; omega)]
    exact ⟨n, h, rfl, Ev.refl f⟩
  | succ j ih =>
    intro i k n h hij hk x hm f
    obtain ⟨k, rfl⟩ : ∃ j, k = j + 1 := ⟨k - 1, by omega⟩
    have hi : i < N := by omega
    rw [L7_FrontOf_l9_s]
    unfold L7_FrontOf_b9 L7_FrontOf_r12
    try dsimp only
    rw [x.vg.nn, st_lss, onB_ite, run_ite, if_pos (by simp; omega)]
    unfold L7_FrontOf_r14
    try dsimp only
    obtain ⟨p, O, e1, bs, _⟩ := x.fs.get (β := Value) (n := n) hi
    obtain ⟨lo, hi2, w, hh⟩ := x.wr
    obtain ⟨ob, rv, cs, rfl, _, ho, hc1, hc2, rd, vq⟩ := w.row hi
    obtain ⟨n1, h1, vl, e2, nw, ev1⟩ := all_spec (F := F) (by omega) (by have := x.lt; omega) x.tz bs f
    have hc1' := (ev1.no (show ob < n by omega)).trans hc1
    have rd1 : RdI h1 rv (R i) := by
      have hk : ∀ c, c < n → h1.get c = h.get c := fun c hc => ev1.no hc
      exact rd.kept f hk
    have hlen : (ints (setL (S i))).length ≤ 5120 := by
      have := upTo_len (s := S i) (k := 80)
      unfold ints; rw [List.length_map]; unfold setL; omega
    rw [e1, ix1 hi, ld1 hc1 (by decide) (by rw [Nat.zero_add]; exact hc2), run_bnd e2, run_chk hc1' (by decide) (by rw [Nat.zero_add]; exact hc2) vq, run_bnd (req_spec nw.rd rd1 (by omega) (by omega)), decide_eq_true (hR i hi).symm, st_not, onB_ite, run_ite, if_neg (by decide)]
    unfold L7_FrontOf_r13
    try dsimp only
    rw [sx_add (by omega)]
    obtain ⟨n', h', q1, q2⟩ := ih (i + 1) k n1 h1 (by omega) (by omega) (x.no ev1 hm) (by have := ev1.le; omega) ev1.f
    exact ⟨n', h', q1, ev1.trans q2 fun _ _ h => h⟩

theorem fo_l7 {F g lo : Nat} {tv v2 x11 x12 x15 : Value} {us : List Int} {hB : H} (hF : 1000000 ≤ F) (h1 : 1 ≤ N) (hN : N ≤ 25) (hv : IntsA hB v2 us) {E : Value → Value → Value → Value → Value → M Value} : ∀ j i k n (h : H) v zs, i + j = 9 → j < k → (∀ c, c < 8 → h.get c = hB.get c) → GB h g N tv → g < lo → 8 ≤ lo → NewI h lo v zs → NumsOf N zs → zs.length ≤ i → lo ≤ n → Fr n h →
    ∃ n' h' v' zs', (L7_FrontOf_l7 F E k v2 (pt g 0) x11 x12 v x15 (i64 (i : Nat))).run n h = (E (pt g 0) x11 x12 v' x15).run n' h' ∧ NewI h' lo v' zs' ∧ NumsOf N zs' ∧ zs'.length ≤ 9 ∧ Ev (fun c => lo ≤ c) n h n' h' := by
  intro j
  induction j with
  | zero =>
    intro i k n h v zs hij hk hkB gb hg h8 x hz hzl hn f
    obtain ⟨k, rfl⟩ : ∃ j, k = j + 1 := ⟨k - 1, by omega⟩
    have rd : RdI h v2 us := (hv.keep hkB).rd
    rw [L7_FrontOf_l7_s]
    unfold L7_FrontOf_b7 L7_FrontOf_r18
    try dsimp only
    rw [rd.lenI, st_lss, onB_ite, run_ite]
    have stop : ∃ n' h' v' zs', (E (pt g 0) x11 x12 v x15).run n h = (E (pt g 0) x11 x12 v' x15).run n' h' ∧ NewI h' lo v' zs' ∧ NumsOf N zs' ∧ zs'.length ≤ 9 ∧ Ev (fun c => lo ≤ c) n h n' h' := ⟨n, h, v, zs, rfl, x, hz, by omega, Ev.refl f⟩
    split
    · rw [st_lss, onB_ite, run_ite, if_neg (by simp; omega)]; exact stop
    · rw [onB_ite, run_ite, if_neg (by decide)]; exact stop
  | succ j ih =>
    intro i k n h v zs hij hk hkB gb hg h8 x hz hzl hn f
    obtain ⟨k, rfl⟩ : ∃ j, k = j + 1 := ⟨k - 1, by omega⟩
    have rd : RdI h v2 us := (hv.keep hkB).rd
    rw [L7_FrontOf_l7_s]
    unfold L7_FrontOf_b7 L7_FrontOf_r18
    try dsimp only
    rw [rd.lenI, st_lss, onB_ite, run_ite]
    have stop : ∃ n' h' v' zs', (E (pt g 0) x11 x12 v x15).run n h = (E (pt g 0) x11 x12 v' x15).run n' h' ∧ NewI h' lo v' zs' ∧ NumsOf N zs' ∧ zs'.length ≤ 9 ∧ Ev (fun c => lo ≤ c) n h n' h' := ⟨n, h, v, zs, rfl, x, hz, by omega, Ev.refl f⟩
    split
    · rename_i hi
      have hi : i < us.length := by simp only [decide_eq_true_eq] at hi; omega
      rw [st_lss, onB_ite, run_ite]
      split
      · unfold L7_FrontOf_r20
        try dsimp only
        have r1 := Int.tmod_lt_of_pos us[i] (show (0 : Int) < N by omega)
        have r2 := Int.lt_tmod_of_pos us[i] (show (0 : Int) < N by omega)
        obtain ⟨wa, la⟩ := wrapN_eq h1 us[i]
        rw [rd.getI hi, gb.nn, st_rem (by omega), gb.nn, sx_add (by omega), gb.nn, st_rem (by omega), wa]
        unfold L7_FrontOf_r21
        try dsimp only
        obtain ⟨h2, v2', e2, x2, ev2⟩ := x.push (β := Value) (y := 0) (z := (wrapN N us[i] : Int)) f hn (by omega)
        rw [show (Value.int .i64 0) = i64 0 from rfl, e2]
        unfold L7_FrontOf_r19
        try dsimp only
        rw [sx_add (by omega)]
        obtain ⟨n', h', v', zs', q1, q2, q3, q4, q5⟩ := ih (i + 1) k (n + 2) h2 v2' (zs ++ [(wrapN N us[i] : Int)]) (by omega) (by omega) (fun c hc => by rw [ev2.keep c (by omega) (by omega)]; exact hkB c hc) (gb.ev ev2 (by omega) (by omega)) hg h8 x2 (fun z hz' => by
          rw [List.mem_append, List.mem_singleton] at hz'
          rcases hz' with h | rfl
          · exact hz z h
          · exact ⟨_, rfl, la⟩) (by rw [List.length_append, List.length_singleton]; omega) (by omega) ev2.f
        exact ⟨n', h', v', zs', q1, q2, q3, q4, ev2.trans q5 fun _ _ h => h⟩
      · exact stop
    · rw [onB_ite, run_ite, if_neg (by decide)]; exact stop

/-- How many are not in yet. -/
def left (N : Nat) (zs : List Int) : Nat := cnt N fun m => decide ((m : Int) ∈ zs)

theorem left_mono {zs zs' : List Int} (h : ∀ z, z ∈ zs → z ∈ zs') : left N zs' ≤ left N zs := cnt_mono (fun m hm => by
  rw [decide_eq_true_eq] at hm ⊢; exact h _ hm) N
theorem left_put {zs : List Int} {b : Nat} (hb : b < N) (h : (b : Int) ∉ zs) : left N (putI zs (b : Int)) + 1 = left N zs := by
  have e : (fun m : Nat => decide ((m : Int) ∈ putI zs (b : Int))) = putM (fun m : Nat => decide ((m : Int) ∈ zs)) b := by
    funext m
    unfold putM
    rw [Bool.eq_iff_iff, decide_eq_true_eq, putI_mem, Bool.or_eq_true, decide_eq_true_eq, decide_eq_true_eq]
    constructor
    · rintro (h | h)
      · exact .inr (by omega)
      · exact .inl h
    · rintro (h | h)
      · exact .inr h
      · exact .inl (by omega)
  have := cnt_put (s := fun m : Nat => decide ((m : Int) ∈ zs)) (a := b) (decide_eq_false h) N
  rw [if_pos hb] at this
  unfold left
  rw [e]; exact this

/-- A list on the way. -/
structure Good (N : Nat) (S : Nat → Nat → Bool) (s : Nat → Bool) (zs : List Int) : Prop where
  so : zs.Pairwise (· < ·)
  snd : ∀ z, z ∈ zs → ∃ m : Nat, z = (m : Int) ∧ m < N ∧ Cls S s m
  len : zs.length + left N zs ≤ N

theorem fo_l4 {F lo m g bt a : Nat} {tv wv x14 : Value} {S : Nat → Nat → Bool} {s : Nat → Bool} {R : Nat → List Int} (hF : 1000000 ≤ F) (hN : N ≤ 600) (haN : a < N) (hRl : (R a).length ≤ 100000) (hT : ∀ y, y ∈ R a → ∃ m : Nat, y = (m : Int) ∧ m < N ∧ Cls S s m) (hml : m ≤ lo) {E : Value → Value → Value → Value → Value → Value → Value → M Value} : ∀ j i k n (h : H) v zs t, i + j = (R a).length → j < k → FO N h m g bt tv wv S R → NewI h lo v zs → Good N S s zs → (∀ y, y ∈ (R a).take i → y ∈ zs) → lo ≤ n → Fr n h →
    ∃ n' h' v' zs' t', (L7_FrontOf_l4 F E k (pt g 0) (sl bt 0 N N) wv x14 v (bo t) (i64 (a : Nat)) (i64 (i : Nat))).run n h = (E (pt g 0) (sl bt 0 N N) wv x14 v' (bo t') (i64 (a : Nat))).run n' h' ∧ NewI h' lo v' zs' ∧ Good N S s zs' ∧ (∀ y, y ∈ zs → y ∈ zs') ∧ (∀ y, y ∈ R a → y ∈ zs') ∧ (t' = true → t = true ∨ left N zs' < left N zs) ∧ (t' = false → zs' = zs ∧ t = false) ∧ Ev No n h n' h' := by
  intro j
  induction j with
  | zero =>
    intro i k n h v zs t hij hk x y G hdone hn f
    obtain ⟨k, rfl⟩ : ∃ j, k = j + 1 := ⟨k - 1, by omega⟩
    obtain ⟨lo2, hi2, w, hh⟩ := x.wr
    obtain ⟨rv, e1, rd⟩ := w.get (β := Value) (n := n) haN
    rw [L7_FrontOf_l4_s]
    unfold L7_FrontOf_b4 L7_FrontOf_r30
    try dsimp only
    rw [e1, rd.lenI, st_lss, onB_ite, run_ite, if_neg (by simp; omega)]
    rw [List.take_of_length_le (by omega)] at hdone
    exact ⟨n, h, v, zs, t, rfl, y, G, fun _ h => h, hdone, fun h => .inl h, fun h => ⟨rfl, h⟩, Ev.refl f⟩
  | succ j ih =>
    intro i k n h v zs t hij hk x y G hdone hn f
    obtain ⟨k, rfl⟩ : ∃ j, k = j + 1 := ⟨k - 1, by omega⟩
    have hi : i < (R a).length := by omega
    obtain ⟨lo2, hi2, w, hh⟩ := x.wr
    obtain ⟨rv, e1, rd⟩ := w.get (β := Value) (n := n) haN
    rw [L7_FrontOf_l4_s]
    unfold L7_FrontOf_b4 L7_FrontOf_r30
    try dsimp only
    rw [e1, rd.lenI, st_lss, onB_ite, run_ite, if_pos (by simp; omega)]
    unfold L7_FrontOf_r32
    try dsimp only
    have glen := G.len
    rw [e1, rd.getI hi, run_bnd (rin_spec y.rd (by omega) (by omega) _), st_not, onB_ite, run_ite]
    obtain ⟨b, hb, hbN, hcb⟩ := hT (R a)[i] (List.getElem_mem hi)
    have etake : (R a).take (i + 1) = (R a).take i ++ [(R a)[i]] := List.take_succ_eq_append_getElem hi
    by_cases hin : (R a)[i] ∈ zs
    · rw [decide_eq_true hin, if_neg (by decide)]
      unfold L7_FrontOf_k5 L7_FrontOf_r31
      try dsimp only
      rw [sx_add (by omega)]
      exact ih (i + 1) k n h v zs t (by omega) (by omega) x y G (fun z hz => by
        rw [etake, List.mem_append, List.mem_singleton] at hz
        rcases hz with hz | rfl
        · exact hdone z hz
        · exact hin) hn f
    · rw [decide_eq_false hin, if_pos (by decide)]
      unfold L7_FrontOf_r33
      try dsimp only
      rw [e1, rd.getI hi]
      obtain ⟨n2, h2, v2, e2, y2, ev2⟩ := rput_spec (F := F) y f (by omega) (by omega) (by omega) (R a)[i]
      have hle := ev2.le
      rw [run_bnd e2]
      unfold L7_FrontOf_r34 L7_FrontOf_k5 L7_FrontOf_r31
      try dsimp only
      rw [sx_add (by omega)]
      have hlp := left_put hbN (hb ▸ hin)
      rw [hb] at y2
      have hpl := putI_len (z := (b : Int)) (L := zs)
      have hsub : ∀ z, z ∈ zs → z ∈ putI zs (b : Int) := fun z hz => putI_mem.2 (.inr hz)
      obtain ⟨n', h', v', zs', t', q1, q2, q3, q4, q5, q6, q7, q8⟩ := ih (i + 1) k n2 h2 v2 (putI zs (b : Int)) true (by omega) (by omega) (x.no ev2 (by omega)) y2 ⟨putI_sorted G.so, fun z hz => by
        rcases putI_mem.1 hz with h | h
        · exact ⟨b, h, hbN, hcb⟩
        · exact G.snd z h, by omega⟩ (fun z hz => by
        rw [etake, List.mem_append, List.mem_singleton] at hz
        rcases hz with hz | rfl
        · exact hsub z (hdone z hz)
        · rw [hb]; exact putI_mem.2 (.inl rfl)) (by omega) ev2.f
      have hm2 := left_mono (N := N) q4
      exact ⟨n', h', v', zs', t', q1, q2, q3, fun z hz => q4 z (hsub z hz), q5, fun _ => .inr (by omega), fun h => (by have := (q7 h).2; cases this), ev2.trans q8 fun _ _ h => h⟩

theorem fo_l2 {F lo m g bt ms : Nat} {tv wv sv : Value} {hs : H} {us : List Int} {S : Nat → Nat → Bool} {R : Nat → List Int} (hF : 1000000 ≤ F) (hN : N ≤ 600) (hRl : ∀ a, a < N → (R a).length ≤ 100000) (hRS : ∀ a, a < N → ∀ y, y ∈ R a → ∃ m : Nat, y = (m : Int) ∧ m < N ∧ S a m = true) (hml : m ≤ lo) (fs : Fr ms hs) (rs : RdI hs sv us) (hus : us.length ≤ 1000) (hmsl : ms ≤ lo) (hnu : NumsOf N us) {E : Value → Value → Value → Value → Value → Value → M Value} : ∀ j i k n (h : H) v zs t, i + j = N → j < k → FO N h m g bt tv wv S R → (∀ c, c < ms → h.get c = hs.get c) → NewI h lo v zs → Good N S (setOf us) zs → lo ≤ n → Fr n h →
    ∃ n' h' v' zs' t', (L7_FrontOf_l2 F E k (pt g 0) (sl bt 0 N N) wv sv v (bo t) (i64 (i : Nat))).run n h = (E (pt g 0) (sl bt 0 N N) wv sv v' (bo t')).run n' h' ∧ NewI h' lo v' zs' ∧ Good N S (setOf us) zs' ∧ (∀ y, y ∈ zs → y ∈ zs') ∧ (t' = true → t = true ∨ left N zs' < left N zs) ∧ (t' = false → zs' = zs ∧ t = false ∧ ∀ a, i ≤ a → a < N → ((a : Int) ∈ us ∨ (a : Int) ∈ zs) → ∀ y, y ∈ R a → y ∈ zs) ∧ Ev No n h n' h' := by
  intro j
  induction j with
  | zero =>
    intro i k n h v zs t hij hk x hst y G hn f
    obtain ⟨k, rfl⟩ : ∃ j, k = j + 1 := ⟨k - 1, by omega⟩
    rw [L7_FrontOf_l2_s]
    unfold L7_FrontOf_b2 L7_FrontOf_r26
    try dsimp only
    rw [x.vg.nn, st_lss, onB_ite, run_ite, if_neg (by simp; omega)]
    exact ⟨n, h, v, zs, t, rfl, y, G, fun _ h => h, fun h => .inl h, fun h => ⟨rfl, h, fun a h1 h2 => by omega⟩, Ev.refl f⟩
  | succ j ih =>
    intro i k n h v zs t hij hk x hst y G hn f
    obtain ⟨k, rfl⟩ : ∃ j, k = j + 1 := ⟨k - 1, by omega⟩
    have hi : i < N := by omega
    rw [L7_FrontOf_l2_s]
    unfold L7_FrontOf_b2 L7_FrontOf_r26
    try dsimp only
    rw [x.vg.nn, st_lss, onB_ite, run_ite, if_pos (by simp; omega)]
    unfold L7_FrontOf_r28
    try dsimp only
    have rd : RdI h sv us := rs.kept fs hst
    have glen := G.len
    rw [run_bnd (rin_spec rd (by omega) (by omega) _), st_not, onB_ite, run_ite]
    have next : ∀ n1 (h1 : H) v1 zs1 t1, Ev No n h n1 h1 → NewI h1 lo v1 zs1 → Good N S (setOf us) zs1 → (∀ y, y ∈ zs → y ∈ zs1) → (t1 = true → t = true ∨ left N zs1 < left N zs) → (t1 = false → zs1 = zs ∧ t = false ∧ (((i : Int) ∈ us ∨ (i : Int) ∈ zs) → ∀ y, y ∈ R i → y ∈ zs)) → ∃ n' h' v' zs' t', (L7_FrontOf_k3 F (L7_FrontOf_l2 F E k) (pt g 0) (sl bt 0 N N) wv sv v1 (bo t1) (i64 (i : Nat))).run n1 h1 = (E (pt g 0) (sl bt 0 N N) wv sv v' (bo t')).run n' h' ∧ NewI h' lo v' zs' ∧ Good N S (setOf us) zs' ∧ (∀ y, y ∈ zs → y ∈ zs') ∧ (t' = true → t = true ∨ left N zs' < left N zs) ∧ (t' = false → zs' = zs ∧ t = false ∧ ∀ a, i ≤ a → a < N → ((a : Int) ∈ us ∨ (a : Int) ∈ zs) → ∀ y, y ∈ R a → y ∈ zs) ∧ Ev No n h n' h' := fun n1 h1 v1 zs1 t1 ev1 y1 G1 s1 c1 c2 => by
      unfold L7_FrontOf_k3 L7_FrontOf_r27
      try dsimp only
      rw [sx_add (by omega)]
      obtain ⟨n', h', v', zs', t', q1, q2, q3, q4, q5, q6, q7⟩ := ih (i + 1) k n1 h1 v1 zs1 t1 (by omega) (by omega) (x.no ev1 (by omega)) (fun c hc => by rw [ev1.no (by omega)]; exact hst c hc) y1 G1 (by have := ev1.le; omega) ev1.f
      have m1 := left_mono (N := N) s1
      have m2 := left_mono (N := N) q4
      refine ⟨n', h', v', zs', t', q1, q2, q3, fun z hz => q4 z (s1 z hz), fun ht => ?_, fun ht => ?_, ev1.trans q7 fun _ _ h => h⟩
      · rcases q5 ht with h | h
        · rcases c1 h with h | h
          · exact .inl h
          · exact .inr (by omega)
        · exact .inr (by omega)
      · obtain ⟨r1, r2, r3⟩ := q6 ht
        obtain ⟨d1, d2, d3⟩ := c2 r2
        subst d1
        refine ⟨r1, d2, fun a ha1 ha2 hc => ?_⟩
        by_cases e : a = i
        · subst e; exact d3 hc
        · exact r3 a (by omega) ha2 hc
    have walk : ((i : Int) ∈ us ∨ (i : Int) ∈ zs) → ∃ n' h' v' zs' t', (L7_FrontOf_r29 F (pt g 0) (sl bt 0 N N) wv sv v (bo t) (i64 (i : Nat)) fun x10 x11 x12 x14 x15 x18 x19 x20 => L7_FrontOf_l4 F (fun x10 x11 x12 x14 x15 x18 x19 => L7_FrontOf_k3 F (L7_FrontOf_l2 F E k) x10 x11 x12 x14 x15 x18 x19) F x10 x11 x12 x14 x15 x18 x19 x20).run n h = (E (pt g 0) (sl bt 0 N N) wv sv v' (bo t')).run n' h' ∧ NewI h' lo v' zs' ∧ Good N S (setOf us) zs' ∧ (∀ y, y ∈ zs → y ∈ zs') ∧ (t' = true → t = true ∨ left N zs' < left N zs) ∧ (t' = false → zs' = zs ∧ t = false ∧ ∀ a, i ≤ a → a < N → ((a : Int) ∈ us ∨ (a : Int) ∈ zs) → ∀ y, y ∈ R a → y ∈ zs) ∧ Ev No n h n' h' := fun hc => by
      unfold L7_FrontOf_r29
      try dsimp only
      have hl := hRl i hi
      obtain ⟨n1, h1, v1, zs1, t1, q1, q2, q3, q4, q5, q6, q7, q8⟩ := fo_l4 (F := F) (lo := lo) (m := m) (x14 := sv) (s := setOf us) hF hN hi hl (fun z hz => by
        obtain ⟨b, h1, h2, h3⟩ := hRS i hi z hz
        refine ⟨b, h1, h2, ?_⟩
        rcases hc with h | h
        · exact .one (setOf_iff.2 ⟨h, by omega⟩) h3
        · obtain ⟨d, e1, e2, e3⟩ := G.snd _ h
          have : d = i := by omega
          subst this
          exact .step e3 h3) hml (E := fun x10 x11 x12 x14 x15 x18 x19 => L7_FrontOf_k3 F (L7_FrontOf_l2 F E k) x10 x11 x12 x14 x15 x18 x19) (R i).length 0 F n h v zs t (by omega) (by omega) x y G (fun z hz => by rw [List.take_zero] at hz; cases hz) hn f
      rw [show (Value.int .i64 0) = i64 ((0 : Nat) : Int) from rfl, q1]
      refine next n1 h1 v1 zs1 t1 q8 q2 q3 q4 q6 fun ht => ?_
      obtain ⟨r1, r2⟩ := q7 ht
      subst r1
      exact ⟨rfl, r2, fun _ => q5⟩
    by_cases hu : (i : Int) ∈ us
    · rw [decide_eq_true hu, if_neg (by decide), onB_ite, run_ite, if_neg (by decide)]
      exact walk (.inl hu)
    · rw [decide_eq_false hu, if_pos (by decide), run_bnd (rin_spec y.rd (by omega) (by omega) _), st_not, onB_ite, run_ite]
      by_cases hz : (i : Int) ∈ zs
      · rw [decide_eq_true hz, if_neg (by decide)]
        exact walk (.inr hz)
      · rw [decide_eq_false hz, if_pos (by decide)]
        exact next n h v zs t (Ev.refl f) y G (fun _ h => h) (fun h => .inl h) fun h => ⟨rfl, h, fun hc => by rcases hc with h | h <;> contradiction⟩

theorem fo_l1 {F lo m g bt ms : Nat} {tv wv sv : Value} {hs : H} {us : List Int} {S : Nat → Nat → Bool} {R : Nat → List Int} (hF : 1000000 ≤ F) (hN : N ≤ 600) (hRl : ∀ a, a < N → (R a).length ≤ 100000) (hRS : ∀ a, a < N → ∀ y, y ∈ R a → ∃ m : Nat, y = (m : Int) ∧ m < N ∧ S a m = true) (hml : m ≤ lo) (fs : Fr ms hs) (rs : RdI hs sv us) (hus : us.length ≤ 1000) (hmsl : ms ≤ lo) (hnu : NumsOf N us) {E : Value → Value → Value → M Value} : ∀ j k n (h : H) v zs, left N zs ≤ j → j + 1 < k → FO N h m g bt tv wv S R → (∀ c, c < ms → h.get c = hs.get c) → NewI h lo v zs → Good N S (setOf us) zs → lo ≤ n → Fr n h →
    ∃ n' h' v' zs', (L7_FrontOf_l1 F E k (pt g 0) (sl bt 0 N N) wv sv v (bo true)).run n h = (E (sl bt 0 N N) sv v').run n' h' ∧ NewI h' lo v' zs' ∧ Good N S (setOf us) zs' ∧ (∀ a, a < N → ((a : Int) ∈ us ∨ (a : Int) ∈ zs') → ∀ y, y ∈ R a → y ∈ zs') ∧ Ev No n h n' h' := by
  intro j
  induction j with
  | zero =>
    intro k n h v zs hj hk x hst y G hn f
    obtain ⟨k, rfl⟩ : ∃ j, k = j + 2 := ⟨k - 2, by omega⟩
    rw [L7_FrontOf_l1_s]
    unfold L7_FrontOf_b1 L7_FrontOf_r23
    try dsimp only
    rw [onB_ite, run_ite, if_pos rfl]
    unfold L7_FrontOf_r24 L7_FrontOf_r25
    try dsimp only
    obtain ⟨n1, h1, v1, zs1, t1, q1, q2, q3, q4, q5, q6, q7⟩ := fo_l2 (F := F) (lo := lo) (m := m) hF hN hRl hRS hml fs rs hus hmsl hnu (E := fun x10 x11 x12 x14 x15 x18 => L7_FrontOf_l1 F E (k + 1) x10 x11 x12 x14 x15 x18) N 0 F n h v zs false (by omega) (by omega) x hst y G hn f
    rw [show (Value.bool false) = bo false from rfl, show (Value.int .i64 0) = i64 ((0 : Nat) : Int) from rfl, q1]
    cases t1 with
    | true =>
      rcases q5 rfl with h | h
      · cases h
      · omega
    | false =>
      obtain ⟨r1, _, r3⟩ := q6 rfl
      subst r1
      rw [L7_FrontOf_l1_s]
      unfold L7_FrontOf_b1 L7_FrontOf_r23
      try dsimp only
      rw [onB_ite, run_ite, if_neg (by decide)]
      exact ⟨n1, h1, v1, zs1, rfl, q2, q3, fun a ha => r3 a (Nat.zero_le _) ha, q7⟩
  | succ j ih =>
    intro k n h v zs hj hk x hst y G hn f
    obtain ⟨k, rfl⟩ : ∃ j, k = j + 2 := ⟨k - 2, by omega⟩
    rw [L7_FrontOf_l1_s]
    unfold L7_FrontOf_b1 L7_FrontOf_r23
    try dsimp only
    rw [onB_ite, run_ite, if_pos rfl]
    unfold L7_FrontOf_r24 L7_FrontOf_r25
    try dsimp only
    obtain ⟨n1, h1, v1, zs1, t1, q1, q2, q3, q4, q5, q6, q7⟩ := fo_l2 (F := F) (lo := lo) (m := m) hF hN hRl hRS hml fs rs hus hmsl hnu (E := fun x10 x11 x12 x14 x15 x18 => L7_FrontOf_l1 F E (k + 1) x10 x11 x12 x14 x15 x18) N 0 F n h v zs false (by omega) (by omega) x hst y G hn f
    rw [show (Value.bool false) = bo false from rfl, show (Value.int .i64 0) = i64 ((0 : Nat) : Int) from rfl, q1]
    cases t1 with
    | true =>
      rcases q5 rfl with h | h
      · cases h
      · obtain ⟨n', h', v', zs', p1, p2, p3, p4, p5⟩ := ih (k + 1) n1 h1 v1 zs1 (by omega) (by omega) (x.no q7 (by omega)) (fun c hc => by rw [q7.no (by omega)]; exact hst c hc) q2 q3 (by have := q7.le; omega) q7.f
        exact ⟨n', h', v', zs', p1, p2, p3, p4, q7.trans p5 fun _ _ h => h⟩
    | false =>
      obtain ⟨r1, _, r3⟩ := q6 rfl
      subst r1
      rw [L7_FrontOf_l1_s]
      unfold L7_FrontOf_b1 L7_FrontOf_r23
      try dsimp only
      rw [onB_ite, run_ite, if_neg (by decide)]
      exact ⟨n1, h1, v1, zs1, rfl, q2, q3, fun a ha => r3 a (Nat.zero_le _) ha, q7⟩
end

theorem frontof_run {F : Nat} (hF : 1000000 ≤ F) (hbg : gaveTrue ((L7_begun F).run 8 (baseH deB)) = true) (hbk : (((L7_begun F).run 8 (baseH deB)).map fun x => x.2.2.get 0) = some (some ⟨deB, .ro⟩)) (h : H) (us : List Value) (f : Fr 8 h) (hb : h.get 0 = some ⟨deB, .ro⟩) (ha : ArgsAre h [.int, .flat 2, .int, .flat 1] us) :
    ∃ n' h', (L7_FrontOf_m F us).run 8 h = some (.bool true, n', h') := by
  obtain ⟨_, v, _, va, rfl, ⟨z, rfl, hz⟩, hv, ⟨r, rfl, hr⟩, hva⟩ := args4 ha
  obtain ⟨len, Z, hp, hl, hZ⟩ := hv.pairs f
  obtain ⟨az, hva, hla⟩ := hva.ints f
  show ∃ n' h', (L7_FrontOf F (i64 z) v (i64 r) va).run 8 h = some (.bool true, n', h')
  unfold L7_FrontOf L7_FrontOf_r0 L7_FrontOf_r1
  try dsimp only
  obtain ⟨n1, h1, e1, f1, l1, k1⟩ := run_over_true hbg hbk f hb
  rw [run_bnd e1]
  have z1 : h1.get 0 = some ⟨deB, .ro⟩ := (k1 0 (by omega)).trans hb
  unfold L7_FrontOf_r2
  simp only [st_not, onB_ite, Bool.not_true, Bool.false_eq_true, if_false]
  unfold L7_FrontOf_r4
  try dsimp only
  obtain ⟨n2, h2, g, ob, O, e2, x2, ev2⟩ := made_var (F := F) hF l1 hz hZ (hp.keep k1) f1
  rw [show (Value.int .i64 0) = i64 0 from rfl, show (Value.slice none 0 0) = nsl from rfl, e2]
  generalize nodesOf z = N at *
  generalize madeL N Z (min len 80) = adj at *
  have gr2 := x2.gr ev2.f
  have hN := x2.few
  have hN1 := x2.pos
  have hgl := x2.glt
  have le2 := ev2.le
  unfold L7_FrontOf_r5
  try dsimp only
  rw [x2.var.all]
  by_cases hin : r < 0 ∨ (N : Int) ≤ r
  · obtain ⟨n3, h3, e3, ev3⟩ := frt_out (F := F) hF gr2 (Nat.le_refl _) x2.ok hin ev2.f
    have gb3 := x2.var.ev ev3 x2.glt (fun h => h)
    rw [run_bnd e3]
    unfold L7_FrontOf_r6
    try dsimp only
    have fin : ∃ n' h', (L7_FrontOf_r7 F nsl fun x8 => ret x8).run n3 h3 = some (.bool true, n', h') := by
      unfold L7_FrontOf_r7
      try dsimp only
      exact ⟨n3, h3, rfl⟩
    rw [st_lss, onB_ite, run_ite]
    by_cases h0 : r < 0
    · rw [if_pos (by simpa using h0), onB_ite, run_ite, if_pos rfl]
      exact fin
    · rw [if_neg (by simpa using h0), gb3.nn, st_geq, onB_ite, run_ite, if_pos (by simp; omega)]
      exact fin
  · obtain ⟨root, rfl⟩ : ∃ root : Nat, r = (root : Int) := ⟨r.toNat, by omega⟩
    have hrN : root < N := by omega
    obtain ⟨n3, h3, bt, S, e3, x3, s3, ev3⟩ := frt_in (F := F) (root := root) hF gr2 (Nat.le_refl _) x2.ok hrN ev2.f
    have le3 := ev3.le
    rw [run_bnd e3]
    have gr3 := gr2.no ev3 (Nat.le_refl _)
    have gb3 := x2.var.ev ev3 x2.glt (fun h => h)
    unfold L7_FrontOf_r6
    try dsimp only
    rw [st_lss, onB_ite, run_ite, if_neg (by simp), gb3.nn, st_geq, onB_ite, run_ite, if_neg (by simp; omega)]
    unfold L7_FrontOf_r8
    try dsimp only
    obtain ⟨n4, h4, wv, R, e4, x4, r4, ev4⟩ := rfront_spec (F := F) (root := root) hF gr3 (by omega) x2.ok hrN ev3.f
    have le4 := ev4.le
    rw [gb3.t, run_bnd e4]
    have gb4 := gb3.ev ev4 (by omega) (fun h => h)
    have ev34 := ev4
    have ev24 : Ev No n2 h2 n4 h4 := ev3.trans ev4 fun _ _ h => h
    have ev14 : Ev No n1 h1 n4 h4 := ev2.trans ev24 fun _ _ h => h
    have fs3 : FS h3 0 bt N S := x3.mono (Nat.zero_le _)
    have fs4 : FS h4 0 bt N S := fs3.kept ev3.f fun c hc _ => ev4.no hc
    have hSN : ∀ a m, S a m = true → m < N := fun a m hm => by
      obtain ⟨p, q1, q2, _⟩ := (s3 a m).1 hm
      have hpN : p < N := rch_few x2.ok hrN q1
      exact x2.ok.lt p hpN m q2
    have sm : ∀ a m, S a m = true → m < 5000 := fun a m hm => by have := hSN a m hm; omega
    have hR : ∀ a, a < N → R a = ints (setL (S a)) := fun a ha => by
      obtain ⟨q1, q2⟩ := r4 a ha
      refine sorted_extI q1 ints_sorted fun y => ?_
      rw [q2, ints_mem (sm a)]
      constructor
      · rintro ⟨b, rfl, hb⟩
        exact ⟨by omega, by rw [Int.toNat_natCast]; exact (s3 a b).2 hb⟩
      · rintro ⟨h1, h2⟩
        exact ⟨y.toNat, by omega, (s3 a _).1 h2⟩
    have X4 : FO N h4 n4 g bt (sl ob 0 N N) wv S R := ⟨gb4, ⟨_, _, x4, Nat.le_refl _⟩, ⟨by omega, by omega⟩, (ev14.no (by omega)).trans z1, ⟨h4, ev4.f, fun _ _ => rfl, fs4⟩⟩
    unfold L7_FrontOf_r9
    try dsimp only
    rw [st_len, X4.vg.nn, st_neq, onB_ite, run_ite, if_neg (by simp)]
    unfold L7_FrontOf_r11
    try dsimp only
    obtain ⟨n5, h5, e5, ev5⟩ := fo_l9 (F := F) (m := n4) (x3 := va) hF (by omega) hR (E := fun x3 x10 x11 x12 => L7_FrontOf_k8 F x3 x10 x11 x12) N 0 F n4 h4 (by omega) (by omega) X4 (Nat.le_refl _) ev4.f
    have le5 := ev5.le
    rw [show (Value.int .i64 0) = i64 ((0 : Nat) : Int) from rfl, e5]
    have X5 := X4.no ev5 (Nat.le_refl _)
    unfold L7_FrontOf_k8 L7_FrontOf_r16 L7_FrontOf_r17
    try dsimp only
    have k5 : ∀ c, c < 8 → h5.get c = h.get c := fun c hc => by rw [ev5.no (by omega), ev14.no (by omega)]; exact k1 c hc
    obtain ⟨n6, h6, v6, zs6, e6, x6, nz6, hl6, ev6⟩ := fo_l7 (F := F) (N := N) (g := g) (lo := n5) (v2 := va) (x11 := sl bt 0 N N) (x12 := wv) (x15 := nsl) (us := az) (hB := h) hF hN1 hN hva (E := fun x10 x11 x12 x14 x15 => L7_FrontOf_k6 F x10 x11 x12 x14 x15) 9 0 F n5 h5 nsl [] (by omega) (by omega) k5 X5.vg (by omega) (by omega) NewI.nil (fun z hz => by cases hz) (by simp) (Nat.le_refl _) ev5.f
    have le6 := ev6.le
    rw [show (Value.slice none 0 0) = nsl from rfl, show (Value.int .i64 0) = i64 ((0 : Nat) : Int) from rfl, e6]
    have X6 : FO N h6 n4 g bt (sl ob 0 N N) wv S R := X5.kept fun c hc => ev6.keep c (by omega) (by omega)
    unfold L7_FrontOf_k6 L7_FrontOf_r22
    try dsimp only
    have hlen : ∀ s, (ints (setL s)).length ≤ 100000 := fun s => by
      have := upTo_len (s := s) (k := 80)
      unfold ints; rw [List.length_map]; unfold setL; omega
    have hleft : left N [] ≤ N := by
      unfold left cnt; exact Nat.le_trans (List.length_filter_le _ _) (by rw [List.length_range]; omega)
    have rs6 : RdI h6 v6 zs6 := x6.rd
    obtain ⟨n7, h7, v7, zs7, e7, y7, G7, c7, ev7⟩ := fo_l1 (F := F) (N := N) (lo := n6) (m := n4) (ms := n6) (sv := v6) (hs := h6) (us := zs6) hF (by omega) (fun a ha => by rw [hR a ha]; exact hlen _) (fun a ha y hy => by
      rw [hR a ha, ints_mem (sm a)] at hy
      exact ⟨y.toNat, by omega, hSN a _ hy.2, hy.2⟩) (by omega) ev6.f rs6 (by omega) (Nat.le_refl _) nz6 (E := fun x11 x14 x15 => L7_FrontOf_k0 F x11 x14 x15) N F n6 h6 nsl [] hleft (by omega) X6 (fun _ _ => rfl) NewI.nil ⟨List.Pairwise.nil, fun z hz => (by cases hz), (by simpa using hleft)⟩ (Nat.le_refl _) ev6.f
    have le7 := ev7.le
    rw [show (Value.bool true) = bo true from rfl, e7]
    have X7 := X6.no ev7 (by omega)
    unfold L7_FrontOf_k0 L7_FrontOf_r35
    try dsimp only
    have rs7 : RdI h7 v6 zs6 := rs6.kept ev6.f fun c hc => ev7.no hc
    obtain ⟨n8, h8, e8, y8, ev8⟩ := ofR_spec (F := F) (by omega) (by omega) (by omega) rs7 ev7.f
    have le8 := ev8.le
    rw [run_bnd e8]
    have X8 := X7.no ev8 (by omega)
    obtain ⟨O8, b8, o8⟩ := y8
    obtain ⟨n9, h9, q9, C, e9, y9, c9, ev9⟩ := closure_spec (F := F) (N := N) (bt := bt) hF (by omega) ev8.f X8.fs hSN (by omega) X8.tz b8 (fun a h => nz6.set h)
    have le9 := ev9.le
    rw [run_bnd e9]
    have X9 := X8.no ev9 (by omega)
    obtain ⟨nA, hA, vA, eA, nwA, evA⟩ := at_all (F := F) (by omega) (by omega) X9.tz y9 ev9.f
    rw [run_bnd eA]
    have ev7A : Ev No n7 h7 nA hA := (ev8.trans ev9 fun _ _ h => h).trans evA fun _ _ h => h
    have rd7 : RdI h7 v7 zs7 := y7.rd
    have rdA : RdI hA v7 zs7 := rd7.kept ev7.f fun c hc => ev7A.no hc
    have hC5 : ∀ m, C m = true → m < 5000 := fun m hm => by
      cases (c9 m).1 hm with
      | one _ h => exact sm _ _ h
      | step _ h => exact sm _ _ h
    have eq7 : ints (setL C) = zs7 := by
      refine sorted_extI ints_sorted G7.so fun y => ?_
      rw [ints_mem hC5]
      constructor
      · rintro ⟨h1, h2⟩
        have hcl := (c9 _).1 h2
        obtain ⟨b, rfl⟩ : ∃ b : Nat, y = (b : Int) := ⟨y.toNat, by omega⟩
        rw [Int.toNat_natCast] at hcl
        clear h2
        have mem : ∀ a m, a < N → S a m = true → (m : Int) ∈ R a := fun a m ha hm => by
          rw [hR a ha, ints_mem (sm a)]
          exact ⟨by omega, by rw [Int.toNat_natCast]; exact hm⟩
        clear h1
        induction hcl with
        | one q1 q2 => exact c7 _ (nz6.set q1) (.inl (setOf_iff.1 q1).1) _ (mem _ _ (nz6.set q1) q2)
        | @step a m q1 q2 ih =>
          have haN : a < N := by
            cases q1 with
            | one _ h => exact hSN _ _ h
            | step _ h => exact hSN _ _ h
          exact c7 a haN (.inr ih) _ (mem a m haN q2)
      · intro hy
        obtain ⟨m, rfl, _, h2⟩ := G7.snd y hy
        exact ⟨by omega, by rw [Int.toNat_natCast]; exact (c9 m).2 h2⟩
    rw [run_bnd (req_spec nwA.rd rdA (by have := hlen C; omega) (by have := hlen C; omega)), decide_eq_true eq7]
    exact ⟨nA, hA, rfl⟩

theorem frontof_law (h : H) (us : List Value) (f : Fr 8 h) (hb : h.get 0 = some ⟨deB, .ro⟩) (ha : ArgsAre h [.int, .flat 2, .int, .flat 1] us) : ∃ n' h', (L7_FrontOf_m 1000000 us).run 8 h = some (.bool true, n', h') := frontof_run (Nat.le_refl _) begunF_runs begunF_keeps h us f hb ha

end Go.Fw
