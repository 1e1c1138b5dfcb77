/-
  FrontClosed, said of the abstract machine.
-/
import Derived.Test.YtmkpboaigdnpnaaDoorLawFG
set_option maxRecDepth 20000
set_option linter.unusedVariables false
namespace Go.Fw

/-! ## Sets of numbers that lie in a slice of the program's own -/

theorem ofR_l1 {F p : Nat} {v : Value} {zs : List Int} {h0 : H} (hF : 100 < F) (f0 : Fr p h0) (hv : RdI h0 v zs) (hl : zs.length < 9223372036854775000) {E : Value → M Value} : ∀ j i k n (h : H) (O : Nat → Prop), i + j = zs.length → j < k → (∀ c, c < p → h.get c = h0.get c) → BS h p O (setOf (zs.take i)) → Fr n h → (∀ c, O c → p ≤ c) →
    ∃ n' h' O', (bitset_Of_l1 F E k (pt p 0) v (i64 zs.length) (i64 i)).run n h = (E (pt p 0)).run n' h' ∧ BS h' p O' (setOf zs) ∧ Fr n' h' ∧ n ≤ n' ∧ (∀ c, c < p → h'.get c = h.get c) ∧ ∀ c, O' c → p ≤ c := by
  intro j
  induction j with
  | zero =>
    intro i k n h O hij hk hk0 x f hO
    obtain ⟨k, rfl⟩ : ∃ j, k = j + 1 := ⟨k - 1, by omega⟩
    rw [bitset_Of_l1_s]
    unfold bitset_Of_b1 bitset_Of_r3
    simp only [st_lss, onB_ite, run_ite, decide_eq_true_eq]
    rw [if_neg (by omega)]
    rw [show i = zs.length by omega, List.take_length] at x
    exact ⟨n, h, O, rfl, x, f, Nat.le_refl _, fun _ _ => rfl, hO⟩
  | succ j ih =>
    intro i k n h O hij hk hk0 x f hO
    obtain ⟨k, rfl⟩ : ∃ j, k = j + 1 := ⟨k - 1, by omega⟩
    rw [bitset_Of_l1_s]
    unfold bitset_Of_b1 bitset_Of_r3
    simp only [st_lss, onB_ite, run_ite, decide_eq_true_eq]
    rw [if_pos (by omega)]
    have hi : i < zs.length := by omega
    have rd : RdI h v zs := hv.kept f0 hk0
    unfold bitset_Of_r4
    try dsimp only
    rw [rd.getI hi]
    unfold bitset_Of_r5
    obtain ⟨n1, h1, O1, e3, x1, f1, l1, k1, o1⟩ := add_spec x f zs[i] hF
    rw [run_bnd e3]
    have hpn := x.lt f p (by obtain ⟨b, W, w, _, _, q⟩ := x; exact (q p).2 (.inl rfl))
    unfold bitset_Of_r6
    simp only [st_add]
    rw [wrap64 (by omega)]
    have hs : (if canAdd (setOf (zs.take i)) zs[i] = true then putS (setOf (zs.take i)) (zs[i]).toNat else setOf (zs.take i)) = setOf (zs.take (i + 1)) := by
      funext m
      rw [setOf_next m, List.take_succ_eq_append_getElem hi]
    rw [hs] at x1
    have hk1 : ∀ c, c < p → h1.get c = h.get c := fun c hc => k1 c (by omega) fun hOc => by have := hO c hOc; omega
    obtain ⟨n', h', O', q0, q1, q2, q3, q4, q5⟩ := ih (i + 1) k n1 h1 O1 (by omega) (by omega) (fun c hc => by rw [hk1 c hc]; exact hk0 c hc) x1 f1 (fun c hc => by
      rcases o1 c hc with h | h
      · exact hO c h
      · omega)
    exact ⟨n', h', O', q0, q1, q2, by omega, fun c hc => by rw [q4 c hc, hk1 c hc], q5⟩

theorem ofR_spec {F n : Nat} {v : Value} {zs : List Int} {h : H} (hF : 100 < F) (hl : zs.length < F) (hl2 : zs.length < 9223372036854775000) (hv : RdI h v zs) (f : Fr n h) :
    ∃ n' h', (bitset_Of F v).run n h = some (pt n 0, n', h') ∧ SetAt h' n n n' (setOf zs) ∧ Ev No n h n' h' := by
  obtain ⟨e1, x1, f1⟩ := new_set f (k := fun v7 => bitset_Of_r2 F v v7 fun x3 x8 x9 x10 => bitset_Of_l1 F (fun x3 => bitset_Of_k0 F x3) F x3 x8 x9 x10)
  unfold bitset_Of bitset_Of_r0 bitset_Of_r1
  dsimp only
  rw [show (Value.slice none 0 0) = nsl from rfl, e1]
  unfold bitset_Of_r2
  rw [hv.len, List.length_map]
  obtain ⟨n', h', O', q0, q1, q2, q3, q4, q5⟩ := ofR_l1 (F := F) (p := n) (v := v) (zs := zs) (h0 := h) hF f hv hl2 (E := fun x3 => bitset_Of_k0 F x3) zs.length 0 F (n + 1) _ _ (by omega) hl (fun c hc => H.get_set_ne _ _ (by omega)) x1 f1 (fun c hc => by omega)
  exact ⟨n', h', q0.trans rfl, ⟨O', q1, fun c hc => ⟨q5 c hc, q1.lt q2 c hc⟩⟩, q2, by omega, fun c hc _ => by rw [q4 c hc, H.get_set_ne _ _ (by omega)]⟩

/-- A copy of a list of the program's own, put behind nothing. -/
theorem app_nil {β : Type} {n lo : Nat} {h : H} {v : Value} {zs : List Int} (g : NewI h lo v zs) (f : Fr n h) (hl : zs.length < 1000) :
    ∃ n' h' v', (∀ k : Value → M β, (bnd (opAppend 1 8 nsl v) k).run n h = (k v').run n' h') ∧ NewI h' n v' zs ∧ Ev No n h n' h' := by
  obtain ⟨b, g, _⟩ := g
  rcases g with ⟨g1, rfl⟩ | ⟨g0, rfl, g2⟩
  · have : zs = [] := by cases zs with | nil => rfl | cons _ _ => cases g1
    subst this
    exact ⟨n, h, nsl, fun k => rfl, NewI.nil, Ev.refl f⟩
  · have hl2 : (zs.map i64).length ≠ 0 := by
      intro e; exact g0 (List.eq_nil_of_length_eq_zero e)
    have hl3 : (zs.map i64).length < 1000 := by rw [List.length_map]; exact hl
    have rdm : ∀ (K : List Value → M β), (bnd (cellsOf 1 (sl b 0 (zs.map i64).length (U + 1))) K).run n h = (K (zs.map i64)).run n h := fun K => by
      rw [cellsOf_gl hl2, run_rdN, g2, ldN_some (by decide) (by omega), List.drop_zero, Nat.mul_one, List.take_length]
    refine ⟨n + 1, h.set n ⟨[] ++ zs.map i64, .grow⟩, sl n 0 (zs.map i64).length (U + 1), fun k => ?_, ⟨n, .inr ⟨g0, rfl, by rw [H.get_set_same, List.nil_append]⟩, fun _ => Nat.le_refl _⟩, Ev.new f _⟩
    unfold opAppend
    simp only [if_neg hl2]
    rw [if_pos (by omega), bnd_assoc, rdm, if_neg (by unfold U; omega), if_pos (by omega), bnd_assoc]
    have e1 : cellsOf 1 (.slice none 0 0) = ret [] := rfl
    rw [e1, ret_bnd, bnd_assoc, run_new f (by rw [List.nil_append]; exact allI)]
    rw [Nat.zero_add]; rfl

theorem rch_few {adj : Nat → List Nat} {N root a : Nat} (ok : GOk N adj) (hr : root < N) (r : Rch adj root a) : a < N := by
  induction r with
  | refl => exact hr
  | @step b c _ h2 ih => exact ok.lt b ih c h2

/-- Numbers of a graph. -/
def NumsOf (N : Nat) (zs : List Int) : Prop := ∀ z, z ∈ zs → ∃ w : Nat, z = (w : Int) ∧ w < N

theorem NumsOf.set {N : Nat} {zs : List Int} (x : NumsOf N zs) {a : Nat} (h : setOf zs a = true) : a < N := by
  obtain ⟨w, h1, h2⟩ := x a (setOf_iff.1 h).1
  omega

section
variable {N : Nat}

theorem closed_l5 {F g lo : Nat} {tv v2 x3 x11 x13 : Value} {us : List Int} {hB : H} (hF : 1000000 ≤ F) (h1 : 1 ≤ N) (hN : N ≤ 25) (hv : IntsA hB v2 us) {E : Value → Value → Value → Value → Value → M Value} : ∀ j i k n (h : H) v zs, i + j = 9 → j < k → (∀ c, c < 8 → h.get c = hB.get c) → GB h g N tv → g < lo → 8 ≤ lo → NewI h lo v zs → NumsOf N zs → zs.length ≤ i → lo ≤ n → Fr n h →
    ∃ n' h' v' zs', (L7_FrontClosed_l5 F E k v2 x3 (pt g 0) x11 v x13 (i64 (i : Nat))).run n h = (E x3 (pt g 0) x11 v' x13).run n' h' ∧ NewI h' lo v' zs' ∧ NumsOf N zs' ∧ zs'.length ≤ 9 ∧ Ev (fun c => lo ≤ c) n h n' h' := by
  intro j
  induction j with
  | zero =>
    intro i k n h v zs hij hk hkB gb hg h8 x hz hzl hn f
    obtain ⟨k, rfl⟩ : ∃ j, k = j + 1 := ⟨k - 1, by omega⟩
    have rd : RdI h v2 us := (hv.keep hkB).rd
    rw [L7_FrontClosed_l5_s]
    unfold L7_FrontClosed_b5 L7_FrontClosed_r8
    try dsimp only
    rw [rd.lenI, st_lss, onB_ite, run_ite]
    have stop : ∃ n' h' v' zs', (E x3 (pt g 0) x11 v x13).run n h = (E x3 (pt g 0) x11 v' x13).run n' h' ∧ NewI h' lo v' zs' ∧ NumsOf N zs' ∧ zs'.length ≤ 9 ∧ Ev (fun c => lo ≤ c) n h n' h' := ⟨n, h, v, zs, rfl, x, hz, by omega, Ev.refl f⟩
    split
    · rw [st_lss, onB_ite, run_ite, if_neg (by simp; omega)]; exact stop
    · rw [onB_ite, run_ite, if_neg (by decide)]; exact stop
  | succ j ih =>
    intro i k n h v zs hij hk hkB gb hg h8 x hz hzl hn f
    obtain ⟨k, rfl⟩ : ∃ j, k = j + 1 := ⟨k - 1, by omega⟩
    have rd : RdI h v2 us := (hv.keep hkB).rd
    rw [L7_FrontClosed_l5_s]
    unfold L7_FrontClosed_b5 L7_FrontClosed_r8
    try dsimp only
    rw [rd.lenI, st_lss, onB_ite, run_ite]
    have stop : ∃ n' h' v' zs', (E x3 (pt g 0) x11 v x13).run n h = (E x3 (pt g 0) x11 v' x13).run n' h' ∧ NewI h' lo v' zs' ∧ NumsOf N zs' ∧ zs'.length ≤ 9 ∧ Ev (fun c => lo ≤ c) n h n' h' := ⟨n, h, v, zs, rfl, x, hz, by omega, Ev.refl f⟩
    split
    · rename_i hi
      have hi : i < us.length := by simp only [decide_eq_true_eq] at hi; omega
      rw [st_lss, onB_ite, run_ite]
      split
      · unfold L7_FrontClosed_r10
        try dsimp only
        have r1 := Int.tmod_lt_of_pos us[i] (show (0 : Int) < N by omega)
        have r2 := Int.lt_tmod_of_pos us[i] (show (0 : Int) < N by omega)
        obtain ⟨wa, la⟩ := wrapN_eq h1 us[i]
        rw [rd.getI hi, gb.nn, st_rem (by omega), gb.nn, sx_add (by omega), gb.nn, st_rem (by omega), wa]
        obtain ⟨h2, v2', e2, x2, ev2⟩ := x.push (β := Value) (y := 0) (z := (wrapN N us[i] : Int)) f hn (by omega)
        rw [show (Value.int .i64 0) = i64 0 from rfl, e2]
        unfold L7_FrontClosed_r9
        try dsimp only
        rw [sx_add (by omega)]
        obtain ⟨n', h', v', zs', q1, q2, q3, q4, q5⟩ := ih (i + 1) k (n + 2) h2 v2' (zs ++ [(wrapN N us[i] : Int)]) (by omega) (by omega) (fun c hc => by rw [ev2.keep c (by omega) (by omega)]; exact hkB c hc) (gb.ev ev2 (by omega) (by omega)) hg h8 x2 (fun z hz' => by
          rw [List.mem_append, List.mem_singleton] at hz'
          rcases hz' with h | rfl
          · exact hz z h
          · exact ⟨_, rfl, la⟩) (by rw [List.length_append, List.length_singleton]; omega) (by omega) ev2.f
        exact ⟨n', h', v', zs', q1, q2, q3, q4, ev2.trans q5 fun _ _ h => h⟩
      · exact stop
    · rw [onB_ite, run_ite, if_neg (by decide)]; exact stop

theorem closed_l3 {F g lo : Nat} {tv v2 x11 x12 : Value} {us zas : List Int} {hB : H} (hF : 1000000 ≤ F) (h1 : 1 ≤ N) (hN : N ≤ 25) (hv : IntsA hB v2 us) {E : Value → Value → Value → M Value} : ∀ j i k n (h : H) v zs, i + j = 9 → j < k → (∀ c, c < 8 → h.get c = hB.get c) → GB h g N tv → g < lo → 8 ≤ lo → NewI h lo v zs → NumsOf N zs → (∀ z, z ∈ zas → z ∈ zs) → zs.length ≤ i + 9 → lo ≤ n → Fr n h →
    ∃ n' h' v' zs', (L7_FrontClosed_l3 F E k v2 (pt g 0) x11 x12 v (i64 (i : Nat))).run n h = (E x11 x12 v').run n' h' ∧ NewI h' lo v' zs' ∧ NumsOf N zs' ∧ (∀ z, z ∈ zas → z ∈ zs') ∧ zs'.length ≤ 18 ∧ Ev (fun c => lo ≤ c) n h n' h' := by
  intro j
  induction j with
  | zero =>
    intro i k n h v zs hij hk hkB gb hg h8 x hz has hzl hn f
    obtain ⟨k, rfl⟩ : ∃ j, k = j + 1 := ⟨k - 1, by omega⟩
    have rd : RdI h v2 us := (hv.keep hkB).rd
    rw [L7_FrontClosed_l3_s]
    unfold L7_FrontClosed_b3 L7_FrontClosed_r13
    try dsimp only
    rw [rd.lenI, st_lss, onB_ite, run_ite]
    have stop : ∃ n' h' v' zs', (E x11 x12 v).run n h = (E x11 x12 v').run n' h' ∧ NewI h' lo v' zs' ∧ NumsOf N zs' ∧ (∀ z, z ∈ zas → z ∈ zs') ∧ zs'.length ≤ 18 ∧ Ev (fun c => lo ≤ c) n h n' h' := ⟨n, h, v, zs, rfl, x, hz, has, by omega, Ev.refl f⟩
    split
    · rw [st_lss, onB_ite, run_ite, if_neg (by simp; omega)]; exact stop
    · rw [onB_ite, run_ite, if_neg (by decide)]; exact stop
  | succ j ih =>
    intro i k n h v zs hij hk hkB gb hg h8 x hz has hzl hn f
    obtain ⟨k, rfl⟩ : ∃ j, k = j + 1 := ⟨k - 1, by omega⟩
    have rd : RdI h v2 us := (hv.keep hkB).rd
    rw [L7_FrontClosed_l3_s]
    unfold L7_FrontClosed_b3 L7_FrontClosed_r13
    try dsimp only
    rw [rd.lenI, st_lss, onB_ite, run_ite]
    have stop : ∃ n' h' v' zs', (E x11 x12 v).run n h = (E x11 x12 v').run n' h' ∧ NewI h' lo v' zs' ∧ NumsOf N zs' ∧ (∀ z, z ∈ zas → z ∈ zs') ∧ zs'.length ≤ 18 ∧ Ev (fun c => lo ≤ c) n h n' h' := ⟨n, h, v, zs, rfl, x, hz, has, by omega, Ev.refl f⟩
    split
    · rename_i hi
      have hi : i < us.length := by simp only [decide_eq_true_eq] at hi; omega
      rw [st_lss, onB_ite, run_ite]
      split
      · unfold L7_FrontClosed_r15
        try dsimp only
        have r1 := Int.tmod_lt_of_pos us[i] (show (0 : Int) < N by omega)
        have r2 := Int.lt_tmod_of_pos us[i] (show (0 : Int) < N by omega)
        obtain ⟨wa, la⟩ := wrapN_eq h1 us[i]
        rw [rd.getI hi, gb.nn, st_rem (by omega), gb.nn, sx_add (by omega), gb.nn, st_rem (by omega), wa]
        obtain ⟨h2, v2', e2, x2, ev2⟩ := x.push (β := Value) (y := 0) (z := (wrapN N us[i] : Int)) f hn (by omega)
        rw [show (Value.int .i64 0) = i64 0 from rfl, e2]
        unfold L7_FrontClosed_r14
        try dsimp only
        rw [sx_add (by omega)]
        obtain ⟨n', h', v', zs', q1, q2, q3, q4, q5, q6⟩ := ih (i + 1) k (n + 2) h2 v2' (zs ++ [(wrapN N us[i] : Int)]) (by omega) (by omega) (fun c hc => by rw [ev2.keep c (by omega) (by omega)]; exact hkB c hc) (gb.ev ev2 (by omega) (by omega)) hg h8 x2 (fun z hz' => by
          rw [List.mem_append, List.mem_singleton] at hz'
          rcases hz' with h | rfl
          · exact hz z h
          · exact ⟨_, rfl, la⟩) (fun z hz' => List.mem_append_left _ (has z hz')) (by rw [List.length_append, List.length_singleton]; omega) (by omega) ev2.f
        exact ⟨n', h', v', zs', q1, q2, q3, q4, q5, ev2.trans q6 fun _ _ h => h⟩
      · exact stop
    · rw [onB_ite, run_ite, if_neg (by decide)]; exact stop

theorem closed_l1 {F n bt q lo hi : Nat} {vl : Value} {h : H} {S : Nat → Nat → Bool} {C : Nat → Bool} {L : List Nat} (hF : 1000000 ≤ F) (fs : FS h 0 bt N S) (x : SetAt h q lo hi C) (hL : ∀ a, a ∈ L → a < N ∧ ∀ m, S a m = true → C m = true) (hv : RdI h vl (nats L)) (hLl : L.length ≤ 100000) {E : M Value} : ∀ j i k, i + j = L.length → j < k →
    (L7_FrontClosed_l1 F E k (sl bt 0 N N) (pt q 0) vl (i64 (i : Nat))).run n h = E.run n h := by
  intro j
  induction j with
  | zero =>
    intro i k hij hk
    obtain ⟨k, rfl⟩ : ∃ j, k = j + 1 := ⟨k - 1, by omega⟩
    rw [L7_FrontClosed_l1_s]
    unfold L7_FrontClosed_b1 L7_FrontClosed_r23
    try dsimp only
    rw [hv.lenI, nats_len, st_lss, onB_ite, run_ite, if_neg (by simp; omega)]
  | succ j ih =>
    intro i k hij hk
    obtain ⟨k, rfl⟩ : ∃ j, k = j + 1 := ⟨k - 1, by omega⟩
    have hi : i < L.length := by omega
    rw [L7_FrontClosed_l1_s]
    unfold L7_FrontClosed_b1 L7_FrontClosed_r23
    try dsimp only
    rw [hv.lenI, nats_len, st_lss, onB_ite, run_ite, if_pos (by simp; omega)]
    unfold L7_FrontClosed_r25
    try dsimp only
    have hil : i < (nats L).length := by rw [nats_len]; exact hi
    rw [hv.getI hil, nats_get]
    obtain ⟨haN, hSC⟩ := hL L[i] (List.getElem_mem hi)
    generalize L[i] = a at *
    obtain ⟨p, O, e1, bs, _⟩ := fs.get (β := Value) (n := n) haN
    obtain ⟨O2, x2, _⟩ := x
    rw [e1, run_bnd (in_spec (F := F) (n := n) (by omega) bs x2), subS_iff.2 hSC, st_not, onB_ite, run_ite, if_neg (by decide)]
    unfold L7_FrontClosed_r24
    try dsimp only
    rw [sx_add (by omega)]
    exact ih (i + 1) k (by omega) (by omega)
end

theorem frontclosed_run {F : Nat} (hF : 1000000 ≤ F) (hbg : gaveTrue ((L7_begun F).run 8 (baseH deB)) = true) (hbk : (((L7_begun F).run 8 (baseH deB)).map fun x => x.2.2.get 0) = some (some ⟨deB, .ro⟩)) (h : H) (us : List Value) (f : Fr 8 h) (hb : h.get 0 = some ⟨deB, .ro⟩) (ha : ArgsAre h [.int, .flat 2, .flat 1, .flat 1] us) :
    ∃ n' h', (L7_FrontClosed_m F us).run 8 h = some (.bool true, n', h') := by
  obtain ⟨_, v, va, vb, rfl, ⟨z, rfl, hz⟩, hv, hva, hvb⟩ := args4 ha
  obtain ⟨len, Z, hp, hl, hZ⟩ := hv.pairs f
  obtain ⟨az, hva, hla⟩ := hva.ints f
  obtain ⟨bz, hvb, hlb⟩ := hvb.ints f
  show ∃ n' h', (L7_FrontClosed F (i64 z) v va vb).run 8 h = some (.bool true, n', h')
  unfold L7_FrontClosed L7_FrontClosed_r0 L7_FrontClosed_r1
  try dsimp only
  obtain ⟨n1, h1, e1, f1, l1, k1⟩ := run_over_true hbg hbk f hb
  rw [run_bnd e1]
  have z1 : h1.get 0 = some ⟨deB, .ro⟩ := (k1 0 (by omega)).trans hb
  unfold L7_FrontClosed_r2
  simp only [st_not, onB_ite, Bool.not_true, Bool.false_eq_true, if_false]
  unfold L7_FrontClosed_r4
  try dsimp only
  obtain ⟨n2, h2, g, ob, O, e2, x2, ev2⟩ := made_var (F := F) hF l1 hz hZ (hp.keep k1) f1
  rw [show (Value.int .i64 0) = i64 0 from rfl, show (Value.slice none 0 0) = nsl from rfl, e2]
  generalize nodesOf z = N at *
  generalize madeL N Z (min len 80) = adj at *
  have gr2 := x2.gr ev2.f
  have hN := x2.few
  have hN1 := x2.pos
  have hgl := x2.glt
  have le2 := ev2.le
  unfold L7_FrontClosed_r5
  try dsimp only
  obtain ⟨n3, h3, bt, S, e3, x3, s3, ev3⟩ := frt_in (F := F) (root := 0) hF gr2 (Nat.le_refl _) x2.ok (by omega) ev2.f
  have le3 := ev3.le
  rw [x2.var.all, show (Value.int .i64 0) = i64 ((0 : Nat) : Int) from rfl, run_bnd e3]
  have gb3 := x2.var.ev ev3 x2.glt (fun h => h)
  have ev13 : Ev No n1 h1 n3 h3 := ev2.trans ev3 fun _ _ h => h
  have k3 : ∀ c, c < 8 → h3.get c = h.get c := fun c hc => by rw [ev13.no (by omega)]; exact k1 c hc
  have hSN : ∀ a m, S a m = true → m < N := fun a m hm => by
    obtain ⟨p, q1, q2, _⟩ := (s3 a m).1 hm
    have hpN : p < N := rch_few x2.ok (by omega) q1
    exact x2.ok.lt p hpN m q2
  have fs3 : FS h3 0 bt N S := x3.mono (Nat.zero_le _)
  unfold L7_FrontClosed_r6 L7_FrontClosed_r7
  try dsimp only
  rw [show (Value.slice none 0 0) = nsl from rfl, show (Value.int .i64 0) = i64 ((0 : Nat) : Int) from rfl]
  obtain ⟨n4, h4, v4, zs4, e4, x4, nz4, hl4, ev4⟩ := closed_l5 (F := F) (N := N) (g := g) (lo := n3) (v2 := va) (x3 := vb) (x11 := sl bt 0 N N) (x13 := nsl) (us := az) (hB := h) hF hN1 hN hva (E := fun x3 x10 x11 x12 x13 => L7_FrontClosed_k4 F x3 x10 x11 x12 x13) 9 0 F n3 h3 nsl [] (by omega) (by omega) k3 gb3 (by omega) (by omega) NewI.nil (fun z hz => by cases hz) (by simp) (Nat.le_refl _) ev3.f
  rw [e4]
  have le4 := ev4.le
  have k4 : ∀ c, c < n3 → h4.get c = h3.get c := fun c hc => ev4.keep c hc (by omega)
  have ev4' : Ev No n3 h3 n4 h4 := ⟨ev4.f, le4, fun c hc _ => k4 c hc⟩
  have gb4 := gb3.ev ev4' (by omega) (fun h => h)
  unfold L7_FrontClosed_k4 L7_FrontClosed_r11
  try dsimp only
  obtain ⟨n5, h5, v5, e5, x5, ev5⟩ := app_nil (β := Value) x4 ev4.f (by omega)
  rw [e5]
  have le5 := ev5.le
  have gb5 := gb4.ev ev5 (by omega) (fun h => h)
  unfold L7_FrontClosed_r12
  try dsimp only
  have k5 : ∀ c, c < 8 → h5.get c = h.get c := fun c hc => by rw [ev5.no (by omega), k4 c (by omega)]; exact k3 c hc
  obtain ⟨n6, h6, v6, zs6, e6, x6, nz6, has6, hl6, ev6⟩ := closed_l3 (F := F) (N := N) (g := g) (lo := n4) (v2 := vb) (x11 := sl bt 0 N N) (x12 := v4) (us := bz) (zas := zs4) (hB := h) hF hN1 hN hvb (E := fun x11 x12 x13 => L7_FrontClosed_k2 F x11 x12 x13) 9 0 F n5 h5 v5 zs4 (by omega) (by omega) k5 gb5 (by omega) (by omega) x5 nz4 (fun z hz => hz) (by omega) (by omega) ev5.f
  rw [show (Value.int .i64 0) = i64 ((0 : Nat) : Int) from rfl, e6]
  have le6 := ev6.le
  have ev46 : Ev No n4 h4 n6 h6 := ev5.trans ev6 fun c hc q => by omega
  have ra4 : RdI h4 v4 zs4 := x4.rd
  have ra6 : RdI h6 v4 zs4 := ra4.kept ev4.f fun c hc => ev46.no hc
  have rb6 : RdI h6 v6 zs6 := x6.rd
  have ev36 : Ev No n3 h3 n6 h6 := ev4'.trans ev46 fun _ _ h => h
  have ev16 : Ev No n1 h1 n6 h6 := ev13.trans ev36 fun _ _ h => h
  unfold L7_FrontClosed_k2 L7_FrontClosed_r16
  try dsimp only
  -- the first set and what comes of it
  obtain ⟨n7, h7, e7, y7, ev7⟩ := ofR_spec (F := F) (by omega) (by omega) (by omega) ra6 ev6.f
  rw [run_bnd e7]
  have le7 := ev7.le
  have ev37 : Ev No n3 h3 n7 h7 := ev36.trans ev7 fun _ _ h => h
  have ev17 : Ev No n1 h1 n7 h7 := ev16.trans ev7 fun _ _ h => h
  obtain ⟨O7, b7, o7⟩ := y7
  obtain ⟨n8, h8, q8, C, e8, y8, c8, ev8⟩ := closure_spec (F := F) (N := N) (bt := bt) hF (by omega) ev7.f (fs3.kept ev3.f fun c hc _ => ev37.no hc) hSN (by omega) ((ev17.no (by omega)).trans z1) b7 (fun a h => nz4.set h)
  rw [run_bnd e8]
  have le8 := ev8.le
  have ev38 : Ev No n3 h3 n8 h8 := ev37.trans ev8 fun _ _ h => h
  have ev18 : Ev No n1 h1 n8 h8 := ev17.trans ev8 fun _ _ h => h
  have ev68 : Ev No n6 h6 n8 h8 := ev7.trans ev8 fun _ _ h => h
  -- the second one
  obtain ⟨n9, h9, e9, y9, ev9⟩ := ofR_spec (F := F) (by omega) (by omega) (by omega) (rb6.kept ev6.f fun c hc => ev68.no hc : RdI h8 v6 zs6) ev8.f
  rw [run_bnd e9]
  have le9 := ev9.le
  have ev39 : Ev No n3 h3 n9 h9 := ev38.trans ev9 fun _ _ h => h
  have ev19 : Ev No n1 h1 n9 h9 := ev18.trans ev9 fun _ _ h => h
  obtain ⟨O9, b9, o9⟩ := y9
  obtain ⟨nA, hA, qA, D, eA, yA, cA, evA⟩ := closure_spec (F := F) (N := N) (bt := bt) hF (by omega) ev9.f (fs3.kept ev3.f fun c hc _ => ev39.no hc) hSN (by omega) ((ev19.no (by omega)).trans z1) b9 (fun a h => nz6.set h)
  rw [run_bnd eA]
  have leA := evA.le
  have ev8A : Ev No n8 h8 nA hA := ev9.trans evA fun _ _ h => h
  have ev3A : Ev No n3 h3 nA hA := ev38.trans ev8A fun _ _ h => h
  have ev1A : Ev No n1 h1 nA hA := ev18.trans ev8A fun _ _ h => h
  have y8A : SetAt hA q8 n7 n8 C := y8.keep ev8A (Nat.le_refl _) fun c h _ => h.elim
  have fsA : FS hA 0 bt N S := fs3.kept ev3.f fun c hc _ => ev3A.no hc
  unfold L7_FrontClosed_r17
  try dsimp only
  have hCD : subS C D = true := subS_iff.2 fun m hm => (cA m).2 (((c8 m).1 hm).mono fun a ha => by
    rw [setOf_iff] at ha ⊢
    exact ⟨has6 _ ha.1, ha.2⟩)
  rw [run_bnd (at_in (F := F) (n := nA) (by omega) y8A yA), hCD, st_not, onB_ite, run_ite, if_neg (by decide)]
  have hCN : ∀ a, C a = true → a < N := fun a ha => by
    cases (c8 a).1 ha with
    | one _ h => exact hSN _ _ h
    | step _ h => exact hSN _ _ h
  obtain ⟨OC, bC, oC⟩ := y8A
  obtain ⟨nB, hB', qB, G, eB, yB, cB, evB⟩ := closure_spec (F := F) (N := N) (bt := bt) hF (by omega) evA.f fsA hSN (by omega) ((ev1A.no (by omega)).trans z1) bC hCN
  rw [run_bnd eB]
  have leB := evB.le
  have ev3B : Ev No n3 h3 nB hB' := ev3A.trans evB fun _ _ h => h
  have ev6B : Ev No n6 h6 nB hB' := ((ev68.trans ev8A fun _ _ h => h).trans evB fun _ _ h => h)
  have ev1B : Ev No n1 h1 nB hB' := ev1A.trans evB fun _ _ h => h
  have y8B : SetAt hB' q8 n7 n8 C := (show SetAt hA q8 n7 n8 C from ⟨OC, bC, oC⟩).keep evB (by omega) fun c h _ => h.elim
  have hGC : subS G C = true := subS_iff.2 fun m hm => by
    have := (cB m).1 hm
    rw [c8]
    induction this with
    | one h1 h2 => exact .step ((c8 _).1 h1) h2
    | step h1 h2 ih => exact .step (ih ((cB _).2 h1)) h2
  rw [run_bnd (at_in (F := F) (n := nB) (by omega) yB y8B), hGC, st_not, onB_ite, run_ite, if_neg (by decide)]
  unfold L7_FrontClosed_r19
  try dsimp only
  obtain ⟨nC, hC', eC, yC, evC⟩ := ofR_spec (F := F) (by omega) (by omega) (by omega) (ra6.kept ev6.f fun c hc => ev6B.no hc : RdI hB' v4 zs4) evB.f
  rw [run_bnd eC]
  have leC := evC.le
  have y8C : SetAt hC' q8 n7 n8 C := y8B.keep evC (by omega) fun c h _ => h.elim
  unfold L7_FrontClosed_r20
  try dsimp only
  obtain ⟨nD, hD, eD, yD, evD⟩ := at_join (F := F) (n := nC) (by omega) yC y8C (.inl (by omega)) (by omega) evC.f
  rw [run_bnd eD]
  have leD := evD.le
  have evBD : Ev No nB hB' nD hD := evC.trans evD fun c hc q => by omega
  have ev1D : Ev No n1 h1 nD hD := ev1B.trans evBD fun _ _ h => h
  unfold L7_FrontClosed_r21
  try dsimp only
  obtain ⟨nE, hE, vE, eE, nwE, evE⟩ := at_all (F := F) (by omega) (by omega) ((ev1D.no (by omega)).trans z1) yD evD.f
  rw [run_bnd eE]
  have evBE : Ev No nB hB' nE hE := evBD.trans evE fun _ _ h => h
  have y8E : SetAt hE q8 n7 n8 C := y8B.keep evBE (by omega) fun c h _ => h.elim
  have ev3E : Ev No n3 h3 nE hE := ev3B.trans evBE fun _ _ h => h
  have fsE : FS hE 0 bt N S := fs3.kept ev3.f fun c hc _ => ev3E.no hc
  unfold L7_FrontClosed_r22
  try dsimp only
  have hlen : (setL fun m => setOf zs4 m || C m).length ≤ 5120 := by
    have := upTo_len (s := fun m => setOf zs4 m || C m) (k := 80)
    unfold setL; omega
  have sm : ∀ m, (setOf zs4 m || C m) = true → m < N := fun m hm => by
    rw [Bool.or_eq_true] at hm
    rcases hm with h | h
    · exact nz4.set h
    · exact hCN m h
  rw [show (Value.int .i64 0) = i64 ((0 : Nat) : Int) from rfl, closed_l1 (F := F) (n := nE) (L := setL fun m => setOf zs4 m || C m) hF fsE y8E (fun a ha => by
    have ha' := (setL_memS (fun m hm => by have := sm m hm; omega)).1 ha
    refine ⟨sm a ha', fun m hm => (c8 m).2 ?_⟩
    rw [Bool.or_eq_true] at ha'
    rcases ha' with h | h
    · exact .one h hm
    · exact .step ((c8 a).1 h) hm) nwE.rd (by omega) (setL fun m => setOf zs4 m || C m).length 0 F (by omega) (by omega)]
  exact ⟨nE, hE, rfl⟩

theorem frontclosed_law (h : H) (us : List Value) (f : Fr 8 h) (hb : h.get 0 = some ⟨deB, .ro⟩) (ha : ArgsAre h [.int, .flat 2, .flat 1, .flat 1] us) : ∃ n' h', (L7_FrontClosed_m 1000000 us).run 8 h = some (.bool true, n', h') := frontclosed_run (Nat.le_refl _) begunF_runs begunF_keeps h us f hb ha

end Go.Fw
