/-
  DomUp, said of the abstract machine.
-/
import Derived.Test.YtmkpboaigdnpnaaLawUp
import Derived.Test.YtmkpboaigdnpnaaLawDomE
import Derived.Test.YtmkpboaigdnpnaaLawCRef
set_option maxRecDepth 20000
namespace Go.Fw

theorem Gr.kept {h h' : H} {m N : Nat} {tv : Value} {adj : Nat → List Nat} (g : Gr h m tv N adj) (hk : ∀ c, c < m → h'.get c = h.get c) : Gr h' m tv N adj := by
  obtain ⟨h1, h0, f0, k0, q⟩ := g
  exact ⟨h1, h0, f0, fun c hc => (hk c hc).trans (k0 c hc), q⟩

theorem TI.rdI {h : H} {b N : Nat} {u : Nat → Int} (t : TI h b N u) : RdI h (sl b 0 N N) ((List.range N).map u) := by
  have := TV.rd t
  unfold RdI
  rw [List.map_map]
  exact this

section
variable {adj : Nat → List Nat} {N root : Nat} {o : List Nat} {place : Nat → Nat} {up : Nat → Int}

/-- What stays as it is while the law looks at all. -/
structure DU (adj : Nat → List Nat) (N : Nat) (up : Nat → Int) (h : H) (m g bu bw bd : Nat) (tv : Value) (u d : Nat → Int) : Prop where
  gr : Gr h m tv N adj
  gb : GB h g N tv
  tu : TI h bu N up
  tw : TI h bw N u
  td : TI h bd N d
  lt : g < m ∧ bu < m ∧ bw < m ∧ bd < m
  vq : veq tv tv = true

theorem DU.kept {h h' : H} {m g bu bw bd : Nat} {tv : Value} {u d : Nat → Int} (x : DU adj N up h m g bu bw bd tv u d) (hk : ∀ c, c < m → h'.get c = h.get c) : DU adj N up h' m g bu bw bd tv u d :=
  ⟨x.gr.kept hk, by unfold GB; rw [hk g x.lt.1]; exact x.gb, x.tu.keep (hk _ x.lt.2.1), x.tw.keep (hk _ x.lt.2.2.1), x.td.keep (hk _ x.lt.2.2.2), x.lt, x.vq⟩

theorem du_l5 {F bw n : Nat} {h : H} {u : Nat → Int} {x8 x9 x11 x12 : Value} (P : Pl adj N root o place) (D : DomT adj root o place up) (tw : TI h bw N u) (hu : ∀ q, q < N → u q = up q) {E : Value → Value → Value → Value → Value → Value → Value → M Value} : ∀ q k x c, Stp up root x q → x ∈ o → q < k → q + c < 100000 →
    (L6_DomUp_l5 F E k (i64 (root : Int)) x8 x9 (sl bw 0 N N) x11 x12 (i64 (c : Nat)) (i64 (x : Nat))).run n h = (E (i64 (root : Int)) x8 x9 (sl bw 0 N N) x11 x12 (i64 ((c + q : Nat) : Int))).run n h := by
  intro q
  induction q with
  | zero =>
    intro k x c hs hx hk hc
    obtain ⟨k, rfl⟩ : ∃ j, k = j + 1 := ⟨k - 1, by omega⟩
    cases hs
    rw [L6_DomUp_l5_s]
    unfold L6_DomUp_b5 L6_DomUp_r19
    try dsimp only
    rw [st_neq]
    simp only [onB_ite, run_ite]
    rw [if_neg (by simp)]
    rfl
  | succ q ih =>
    intro k x c hs hx hk hc
    obtain ⟨k, rfl⟩ : ∃ j, k = j + 1 := ⟨k - 1, by omega⟩
    cases hs with
    | @succ _ y _ h1 h2 h3 =>
    have hxN := P.ord.lt x hx
    have hd := D.inv.dec x y h1 h2
    rw [L6_DomUp_l5_s]
    unfold L6_DomUp_b5 L6_DomUp_r19
    try dsimp only
    rw [st_neq]
    simp only [onB_ite, run_ite]
    rw [if_pos (by rw [bne_iff_ne]; omega)]
    unfold L6_DomUp_r21 L6_DomUp_r20
    try dsimp only
    rw [sx_add (by omega), tw.get hxN, hu x hxN, h2]
    have := ih k y (c + 1) h3 (D.inv.mem hd.1) (by omega) (by omega)
    rw [show c + 1 + q = c + (q + 1) by omega] at this
    exact this

theorem du_l3 {F m g bu bw bd a : Nat} {tv : Value} {u d : Nat → Int} {hB : H} (hF : 1000000 ≤ F) (ok : GOk N adj) (P : Pl adj N root o place) (D : DomT adj root o place up) (xB : DU adj N up hB m g bu bw bd tv u d) (ha : a < N) {E : Value → Value → Value → Value → Value → Value → M Value} : ∀ j i k n (h : H), i + j = N → j < k → (∀ c, c < m → h.get c = hB.get c) → m ≤ n → Fr n h →
    ∃ n' h', (L6_DomUp_l3 F E k (i64 (root : Int)) (pt g 0) (sl bu 0 N N) (sl bw 0 N N) (sl bd 0 N N) (i64 (a : Nat)) (i64 (i : Nat))).run n h = (E (i64 (root : Int)) (pt g 0) (sl bu 0 N N) (sl bw 0 N N) (sl bd 0 N N) (i64 (a : Nat))).run n' h' ∧ (∀ c, c < m → h'.get c = hB.get c) ∧ m ≤ n' ∧ Fr n' h' := by
  have hN := ok.few
  have hr := P.ord.lt root P.mem_root
  intro j
  induction j with
  | zero =>
    intro i k n h hij hk hkB hm f
    obtain ⟨k, rfl⟩ : ∃ j, k = j + 1 := ⟨k - 1, by omega⟩
    have x := xB.kept hkB
    rw [L6_DomUp_l3_s]
    unfold L6_DomUp_b3 L6_DomUp_r25
    try dsimp only
    rw [x.gb.nn, st_lss]
    simp only [onB_ite, run_ite, decide_eq_true_eq]
    rw [if_neg (by omega)]
    exact ⟨n, h, rfl, hkB, hm, f⟩
  | succ j ih =>
    intro i k n h hij hk hkB hm f
    obtain ⟨k, rfl⟩ : ∃ j, k = j + 1 := ⟨k - 1, by omega⟩
    have hi : i < N := by omega
    have x := xB.kept hkB
    rw [L6_DomUp_l3_s]
    unfold L6_DomUp_b3 L6_DomUp_r25
    try dsimp only
    rw [x.gb.nn, st_lss]
    simp only [onB_ite, run_ite, decide_eq_true_eq]
    rw [if_pos (by omega)]
    unfold L6_DomUp_r27
    try dsimp only
    have hone : veq tv tv = true := x.vq
    rw [st_field, Nat.zero_add, ld1 x.gb (by decide) rfl, run_bnd (above_nat hF P D x.tu hN a i), run_chk (cs := [i64 N, tv]) x.gb (by decide) rfl hone]
    obtain ⟨n1, h1, e1, ev1⟩ := rabove_spec (F := F) (root := root) (a := a) (b := i) hF x.gr hm ok hr ha hi f
    rw [run_bnd e1, st_eqB]
    simp only [onB_ite, run_ite]
    rw [if_neg (by cases domB adj root a i <;> decide)]
    unfold L6_DomUp_r26
    try dsimp only
    rw [sx_add (by omega)]
    exact ih (i + 1) k n1 h1 (by omega) (by omega) (fun c hc => by rw [ev1.no (by omega)]; exact hkB c hc) (by have := ev1.le; omega) ev1.f
theorem du_l1 {F m g bu bw bd : Nat} {tv : Value} {u d : Nat → Int} {hB : H} (hF : 1000000 ≤ F) (ok : GOk N adj) (P : Pl adj N root o place) (D : DomT adj root o place up) (xB : DU adj N up hB m g bu bw bd tv u d) (hu : ∀ q, q < N → u q = up q) (hd : ∀ q, q < N → DepOf up root o d q) {E : Value → Value → M Value} : ∀ j i k n (h : H), i + j = N → j < k → (∀ c, c < m → h.get c = hB.get c) → m ≤ n → Fr n h →
    ∃ n' h', (L6_DomUp_l1 F E k (i64 (root : Int)) (pt g 0) (sl bu 0 N N) (sl bw 0 N N) (sl bd 0 N N) (i64 (i : Nat))).run n h = (E (pt g 0) (sl bu 0 N N)).run n' h' ∧ (∀ c, c < m → h'.get c = hB.get c) ∧ m ≤ n' ∧ Fr n' h' := by
  have hN := ok.few
  intro j
  induction j with
  | zero =>
    intro i k n h hij hk hkB hm f
    obtain ⟨k, rfl⟩ : ∃ j, k = j + 1 := ⟨k - 1, by omega⟩
    have x := xB.kept hkB
    rw [L6_DomUp_l1_s]
    unfold L6_DomUp_b1 L6_DomUp_r13
    try dsimp only
    rw [x.gb.nn, st_lss]
    simp only [onB_ite, run_ite, decide_eq_true_eq]
    rw [if_neg (by omega)]
    exact ⟨n, h, rfl, hkB, hm, f⟩
  | succ j ih =>
    intro i k n h hij hk hkB hm f
    obtain ⟨k, rfl⟩ : ∃ j, k = j + 1 := ⟨k - 1, by omega⟩
    have hi : i < N := by omega
    have x := xB.kept hkB
    rw [L6_DomUp_l1_s]
    unfold L6_DomUp_b1 L6_DomUp_r13
    try dsimp only
    rw [x.gb.nn, st_lss]
    simp only [onB_ite, run_ite, decide_eq_true_eq]
    rw [if_pos (by omega)]
    have fin : (L6_DomUp_k4 F (L6_DomUp_l1 F E k) (i64 (root : Int)) (pt g 0) (sl bu 0 N N) (sl bw 0 N N) (sl bd 0 N N) (i64 (i : Nat)) (i64 (d i))).run n h = (L6_DomUp_k4 F (L6_DomUp_l1 F E k) (i64 (root : Int)) (pt g 0) (sl bu 0 N N) (sl bw 0 N N) (sl bd 0 N N) (i64 (i : Nat)) (i64 (d i))).run n h → ∃ n' h', (L6_DomUp_k4 F (L6_DomUp_l1 F E k) (i64 (root : Int)) (pt g 0) (sl bu 0 N N) (sl bw 0 N N) (sl bd 0 N N) (i64 (i : Nat)) (i64 (d i))).run n h = (E (pt g 0) (sl bu 0 N N)).run n' h' ∧ (∀ c, c < m → h'.get c = hB.get c) ∧ m ≤ n' ∧ Fr n' h' := fun _ => by
      unfold L6_DomUp_k4 L6_DomUp_r22
      try dsimp only
      rw [st_len, x.gb.nn, st_neq]
      simp only [onB_ite, run_ite]
      rw [if_neg (by simp), x.td.get hi, st_neq]
      rw [onB_ite, run_ite, if_neg (by simp)]
      unfold L6_DomUp_r24
      try dsimp only
      obtain ⟨n1, h1, e1, k1, l1, f1⟩ := du_l3 (F := F) hF ok P D xB hi (E := fun x2 x8 x9 x10 x11 x12 => L6_DomUp_k2 F (L6_DomUp_l1 F E k) x2 x8 x9 x10 x11 x12) N 0 F n h (by omega) (by omega) hkB hm f
      rw [show (Value.int .i64 0) = i64 ((0 : Nat) : Int) from rfl, e1]
      unfold L6_DomUp_k2 L6_DomUp_r14
      try dsimp only
      rw [sx_add (by omega)]
      exact ih (i + 1) k n1 h1 (by omega) (by omega) k1 l1 f1
    unfold L6_DomUp_r15 L6_DomUp_r16
    try dsimp only
    rw [x.tw.get hi, hu i hi, st_geq]
    simp only [onB_ite, run_ite, decide_eq_true_eq]
    rcases hd i hi with ⟨h1, h2⟩ | ⟨q, h1, h2, h3⟩
    · have hun := (D.inv.dom i).resolve_right fun q => h1 q.1
      rw [if_neg (by omega), show (Value.int .i64 (-1)) = i64 (d i) by rw [h2]]
      exact fin rfl
    · obtain ⟨y, hy⟩ := D.inv.nat (D.all i h1)
      rw [if_pos (by omega)]
      unfold L6_DomUp_r17 L6_DomUp_r18
      try dsimp only
      obtain ⟨k', k1, k2⟩ := stp_of P D (place i) i (Nat.le_refl _) h1
      have hqk := h3.uniq k2
      obtain ⟨p1, _⟩ := P.at_ h1
      have hol := nodup_len P.ord.nodup P.ord.lt
      have := du_l5 (F := F) (n := n) (x8 := pt g 0) (x9 := sl bu 0 N N) (x11 := sl bd 0 N N) (x12 := i64 (i : Nat)) P D x.tw hu (E := fun x2 x8 x9 x10 x11 x12 x13 => L6_DomUp_k4 F (L6_DomUp_l1 F E k) x2 x8 x9 x10 x11 x12 x13) q F i 0 h3 h1 (by omega) (by omega)
      rw [show (Value.int .i64 0) = i64 ((0 : Nat) : Int) from rfl, this, Nat.zero_add, ← h2]
      exact fin rfl
end

theorem domup_run {F : Nat} (hF : 1000000 ≤ F) (hbg : gaveTrue ((L6_begun F).run 8 .leaf) = true) (h : H) (us : List Value) (f : Fr 8 h) (ha : ArgsAre h [.int, .flat 2, .int] us) :
    ∃ n' h', (L6_DomUp_m F us).run 8 h = some (.bool true, n', h') := by
  obtain ⟨_, v, _, rfl, ⟨z, rfl, hz⟩, hv, ⟨r, rfl, hzr⟩⟩ := args3 ha
  obtain ⟨len, Z, hp, hl, hZ⟩ := hv.pairs f
  show ∃ n' h', (L6_DomUp F (i64 z) v (i64 r)).run 8 h = some (.bool true, n', h')
  unfold L6_DomUp L6_DomUp_r0 L6_DomUp_r1
  try dsimp only
  obtain ⟨n1, h1, e1, f1, l1, k1⟩ := run_true hbg f
  rw [run_bnd e1]
  unfold L6_DomUp_r2
  simp only [st_not, onB_ite, Bool.not_true, Bool.false_eq_true, if_false]
  unfold L6_DomUp_r4
  try dsimp only
  obtain ⟨n2, h2, g, ob, O, e2, x2, ev2⟩ := made_var (F := F) hF l1 hz hZ (hp.keep k1) f1
  rw [show (Value.int .i64 0) = i64 0 from rfl, show (Value.slice none 0 0) = nsl from rfl, e2]
  generalize nodesOf z = N at *
  generalize madeL N Z (min len 80) = adj at *
  have gr2 := x2.gr ev2.f
  have hN := x2.few
  have hN1 := x2.pos
  have hgl := x2.glt
  unfold L6_DomUp_r5
  try dsimp only
  rw [x2.var.all]
  by_cases hr : 0 ≤ r ∧ r < (N : Int)
  · obtain ⟨root, rfl⟩ : ∃ root : Nat, r = (root : Int) := ⟨r.toNat, by omega⟩
    obtain ⟨n3, h3, bu, up, o, place, e3, t3, P, D, lb3, ev3⟩ := up_in (F := F) (root := root) hF gr2 (Nat.le_refl _) x2.ok (by omega) ev2.f
    have le3 := ev3.le
    rw [run_bnd e3]
    have gb3 := x2.var.ev ev3 x2.glt (fun h => h)
    have gr3 := gr2.no ev3 (Nat.le_refl _)
    unfold L6_DomUp_r6
    try dsimp only
    rw [st_lss]
    simp only [onB_ite, run_ite, decide_eq_true_eq]
    rw [if_neg (by omega), gb3.nn, st_geq]
    simp only [onB_ite, run_ite, decide_eq_true_eq]
    rw [if_neg (by omega)]
    unfold L6_DomUp_r8
    try dsimp only
    obtain ⟨n4, h4, bw, u, e4, t4, q4, lb4, ev4⟩ := rup_spec (F := F) hF gr3 le3 x2.ok P D ev3.f
    have le4 := ev4.le
    rw [gb3.t, run_bnd e4]
    have gb4 := gb3.ev ev4 (by omega) (fun h => h)
    have gr4 := gr3.no ev4 (by omega)
    have tu4 := t3.ev ev4 (TV.lt t3 ev3.f) (fun h => h)
    have heq : (List.range N).map up = (List.range N).map u := by
      apply List.map_congr_left
      intro q hq
      rw [List.mem_range] at hq
      exact (q4 q hq).symm
    unfold L6_DomUp_r9
    try dsimp only
    rw [run_bnd (req_spec (TI.rdI tu4) (TI.rdI t4) (by rw [List.length_map, List.length_range]; omega) (by rw [List.length_map, List.length_range]; omega)), decide_eq_true heq, st_not]
    simp only [onB_ite, run_ite]
    rw [if_neg (by decide)]
    unfold L6_DomUp_r11
    try dsimp only
    obtain ⟨h5, d, e5, t5, q5, ev5⟩ := depth_spec (F := F) hF P D tu4 (by omega) ev4.f
    rw [run_bnd e5]
    have xB : DU adj N up h5 (n4 + 1) g bu bw n4 (sl ob 0 N N) u d := ⟨(gr4.no ev5 (by omega)).mono ev5.f (by omega), gb4.ev ev5 (by omega) (fun h => h), tu4.ev ev5 (TV.lt tu4 ev4.f) (fun h => h), t4.ev ev5 (TV.lt t4 ev4.f) (fun h => h), t5, ⟨by omega, by have := TV.lt tu4 ev4.f; omega, by have := TV.lt t4 ev4.f; omega, by omega⟩, by simp [veq]⟩
    unfold L6_DomUp_r12
    try dsimp only
    obtain ⟨n6, h6, e6, k6, l6, f6⟩ := du_l1 (F := F) hF x2.ok P D xB q4 q5 (E := fun x8 x9 => L6_DomUp_k0 F x8 x9) N 0 F (n4 + 1) h5 (by omega) (by omega) (fun _ _ => rfl) (Nat.le_refl _) ev5.f
    rw [show (Value.int .i64 0) = i64 ((0 : Nat) : Int) from rfl, e6]
    have x6 := xB.kept k6
    unfold L6_DomUp_k0 L6_DomUp_r29
    try dsimp only
    rw [show (Value.int .i64 (-1)) = i64 (-1) from rfl, show (Value.int .i64 0) = i64 ((0 : Nat) : Int) from rfl, run_bnd (above_neg x6.tu _), st_not]
    simp only [onB_ite, run_ite]
    rw [if_pos (by decide), x6.gb.nn, run_bnd (above_nat hF P D x6.tu (by omega) 0 N), domB_false fun q => by
      have := P.ord.lt N ((P.ord.mem N).2 q.1)
      omega, st_not]
    exact ⟨n6, h6, rfl⟩
  · obtain ⟨n3, h3, e3, ev3⟩ := up_out (F := F) hF gr2 (Nat.le_refl _) x2.ok (show r < 0 ∨ (N : Int) ≤ r by omega) ev2.f
    rw [run_bnd e3]
    have gb3 := x2.var.ev ev3 x2.glt (fun h => h)
    unfold L6_DomUp_r6
    try dsimp only
    have fin : ∃ n' h', (L6_DomUp_r7 F nsl fun x6 => ret x6).run n3 h3 = some (.bool true, n', h') := by
      unfold L6_DomUp_r7
      try dsimp only
      rw [st_len, st_eql]
      exact ⟨n3, h3, rfl⟩
    rw [st_lss]
    simp only [onB_ite, run_ite, decide_eq_true_eq]
    by_cases h0 : r < 0
    · rw [if_pos h0, if_pos trivial]; exact fin
    · rw [if_neg h0, gb3.nn, st_geq]
      simp only [onB_ite, run_ite, decide_eq_true_eq]
      rw [if_pos (by omega)]; exact fin

theorem domup_law (h : H) (us : List Value) (f : Fr 8 h) (ha : ArgsAre h [.int, .flat 2, .int] us) : ∃ n' h', (L6_DomUp_m 1000000 us).run 8 h = some (.bool true, n', h') := domup_run (Nat.le_refl _) begun6c_runs h us f ha

end Go.Fw
