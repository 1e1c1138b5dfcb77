/-
  dom.in, Above and Depth; haruspexref1.Above: said of the abstract machine.
-/
import Derived.Test.YtmkpboaigdnpnaaLawDomB
import Derived.Test.YtmkpboaigdnpnaaLawReach
set_option maxRecDepth 20000
namespace Go.Fw

/-- Does one stand above another? -/
noncomputable def domB (adj : Nat → List Nat) (root a b : Nat) : Bool := @decide (Dom adj root a b) (Classical.propDecidable _)
theorem domB_iff {adj : Nat → List Nat} {root a b : Nat} : domB adj root a b = true ↔ Dom adj root a b := by
  unfold domB
  rw [@decide_eq_true_eq _ (Classical.propDecidable _)]
theorem domB_false {adj : Nat → List Nat} {root a b : Nat} (h : ¬ Dom adj root a b) : domB adj root a b = false := by
  cases hq : domB adj root a b with
  | false => rfl
  | true => exact absurd (domB_iff.1 hq) h

section
variable {adj : Nat → List Nat} {N root : Nat} {o : List Nat} {place : Nat → Nat} {up : Nat → Int}

/-- A number is a node that is known. -/
def inU (N : Nat) (up : Nat → Int) (z : Int) : Bool := decide (0 ≤ z) && (decide (z < (N : Int)) && decide (0 ≤ up z.toNat))

theorem in_spec' {F bu n : Nat} {h : H} (tu : TI h bu N up) (z : Int) : (dom_in F (sl bu 0 N N) (i64 z)).run n h = some (bo (inU N up z), n, h) := by
  unfold dom_in dom_in_r0 dom_in_r1
  try dsimp only
  rw [st_geq]
  simp only [onB_ite, run_ite, decide_eq_true_eq]
  unfold inU
  by_cases h1 : 0 ≤ z
  · rw [if_pos h1, decide_eq_true h1, st_len, st_lss]
    simp only [onB_ite, run_ite, decide_eq_true_eq]
    by_cases h2 : z < (N : Int)
    · rw [if_pos h2, decide_eq_true h2]
      obtain ⟨a, rfl⟩ : ∃ a : Nat, z = (a : Int) := ⟨z.toNat, by omega⟩
      rw [tu.get (by omega), st_geq]
      rfl
    · rw [if_neg h2, decide_eq_false h2]; rfl
  · rw [if_neg h1, decide_eq_false h1]; rfl

theorem inU_nat (P : Pl adj N root o place) (D : DomT adj root o place up) (hz : ∀ a, N ≤ a → up a = -1 ∨ True) (a : Nat) : inU N up (a : Int) = decide (a ∈ o) := by
  unfold inU
  rw [Int.toNat_natCast, decide_eq_true (show (0 : Int) ≤ (a : Int) by omega), Bool.true_and]
  by_cases h : a ∈ o
  · have h1 := D.all a h
    obtain ⟨b, hb⟩ := D.inv.nat h1
    have h2 := P.ord.lt a h
    rw [decide_eq_true h, decide_eq_true (by omega), decide_eq_true (by omega)]; rfl
  · rw [decide_eq_false h]
    rw [Bool.and_eq_false_iff]
    by_cases h2 : (a : Int) < N
    · right
      rcases D.inv.dom a with h3 | h3
      · rw [h3]; rfl
      · exact absurd h3.1 h
    · left; exact decide_eq_false h2

theorem above_l1 {F bu n : Nat} {h : H} {a : Nat} (P : Pl adj N root o place) (D : DomT adj root o place up) (tu : TI h bu N up) (hN : N ≤ 600) {E : M Value} (hE : E.run n h = some (bo false, n, h)) : ∀ j i k b, i + j = N → j < k → b ∈ o → (place b < j ∨ (b = root ∧ a ≠ root)) →
    (dom_Above_l1 F E k (sl bu 0 N N) (i64 (a : Int)) (i64 (b : Int)) (i64 N) (i64 (i : Nat))).run n h = some (bo (domB adj root a b), n, h) := by
  intro j
  induction j with
  | zero =>
    intro i k b hij hk hb hp
    obtain ⟨k, rfl⟩ : ∃ j, k = j + 1 := ⟨k - 1, by omega⟩
    rw [dom_Above_l1_s]
    unfold dom_Above_b1 dom_Above_r4
    try dsimp only
    rw [st_lss]
    simp only [onB_ite, run_ite, decide_eq_true_eq]
    rw [if_neg (by omega)]
    rcases hp with hp | ⟨rfl, hp⟩
    · omega
    · rw [domB_false fun q => hp q.of_root]; exact hE
  | succ j ih =>
    intro i k b hij hk hb hp
    obtain ⟨k, rfl⟩ : ∃ j, k = j + 1 := ⟨k - 1, by omega⟩
    rw [dom_Above_l1_s]
    unfold dom_Above_b1 dom_Above_r4
    try dsimp only
    rw [st_lss]
    simp only [onB_ite, run_ite, decide_eq_true_eq]
    rw [if_pos (by omega)]
    unfold dom_Above_r5
    try dsimp only
    rw [run_bnd (in_spec' tu _), inU_nat P D (fun _ _ => .inr trivial), decide_eq_true hb, st_not]
    simp only [onB_ite, run_ite]
    rw [if_neg (by decide)]
    unfold dom_Above_r7
    try dsimp only
    rw [st_eql]
    simp only [onB_ite, run_ite, beq_iff_eq]
    by_cases e : (b : Int) = a
    · rw [if_pos e]
      have : b = a := by omega
      subst this
      unfold dom_Above_r8
      rw [domB_iff.2 (Dom.self ((P.ord.mem b).1 hb))]
      rfl
    · rw [if_neg e]
      have hba : a ≠ b := by omega
      have hbN := P.ord.lt b hb
      unfold dom_Above_r9 dom_Above_r10
      try dsimp only
      rw [tu.get hbN]
      by_cases hr : b = root
      · subst hr
        rw [D.inv.rt, sx_add (by omega)]
        exact ih (i + 1) k b (by omega) (by omega) hb (.inr ⟨rfl, hba⟩)
      · obtain ⟨x, hx⟩ := D.inv.nat (D.all b hb)
        have hd := D.inv.dec b x hr hx
        rw [hx, sx_add (by omega)]
        have := ih (i + 1) k x (by omega) (by omega) (D.inv.mem hd.1) (by
          rcases hp with hp | ⟨hp, _⟩
          · left; omega
          · exact absurd hp hr)
        have e2 : domB adj root a x = domB adj root a b := by
          rw [Bool.eq_iff_iff, domB_iff, domB_iff]
          constructor
          · intro q; exact q.trans (D.next P hb hr hx).1
          · intro q; exact D.inv.snd b x hr hx a q hba
        rw [← e2]
        exact this

theorem above_nat {F bu n : Nat} {h : H} (hF : 1000000 ≤ F) (P : Pl adj N root o place) (D : DomT adj root o place up) (tu : TI h bu N up) (hN : N ≤ 600) (a b : Nat) : (dom_Above F (sl bu 0 N N) (i64 (a : Int)) (i64 (b : Int))).run n h = some (bo (domB adj root a b), n, h) := by
  unfold dom_Above dom_Above_r0 dom_Above_r1
  try dsimp only
  rw [run_bnd (in_spec' tu _), inU_nat P D (fun _ _ => .inr trivial), st_not]
  simp only [onB_ite, run_ite]
  by_cases ha : a ∈ o
  · rw [decide_eq_true ha, if_neg (by decide)]
    unfold dom_Above_r3
    try dsimp only
    rw [st_len]
    by_cases hb : b ∈ o
    · have hol := nodup_len P.ord.nodup P.ord.lt
      obtain ⟨p1, _⟩ := P.at_ hb
      exact above_l1 (F := F) (n := n) P D tu hN (E := dom_Above_k0 F) rfl N 0 F b (by omega) (by omega) hb (.inl (by omega))
    · rw [domB_false fun q => hb ((P.ord.mem b).2 q.1)]
      have haN := P.ord.lt a ha
      obtain ⟨k, rfl⟩ : ∃ j, F = j + 1 := ⟨F - 1, by omega⟩
      rw [dom_Above_l1_s]
      unfold dom_Above_b1 dom_Above_r4
      try dsimp only
      rw [st_lss]
      simp only [onB_ite, run_ite, decide_eq_true_eq]
      rw [if_pos (by omega)]
      unfold dom_Above_r5
      try dsimp only
      rw [run_bnd (in_spec' tu _), inU_nat P D (fun _ _ => .inr trivial), decide_eq_false hb, st_not]
      simp only [onB_ite, run_ite]
      rw [if_pos (by decide)]
      rfl
  · rw [decide_eq_false ha, if_pos (by decide), domB_false fun q => ha ((P.ord.mem a).2 q.rch)]
    rfl

theorem above_neg {F bu n : Nat} {h : H} (tu : TI h bu N up) (w : Int) : (dom_Above F (sl bu 0 N N) (i64 (-1)) (i64 w)).run n h = some (bo false, n, h) := by
  unfold dom_Above dom_Above_r0 dom_Above_r1
  try dsimp only
  rw [run_bnd (in_spec' tu _), st_not]
  have : inU N up (-1) = false := rfl
  rw [this]
  simp only [onB_ite, run_ite]
  rw [if_pos (by decide)]
  rfl

/-! ## Depth -/

/-- So many steps up to the root. -/
inductive Stp (up : Nat → Int) (root : Nat) : Nat → Nat → Prop
  | zero : Stp up root root 0
  | succ {a b k : Nat} : a ≠ root → up a = (b : Int) → Stp up root b k → Stp up root a (k + 1)

theorem Stp.uniq {a k l : Nat} (h1 : Stp up root a k) (h2 : Stp up root a l) : k = l := by
  induction h1 generalizing l with
  | zero =>
    cases h2 with
    | zero => rfl
    | succ h _ _ => exact absurd rfl h
  | succ h1 e1 _ ih =>
    cases h2 with
    | zero => exact absurd rfl h1
    | succ _ e2 h3 =>
      rw [e1] at e2
      have := Int.ofNat.inj e2
      subst this
      rw [ih h3]

theorem stp_of (P : Pl adj N root o place) (D : DomT adj root o place up) : ∀ n a, place a ≤ n → a ∈ o → ∃ k, k ≤ place a ∧ Stp up root a k := by
  intro n
  induction n with
  | zero =>
    intro a hn ha
    have : a = root := P.inj ha P.mem_root (by rw [P.zero]; omega)
    subst this
    exact ⟨0, by omega, .zero⟩
  | succ n ih =>
    intro a hn ha
    by_cases hr : a = root
    · subst hr; exact ⟨0, by omega, .zero⟩
    · obtain ⟨x, hx⟩ := D.inv.nat (D.all a ha)
      have hd := D.inv.dec a x hr hx
      obtain ⟨k, h1, h2⟩ := ih x (by omega) (D.inv.mem hd.1)
      exact ⟨k + 1, by omega, .succ hr hx h2⟩

/-- What Depth tells. -/
def DepOf (up : Nat → Int) (root : Nat) (o : List Nat) (d : Nat → Int) (a : Nat) : Prop := (a ∉ o ∧ d a = -1) ∨ ∃ k : Nat, a ∈ o ∧ d a = (k : Int) ∧ Stp up root a k

theorem dep_l3 {F bu bd : Nat} {a : Nat} {x11 x12 : Value} (P : Pl adj N root o place) (D : DomT adj root o place up) (hN : N ≤ 600) (ha : a < N) (hne : bd ≠ bu) {E : Value → Value → Value → Value → M Value} : ∀ j i k n (h : H) d b, i + j = N → j < k → TI h bu N up → TI h bd N d → d a = -1 → b < N → (b ∉ o → i = 0 ∧ a = b) → (b ∈ o → a ∈ o ∧ place b < j ∧ ∀ q, Stp up root b q → Stp up root a (q + i)) → Fr n h →
    ∃ h' d', (dom_Depth_l3 F E k (sl bu 0 N N) (sl bd 0 N N) (i64 a) (i64 (b : Int)) x11 x12 (i64 N) (i64 (i : Nat))).run n h = (E (sl bu 0 N N) (sl bd 0 N N) x11 x12).run n h' ∧ TI h' bd N d' ∧ DepOf up root o d' a ∧ (∀ q, q ≠ a → d' q = d q) ∧ Ev (fun c => c = bd) n h n h' := by
  intro j
  induction j with
  | zero =>
    intro i k n h d b hij hk tu td hd hb h1 h2 f
    obtain ⟨k, rfl⟩ : ∃ j, k = j + 1 := ⟨k - 1, by omega⟩
    by_cases hbo : b ∈ o
    · have := (h2 hbo).2.1; omega
    · have := h1 hbo; omega
  | succ j ih =>
    intro i k n h d b hij hk tu td hd hb h1 h2 f
    obtain ⟨k, rfl⟩ : ∃ j, k = j + 1 := ⟨k - 1, by omega⟩
    rw [dom_Depth_l3_s]
    unfold dom_Depth_b3 dom_Depth_r8
    try dsimp only
    rw [st_lss]
    simp only [onB_ite, run_ite, decide_eq_true_eq]
    rw [if_pos (by omega)]
    unfold dom_Depth_r9 dom_Depth_r10
    try dsimp only
    rw [run_bnd (in_spec' tu _), inU_nat P D (fun _ _ => .inr trivial), st_not]
    simp only [onB_ite, run_ite]
    by_cases hbo : b ∈ o
    · rw [decide_eq_true hbo, if_neg (by decide)]
      obtain ⟨ha', hp, hstp⟩ := h2 hbo
      unfold dom_Depth_r11
      try dsimp only
      rw [tu.get hb, st_eql]
      simp only [onB_ite, run_ite, beq_iff_eq]
      by_cases hr : b = root
      · subst hr
        rw [if_pos D.inv.rt]
        unfold dom_Depth_r12
        try dsimp only
        obtain ⟨h3, e3, t3, ev3⟩ := TI.set (β := Value) td f ha (z := (i : Int))
        rw [e3]
        have hs := hstp 0 .zero
        rw [Nat.zero_add] at hs
        exact ⟨h3, _, rfl, t3, .inr ⟨i, ha', upd_same, hs⟩, fun q hq => upd_ne hq, ev3⟩
      · obtain ⟨x, hx⟩ := D.inv.nat (D.all b hbo)
        have hdx := D.inv.dec b x hr hx
        rw [if_neg (by rw [hx]; intro e; have : x = b := by omega
                       subst this; omega)]
        unfold dom_Depth_r13 dom_Depth_r14
        try dsimp only
        rw [tu.get hb, hx, sx_add (by omega)]
        have hxo := D.inv.mem hdx.1
        exact ih (i + 1) k n h d x (by omega) (by omega) tu td hd (P.ord.lt x hxo) (fun q => absurd hxo q) (fun _ => ⟨ha', by omega, fun q hq => by
          have := hstp (q + 1) (.succ hr hx hq)
          rwa [show q + 1 + i = q + (i + 1) by omega] at this⟩) f
    · rw [decide_eq_false hbo, if_pos (by decide)]
      obtain ⟨_, rfl⟩ := h1 hbo
      exact ⟨h, d, rfl, td, .inl ⟨hbo, hd⟩, fun _ _ => rfl, Ev.refl f⟩

theorem dep_l1 {F bu bd : Nat} (hF : 1000000 ≤ F) (P : Pl adj N root o place) (D : DomT adj root o place up) (hN : N ≤ 600) (hne : bd ≠ bu) {E : Value → M Value} : ∀ j i k n (h : H) d, i + j = N → j < k → TI h bu N up → TI h bd N d → (∀ q, q < i → DepOf up root o d q) → bu < n → Fr n h →
    ∃ h' d', (dom_Depth_l1 F E k (sl bu 0 N N) (sl bd 0 N N) (i64 N) (i64 (i : Nat))).run n h = (E (sl bd 0 N N)).run n h' ∧ TI h' bd N d' ∧ (∀ q, q < N → DepOf up root o d' q) ∧ Ev (fun c => c = bd) n h n h' := by
  intro j
  induction j with
  | zero =>
    intro i k n h d hij hk tu td hd hbn f
    obtain ⟨k, rfl⟩ : ∃ j, k = j + 1 := ⟨k - 1, by omega⟩
    rw [dom_Depth_l1_s]
    unfold dom_Depth_b1 dom_Depth_r3
    try dsimp only
    rw [st_lss]
    simp only [onB_ite, run_ite, decide_eq_true_eq]
    rw [if_neg (by omega)]
    exact ⟨h, d, rfl, td, fun q hq => hd q (by omega), Ev.refl f⟩
  | succ j ih =>
    intro i k n h d hij hk tu td hd hbn f
    obtain ⟨k, rfl⟩ : ∃ j, k = j + 1 := ⟨k - 1, by omega⟩
    rw [dom_Depth_l1_s]
    unfold dom_Depth_b1 dom_Depth_r3
    try dsimp only
    rw [st_lss]
    simp only [onB_ite, run_ite, decide_eq_true_eq]
    rw [if_pos (by omega)]
    unfold dom_Depth_r4 dom_Depth_r5
    try dsimp only
    obtain ⟨h1, e1, t1, ev1⟩ := TI.set (β := Value) td f (show i < N by omega) (z := -1)
    rw [e1]
    have tu1 := tu.ev ev1 hbn (by omega)
    unfold dom_Depth_r6 dom_Depth_r7
    try dsimp only
    rw [st_len]
    have hol := nodup_len P.ord.nodup P.ord.lt
    obtain ⟨h2, d2, e2, t2, dep2, oth2, ev2⟩ := dep_l3 (F := F) (x11 := i64 N) (x12 := i64 (i : Nat)) P D hN (show i < N by omega) hne (E := fun x0 x3 x11 x12 => dom_Depth_k2 F (dom_Depth_l1 F E k) x0 x3 x11 x12) N 0 F n h1 (upd d i (-1)) i (by omega) (by omega) tu1 t1 upd_same (by omega) (fun _ => ⟨rfl, rfl⟩) (fun hio => ⟨hio, by
      obtain ⟨p1, _⟩ := P.at_ hio
      omega, fun q hq => hq⟩) ev1.f
    rw [show (Value.int .i64 0) = i64 ((0 : Nat) : Int) from rfl, e2]
    unfold dom_Depth_k2 dom_Depth_r15
    try dsimp only
    rw [sx_add (by omega)]
    obtain ⟨h', d', q1, q2, q3, q4⟩ := ih (i + 1) k n h2 d2 (by omega) (by omega) (tu1.ev ev2 hbn (by omega)) t2 (fun q hq => by
      by_cases e : q = i
      · subst e; exact dep2
      · have hdq := hd q (by omega)
        unfold DepOf at hdq ⊢
        rw [oth2 q e, upd_ne e]; exact hdq) hbn ev2.f
    exact ⟨h', d', q1, q2, q3, (ev1.trans ev2 fun _ _ h => h).trans q4 fun _ _ h => h⟩

theorem depth_spec {F bu n : Nat} {h : H} (hF : 1000000 ≤ F) (P : Pl adj N root o place) (D : DomT adj root o place up) (tu : TI h bu N up) (hN : N ≤ 600) (f : Fr n h) :
    ∃ h' d, (dom_Depth F (sl bu 0 N N)).run n h = some (sl n 0 N N, n + 1, h') ∧ TI h' n N d ∧ (∀ q, q < N → DepOf up root o d q) ∧ Ev No n h (n + 1) h' := by
  have hbn := TV.lt tu f
  unfold dom_Depth dom_Depth_r0 dom_Depth_r1
  try dsimp only
  obtain ⟨h1, e1, t1, ev1⟩ := TI.make (β := Value) (bytes := 8) (N := N) (z := 0) f (by omega) (by decide)
  rw [st_len, show (Value.int .i64 0) = i64 0 from rfl, e1]
  unfold dom_Depth_r2
  try dsimp only
  rw [st_len]
  obtain ⟨h', d', q1, q2, q3, q4⟩ := dep_l1 (F := F) (bd := n) hF P D hN (by omega) (E := fun x3 => dom_Depth_k0 F x3) N 0 F (n + 1) h1 (fun _ => 0) (by omega) (by omega) (tu.ev ev1 hbn (fun h => h)) t1 (fun q hq => by omega) (by omega) ev1.f
  rw [show (Value.int .i64 0) = i64 ((0 : Nat) : Int) from rfl, q1]
  exact ⟨h', d', rfl, q2, q3, ev1.trans q4 fun c hc q => by omega⟩
end

/-! ## haruspexref1.Above -/

theorem rchS_rch {adj : Nat → List Nat} {N root q : Nat} (hr : root < N) : RchS adj (stOf N [(root : Int)]) (-1) q ↔ Rch adj root q := by
  constructor
  · intro r
    induction r with
    | start h _ =>
      have := h.2
      rw [List.mem_singleton] at this
      have : _ = root := Int.ofNat.inj this
      subst this; exact .refl
    | step _ h2 _ ih => exact .step ih h2
  · intro r
    induction r with
    | refl => exact .start ⟨hr, by simp⟩ (by omega)
    | step _ h2 ih => exact .step ih h2 (by omega)
theorem rchS_rchW {adj : Nat → List Nat} {N root d q : Nat} (hr : root < N) : RchS adj (stOf N [(root : Int)]) (d : Int) q ↔ RchW adj root d q := by
  constructor
  · intro r
    induction r with
    | start h h2 =>
      have := h.2
      rw [List.mem_singleton] at this
      have : _ = root := Int.ofNat.inj this
      subst this; exact .start (by omega)
    | step _ h2 h3 ih => exact .step ih h2 (by omega)
  · intro r
    induction r with
    | start h => exact .start ⟨hr, by simp⟩ (by omega)
    | step _ h2 h3 ih => exact .step ih h2 (by omega)

/-- Reach from one node alone. -/
theorem reach_one {F n m N root : Nat} {tv : Value} {w : Int} {adj : Nat → List Nat} {h : H} (hF : 1000000 ≤ F) (gr : Gr h m tv N adj) (hm : m ≤ n) (ok : GOk N adj) (f : Fr n h) :
    ∃ n' h' b seen, (∀ K : Value → M Value, (bnd (opBuildSlice 1 (rep 1 [i64 0]) [(0, 1, false, i64 (root : Int))]) fun v => bnd (R1_Reach F tv v (i64 w)) K).run n h = (K (sl b 0 N N)).run n' h') ∧ TB h' b N seen ∧ (∀ q, seen q = true ↔ RchS adj (stOf N [(root : Int)]) w q) ∧ n ≤ b ∧ Ev No n h n' h' := by
  have ev1 := Ev.new f ⟨[i64 (root : Int)], .own⟩
  have rd : RdI (h.set n ⟨[i64 (root : Int)], .own⟩) (sl n 0 1 1) [(root : Int)] := .inr ⟨n, 0, 1, .own, rfl, fun _ => ⟨_, H.get_set_same _ _ _, by decide, fun i hi => by rw [Nat.zero_add]; rfl⟩⟩
  obtain ⟨n', h', seen, e, t, q, ev⟩ := reach_spec (F := F) hF (gr.no ev1 hm) (by omega) ok rd (by simp) ev1.f (w := w)
  exact ⟨n', h', n + 1, seen, fun K => by rw [run_single f rfl, run_bnd e], t, q, by omega, ev1.trans ev fun _ _ h => h⟩

theorem rabove_spec {F n m N root a b : Nat} {tv : Value} {adj : Nat → List Nat} {h : H} (hF : 1000000 ≤ F) (gr : Gr h m tv N adj) (hm : m ≤ n) (ok : GOk N adj) (hr : root < N) (ha : a < N) (hb : b < N) (f : Fr n h) :
    ∃ n' h', (R1_Above F tv (i64 (root : Int)) (i64 (a : Int)) (i64 (b : Int))).run n h = some (bo (domB adj root a b), n', h') ∧ Ev No n h n' h' := by
  unfold R1_Above R1_Above_r0 R1_Above_r1
  try dsimp only
  obtain ⟨n1, h1, b1, seen1, e1, t1, q1, lb1, ev1⟩ := reach_one (F := F) (root := root) (w := -1) hF gr hm ok f
  have l1 := ev1.le
  rw [show (Value.int .i64 0) = i64 0 from rfl, e1]
  unfold R1_Above_r2
  try dsimp only
  rw [t1.get ha, st_not]
  simp only [onB_ite, run_ite]
  by_cases hra : Rch adj root a
  · rw [(q1 a).2 ((rchS_rch hr).2 hra), if_neg (by decide), t1.get hb, st_not]
    by_cases hrb : Rch adj root b
    · rw [(q1 b).2 ((rchS_rch hr).2 hrb)]
      simp only [onB_ite, run_ite]
      rw [if_neg (by decide)]
      unfold R1_Above_r4
      try dsimp only
      rw [st_eql]
      simp only [onB_ite, run_ite, beq_iff_eq]
      by_cases e : (a : Int) = b
      · rw [if_pos e]
        have : a = b := by omega
        subst this
        rw [domB_iff.2 (Dom.self hra)]
        exact ⟨n1, h1, rfl, ev1⟩
      · rw [if_neg e]
        obtain ⟨n2, h2, b2, seen2, e2, t2, q2, lb2, ev2⟩ := reach_one (F := F) (root := root) (w := (a : Int)) hF (gr.no ev1 hm) (by omega) ok ev1.f
        rw [show (Value.int .i64 0) = i64 0 from rfl, e2, t2.get hb, st_not]
        have : (!seen2 b) = domB adj root a b := by
          rw [Bool.eq_iff_iff, domB_iff]
          constructor
          · intro h3
            refine ⟨hrb, fun hw => ?_⟩
            rw [(q2 b).2 ((rchS_rchW hr).2 hw)] at h3; cases h3
          · intro h3
            cases hs : seen2 b with
            | false => rfl
            | true => exact absurd ((rchS_rchW hr).1 ((q2 b).1 hs)) h3.2
        rw [this]
        exact ⟨n2, h2, rfl, ev1.trans ev2 fun _ _ h => h⟩
    · have hsb : seen1 b = false := by
        cases hs : seen1 b with
        | false => rfl
        | true => exact absurd ((rchS_rch hr).1 ((q1 b).1 hs)) hrb
      rw [hsb]
      simp only [onB_ite, run_ite]
      rw [if_pos (by decide), domB_false fun q => hrb q.1]
      exact ⟨n1, h1, rfl, ev1⟩
  · have hsa : seen1 a = false := by
      cases hs : seen1 a with
      | false => rfl
      | true => exact absurd ((rchS_rch hr).1 ((q1 a).1 hs)) hra
    rw [hsa, if_pos (by decide)]
    try simp only [onB_ite, run_ite]
    rw [if_pos (by decide), domB_false fun q => hra q.rch]
    exact ⟨n1, h1, rfl, ev1⟩

end Go.Fw
