/-
  SetAll: the loop, and the whole of it.
-/
import Derived.Test.YtbkppkekgdnilaaDoorLawSetK
set_option maxRecDepth 20000
set_option linter.unusedVariables false
namespace Go.Fw

/-- From the base on, but not one block. -/
abbrev QB (q : Nat) : Nat → Prop := fun c => 152 ≤ c ∧ c ≠ q

theorem rec_ld {β : Type} {h : H} {n q o : Nat} {cs : List Value} {v : Value} {k : Value → M β} (hq : h.get q = some ⟨cs, .own⟩) (hv : cs[o]? = some v) : (bnd (opLoad (pt q (0 + o))) k).run n h = (k v).run n h := by
  rw [run_load, hq, ldm_some (by decide) (by rw [Nat.zero_add]; exact hv)]
theorem rec_chk {β : Type} {h : H} {n q o : Nat} {cs : List Value} {z : Int} {k : Unit → M β} (hq : h.get q = some ⟨cs, .own⟩) (hv : cs[o]? = some (i64 z)) : (bnd (opChk false (pt q (0 + o)) (i64 z)) k).run n h = (k ()).run n h :=
  run_chk hq (by decide) (by rw [Nat.zero_add]; exact hv) (by simp [veq])

section
variable {F n p q : Nat} {Q : Nat → Prop} {s : Nat → Bool} {v : Value} {h : H}

theorem MS.len (x : MS h Q p v s) : (ints (setL s)).length ≤ 5120 := intsL_len

/-- Behind each operation. -/
theorem sa_k3 {A1 : Value → Value → Value → Value → M Value} {x0 : Value} {i : Nat} (hF : 5200 < F) (x : MS h Q p v s) (f : Fr n h) (hn : 0 < n) (hb : h.get 0 = some ⟨deB, .ro⟩) (hi : i < 1000) :
    ∃ n' h', (L1_SetAll_k3 F A1 x0 (pt p 0) v (i64 i)).run n h = (A1 x0 (pt p 0) v (i64 (i + 1 : Nat))).run n' h' ∧ MS h' Q p v s ∧ Ev No n h n' h' := by
  unfold L1_SetAll_k3 L1_SetAll_r41; (try dsimp only)
  have rd := x.rd
  have hL := intsL_len (s := s)
  obtain ⟨O, b, xs, g, h1, h2⟩ := id x
  rw [run_bnd (len_spec (F := F) (by omega) xs), rd.lenI, st_neq]; (try dsimp only); rw [onB_ite, if_neg (by unfold ints; rw [List.length_map]; simp)]
  obtain ⟨n', h', v', e, g', ev⟩ := all_spec (F := F) (by omega) hn hb xs f
  rw [run_bnd e]
  have x' := x.ev f ev
  rw [run_bnd (req_spec g'.rd x'.rd (by omega) (by omega)), decide_eq_true rfl, st_not]; (try dsimp only); rw [onB_ite, if_neg (by decide)]
  unfold L1_SetAll_k2 L1_SetAll_r8; (try dsimp only)
  rw [st_add, wrap64 (by omega)]
  exact ⟨n', h', rfl, x', ev⟩

/-- Add. -/
theorem sa_add {kk nn : Int} {lv : Value} (hF : 5200 < F) (x : MS h (QB q) p v s) (f : Fr n h) (hq : h.get q = some ⟨[i64 kk, i64 nn, lv], .own⟩) (hqn : q < n) (hn : 152 ≤ n) {A1 : Value → Value → Value → Value → M Value} {x0 : Value} {i : Nat} :
    ∃ n' h' v' s', (L1_SetAll_r20 F x0 (pt p 0) v (i64 i) (pt q 0) fun x0 x4 x5 x6 x7 x8 => L1_SetAll_r21 F x0 x4 x5 x6 x7 x8 (fun x0 x4 x5 x6 x7 x8 x79 => onB x79 (L1_SetAll_r22 F (fun x2 => ret x2)) (L1_SetAll_r23 F x0 x4 x5 x6 x7 x8 (fun x0 x4 x5 x6 x7 x80 => onB x80 (L1_SetAll_r24 F x0 x4 x5 x6 x7 (fun x0 x4 x5 x6 => L1_SetAll_k3 F A1 x0 x4 x5 x6)) (L1_SetAll_k3 F A1 x0 x4 x5 x6))))).run n h = (L1_SetAll_k3 F A1 x0 (pt p 0) v' (i64 i)).run n' h' ∧ MS h' (QB q) p v' s' ∧ Ev (QB q) n h n' h' := by
  have hL := intsL_len (s := s)
  have key : ∀ K : Value → Value → Value → Value → Value → Value → M Value, (L1_SetAll_r20 F x0 (pt p 0) v (i64 i) (pt q 0) K).run n h = (K x0 (pt p 0) v (i64 i) (pt q 0) (bo (canAdd s nn))).run n h := by
    intro K
    unfold L1_SetAll_r20; (try dsimp only)
    rw [st_field, rec_ld hq rfl, run_bnd (may_spec _)]; (try dsimp only); rw [onB_ite, run_ite, canAdd_list x.small]
    by_cases hm : 0 ≤ nn ∧ nn < 5000
    · rw [if_pos (decide_eq_true hm), st_field, rec_ld hq rfl, run_bnd (rin_spec x.rd (by omega) (by omega) _), st_not, decide_eq_true hm, Bool.true_and]
    · rw [if_neg (by simpa using hm), decide_eq_false hm, Bool.false_and]
  rw [key]
  unfold L1_SetAll_r21; (try dsimp only)
  rw [st_field, rec_ld hq rfl]
  obtain ⟨n1, h1, e1, x1, ev1⟩ := LS.add (F := F) (by omega) x f (fun c hc => ⟨by omega, by omega⟩) nn
  have l1 := ev1.le
  have hq1 : h1.get q = some ⟨[i64 kk, i64 nn, lv], .own⟩ := by rw [ev1.keep q hqn (fun w => w.2 rfl)]; exact hq
  rw [run_bnd e1, st_eqB, beq_self_eq_true]; (try dsimp only); rw [onB_ite, if_neg (by decide)]
  unfold L1_SetAll_r23; (try dsimp only)
  try dsimp only
  rw [onB_ite, run_ite]
  by_cases hc : canAdd s nn = true
  · rw [if_pos hc]
    rw [if_pos hc] at x1
    unfold L1_SetAll_r24; (try dsimp only)
    rw [st_field, rec_ld hq1 rfl]
    obtain ⟨n2, h2, v2, e2, x2, ev2⟩ := LS.put (F := F) (by omega) (by omega) x1 ev1.f (fun c hc => ⟨by omega, by omega⟩) nn
    rw [run_bnd e2]
    have h0 : 0 ≤ nn ∧ nn < 5000 := by
      unfold canAdd at hc
      rw [Bool.and_eq_true, decide_eq_true_eq] at hc
      exact hc.1
    rw [← ints_put x.small h0] at x2
    exact ⟨n2, h2, v2, _, rfl, x2, ev1.trans ev2 fun _ _ h => h.elim⟩
  · rw [if_neg hc]
    rw [if_neg hc] at x1
    exact ⟨n1, h1, v, s, rfl, x1, ev1⟩

/-- Remove. -/
theorem sa_rem {kk nn : Int} {lv : Value} (hF : 5200 < F) (x : MS h (QB q) p v s) (f : Fr n h) (hq : h.get q = some ⟨[i64 kk, i64 nn, lv], .own⟩) (hqn : q < n) (hn : 152 ≤ n) {A1 : Value → Value → Value → Value → M Value} {x0 : Value} {i : Nat} :
    ∃ n' h' v' s', (L1_SetAll_r26 F x0 (pt p 0) v (i64 i) (pt q 0) fun x0 x4 x5 x6 x7 x95 => onB x95 (L1_SetAll_r27 F (fun x2 => ret x2)) (L1_SetAll_r28 F x0 x4 x5 x6 x7 (fun x0 x4 x5 x6 => L1_SetAll_k3 F A1 x0 x4 x5 x6))).run n h = (L1_SetAll_k3 F A1 x0 (pt p 0) v' (i64 i)).run n' h' ∧ MS h' (QB q) p v' s' ∧ Ev (QB q) n h n' h' := by
  have hL := intsL_len (s := s)
  unfold L1_SetAll_r26; (try dsimp only)
  rw [st_field, rec_ld hq rfl, st_field, rec_ld hq rfl]
  obtain ⟨h1, e1, x1, ev1⟩ := LS.rem (F := F) x f nn
  have hq1 : h1.get q = some ⟨[i64 kk, i64 nn, lv], .own⟩ := by rw [ev1.keep q hqn (fun w => w.2 rfl)]; exact hq
  rw [run_bnd e1, rec_chk hq1 rfl, run_bnd (rin_spec x1.rd (by omega) (by omega) _), isIn_list x.small, st_eqB, beq_self_eq_true]; (try dsimp only); rw [onB_ite, if_neg (by decide)]
  unfold L1_SetAll_r28; (try dsimp only)
  rw [st_field, rec_ld hq1 rfl, run_single ev1.f rfl]
  have ev2 : Ev No n h1 (n + 1) (h1.set n ⟨[i64 nn], .own⟩) := ⟨ev1.f.new _, by omega, fun c hc _ => H.get_set_ne _ _ (by omega)⟩
  have x2 := x1.ev ev1.f ev2
  have g : RdI (h1.set n ⟨[i64 nn], .own⟩) (sl n 0 1 1) [nn] := .inr ⟨n, 0, 1, .own, rfl, fun _ => ⟨[i64 nn], H.get_set_same _ _ _, by decide, fun i hi => by rw [Nat.zero_add]; rfl⟩⟩
  obtain ⟨n3, h3, u, e3, g3, ev3⟩ := wo_spec (F := F) (by omega) (by omega) (by simp; omega) (by simp) x2.rd g ev2.f
  rw [run_bnd e3]
  have x3 := LS.list x2 ev2.f (Nat.le_refl _) ev3 g3 (fun c hc => ⟨by omega, by omega⟩)
  rw [← ints_del x.small] at x3
  exact ⟨n3, h3, u, _, rfl, x3, (ev1.trans ev2 fun _ _ h => h.elim).trans ev3 fun _ _ h => h.elim⟩

theorem foldl_put_len : ∀ (zs L : List Int), (zs.foldl putI L).length ≤ L.length + zs.length
  | [], L => by simp
  | z :: zs, L => by
    have h1 := foldl_put_len zs (putI L z)
    have h2 := putI_len (L := L) (z := z)
    rw [List.foldl_cons, List.length_cons]; omega
theorem foldl_put_sorted : ∀ (zs L : List Int), L.Pairwise (· < ·) → (zs.foldl putI L).Pairwise (· < ·)
  | [], _, h => h
  | z :: zs, L, h => foldl_put_sorted zs _ (putI_sorted h)
theorem foldl_put_mem : ∀ (zs L : List Int) (y : Int), y ∈ zs.foldl putI L ↔ y ∈ L ∨ y ∈ zs
  | [], L, y => by simp
  | z :: zs, L, y => by
    rw [List.foldl_cons, foldl_put_mem zs, putI_mem, List.mem_cons]
    constructor
    · rintro ((h | h) | h)
      · exact .inr (.inl h)
      · exact .inl h
      · exact .inr (.inr h)
    · rintro (h | h | h)
      · exact .inl (.inr h)
      · exact .inl (.inl h)
      · exact .inr h

/-- The numbers of another list, one by one. -/
theorem sa_l5 {lo : Nat} {lv : Value} {l L : List Int} (hF : 5200 < F) (hl : l.length ≤ 40) (hL : L.length ≤ 5120) (hqn : q < lo) (hn : 152 ≤ lo) {E : Value → Value → Value → Value → Value → Value → M Value} {x0 xi x10 : Value} {h0 : H} (f0 : Fr lo h0) (hr : RdI h0 lv l) : ∀ j i k n (h : H) (v : Value), i + j = l.length → j < k → lo ≤ n → (∀ c, c < lo → h.get c = h0.get c ∨ QB q c) → RdI h lv l → LS h (QB q) p v s ((l.take i).foldl putI L) → Fr n h →
    ∃ n' h' v', (L1_SetAll_l5 F E k x0 (pt p 0) v xi (pt q 0) lv x10 (i64 i)).run n h = (E x0 (pt p 0) v' xi (pt q 0) x10).run n' h' ∧ LS h' (QB q) p v' s (l.foldl putI L) ∧ Ev No n h n' h' := by
  intro j
  induction j with
  | zero =>
    intro i k n h v hij hk hlo h0k hr x f
    obtain ⟨k, rfl⟩ : ∃ j, k = j + 1 := ⟨k - 1, by omega⟩
    rw [L1_SetAll_l5]
    unfold L1_SetAll_b5 L1_SetAll_r33; (try dsimp only)
    rw [hr.lenI, st_lss]; (try dsimp only); rw [onB_ite, if_neg (by simp; omega)]
    rw [show i = l.length by omega, List.take_length] at x
    exact ⟨n, h, v, rfl, x, Ev.refl f⟩
  | succ j ih =>
    intro i k n h v hij hk hlo h0k hr x f
    obtain ⟨k, rfl⟩ : ∃ j, k = j + 1 := ⟨k - 1, by omega⟩
    have hi : i < l.length := by omega
    rw [L1_SetAll_l5]
    unfold L1_SetAll_b5 L1_SetAll_r33; (try dsimp only)
    rw [hr.lenI, st_lss]; (try dsimp only); rw [onB_ite, if_pos (by simp; omega)]
    unfold L1_SetAll_r35; (try dsimp only)
    rw [hr.getI hi]
    have hlen := foldl_put_len (l.take i) L
    rw [List.length_take] at hlen
    obtain ⟨n1, h1, v1, e1, x1, ev1⟩ := LS.put (F := F) (by omega) (by omega) x f (fun c hc => ⟨by omega, by omega⟩) l[i]
    rw [run_bnd e1]
    unfold L1_SetAll_r34; (try dsimp only)
    rw [st_add, wrap64 (by omega)]
    have e2 : (l.take (i + 1)).foldl putI L = putI ((l.take i).foldl putI L) l[i] := by
      rw [List.take_succ_eq_append_getElem hi, List.foldl_append]; rfl
    rw [← e2] at x1
    have l1 := ev1.le
    obtain ⟨n', h', v', q1, q2, q3⟩ := ih (i + 1) k n1 h1 v1 (by omega) (by omega) (by omega) (fun c hc => by rw [ev1.no (by omega)]; exact h0k c hc) (hr.kept f fun c hc => ev1.no hc) x1 ev1.f
    exact ⟨n', h', v', q1, q2, ev1.trans q3 fun _ _ h => h⟩

theorem ints_join {zs : List Int} (x : ∀ m, s m = true → m < 5000) : ints (setL fun m => s m || setOf (zs.take 40) m) = (ofI zs).foldl putI (ints (setL s)) := by
  have x' : ∀ m, (s m || setOf (zs.take 40) m) = true → m < 5000 := fun m hm => by
    rw [Bool.or_eq_true] at hm
    rcases hm with h | h
    · exact x m h
    · exact setOf_small m h
  refine sorted_extI ints_sorted (foldl_put_sorted _ _ ints_sorted) fun y => ?_
  rw [ints_mem x', foldl_put_mem, ints_mem x, Bool.or_eq_true]
  unfold ofI
  rw [foldl_mem]
  simp only [List.not_mem_nil, false_or]
  have hs : 0 ≤ y → (setOf (zs.take 40) y.toNat = true ↔ y ∈ zs.take 40 ∧ 0 ≤ y ∧ y < 5000) := fun h0 => by
    unfold setOf
    rw [Bool.and_eq_true, List.any_eq_true, decide_eq_true_eq]
    constructor
    · rintro ⟨⟨z, h1, h2⟩, h3⟩
      have : z = (y.toNat : Int) := by simpa using h2
      have : z = y := by omega
      subst this
      exact ⟨h1, h0, by omega⟩
    · rintro ⟨h1, h2, h3⟩
      exact ⟨⟨y, h1, by simp; omega⟩, by omega⟩
  constructor
  · rintro ⟨h1, h2 | h2⟩
    · exact .inl ⟨h1, h2⟩
    · exact .inr ((hs h1).1 h2)
  · rintro (⟨h1, h2⟩ | h2)
    · exact ⟨h1, .inl h2⟩
    · exact ⟨h2.2.1, .inr ((hs h2.2.1).2 h2)⟩

/-- Join. -/
theorem sa_join {kk nn : Int} {lv : Value} {zs : List Int} (hF : 5200 < F) (x : MS h (QB q) p v s) (f : Fr n h) (hq : h.get q = some ⟨[i64 kk, i64 nn, lv], .own⟩) (hqn : q < n) (hq0 : 152 ≤ q) (hlv : IntsL 152 h lv zs) (hzl : zs.length < 9223372036854775808) (hn : 152 ≤ n) {A1 : Value → Value → Value → Value → M Value} {x0 : Value} {i : Nat} :
    ∃ n' h' v' s', (L1_SetAll_r30 F x0 (pt p 0) v (i64 i) (pt q 0) fun x0 x4 x5 x6 x7 x9 => L1_SetAll_r31 F x0 x4 x5 x6 x7 x9 (fun x0 x4 x5 x6 x7 x9 x10 => L1_SetAll_r32 F x0 x4 x5 x6 x7 x9 x10 (fun x0 x4 x5 x6 x7 x9 x10 x11 => L1_SetAll_l5 F (fun x0 x4 x5 x6 x7 x10 => L1_SetAll_k4 F A1 x0 x4 x5 x6 x7 x10) F x0 x4 x5 x6 x7 x9 x10 x11))).run n h = (L1_SetAll_k3 F A1 x0 (pt p 0) v' (i64 i)).run n' h' ∧ MS h' (QB q) p v' s' ∧ Ev (QB q) n h n' h' := by
  have hL := intsL_len (s := s)
  unfold L1_SetAll_r30; (try dsimp only)
  rw [st_field, rec_ld hq rfl]
  obtain ⟨n1, h1, u1, e1, g1, ev1⟩ := lofL_spec (F := F) (n := n) (by omega) hn hlv f
  have l1 := ev1.le
  have x1 := x.ev f ev1
  rw [run_bnd e1]
  unfold L1_SetAll_r31 L1_SetAll_r32; (try dsimp only)
  rw [x1.rd.lenI]
  have hol : (ofI zs).length ≤ 40 := by
    have := foldl_len (zs.take 40) []
    rw [List.length_take, List.length_nil] at this
    unfold ofI; omega
  obtain ⟨n2, h2, v2, e2, x2, ev2⟩ := sa_l5 (F := F) (q := q) (p := p) (s := s) (lo := n1) (lv := u1) (l := ofI zs) (L := ints (setL s)) hF hol hL (by omega) (by omega) (E := fun x0 x4 x5 x6 x7 x10 => L1_SetAll_k4 F A1 x0 x4 x5 x6 x7 x10) (x0 := x0) (xi := i64 i) (x10 := i64 (ints (setL s)).length) ev1.f g1.rd (ofI zs).length 0 F n1 h1 v (by omega) (by omega) (Nat.le_refl _) (fun _ _ => .inl rfl) g1.rd x1 ev1.f
  rw [show (Value.int .i64 0) = i64 ((0 : Nat) : Int) from rfl, e2]
  have l2 := ev2.le
  unfold L1_SetAll_k4 L1_SetAll_r36; (try dsimp only)
  have hq2 : h2.get q = some ⟨[i64 kk, i64 nn, lv], .own⟩ := by rw [ev2.no (by omega), ev1.no (by omega)]; exact hq
  have hlv2 : IntsL 152 h2 lv zs := hlv.keep fun c hc => by rw [ev2.no (by omega), ev1.no (by omega)]
  rw [st_field, rec_ld hq2 rfl]
  obtain ⟨v3, e3, g3⟩ := cutL_spec (F := F) (n := n2) hlv2 hzl 40 (by decide)
  rw [show (Value.int .i64 40) = i64 ((40 : Nat) : Int) from rfl, run_bnd e3]
  have htl : (zs.take 40).length ≤ 40 := by rw [List.length_take]; omega
  obtain ⟨n4, h4, n5, h5, e4, e5, x5, ev5⟩ := LS.ofJoin (F := F) (by omega) x2 ev2.f (fun c hc => ⟨by omega, by omega⟩) (by omega) (by omega) g3.rd
  rw [run_bnd e4, run_bnd e5, x5.rd.lenI, st_gtr, join_more (fun m hm => setOf_small m hm), ints_join x.small, st_eqB]
  rw [show (decide ((ints (setL s)).length < ((ofI zs).foldl putI (ints (setL s))).length) == decide (((ints (setL s)).length : Int) < (((ofI zs).foldl putI (ints (setL s))).length : Int))) = true by simp]; (try dsimp only); rw [onB_ite, if_neg (by decide)]
  refine ⟨n5, h5, v2, (fun m => s m || setOf (zs.take 40) m), rfl, ?_, ((ev1.trans ev2 fun _ _ h => h).mono fun _ _ h => h.elim).trans ev5 fun _ _ h => h⟩
  show LS h5 (QB q) p v2 _ (ints _)
  rw [ints_join x.small]
  exact x5

/-- Has. -/
theorem sa_has {kk nn : Int} {lv : Value} (hF : 5200 < F) (x : MS h (QB q) p v s) (f : Fr n h) (hq : h.get q = some ⟨[i64 kk, i64 nn, lv], .own⟩) {A1 : Value → Value → Value → Value → M Value} {x0 : Value} {i : Nat} :
    (L1_SetAll_r39 F x0 (pt p 0) v (i64 i) (pt q 0) fun x0 x4 x5 x6 x141 => onB x141 (L1_SetAll_r40 F (fun x2 => ret x2)) (L1_SetAll_k3 F A1 x0 x4 x5 x6)).run n h = (L1_SetAll_k3 F A1 x0 (pt p 0) v (i64 i)).run n h := by
  have hL := intsL_len (s := s)
  unfold L1_SetAll_r39; (try dsimp only)
  rw [st_field, rec_ld hq rfl, st_field, rec_ld hq rfl]
  obtain ⟨O, b, xs, g, h1, h2⟩ := id x
  rw [run_bnd (has_spec (F := F) xs nn), rec_chk hq rfl, run_bnd (rin_spec x.rd (by omega) (by omega) _), isIn_list x.small, st_eqB, beq_self_eq_true]; (try dsimp only); rw [onB_ite, if_neg (by decide)]

/-- Who is looked for as the first. -/
theorem sa_l7 {kk nn : Int} {lv : Value} {L : List Int} {n : Nat} {h : H} {v : Value} (hF : 5200 < F) (hL : L.length ≤ 5120) (rd : RdI h v L) (hs : L.Pairwise (· < ·)) (h0 : ∀ z, z ∈ L → 0 ≤ z) (hq : h.get q = some ⟨[i64 kk, i64 nn, lv], .own⟩) {E : Value → Value → Value → Value → Value → Value → M Value} {x0 x4 xi : Value} : ∀ j i k, i + j = L.length → j + 1 < k → (∀ z, z ∈ L.take i → z < nn) →
    ∃ r, (L1_SetAll_l7 F E k x0 x4 v xi (pt q 0) (i64 (-1)) (i64 i)).run n h = (E x0 x4 v xi (pt q 0) (i64 r)).run n h ∧ FirstOf L nn r := by
  intro j
  induction j with
  | zero =>
    intro i k hij hk hb
    obtain ⟨k, rfl⟩ : ∃ j, k = j + 1 := ⟨k - 1, by omega⟩
    rw [L1_SetAll_l7]
    unfold L1_SetAll_b7 L1_SetAll_r13; (try dsimp only)
    rw [rd.lenI, st_lss]; (try dsimp only); rw [onB_ite, if_neg (by simp; omega)]; (try dsimp only); rw [onB_ite, if_neg (by decide)]
    rw [show i = L.length by omega, List.take_length] at hb
    exact ⟨-1, rfl, .inl ⟨rfl, hb⟩⟩
  | succ j ih =>
    intro i k hij hk hb
    obtain ⟨k, rfl⟩ : ∃ j, k = j + 1 := ⟨k - 1, by omega⟩
    have hi : i < L.length := by omega
    rw [L1_SetAll_l7]
    unfold L1_SetAll_b7 L1_SetAll_r13; (try dsimp only)
    rw [rd.lenI, st_lss]; (try dsimp only); rw [onB_ite, if_pos (by simp; omega), st_lss]; (try dsimp only); rw [onB_ite, if_pos (by decide)]
    unfold L1_SetAll_r15; (try dsimp only)
    rw [rd.getI hi, st_field, rec_ld hq rfl, st_geq]; (try dsimp only); rw [onB_ite, run_ite]
    by_cases hz : nn ≤ L[i]
    · rw [if_pos (by simpa using hz)]
      unfold L1_SetAll_r16; (try dsimp only)
      rw [rd.getI hi]
      unfold L1_SetAll_k8 L1_SetAll_r14; (try dsimp only)
      rw [st_add, wrap64 (by omega)]
      obtain ⟨k, rfl⟩ : ∃ j, k = j + 1 := ⟨k - 1, by omega⟩
      rw [L1_SetAll_l7]
      unfold L1_SetAll_b7 L1_SetAll_r13; (try dsimp only)
      have hz0 := h0 _ (List.getElem_mem hi)
      have e : (E x0 x4 v xi (pt q 0) (i64 L[i])).run n h = (E x0 x4 v xi (pt q 0) (i64 L[i])).run n h := rfl
      rw [rd.lenI, st_lss]; (try dsimp only); rw [onB_ite, run_ite]
      refine ⟨L[i], ?_, .inr ⟨List.getElem_mem hi, hz, fun z hzm hnz => ?_⟩⟩
      · split
        · rw [st_lss]; (try dsimp only); rw [onB_ite, if_neg (by simp; omega)]
        · rw [onB_ite, if_neg (by decide)]
      · obtain ⟨m, hm, rfl⟩ := List.getElem_of_mem hzm
        rcases Nat.lt_trichotomy m i with g | g | g
        · have := hb _ (List.mem_take_iff_getElem.2 ⟨m, by omega, rfl⟩)
          omega
        · subst g; exact Int.le_refl _
        · exact Int.le_of_lt (List.pairwise_iff_getElem.1 hs i m hi hm g)
    · rw [if_neg (by simpa using hz)]
      unfold L1_SetAll_k8 L1_SetAll_r14; (try dsimp only)
      rw [st_add, wrap64 (by omega)]
      exact ih (i + 1) k (by omega) (by omega) fun z hzm => by
        rw [List.take_succ_eq_append_getElem hi, List.mem_append] at hzm
        rcases hzm with g | g
        · exact hb z g
        · rw [List.mem_singleton] at g; omega

/-- First. -/
theorem sa_first {kk nn : Int} {lv : Value} (hF : 5200 < F) (x : MS h (QB q) p v s) (f : Fr n h) (hq : h.get q = some ⟨[i64 kk, i64 nn, lv], .own⟩) {A1 : Value → Value → Value → Value → M Value} {x0 : Value} {i : Nat} :
    (L1_SetAll_r11 F x0 (pt p 0) v (i64 i) (pt q 0) fun x0 x4 x5 x6 x7 x12 => L1_SetAll_r12 F x0 x4 x5 x6 x7 x12 (fun x0 x4 x5 x6 x7 x12 x13 => L1_SetAll_l7 F (fun x0 x4 x5 x6 x7 x12 => L1_SetAll_k6 F A1 x0 x4 x5 x6 x7 x12) F x0 x4 x5 x6 x7 x12 x13)).run n h = (L1_SetAll_k3 F A1 x0 (pt p 0) v (i64 i)).run n h := by
  have hL := intsL_len (s := s)
  unfold L1_SetAll_r11 L1_SetAll_r12; (try dsimp only)
  obtain ⟨r, e, hr⟩ := sa_l7 (F := F) (q := q) (n := n) (L := ints (setL s)) hF hL x.rd ints_sorted (fun z hz => ((ints_mem x.small).1 hz).1) hq (E := fun x0 x4 x5 x6 x7 x12 => L1_SetAll_k6 F A1 x0 x4 x5 x6 x7 x12) (x0 := x0) (x4 := pt p 0) (xi := i64 i) (ints (setL s)).length 0 F (by omega) (by omega) (fun z hz => by cases hz)
  rw [show (Value.int .i64 0) = i64 ((0 : Nat) : Int) from rfl, e]
  unfold L1_SetAll_k6 L1_SetAll_r17; (try dsimp only)
  rw [st_field, rec_ld hq rfl]
  obtain ⟨O, b, xs, g, h1, h2⟩ := id x
  obtain ⟨r', e', hr'⟩ := first_spec (F := F) (n := n) (by omega) xs nn
  rw [run_bnd e', first_list x.small hr' hr, st_neq]; (try dsimp only); rw [onB_ite, if_neg (by simp)]
end

/-- What an operation's cells hold. -/
def OpsIn (h : H) (v : Value) : Prop := v = nsl ∨ ∃ (b len cap : Nat) (u : Nat → Value), v = sl b 0 len cap ∧ len ≤ cap ∧ cap < 9223372036854775808 ∧ (cap ≠ 0 → b < 152 ∧ h.get b = some ⟨tab (min cap 50 * 3) u, .ro⟩) ∧
  ∀ i, i < min cap 50 → (∃ kk nn, u (i * 3) = i64 kk ∧ u (i * 3 + 1) = i64 nn) ∧ ∃ zs, IntsL 152 h (u (i * 3 + 2)) zs ∧ zs.length < 9223372036854775808

theorem OpsIn.keep {h h' : H} {v : Value} (a : OpsIn h v) (hk : ∀ c, c < 152 → h'.get c = h.get c) : OpsIn h' v := by
  rcases a with rfl | ⟨b, len, cap, u, rfl, g1, g2, g3, g4⟩
  · exact .inl rfl
  · exact .inr ⟨b, len, cap, u, rfl, g1, g2, fun h0 => ⟨(g3 h0).1, by rw [hk b (g3 h0).1]; exact (g3 h0).2⟩, fun i hi => ⟨(g4 i hi).1, (g4 i hi).2.imp fun zs w => ⟨w.1.keep hk, w.2⟩⟩⟩

theorem IntsL.one_v {m : Nat} {h : H} {v : Value} {zs : List Int} (w : IntsL m h v zs) : one v = true := by
  rcases w with ⟨_, rfl⟩ | ⟨b, cap, xs, rfl, _⟩ <;> rfl

theorem tab_three {N : Nat} {u : Nat → Value} {o : Nat} (h : o + 2 < N) : ((tab N u).drop o).take 3 = [u o, u (o + 1), u (o + 2)] := by
  have e : ∀ i, i < N → (tab N u)[i]? = some (u i) := fun i hi => tab_get hi
  apply List.ext_getElem?
  intro i
  rw [List.getElem?_take]
  split
  · rename_i hi
    rw [List.getElem?_drop]
    rcases (show i = 0 ∨ i = 1 ∨ i = 2 by omega) with rfl | rfl | rfl
    · rw [e _ (by omega)]; rfl
    · rw [e _ (by omega)]; rfl
    · rw [e _ (by omega)]; rfl
  · rw [List.getElem?_eq_none]; simp; omega

/-- The loop. -/
theorem sa_l1 {F p : Nat} {va : Value} (hF : 5200 < F) : ∀ (j i k n : Nat) (h : H) (v : Value) (s : Nat → Bool), 50 ≤ i + j → i ≤ 50 → j < k → OpsIn h va → h.get 0 = some ⟨deB, .ro⟩ → MS h (fun c => 152 ≤ c) p v s → Fr n h → 152 ≤ n →
    ∃ n' h', (L1_SetAll_l1 F (L1_SetAll_k0 F) k va (pt p 0) v (i64 i)).run n h = some (.bool true, n', h') := by
  have done : ∀ n h, ∃ n' h', (L1_SetAll_k0 F).run n h = some (.bool true, n', h') := fun n h => ⟨n, h, rfl⟩
  intro j
  induction j with
  | zero =>
    intro i k n h v s hij hi hk ha hb x f hn
    obtain ⟨k, rfl⟩ : ∃ j, k = j + 1 := ⟨k - 1, by omega⟩
    rw [L1_SetAll_l1]
    unfold L1_SetAll_b1 L1_SetAll_r7; (try dsimp only)
    rcases ha with rfl | ⟨b, len, cap, u, rfl, g1, g2, g3, g4⟩
    · rw [st_len, st_lss]; (try dsimp only); rw [onB_ite, if_neg (by simp)]; (try dsimp only); rw [onB_ite, if_neg (by decide)]
      exact done n h
    · rw [st_len, st_lss]; (try dsimp only); rw [onB_ite, run_ite]
      split
      · rw [st_lss]; (try dsimp only); rw [onB_ite, if_neg (by simp; omega)]
        exact done n h
      · rw [onB_ite, if_neg (by decide)]
        exact done n h
  | succ j ih =>
    intro i k n h v s hij hi hk ha hb x f hn
    obtain ⟨k, rfl⟩ : ∃ j, k = j + 1 := ⟨k - 1, by omega⟩
    rw [L1_SetAll_l1]
    unfold L1_SetAll_b1 L1_SetAll_r7; (try dsimp only)
    have ha0 := ha
    rcases ha with rfl | ⟨b, len, cap, u, rfl, g1, g2, g3, g4⟩
    · rw [st_len, st_lss]; (try dsimp only); rw [onB_ite, if_neg (by simp)]; (try dsimp only); rw [onB_ite, if_neg (by decide)]
      exact done n h
    rw [st_len, st_lss]; (try dsimp only); rw [onB_ite, run_ite]
    by_cases h1 : i < len
    case neg =>
      rw [if_neg (by simp; omega)]; (try dsimp only); rw [onB_ite, if_neg (by decide)]
      exact done n h
    rw [if_pos (by simp; omega), st_lss]; (try dsimp only); rw [onB_ite, run_ite]
    by_cases h2 : i < 50
    case neg =>
      rw [if_neg (by simp; omega)]
      exact done n h
    rw [if_pos (by simp; omega)]
    have hm : i < min cap 50 := by omega
    obtain ⟨⟨kk, nn, ek, en⟩, zs, hz, hzl⟩ := g4 i hm
    unfold L1_SetAll_r9; (try dsimp only)
    rw [st_ix, if_pos (by omega), run_loadN, (g3 (by omega)).2, ldN_some (by decide) (by rw [tab_len]; simp; omega)]
    rw [show (0 + (i : Int).toNat * 3) = i * 3 by simp, tab_three (by omega), ek, en, run_ptr f rfl]
    have est : ∀ k : Value → M Value, (bnd (opStoreN 3 (pt n 0) (Value.agg #[i64 kk, i64 nn, u (i * 3 + 2)])) k).run (n + 1) (h.set n ⟨[i64 0, i64 0, nsl], .own⟩) = (k undef).run (n + 1) ((h.set n ⟨[i64 0, i64 0, nsl], .own⟩).set n ⟨[i64 kk, i64 nn, u (i * 3 + 2)], .own⟩) := fun k =>
      run_storeN (vs := [i64 kk, i64 nn, u (i * 3 + 2)]) (H.get_set_same _ _ _) (.inl rfl) (by rw [List.all_cons, List.all_cons, List.all_cons, hz.one_v]; rfl) rfl rfl
    rw [est]
    generalize hhp : ((h.set n ⟨[i64 0, i64 0, nsl], .own⟩).set n ⟨[i64 kk, i64 nn, u (i * 3 + 2)], .own⟩) = hp
    have hq : hp.get n = some ⟨[i64 kk, i64 nn, u (i * 3 + 2)], .own⟩ := by rw [← hhp]; exact H.get_set_same _ _ _
    have ev0 : Ev No n h (n + 1) hp := ⟨by rw [← hhp]; exact (f.new _).set _ (by omega), by omega, fun c hc _ => by rw [← hhp, H.get_set_ne _ _ (by omega), H.get_set_ne _ _ (by omega)]⟩
    have x1 : MS hp (QB n) p v s := (x.off f).ev f ev0
    have hz1 : IntsL 152 hp (u (i * 3 + 2)) zs := hz.keep fun c hc => ev0.no (by omega)
    have ha1 : OpsIn hp (sl b 0 len cap) := ha0.keep fun c hc => ev0.no (by omega)
    have hb1 : hp.get 0 = some ⟨deB, .ro⟩ := by rw [ev0.no (by omega)]; exact hb
    -- behind the operation
    have fin : ∀ n2 h2 v2 s2, MS h2 (QB n) p v2 s2 → Ev (QB n) (n + 1) hp n2 h2 → ∃ n' h', (L1_SetAll_k3 F (L1_SetAll_l1 F (L1_SetAll_k0 F) k) (sl b 0 len cap) (pt p 0) v2 (i64 i)).run n2 h2 = some (.bool true, n', h') := by
      intro n2 h2 v2 s2 x2 ev2
      have l2 := ev2.le
      have hb2 : h2.get 0 = some ⟨deB, .ro⟩ := by rw [ev2.keep 0 (by omega) (fun w => by have := w.1; omega)]; exact hb1
      obtain ⟨n3, h3, e3, x3, ev3⟩ := sa_k3 (F := F) (A1 := L1_SetAll_l1 F (L1_SetAll_k0 F) k) (x0 := sl b 0 len cap) (i := i) hF x2 ev2.f (by omega) hb2 (by omega)
      have l3 := ev3.le
      rw [e3]
      exact ih (i + 1) k n3 h3 v2 s2 (by omega) (by omega) (by omega) (ha1.keep fun c hc => by rw [ev3.no (by omega), ev2.keep c (by omega) (fun w => by have := w.1; omega)]) (by rw [ev3.no (by omega)]; exact hb2) (x3.mono fun c hc => hc.1) ev3.f (by omega)
    unfold L1_SetAll_r10; (try dsimp only)
    rw [st_field, rec_ld hq rfl]
    unfold L1_SetAll_r19; (try dsimp only)
    rw [st_eql]; (try dsimp only); rw [onB_ite, run_ite]
    by_cases c0 : kk = 0
    · rw [if_pos (by simpa using c0)]
      obtain ⟨n2, h2, v2, s2, e2, x2, ev2⟩ := sa_add (F := F) (q := n) (A1 := L1_SetAll_l1 F (L1_SetAll_k0 F) k) (x0 := sl b 0 len cap) (i := i) hF x1 ev0.f hq (by omega) (by omega)
      rw [e2]
      exact fin n2 h2 v2 s2 x2 ev2
    rw [if_neg (by simpa using c0)]
    unfold L1_SetAll_r25; (try dsimp only)
    rw [st_eql]; (try dsimp only); rw [onB_ite, run_ite]
    by_cases c1 : kk = 1
    · rw [if_pos (by simpa using c1)]
      obtain ⟨n2, h2, v2, s2, e2, x2, ev2⟩ := sa_rem (F := F) (q := n) (A1 := L1_SetAll_l1 F (L1_SetAll_k0 F) k) (x0 := sl b 0 len cap) (i := i) hF x1 ev0.f hq (by omega) (by omega)
      rw [e2]
      exact fin n2 h2 v2 s2 x2 ev2
    rw [if_neg (by simpa using c1)]
    unfold L1_SetAll_r29; (try dsimp only)
    rw [st_eql]; (try dsimp only); rw [onB_ite, run_ite]
    by_cases c2 : kk = 2
    · rw [if_pos (by simpa using c2)]
      obtain ⟨n2, h2, v2, s2, e2, x2, ev2⟩ := sa_join (F := F) (q := n) (A1 := L1_SetAll_l1 F (L1_SetAll_k0 F) k) (x0 := sl b 0 len cap) (i := i) hF x1 ev0.f hq (by omega) hn hz1 hzl (by omega)
      rw [e2]
      exact fin n2 h2 v2 s2 x2 ev2
    rw [if_neg (by simpa using c2)]
    unfold L1_SetAll_r38; (try dsimp only)
    rw [st_eql]; (try dsimp only); rw [onB_ite, run_ite]
    by_cases c3 : kk = 3
    · rw [if_pos (by simpa using c3), sa_has (F := F) (A1 := L1_SetAll_l1 F (L1_SetAll_k0 F) k) hF x1 ev0.f hq]
      exact fin _ _ v s x1 (Ev.refl ev0.f)
    · rw [if_neg (by simpa using c3), sa_first (F := F) (A1 := L1_SetAll_l1 F (L1_SetAll_k0 F) k) hF x1 ev0.f hq]
      exact fin _ _ v s x1 (Ev.refl ev0.f)

theorem nest_ops {h : H} {v : Value} (f : Fr 152 h) (a : NArgIs h (.nest [false, false, true] 50) v) : OpsIn h v := by
  rcases a with rfl | ⟨b, len, cap, u, rfl, g1, g2, g3, g4⟩
  · exact .inl rfl
  refine .inr ⟨b, len, cap, u, rfl, g1, g2, fun h0 => ⟨f.lt (g3 h0), g3 h0⟩, fun i hi => ?_⟩
  have k0 := g4 (i * 3) (by simp; omega)
  have k1 := g4 (i * 3 + 1) (by simp; omega)
  have k2 := g4 (i * 3 + 2) (by simp; omega)
  rw [show (i * 3) % [false, false, true].length = 0 by simp] at k0
  rw [show (i * 3 + 1) % [false, false, true].length = 1 by simp] at k1
  rw [show (i * 3 + 2) % [false, false, true].length = 2 by simp] at k2
  obtain ⟨kk, e0⟩ := k0
  obtain ⟨nn, e1⟩ := k1
  exact ⟨⟨kk, nn, e0.1, e1.1⟩, ArgIs.intsL f k2⟩

theorem begun152_runs : gaveTrue ((L1_begun 6000).run 152 (baseH deB)) = true := by kernel_rfl
theorem begun152_keeps : (((L1_begun 6000).run 152 (baseH deB)).map fun x => x.2.2.get 0) = some (some ⟨deB, .ro⟩) := by kernel_rfl

theorem over152_true {m : M Value} {h : H} (e : gaveTrue (m.run 152 (baseH deB)) = true) (e0 : ((m.run 152 (baseH deB)).map fun x => x.2.2.get 0) = some (some ⟨deB, .ro⟩)) (f : Fr 152 h) (hb : h.get 0 = some ⟨deB, .ro⟩) :
    ∃ n' h', m.run 152 h = some (bo true, n', h') ∧ Fr n' h' ∧ 152 ≤ n' ∧ ∀ c, c < 152 → h'.get c = h.get c := by
  obtain ⟨n', h0, e⟩ := gaveTrue_some e
  rw [e] at e0
  have e0' : h0.get 0 = some ⟨deB, .ro⟩ := Option.some.inj e0
  have l := m.loc _ _ _ _ _ e
  have hget : ∀ b, (baseH deB).get b = if b = 0 then some ⟨deB, .ro⟩ else none := fun b => by
    unfold baseH; rw [H.get_set]; split <;> rfl
  obtain ⟨h', e', hg⟩ := l.more h (fun b B hB => by
    rw [hget] at hB
    split at hB
    · rename_i e; subst e; rw [hb]; exact hB
    · cases hB) fun b hb _ => f b hb
  refine ⟨n', h', e', (f.run e').1, l.le, fun c hc => ?_⟩
  rw [hg c]
  by_cases h0c : c = 0
  · subst h0c; rw [e0', hb]; rfl
  · have : ¬ (h0.get c).isSome = true := fun h => by
      rcases (l.dom c).1 h with h | h
      · rw [hget, if_neg h0c] at h; cases h
      · omega
    rw [if_neg this]

theorem setall_run {F : Nat} (hF : 5200 < F) (hbg : gaveTrue ((L1_begun F).run 152 (baseH deB)) = true) (hbk : (((L1_begun F).run 152 (baseH deB)).map fun x => x.2.2.get 0) = some (some ⟨deB, .ro⟩)) (h : H) (us : List Value) (f : Fr 152 h) (hb : h.get 0 = some ⟨deB, .ro⟩) (ha : NArgsAre h [.nest [false, false, true] 50] us) :
    ∃ n' h', (L1_SetAll_m F us).run 152 h = some (.bool true, n', h') := by
  match us, ha with
  | [va], ha =>
    have hva := nest_ops f ha.1
    show ∃ n' h', (L1_SetAll F va).run 152 h = some (.bool true, n', h')
    unfold L1_SetAll L1_SetAll_r0 L1_SetAll_r1
    try dsimp only
    obtain ⟨n1, h1, e1, f1, g1, k1⟩ := over152_true hbg hbk f hb
    rw [run_bnd e1]
    unfold L1_SetAll_r2
    simp only [st_not, onB_ite, Bool.not_true, Bool.false_eq_true, if_false]
    have hva1 := hva.keep k1
    have hb1 : h1.get 0 = some ⟨deB, .ro⟩ := by rw [k1 0 (by omega)]; exact hb
    unfold L1_SetAll_r4 L1_SetAll_r5 L1_SetAll_r6
    try dsimp only
    obtain ⟨e2, x2, f2⟩ := new_set f1 (k := fun v18 => L1_SetAll_l1 F (L1_SetAll_k0 F) F va v18 nsl (i64 ((0 : Nat) : Int)))
    rw [show (Value.slice none 0 0) = nsl from rfl, show (Value.int .i64 0) = i64 ((0 : Nat) : Int) from rfl, e2]
    have hs : setL (fun _ : Nat => false) = [] := by unfold setL upTo; simp
    have x3 : MS (h1.set n1 ⟨[nsl], .own⟩) (fun c => 152 ≤ c) n1 nsl (fun _ => false) := by
      refine ⟨_, 0, x2, ?_, fun c hc => by omega, fun h0 => ?_⟩
      · exact .inl ⟨by unfold ints; rw [hs]; rfl, rfl⟩
      · exact absurd (by unfold ints; rw [hs]; rfl) h0
    exact sa_l1 (F := F) hF 50 0 F (n1 + 1) _ nsl (fun _ => false) (by omega) (by omega) (by omega) (hva1.keep fun c hc => H.get_set_ne _ _ (by omega)) (by rw [H.get_set_ne _ _ (by omega)]; exact hb1) x3 f2 (by omega)

theorem setall_law (h : H) (us : List Value) (f : Fr 152 h) (hb : h.get 0 = some ⟨deB, .ro⟩) (ha : NArgsAre h [.nest [false, false, true] 50] us) : ∃ n' h', (L1_SetAll_m 6000 us).run 152 h = some (.bool true, n', h') := setall_run (by decide) begun152_runs begun152_keeps h us f hb ha

end Go.Fw
