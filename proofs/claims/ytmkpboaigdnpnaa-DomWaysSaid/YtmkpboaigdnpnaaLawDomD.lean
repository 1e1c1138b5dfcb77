/-
  DomLaws, said of the abstract machine; how each law of haruspexlaw6 begins.
-/
import Derived.Test.YtmkpboaigdnpnaaLawDomC
set_option maxRecDepth 20000
namespace Go.Fw

/-- A graph that is made, put into a variable. -/
structure MadeAt (n0 n : Nat) (h : H) (g N : Nat) (tv : Value) (O : Nat → Prop) (ob : Nat) (adj : Nat → List Nat) : Prop where
  var : GB h g N tv
  tv : tv = sl ob 0 N N
  rows : OL h ob N O (fun a => nats (adj a))
  low : ∀ c, O c → n0 ≤ c
  off : ¬ O g
  glow : n0 ≤ g
  glt : g < n
  ok : GOk N adj
  pos : 1 ≤ N
  few : N ≤ 25
  short : ∀ a, (adj a).length ≤ 80

theorem MadeAt.gr {n0 n : Nat} {h : H} {g N : Nat} {tv : Value} {O : Nat → Prop} {ob : Nat} {adj : Nat → List Nat} (x : MadeAt n0 n h g N tv O ob adj) (f : Fr n h) : Gr h n tv N adj := by
  rw [x.tv]; exact x.rows.gr f fun _ _ => rfl

theorem made_var {F n len : Nat} {v : Value} {z : Int} {Z : Nat → Int} {h : H} (hF : 1000000 ≤ F) (hn : 8 ≤ n) (hz : Fit z) (hZ : ∀ i, Fit (Z i)) (hp : Pairs h v len Z) (f : Fr n h) :
    ∃ n' h' g ob O, (∀ K : Value → M Value, (bnd (L5_Made F (i64 z) v) fun w => bnd (opPtr [i64 0, nsl]) fun x => bnd (opStoreN 2 x w) fun _ => K x).run n h = (K (pt g 0)).run n' h') ∧ MadeAt n n' h' g (nodesOf z) (sl ob 0 (nodesOf z) (nodesOf z)) O ob (madeL (nodesOf z) Z (min len 80)) ∧ Ev No n h n' h' := by
  obtain ⟨_, hN1, hN2⟩ := nodesOf_eq z
  obtain ⟨n1, h1, ob, O, e1, x1, o1, ev1⟩ := made_spec (F := F) (by omega) hn hz hZ hp f
  have l1 := ev1.le
  have ev2 := Ev.new ev1.f ⟨[i64 0, nsl], .own⟩
  obtain ⟨h3, e3, g3, ev3⟩ := GB.put (β := Value) (N := nodesOf z) (tv := sl ob 0 (nodesOf z) (nodesOf z)) (H.get_set_same h1 n1 ⟨[i64 0, nsl], .own⟩) rfl ev2.f rfl
  have ev13 : Ev No n1 h1 (n1 + 1) h3 := ev2.trans ev3 fun c hc q => by omega
  refine ⟨n1 + 1, h3, n1, ob, O, fun K => ?_, ⟨g3, rfl, x1.keep fun c hc => ev13.no (x1.lt ev1.f hc), o1, fun q => by have := x1.lt ev1.f q; omega, l1, by omega, ⟨by omega, fun a _ b hb => madeL_lt hN1 hb, fun a _ => ?_⟩, hN1, hN2, fun a => ?_⟩, ev1.trans ev13 fun _ _ h => h⟩
  · rw [run_bnd e1, run_ptr ev1.f (by rfl), e3]
  · have := madeL_len (N := nodesOf z) (Z := Z) (i := min len 80) (a := a); omega
  · have := madeL_len (N := nodesOf z) (Z := Z) (i := min len 80) (a := a); omega

section
variable {adj : Nat → List Nat} {N : Nat} {o : List Nat} {place : Nat → Nat} {up : Nat → Int}

theorem laws_l1 {F bu bs g n : Nat} {h : H} {tv x2 x3 x4 : Value} {seen : Nat → Bool} (hF : 1000000 ≤ F) (hN : N ≤ 600) (P : Pl adj N 0 o place) (D : DomT adj 0 o place up) (tu : TI h bu N up) (ts : TB h bs N seen) (hs : ∀ q, seen q = true ↔ Rch adj 0 q) (hg : GB h g N tv) {E : Value → Value → Value → Value → Value → M Value} : ∀ j i k, i + j = N → j < k →
    (L6_DomLaws_l1 F E k x2 x3 x4 (pt g 0) (sl bu 0 N N) (sl bs 0 N N) (i64 (i : Nat))).run n h = (E x2 x3 x4 (pt g 0) (sl bu 0 N N)).run n h := by
  intro j
  induction j with
  | zero =>
    intro i k hij hk
    obtain ⟨k, rfl⟩ : ∃ j, k = j + 1 := ⟨k - 1, by omega⟩
    rw [L6_DomLaws_l1_s]
    unfold L6_DomLaws_b1 L6_DomLaws_r8
    try dsimp only
    rw [hg.nn, st_lss]
    simp only [onB_ite, run_ite, decide_eq_true_eq]
    rw [if_neg (by omega)]
  | succ j ih =>
    intro i k hij hk
    obtain ⟨k, rfl⟩ : ∃ j, k = j + 1 := ⟨k - 1, by omega⟩
    have hi : i < N := by omega
    rw [L6_DomLaws_l1_s]
    unfold L6_DomLaws_b1 L6_DomLaws_r8
    try dsimp only
    rw [hg.nn, st_lss]
    simp only [onB_ite, run_ite, decide_eq_true_eq]
    rw [if_pos (by omega)]
    unfold L6_DomLaws_r10
    try dsimp only
    have e1 : domB adj 0 0 i = seen i := by
      rw [Bool.eq_iff_iff, domB_iff, hs]
      exact ⟨fun q => q.1, fun q => Dom.top q⟩
    have e2 : domB adj 0 i i = seen i := by
      rw [Bool.eq_iff_iff, domB_iff, hs]
      exact ⟨fun q => q.1, fun q => Dom.self q⟩
    have a1 := above_nat (F := F) (n := n) hF P D tu hN 0 i
    have a2 := above_nat (F := F) (n := n) hF P D tu hN i i
    have hck : (tab N fun i => bo (seen i))[0 + i]? = some (bo (seen i)) := by rw [Nat.zero_add]; exact tab_get hi
    rw [ix1 hi, ld1 ts (by decide) hck, show (Value.int .i64 0) = i64 ((0 : Nat) : Int) from rfl, run_bnd a1, run_chk ts (by decide) hck (by simp [veq]), e1, st_eqB]
    simp only [onB_ite, run_ite]
    rw [if_neg (by cases seen i <;> decide), ix1 hi, ld1 ts (by decide) hck, run_bnd a2, run_chk ts (by decide) hck (by simp [veq]), e2, st_eqB]
    simp only [onB_ite, run_ite]
    rw [if_neg (by cases seen i <;> decide)]
    unfold L6_DomLaws_r9
    try dsimp only
    rw [sx_add (by omega)]
    exact ih (i + 1) k (by omega) (by omega)
end

theorem domlaws_run {F : Nat} (hF : 1000000 ≤ F) (hbg : gaveTrue ((L6_begun F).run 8 .leaf) = true) (h : H) (us : List Value) (f : Fr 8 h) (ha : ArgsAre h [.int, .flat 2, .int, .int, .int] us) :
    ∃ n' h', (L6_DomLaws_m F us).run 8 h = some (.bool true, n', h') := by
  obtain ⟨_, v, _, _, _, rfl, ⟨z, rfl, hz⟩, hv, ⟨a, rfl, hza⟩, ⟨b, rfl, hzb⟩, ⟨c, rfl, hzc⟩⟩ := args5 ha
  obtain ⟨len, Z, hp, hl, hZ⟩ := hv.pairs f
  show ∃ n' h', (L6_DomLaws F (i64 z) v (i64 a) (i64 b) (i64 c)).run 8 h = some (.bool true, n', h')
  unfold L6_DomLaws L6_DomLaws_r0 L6_DomLaws_r1
  try dsimp only
  obtain ⟨n1, h1, e1, f1, l1, k1⟩ := run_true hbg f
  rw [run_bnd e1]
  unfold L6_DomLaws_r2
  simp only [st_not, onB_ite, Bool.not_true, Bool.false_eq_true, if_false]
  unfold L6_DomLaws_r4
  try dsimp only
  obtain ⟨n2, h2, g, ob, O, e2, x2, ev2⟩ := made_var (F := F) hF l1 hz hZ (hp.keep k1) f1
  rw [show (Value.int .i64 0) = i64 0 from rfl, show (Value.slice none 0 0) = nsl from rfl, e2]
  generalize nodesOf z = N at *
  generalize madeL N Z (min len 80) = adj at *
  have gr2 := x2.gr ev2.f
  have hN := x2.few
  have hN1 := x2.pos
  have le2 := ev2.le
  unfold L6_DomLaws_r5
  try dsimp only
  obtain ⟨n3, h3, bu, up, o, place, e3, t3, P, D, lb3, ev3⟩ := up_in (F := F) (root := 0) hF gr2 (Nat.le_refl _) x2.ok (by omega) ev2.f
  have le3 := ev3.le
  rw [x2.var.all, show (Value.int .i64 0) = i64 ((0 : Nat) : Int) from rfl, run_bnd e3]
  have gr3 := gr2.no ev3 (Nat.le_refl _)
  have gb3 := x2.var.ev ev3 x2.glt (fun h => h)
  unfold L6_DomLaws_r6
  try dsimp only
  obtain ⟨n4, h4, bs, seen, e4, t4, q4, lb4, ev4⟩ := reach_one (F := F) (root := 0) (w := -1) hF gr3 (by omega) x2.ok ev3.f
  rw [gb3.t, show (Value.int .i64 0) = i64 ((0 : Nat) : Int) from rfl]
  have e4' := e4 (fun v30 => L6_DomLaws_r7 F (i64 a) (i64 b) (i64 c) (pt g 0) (sl bu 0 N N) v30 fun x2 x3 x4 x12 x13 x14 x15 => L6_DomLaws_l1 F (fun x2 x3 x4 x12 x13 => L6_DomLaws_k0 F x2 x3 x4 x12 x13) F x2 x3 x4 x12 x13 x14 x15)
  rw [show (Value.int .i64 (-1)) = i64 (-1) from rfl]
  refine ⟨n4, h4, ?_⟩
  refine Eq.trans e4' ?_
  have tu4 := t3.ev ev4 (TV.lt t3 ev3.f) (fun h => h)
  have gb4 := gb3.ev ev4 (by have := x2.glt; omega) (fun h => h)
  unfold L6_DomLaws_r7
  try dsimp only
  rw [show (Value.int .i64 0) = i64 ((0 : Nat) : Int) from rfl, laws_l1 hF (by omega) P D tu4 t4 (fun q => (q4 q).trans (rchS_rch (by omega))) gb4 N 0 F (by omega) (by omega)]
  unfold L6_DomLaws_k0 L6_DomLaws_r12
  try dsimp only
  obtain ⟨wa, la⟩ := wrapN_eq hN1 a
  obtain ⟨wb, lb⟩ := wrapN_eq hN1 b
  obtain ⟨wc, lc⟩ := wrapN_eq hN1 c
  have r1 := Int.tmod_lt_of_pos a (show (0 : Int) < N by omega)
  have r2 := Int.lt_tmod_of_pos a (show (0 : Int) < N by omega)
  have r3 := Int.tmod_lt_of_pos b (show (0 : Int) < N by omega)
  have r4 := Int.lt_tmod_of_pos b (show (0 : Int) < N by omega)
  have r5 := Int.tmod_lt_of_pos c (show (0 : Int) < N by omega)
  have r6 := Int.lt_tmod_of_pos c (show (0 : Int) < N by omega)
  rw [gb4.nn, st_rem (by omega), gb4.nn, sx_add (by omega), gb4.nn, st_rem (by omega), wa, gb4.nn, st_rem (by omega), gb4.nn, sx_add (by omega), gb4.nn, st_rem (by omega), wb, gb4.nn, st_rem (by omega), gb4.nn, sx_add (by omega), gb4.nn, st_rem (by omega), wc]
  generalize wrapN N a = x at *
  generalize wrapN N b = y at *
  generalize wrapN N c = w at *
  have ab : ∀ p q : Nat, (dom_Above F (sl bu 0 N N) (i64 (p : Int)) (i64 (q : Int))).run n4 h4 = some (bo (domB adj 0 p q), n4, h4) := fun p q => above_nat hF P D tu4 (by omega) p q
  have tr : domB adj 0 x y = true → domB adj 0 y w = true → domB adj 0 x w = true := fun h1 h2 => domB_iff.2 ((domB_iff.1 h1).trans (domB_iff.1 h2))
  have asy : domB adj 0 x y = true → domB adj 0 y x = true → x = y := fun h1 h2 => D.antisymm P (domB_iff.1 h1) (domB_iff.1 h2)
  have ln : domB adj 0 x w = true → domB adj 0 y w = true → domB adj 0 x y = true ∨ domB adj 0 y x = true := fun h1 h2 => (D.linear P (domB_iff.1 h1) (domB_iff.1 h2)).imp domB_iff.2 domB_iff.2
  have fin : (L6_DomLaws_r15 F (sl bu 0 N N) (i64 x) (i64 y) (i64 w) fun x10 => ret x10).run n4 h4 = some (bo true, n4, h4) := by
    unfold L6_DomLaws_r15
    try dsimp only
    rw [run_bnd (ab x w), st_not]
    simp only [onB_ite, run_ite]
    cases hxw : domB adj 0 x w with
    | false => rw [if_pos (by decide)]; rfl
    | true =>
      rw [if_neg (by decide), run_bnd (ab y w), st_not]
      simp only [onB_ite, run_ite]
      cases hyw : domB adj 0 y w with
      | false => rw [if_pos (by decide)]; rfl
      | true =>
        rw [if_neg (by decide), run_bnd (ab x y)]
        simp only [onB_ite, run_ite]
        cases hxy : domB adj 0 x y with
        | true => rw [if_pos rfl]; rfl
        | false =>
          rw [if_neg (by decide), run_bnd (ab y x)]
          have := (ln hxw hyw).resolve_left (by rw [hxy]; decide)
          rw [this]; rfl
  have mid : ∀ K : Value → Value → Value → Value → Value → M Value, (bnd (opBin .neq (i64 (x : Int)) (i64 (y : Int))) fun v106 => onB v106 (bnd (dom_Above F (sl bu 0 N N) (i64 x) (i64 y)) fun v111 => onB v111 (bnd (dom_Above F (sl bu 0 N N) (i64 y) (i64 x)) fun v117 => K (sl bu 0 N N) (i64 x) (i64 y) (i64 w) v117) (K (sl bu 0 N N) (i64 x) (i64 y) (i64 w) (.bool false))) (K (sl bu 0 N N) (i64 x) (i64 y) (i64 w) (.bool false))).run n4 h4 = (K (sl bu 0 N N) (i64 x) (i64 y) (i64 w) (bo false)).run n4 h4 := fun K => by
    rw [st_neq]
    simp only [onB_ite, run_ite]
    by_cases e : x = y
    · rw [if_neg (by rw [e]; simp)]
    · rw [if_pos (by rw [bne_iff_ne]; omega), run_bnd (ab x y)]
      simp only [onB_ite, run_ite]
      cases hxy : domB adj 0 x y with
      | false => rw [if_neg (by decide)]
      | true =>
        rw [if_pos rfl, run_bnd (ab y x)]
        cases hyx : domB adj 0 y x with
        | false => rfl
        | true => exact absurd (asy hxy hyx) e
  unfold L6_DomLaws_r13
  try dsimp only
  rw [run_bnd (ab x y)]
  have done : ((fun x13 x16 x17 x18 x119 => onB x119 (L6_DomLaws_r14 F fun x10 => ret x10) (L6_DomLaws_r15 F x13 x16 x17 x18 fun x10 => ret x10)) (sl bu 0 N N) (i64 (x : Int)) (i64 (y : Int)) (i64 (w : Int)) (bo false)).run n4 h4 = some (bo true, n4, h4) := fin
  rw [onB_ite, run_ite]
  cases hxy : domB adj 0 x y with
  | false =>
    rw [if_neg (by decide)]
    exact (mid (fun x13 x16 x17 x18 x119 => onB x119 (L6_DomLaws_r14 F fun x10 => ret x10) (L6_DomLaws_r15 F x13 x16 x17 x18 fun x10 => ret x10))).trans done
  | true =>
    rw [if_pos rfl, run_bnd (ab y w), onB_ite, run_ite]
    cases hyw : domB adj 0 y w with
    | false =>
      rw [if_neg (by decide)]
      exact (mid (fun x13 x16 x17 x18 x119 => onB x119 (L6_DomLaws_r14 F fun x10 => ret x10) (L6_DomLaws_r15 F x13 x16 x17 x18 fun x10 => ret x10))).trans done
    | true =>
      rw [if_pos rfl, run_bnd (ab x w), tr hxy hyw, st_not, onB_ite, run_ite, if_neg (by decide)]
      exact (mid (fun x13 x16 x17 x18 x119 => onB x119 (L6_DomLaws_r14 F fun x10 => ret x10) (L6_DomLaws_r15 F x13 x16 x17 x18 fun x10 => ret x10))).trans done

end Go.Fw
