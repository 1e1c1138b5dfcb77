/-
  DomWays, said of the abstract machine.
-/
import Derived.Test.YtmkpboaigdnpnaaLawPathB
import Derived.Test.YtmkpboaigdnpnaaLawDomE
import Derived.Test.YtmkpboaigdnpnaaLawCRef
set_option maxRecDepth 20000
namespace Go.Fw

section
variable {adj : Nat → List Nat} {N root : Nat} {o : List Nat} {place : Nat → Nat} {up : Nat → Int}

theorem PW.mem_lt {t a : Nat} {l : List Nat} (ok : GOk N adj) (h : PW adj t a l) (ha : a < N) : ∀ x, x ∈ l → x < N := by
  induction h with
  | stop => intro x hx; rw [List.mem_singleton] at hx; omega
  | go _ n _ ih =>
    obtain ⟨_, _, e, _, _⟩ := n
    intro x hx
    rcases List.mem_cons.1 hx with rfl | hx
    · exact ha
    · exact ih (ok.lt _ ha _ e) x hx

theorem PW.short {t a : Nat} {l : List Nat} (h : PW adj t a l) : l.Nodup := by
  induction h with
  | stop => simp
  | @go a b l hne n p ih =>
    rw [List.nodup_cons]
    refine ⟨fun hm => ?_, ih⟩
    obtain ⟨k, d1, _, d2, _⟩ := n
    have key : ∀ x l, PW adj t x l → ∀ j, Dst adj t x j → ∀ y, y ∈ l → ∃ i, i ≤ j ∧ Dst adj t y i := by
      intro x l p
      induction p with
      | stop =>
        intro j hj y hy
        rw [List.mem_singleton] at hy
        subst hy
        exact ⟨j, Nat.le_refl _, hj⟩
      | go _ n _ ih =>
        obtain ⟨k, e1, _, e2, _⟩ := n
        intro j hj y hy
        rcases List.mem_cons.1 hy with rfl | hy
        · exact ⟨j, Nat.le_refl _, hj⟩
        · have := e1.uniq hj
          obtain ⟨i, h1, h2⟩ := ih k e2 y hy
          exact ⟨i, by omega, h2⟩
    obtain ⟨i, h1, h2⟩ := key b l p k d2 a hm
    have := h2.uniq d1
    omega

theorem PW.small {t a : Nat} {l : List Nat} (ok : GOk N adj) (h : PW adj t a l) (ha : a < N) : l.length ≤ N := nodup_len h.short (h.mem_lt ok ha)

theorem ways_l1 {F bu g n to : Nat} {h : H} {tv vw : Value} {l : List Nat} (hF : 1000000 ≤ F) (ok : GOk N adj) (P : Pl adj N root o place) (D : DomT adj root o place up) (tu : TI h bu N up) (hg : GB h g N tv) (hw : RdI h vw (nats l)) (hl : l.length ≤ N) (hdom : ∀ a, Dom adj root a to → a ∈ l) {E : Value → Value → Value → M Value} : ∀ j i k, i + j = N → j < k →
    (L6_DomWays_l1 F E k (i64 (root : Int)) (i64 (to : Int)) (pt g 0) (sl bu 0 N N) vw (i64 (i : Nat))).run n h = (E (i64 (root : Int)) (i64 (to : Int)) (sl bu 0 N N)).run n h := by
  have hN := ok.few
  intro j
  induction j with
  | zero =>
    intro i k hij hk
    obtain ⟨k, rfl⟩ : ∃ j, k = j + 1 := ⟨k - 1, by omega⟩
    rw [L6_DomWays_l1_s]
    unfold L6_DomWays_b1 L6_DomWays_r10
    try dsimp only
    rw [hg.nn, st_lss]
    simp only [onB_ite, run_ite, decide_eq_true_eq]
    rw [if_neg (by omega)]
  | succ j ih =>
    intro i k hij hk
    obtain ⟨k, rfl⟩ : ∃ j, k = j + 1 := ⟨k - 1, by omega⟩
    rw [L6_DomWays_l1_s]
    unfold L6_DomWays_b1 L6_DomWays_r10
    try dsimp only
    rw [hg.nn, st_lss]
    simp only [onB_ite, run_ite, decide_eq_true_eq]
    rw [if_pos (by omega)]
    have next : (L6_DomWays_r11 F (i64 (root : Int)) (i64 (to : Int)) (pt g 0) (sl bu 0 N N) vw (i64 (i : Nat)) fun x2 x3 x10 x11 x12 x13 => L6_DomWays_l1 F E k x2 x3 x10 x11 x12 x13).run n h = (E (i64 (root : Int)) (i64 (to : Int)) (sl bu 0 N N)).run n h := by
      unfold L6_DomWays_r11
      try dsimp only
      rw [sx_add (by omega)]
      exact ih (i + 1) k (by omega) (by omega)
    unfold L6_DomWays_r12
    try dsimp only
    rw [run_bnd (above_nat hF P D tu hN i to), onB_ite, run_ite]
    cases hd : domB adj root i to with
    | false =>
      rw [if_neg (by decide), onB_ite, run_ite, if_neg (by decide)]
      exact next
    | true =>
      have hm : ((i : Nat) : Int) ∈ nats l := by
        unfold nats
        rw [List.mem_map]
        exact ⟨i, hdom i (domB_iff.1 hd), rfl⟩
      have hll : (nats l).length = l.length := by unfold nats; rw [List.length_map]
      rw [if_pos rfl, run_bnd (rin_spec hw (by omega) (by omega) _), decide_eq_true hm, st_not, onB_ite, run_ite, if_neg (by decide)]
      exact next
end

theorem domways_run {F : Nat} (hF : 1000000 ≤ F) (hbg : gaveTrue ((L6_begun F).run 8 .leaf) = true) (h : H) (us : List Value) (f : Fr 8 h) (ha : ArgsAre h [.int, .flat 2, .int, .int] us) :
    ∃ n' h', (L6_DomWays_m F us).run 8 h = some (.bool true, n', h') := by
  obtain ⟨_, v, _, _, rfl, ⟨z, rfl, hz⟩, hv, ⟨r, rfl, hzr⟩, ⟨to, rfl, hzt⟩⟩ := args4 ha
  obtain ⟨len, Z, hp, hl, hZ⟩ := hv.pairs f
  show ∃ n' h', (L6_DomWays F (i64 z) v (i64 r) (i64 to)).run 8 h = some (.bool true, n', h')
  unfold L6_DomWays L6_DomWays_r0 L6_DomWays_r1
  try dsimp only
  obtain ⟨n1, h1, e1, f1, l1, k1⟩ := run_true hbg f
  rw [run_bnd e1]
  unfold L6_DomWays_r2
  simp only [st_not, onB_ite, Bool.not_true, Bool.false_eq_true, if_false]
  unfold L6_DomWays_r4
  try dsimp only
  obtain ⟨n2, h2, g, ob, O, e2, x2, ev2⟩ := made_var (F := F) hF l1 hz hZ (hp.keep k1) f1
  rw [show (Value.int .i64 0) = i64 0 from rfl, show (Value.slice none 0 0) = nsl from rfl, e2]
  generalize nodesOf z = N at *
  generalize madeL N Z (min len 80) = adj at *
  have gr2 := x2.gr ev2.f
  have hN := x2.few
  have hN1 := x2.pos
  have hgl := x2.glt
  unfold L6_DomWays_r5
  try dsimp only
  rw [x2.var.all]
  by_cases hr : 0 ≤ r ∧ r < (N : Int)
  · obtain ⟨root, rfl⟩ : ∃ root : Nat, r = (root : Int) := ⟨r.toNat, by omega⟩
    obtain ⟨n3, h3, bu, up, o, place, e3, t3, P, D, lb3, ev3⟩ := up_in (F := F) (root := root) hF gr2 (Nat.le_refl _) x2.ok (by omega) ev2.f
    have le3 := ev3.le
    rw [run_bnd e3]
    have gb3 := x2.var.ev ev3 x2.glt (fun h => h)
    have gr3 := gr2.no ev3 (Nat.le_refl _)
    unfold L6_DomWays_r6
    try dsimp only
    rw [gb3.all]
    by_cases ht : 0 ≤ to ∧ to < (N : Int)
    · obtain ⟨t, rfl⟩ : ∃ t : Nat, to = (t : Int) := ⟨to.toNat, by omega⟩
      obtain ⟨n4, h4, w, e4, ev4, hw⟩ := path_in (F := F) hF gr3 le3 x2.ok (show root < N by omega) (show t < N by omega) ev3.f
      rw [run_bnd e4]
      have gb4 := gb3.ev ev4 (by omega) (fun h => h)
      have tu4 := t3.ev ev4 (TV.lt t3 ev3.f) (fun h => h)
      unfold L6_DomWays_r7
      try dsimp only
      rcases hw with ⟨rfl, hn⟩ | ⟨l, hrd, hpw⟩
      · rw [st_len, st_eql, onB_ite, run_ite, if_pos (by decide), onB_ite, run_ite, if_pos rfl]
        unfold L6_DomWays_r8
        try dsimp only
        have hut : up t = -1 := (D.inv.dom t).resolve_right fun q => hn ((P.ord.mem t).1 q.1)
        rw [st_lss, onB_ite, run_ite, if_neg (by simp), gb4.nn, st_geq, onB_ite, run_ite, if_neg (by simp; omega), st_lss, onB_ite, run_ite, if_neg (by simp), gb4.nn, st_geq, onB_ite, run_ite, if_neg (by simp; omega), TI.get tu4 (by omega), hut, st_eql]
        exact ⟨n4, h4, rfl⟩
      · obtain ⟨l', hl'⟩ := hpw.head
        have hll := hpw.small x2.ok (show root < N by omega)
        have hrt : Rch adj root t := by
          obtain ⟨k, d1, _⟩ := hpw.len
          exact wk_rch.1 ⟨k, d1.1⟩
        rw [hrd.lenI, show (nats l).length = l.length by unfold nats; rw [List.length_map], st_eql, onB_ite, run_ite, if_neg (by rw [hl']; simp; omega), st_len, gb4.nn, st_neq, onB_ite, run_ite, if_neg (by simp)]
        unfold L6_DomWays_r9
        try dsimp only
        have hdom : ∀ a, Dom adj root a t → a ∈ l := fun a hd => Classical.byContradiction fun hna => hd.2 (hpw.avoid hna (.start fun e => hna (by rw [hl', e]; simp)))
        rw [show (Value.int .i64 0) = i64 ((0 : Nat) : Int) from rfl, ways_l1 hF x2.ok P D tu4 gb4 hrd hll hdom N 0 F (by omega) (by omega)]
        unfold L6_DomWays_k0 L6_DomWays_r14
        try dsimp only
        rw [run_bnd (above_nat hF P D tu4 (by omega) root t), domB_iff.2 (Dom.top hrt)]
        exact ⟨n4, h4, rfl⟩
    · obtain ⟨n4, h4, e4, ev4⟩ := path_out (F := F) (a := (root : Int)) (b := to) hF gr3 le3 x2.ok (by omega) ev3.f
      rw [run_bnd e4]
      have gb4 := gb3.ev ev4 (by omega) (fun h => h)
      unfold L6_DomWays_r7
      try dsimp only
      rw [st_len, st_eql, onB_ite, run_ite, if_pos (by decide), onB_ite, run_ite, if_pos rfl]
      unfold L6_DomWays_r8
      try dsimp only
      rw [st_lss, onB_ite, run_ite, if_neg (by simp), gb4.nn, st_geq, onB_ite, run_ite, if_neg (by simp; omega), st_lss, onB_ite, run_ite]
      by_cases h0 : to < 0
      · rw [if_pos (by simpa using h0)]; exact ⟨n4, h4, rfl⟩
      · rw [if_neg (by simpa using h0), gb4.nn, st_geq, onB_ite, run_ite, if_pos (by simp; omega)]; exact ⟨n4, h4, rfl⟩
  · obtain ⟨n3, h3, e3, ev3⟩ := up_out (F := F) hF gr2 (Nat.le_refl _) x2.ok (show r < 0 ∨ (N : Int) ≤ r by omega) ev2.f
    have le3 := ev3.le
    rw [run_bnd e3]
    have gb3 := x2.var.ev ev3 x2.glt (fun h => h)
    have gr3 := gr2.no ev3 (Nat.le_refl _)
    unfold L6_DomWays_r6
    try dsimp only
    obtain ⟨n4, h4, e4, ev4⟩ := path_out (F := F) (a := r) (b := to) hF gr3 le3 x2.ok (by omega) ev3.f
    rw [gb3.all, run_bnd e4]
    have gb4 := gb3.ev ev4 (by omega) (fun h => h)
    unfold L6_DomWays_r7
    try dsimp only
    rw [st_len, st_eql, onB_ite, run_ite, if_pos (by decide), onB_ite, run_ite, if_pos rfl]
    unfold L6_DomWays_r8
    try dsimp only
    rw [st_lss, onB_ite, run_ite]
    by_cases h0 : r < 0
    · rw [if_pos (by simpa using h0)]; exact ⟨n4, h4, rfl⟩
    · rw [if_neg (by simpa using h0), gb4.nn, st_geq, onB_ite, run_ite, if_pos (by simp; omega)]; exact ⟨n4, h4, rfl⟩

theorem domways_law (h : H) (us : List Value) (f : Fr 8 h) (ha : ArgsAre h [.int, .flat 2, .int, .int] us) : ∃ n' h', (L6_DomWays_m 1000000 us).run 8 h = some (.bool true, n', h') := domways_run (Nat.le_refl _) begun6c_runs h us f ha

end Go.Fw
