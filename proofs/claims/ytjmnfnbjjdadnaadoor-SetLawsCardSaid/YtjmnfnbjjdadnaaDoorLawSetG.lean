/-
  SetLaws, said of the abstract machine.
-/
import Derived.Test.YtjmnfnbjjdadnaaDoorLawSetF
set_option maxRecDepth 20000
namespace Go.Fw

theorem eqS_of {s s' : Nat → Bool} (h : ∀ m, s m = s' m) : eqS s s' = true := eqS_iff.2 (funext h)

theorem laws_run {F : Nat} (hF : 5100 < F) (hbg : gaveTrue ((L1_begun F).run 8 (baseH deB)) = true) (hbk : (((L1_begun F).run 8 (baseH deB)).map fun x => x.2.2.get 0) = some (some ⟨deB, .ro⟩)) (h : H) (us : List Value) (f : Fr 8 h) (hb : h.get 0 = some ⟨deB, .ro⟩) (ha : ArgsAre h [.flat 1, .flat 1, .flat 1] us) :
    ∃ n' h', (L1_SetLaws_m F us).run 8 h = some (.bool true, n', h') := by
  obtain ⟨va, vb, vc, rfl, hva, hvb, hvc⟩ := args3 ha
  obtain ⟨az, hva, hla⟩ := hva.ints f
  obtain ⟨bz, hvb, hlb⟩ := hvb.ints f
  obtain ⟨cz, hvc, hlc⟩ := hvc.ints f
  show ∃ n' h', (L1_SetLaws F va vb vc).run 8 h = some (.bool true, n', h')
  unfold L1_SetLaws L1_SetLaws_r0 L1_SetLaws_r1
  obtain ⟨n1, h1, e1, f1, g1, k1⟩ := run_over_true hbg hbk f hb
  rw [run_bnd e1]
  unfold L1_SetLaws_r2
  simp only [st_not, onB_ite, Bool.not_true, Bool.false_eq_true, if_false]
  have hva1 := hva.keep k1
  have hvb1 := hvb.keep k1
  have hvc1 := hvc.keep k1
  unfold L1_SetLaws_r4
  obtain ⟨va', ea, ha'⟩ := cut_spec (F := F) (n := n1) hva1 hla 30 (by decide)
  obtain ⟨vb', eb, hb'⟩ := cut_spec (F := F) (n := n1) hvb1 hlb 30 (by decide)
  obtain ⟨vc', ec, hc'⟩ := cut_spec (F := F) (n := n1) hvc1 hlc 30 (by decide)
  rw [show (Value.int .i64 30) = i64 ((30 : Nat) : Int) from rfl, run_bnd ea, run_bnd eb, run_bnd ec]
  have hal : (az.take 30).length ≤ 30 := by rw [List.length_take]; omega
  have hbl : (bz.take 30).length ≤ 30 := by rw [List.length_take]; omega
  have hcl : (cz.take 30).length ≤ 30 := by rw [List.length_take]; omega
  generalize az.take 30 = az at *
  generalize bz.take 30 = bz at *
  generalize cz.take 30 = cz at *
  have F1 : 100 < F := by omega
  unfold L1_SetLaws_r5
  obtain ⟨n2, h2, e2, x, ev2⟩ := at_of (F := F) F1 g1 (by omega) (by omega) ha' f1
  have l2 := ev2.le
  dsimp only
  rw [run_bnd e2]
  obtain ⟨n3, h3, e3, y, ev3⟩ := at_of (F := F) F1 (by omega) (by omega) (by omega) (hb'.keep fun c hc => ev2.no (by omega)) ev2.f
  have l3 := ev3.le
  rw [run_bnd e3]
  unfold L1_SetLaws_r6
  obtain ⟨n4, h4, e4, z, ev4⟩ := at_of (F := F) F1 (by omega) (by omega) (by omega) (hc'.keep fun c hc => by rw [ev3.no (by omega), ev2.no (by omega)]) ev3.f
  have l4 := ev4.le
  dsimp only
  rw [run_bnd e4]
  have x := ((x.kept ev3 (Nat.le_refl _)).kept ev4 l3).mono (Nat.zero_le _) (Nat.le_trans l3 l4)
  have y := (y.kept ev4 (Nat.le_refl _)).mono (Nat.zero_le _) l4
  have z := z.mono (Nat.zero_le _) (Nat.le_refl _)
  have f4 := ev4.f
  -- l
  unfold L1_SetLaws_r7
  obtain ⟨n5, h5, pl, e5, l, ev5⟩ := at_copy (F := F) x f4
  have l5 := ev5.le
  dsimp only
  rw [run_bnd e5]
  have x := x.kept ev5 (Nat.le_refl _)
  have y := y.kept ev5 (Nat.le_refl _)
  have z := z.kept ev5 (Nat.le_refl _)
  unfold L1_SetLaws_r8
  obtain ⟨n6, h6, e6, l, ev6⟩ := at_join (F := F) F1 l y (.inl (Nat.le_refl _)) l5 ev5.f
  have l6 := ev6.le
  dsimp only
  rw [run_bnd e6]
  have x := x.keep ev6 l5 fun c hc _ => by omega
  have y := y.keep ev6 l5 fun c hc _ => by omega
  have z := z.keep ev6 l5 fun c hc _ => by omega
  unfold L1_SetLaws_r9
  obtain ⟨n7, h7, e7, l, ev7⟩ := at_join (F := F) F1 l z (.inl (Nat.le_refl _)) (by omega) ev6.f
  have l7 := ev7.le
  dsimp only
  rw [run_bnd e7]
  have x := x.keep ev7 (by omega) fun c hc _ => by omega
  have y := y.keep ev7 (by omega) fun c hc _ => by omega
  have z := z.keep ev7 (by omega) fun c hc _ => by omega
  -- m
  unfold L1_SetLaws_r10
  obtain ⟨n8, h8, pm, e8, m, ev8⟩ := at_copy (F := F) z ev7.f
  have l8 := ev8.le
  dsimp only
  rw [run_bnd e8]
  have x := x.kept ev8 (by omega)
  have y := y.kept ev8 (by omega)
  have z := z.kept ev8 (by omega)
  have l := l.kept ev8 (by omega)
  unfold L1_SetLaws_r11
  obtain ⟨n9, h9, e9, m, ev9⟩ := at_join (F := F) F1 m x (.inl (by omega)) l8 ev8.f
  have l9 := ev9.le
  dsimp only
  rw [run_bnd e9]
  have x := x.keep ev9 (by omega) fun c hc _ => by omega
  have y := y.keep ev9 (by omega) fun c hc _ => by omega
  have z := z.keep ev9 (by omega) fun c hc _ => by omega
  have l := l.keep ev9 (by omega) fun c hc _ => by omega
  unfold L1_SetLaws_r12
  obtain ⟨n10, h10, e10, m, ev10⟩ := at_join (F := F) F1 m y (.inl (by omega)) (by omega) ev9.f
  have l10 := ev10.le
  dsimp only
  rw [run_bnd e10]
  have x := x.keep ev10 (by omega) fun c hc _ => by omega
  have y := y.keep ev10 (by omega) fun c hc _ => by omega
  have z := z.keep ev10 (by omega) fun c hc _ => by omega
  have l := l.keep ev10 (by omega) fun c hc _ => by omega
  -- n
  unfold L1_SetLaws_r13
  obtain ⟨n11, h11, pn, e11, w, ev11⟩ := at_less (F := F) F1 x y ev10.f
  have l11 := ev11.le
  dsimp only
  rw [run_bnd e11]
  have x := x.kept ev11 (by omega)
  have y := y.kept ev11 (by omega)
  have z := z.kept ev11 (by omega)
  have l := l.kept ev11 (by omega)
  have m := m.kept ev11 (by omega)
  unfold L1_SetLaws_r14
  obtain ⟨n12, h12, pt12, e12, t12, ev12⟩ := at_meet (F := F) F1 x y ev11.f
  have l12 := ev12.le
  dsimp only
  rw [run_bnd e12]
  have x := x.kept ev12 (by omega)
  have y := y.kept ev12 (by omega)
  have z := z.kept ev12 (by omega)
  have l := l.kept ev12 (by omega)
  have m := m.kept ev12 (by omega)
  have w := w.kept ev12 (by omega)
  obtain ⟨n13, h13, e13, w, ev13⟩ := at_join (F := F) F1 w t12 (.inr (Nat.le_refl _)) (by omega) ev12.f
  have l13 := ev13.le
  rw [run_bnd e13]
  have x := x.keep ev13 (by omega) fun c hc _ => by omega
  have y := y.keep ev13 (by omega) fun c hc _ => by omega
  have z := z.keep ev13 (by omega) fun c hc _ => by omega
  have l := l.keep ev13 (by omega) fun c hc _ => by omega
  have m := m.keep ev13 (by omega) fun c hc _ => by omega
  generalize hsx : setOf az = sx at *
  generalize hsy : setOf bz = sy at *
  generalize hsz : setOf cz = sz at *
  unfold L1_SetLaws_r15
  dsimp only
  rw [run_bnd (at_eq F1 l m), eqS_of fun m => by cases sx m <;> cases sy m <;> cases sz m <;> rfl]
  simp only [onB_ite, run_ite, if_true]
  rw [run_bnd (at_eq F1 w x), eqS_of fun m => by cases sx m <;> cases sy m <;> rfl]
  simp only [onB_ite, run_ite, if_true]
  obtain ⟨n14, h14, p14, e14, t14, ev14⟩ := at_meet (F := F) F1 x y ev13.f
  have l14 := ev14.le
  rw [run_bnd e14]
  have x := x.kept ev14 (by omega)
  have y := y.kept ev14 (by omega)
  have z := z.kept ev14 (by omega)
  have l := l.kept ev14 (by omega)
  obtain ⟨n15, h15, p15, e15, t15, ev15⟩ := at_meet (F := F) F1 y x ev14.f
  have l15 := ev15.le
  rw [run_bnd e15]
  have x := x.kept ev15 (by omega)
  have y := y.kept ev15 (by omega)
  have z := z.kept ev15 (by omega)
  have l := l.kept ev15 (by omega)
  have t14 := t14.kept ev15 (by omega)
  rw [run_bnd (at_eq F1 t14 t15), eqS_of fun m => Bool.and_comm _ _]
  simp only [onB_ite, run_ite, if_true]
  obtain ⟨n16, h16, p16, e16, t16, ev16⟩ := at_meet (F := F) F1 x y ev15.f
  have l16 := ev16.le
  rw [run_bnd e16]
  have x := x.kept ev16 (by omega)
  have y := y.kept ev16 (by omega)
  have z := z.kept ev16 (by omega)
  have l := l.kept ev16 (by omega)
  obtain ⟨n17, h17, p17, e17, t17, ev17⟩ := at_meet (F := F) F1 t16 z ev16.f
  have l17 := ev17.le
  rw [run_bnd e17]
  have x := x.kept ev17 (by omega)
  have y := y.kept ev17 (by omega)
  have z := z.kept ev17 (by omega)
  have l := l.kept ev17 (by omega)
  obtain ⟨n18, h18, p18, e18, t18, ev18⟩ := at_meet (F := F) F1 y z ev17.f
  have l18 := ev18.le
  rw [run_bnd e18]
  have x := x.kept ev18 (by omega)
  have y := y.kept ev18 (by omega)
  have z := z.kept ev18 (by omega)
  have l := l.kept ev18 (by omega)
  have t17 := t17.kept ev18 (by omega)
  obtain ⟨n19, h19, p19, e19, t19, ev19⟩ := at_meet (F := F) F1 x t18 ev18.f
  have l19 := ev19.le
  rw [run_bnd e19]
  have x := x.kept ev19 (by omega)
  have l := l.kept ev19 (by omega)
  have t17 := t17.kept ev19 (by omega)
  rw [run_bnd (at_eq F1 t17 t19), eqS_of fun m => Bool.and_assoc _ _ _]
  simp only [onB_ite, run_ite, if_true]
  rw [run_bnd (at_in F1 x l), subS_iff.2 fun m hm => by rw [hm]; rfl]
  simp only [onB_ite, run_ite, if_true]
  obtain ⟨n20, h20, p20, e20, t20, ev20⟩ := at_less (F := F) F1 x x ev19.f
  have l20 := ev20.le
  rw [run_bnd e20]
  have x := x.kept ev20 (by omega)
  have l := l.kept ev20 (by omega)
  rw [run_bnd (at_len F1 t20), setL_nil fun m => by cases sx m <;> rfl, st_eql]
  simp only [onB_ite, run_ite]
  rw [if_pos (by decide)]
  obtain ⟨n21, h21, p21, e21, t21, ev21⟩ := at_meet (F := F) F1 x l ev20.f
  have l21 := ev21.le
  rw [run_bnd e21]
  have x := x.kept ev21 (by omega)
  rw [run_bnd (at_eq F1 t21 x), eqS_of fun m => by cases sx m <;> cases sy m <;> cases sz m <;> rfl]
  exact ⟨_, _, rfl⟩

theorem laws_law (h : H) (us : List Value) (f : Fr 8 h) (hb : h.get 0 = some ⟨deB, .ro⟩) (ha : ArgsAre h [.flat 1, .flat 1, .flat 1] us) : ∃ n' h', (L1_SetLaws_m 6000 us).run 8 h = some (.bool true, n', h') := laws_run (by decide) begun6_runs begun6_keeps h us f hb ha

end Go.Fw
