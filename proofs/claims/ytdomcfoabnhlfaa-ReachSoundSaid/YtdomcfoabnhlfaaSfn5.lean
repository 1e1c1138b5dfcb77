/-
  The framework by which the law is proved: FtG, FtH, FtI, FtJ, FtK, FuA.
-/
import Derived.Test.YtdomcfoabnhlfaaSfn4
set_option linter.all false
section
set_option linter.unusedVariables false
namespace Go.Fn
open Go Go.Fw

variable {F n : Nat} {h : H} {Q : Post} {K : V → St}

open Classical in
noncomputable def Rl.putIn (ρ : Rl) (w : V) (r : Role) : Rl := fun b => if InB w b then r else ρ b
theorem Rl.putIn_in {ρ : Rl} {w : V} {r : Role} {b : Nat} (h : InB w b) : ρ.putIn w r b = r := if_pos h
theorem Rl.putIn_out {ρ : Rl} {w : V} {r : Role} {b : Nat} (h : ¬ InB w b) : ρ.putIn w r b = ρ b := if_neg h
theorem Gs.veq {lo s : Nat} {α : Type} {E : List V → α → Prop} {v : V} {xs : List α} (g : Gs h lo s E v xs) : Fw.veq v v = true := by
  rcases g with ⟨_, rfl⟩ | ⟨b, cs, rfl, _⟩ <;> simp [Fw.veq]
theorem HpAt.len {ρ : Rl} {v : V} {os : List Obj} (a : HpAt ρ h v os) : Wp (kLen v K) n h Q ↔ Wp (K (i64 (os.length : Int))) n h Q := by
  rcases a with ⟨rfl, rfl⟩ | ⟨b, cs, rfl, _⟩
  · exact Wp.eq st_len
  · exact Wp.eq st_len
def zeroV (t : Ty) : Val := ⟨if t.1 = 0 then 0 else 1, 0, false⟩

/-- The object's fields as they came to be. -/
theorem Gs.fld {lo k : Nat} {ρ' : Rl} {v : V} {xs : List Val} (g : Gs h lo 3 V3 v xs) (hρ : ∀ b, InB v b → ρ' b = .fld k) : FldAt ρ' h k v xs := by
  rcases g with g | ⟨b, cs, rfl, g0, g1, g2, g3, g4, g5⟩
  · exact .inl g
  · refine .inr ⟨b, cs, rfl, hρ b ⟨_, _, _, rfl⟩, g2, g3, g4, fun i x hx => ?_⟩
    have e := g5 i x hx
    have hi := (List.getElem?_eq_some_iff.1 hx).1
    have w : ∀ k, k < 3 → cs[i * 3 + k]? = (valC x)[k]? := fun k hk => by
      have := congrArg (fun l => l[k]?) e
      simp only [List.getElem?_take, List.getElem?_drop, if_pos hk] at this
      exact this
    exact ⟨w 0 (by omega), w 1 (by omega), w 2 (by omega)⟩

theorem alloc_wp {n0 : Nat} {P : Pg} {ρ : Rl} {bp bM : Nat} {M : Mc} {low : List Frm} {x : Frm} {fn : Fun} {c : Ins} {t : Ty} {rc : List Ty} {kdst : Nat} {wa vr vs vi vm vf : V} (ma : MA ρ h bp bM M) (p : Prg h n0 P bp vr vs vi vm vf) (lm : Lm P) (inv : Inv P M) (hM : M.fs = low ++ [x]) (hfn : getI P.funcs x.at_.f = some fn) (hop : c.op = 5) (hdst : c.dst = (kdst : Int)) (hd16 : kdst < 16) (ht : fn.regs[kdst]? = some t) (hrc : getI P.recs t.2 = some rc) (hwa : one wa = true) (f : Fr n h) (hn : n0 ≤ n) (hF : 100000 < F) (hf : ∀ b, n ≤ b → ρ b = .no)
    (ke : ∀ e n' h', e ≠ 0 → Mv ρ n h ρ n' h' → MA ρ h' bp bM M → Q (i64 e) n' h')
    (k5 : ∀ ρ' n' h', M.hp.length < 400 → Mv ρ n h ρ' n' h' → MA ρ' h' bp bM { M with hp := M.hp ++ [⟨numP P x.at_, t.2, rc.map zeroV, false⟩], fs := low ++ [{ x with rs := x.rs.set kdst ⟨2, (M.hp.length : Int) + 1, false⟩ }] } → Q (i64 0) n' h') : Wp (R14_Machine_memory F (pt bM 0) (insV c wa)) n h Q := by
  obtain ⟨bF, cF, cs, kd, vH, vO, m⟩ := ma
  unfold R14_Machine_memory
  refine (Wp.boxNI f).2 ⟨by simp [oneS, hwa], ?_⟩
  have e0 := (Ev.start f).new ⟨[i64 c.op, i64 c.dst, i64 c.a, i64 c.b, i64 c.n, wa], .own⟩
  have m0 := m.ev f e0
  have g0 : (h.set n ⟨[i64 c.op, i64 c.dst, i64 c.a, i64 c.b, i64 c.n, wa], .own⟩).get n = some ⟨[i64 c.op, i64 c.dst, i64 c.a, i64 c.b, i64 c.n, wa], .own⟩ := H.get_set_same _ _ _
  have hbF : bF < n := (m.lt f).2
  have hbM : bM < n := (m.lt f).1
  have mvE : ∀ {n' h'}, Ev No n h n' h' → Mv ρ n h ρ n' h' := fun e => (Mv.refl f hf).ev e
  simp only [List.toList_toArray]
  generalize h.set n ⟨[i64 c.op, i64 c.dst, i64 c.a, i64 c.b, i64 c.n, wa], .own⟩ = h0 at e0 m0 g0
  have hl : M.fs.length = low.length + 1 := by rw [hM]; simp
  have hs : low.length < 1000 := by have := inv.flen; omega
  refine (cl_top m0 hl hs).2 ?_
  have p0 := p.keep (Kp.ev e0 hn)
  have top := m0.fs.each low.length x (by rw [hM]; simp)
  obtain ⟨kf, hkf, hfn2⟩ := getI_some hfn
  obtain ⟨b1, o1, cs1, kd1, _, hix1, hb1, hk1, ⟨vg, vb, rfl, sr, sb, _⟩, hcs1, _⟩ := p0.funcs.at hfn2
  have c1 := hcs1 1 _ rfl
  obtain ⟨b2, o2, cs2, kd2, _, hix2, hb2, hk2, ⟨rfl, _⟩, hcs2, _⟩ := sr.at ht
  have c2 := hcs2 1 _ rfl
  obtain ⟨b3, o3, cs3, kd3, _, hix3, hb3, hk3, ⟨vc, rfl, sc⟩, hcs3, _⟩ := p0.recs.atI hrc
  have c3 : cs3[o3]? = _ := hcs3 0 _ rfl
  have topf := top.f
  rw [hkf] at topf
  refine Wp.jn (fun _ => True) trivial fun j2 _ => ?_
  simp only [wpS.1, wpS.2.1, wpS.2.2.1, wpS.2.2.2.2, wpM.1, g0, ldv_own, ldv_ro, Nat.zero_add, Nat.add_zero, List.getElem?_cons_succ, List.getElem?_cons_zero, Option.some.injEq, exists_eq_left', decide_eq_true_eq, decide_eq_false_iff_not, m0.get, m0.hp.len, p0.at_, m0.fs.get, ldv_live m0.live, topf, hix1, hb1, ldv_live hk1, c1, hdst, hix2, hb2, ldv_live hk2, c2, hix3, hb3, ldv_live hk3, c3]
  refine ⟨fun _ => ⟨fun h4 => ke 6 _ _ (by decide) (mvE e0) ⟨bF, cF, cs, kd, vH, vO, m0⟩, fun h4 => ?_⟩, fun h => absurd hop h⟩
  rw [ld3W m0.fs.get m0.live top.f top.b top.i]
  have lp := lm.points
  have l2 := lm.funcs
  refine Wp.cl (R := fun v n' h' => Ev No (n + 1) h0 n' h' ∧ i64 (numP P x.at_) = v) (number_wp p0 (q := x.at_) e0.f (by omega) (by omega) hF (by omega) (fun y hy => by have := (lm.fun_ y hy).blocks; omega) fun n' h' e => ⟨e, rfl⟩) ?_
  rintro _ n2 h2 ⟨e2, rfl⟩
  have le2 := e2.le
  have e02 := Ev.more e0 e2
  refine Wp.buildI.2 ⟨[i64 (numP P x.at_), nsl, bo false], by simp [fillA, oneS], ?_⟩
  refine Wp.put (cs := [i64 (numP P x.at_), nsl, bo false]) e2.f (by simp [oneS]) (by simp [oneS]) rfl rfl ?_
  have e3 := (e02.new ⟨[i64 0, nsl, bo false], .own⟩).set (b := n2) ⟨[i64 (numP P x.at_), nsl, bo false], .own⟩ (by omega) (by omega)
  have g3 : ((h2.set n2 ⟨[i64 0, nsl, bo false], .own⟩).set n2 ⟨[i64 (numP P x.at_), nsl, bo false], .own⟩).get n2 = some ⟨[i64 (numP P x.at_), nsl, bo false], .own⟩ := H.get_set_same _ _ _
  have g3n : ((h2.set n2 ⟨[i64 0, nsl, bo false], .own⟩).set n2 ⟨[i64 (numP P x.at_), nsl, bo false], .own⟩).get n = some ⟨[i64 c.op, i64 c.dst, i64 c.a, i64 c.b, i64 c.n, wa], .own⟩ := by rw [H.get_set_ne _ _ (by omega), H.get_set_ne _ _ (by omega), e2.no (by omega), g0]
  generalize (h2.set n2 ⟨[i64 0, nsl, bo false], .own⟩).set n2 ⟨[i64 (numP P x.at_), nsl, bo false], .own⟩ = h3 at e3 g3 g3n ⊢
  have hrcl : rc.length ≤ 4 := lm.rec_ rc (getI_mem hrc)
  have scE : ∀ {n' h'}, Ev No n h n' h' → SlR h' n0 2 TyC vc rc := fun {n' h'} e => by
    have : Kp n0 h0 h' := fun b hb => (e.no (by omega)).trans (e0.no (by omega)).symm
    exact sc.keep this fun _ _ h => h
  refine Wp.jn (fun j => ∀ n' h' w, Ev No n h n' h' → n2 < n' → h'.get n = some ⟨[i64 c.op, i64 c.dst, i64 c.a, i64 c.b, i64 c.n, wa], .own⟩ → h'.get n2 = some ⟨[i64 (numP P x.at_), w, bo false], .own⟩ → Gs h' n 3 V3 w (rc.map zeroV) → ¬ InB w n → ¬ InB w n2 → Wp (j (pt bM 0) (pt n 0) (pt n2 0)) n' h' Q) ?_ fun j hj => ?_
  case refine_1 =>
    intro n' h' w e' hlt' gn gn2 gw hw1 hw2
    have m' := m.ev f e'
    have le' := e'.le
    have hwlt : ∀ b, InB w b → n ≤ b ∧ b < n' := fun b hb => gw.lt e'.f hb
    simp only [wpS.1, wpS.2.1, wpS.2.2.1, wpS.2.2.2.2, wpM.1, m'.get, ldv_own, Nat.zero_add, List.getElem?_cons_succ, List.getElem?_cons_zero, Option.some.injEq, exists_eq_left']
    rw [ld3W gn2 (by decide) (by rfl) (by rfl) (by rfl)]
    refine (Wp.buildSliceI e'.f).2 ⟨[i64 (numP P x.at_), w, bo false], by simp [fillA, rep, over], by simp [oneS, gw.one], ?_⟩
    have e4 := e'.new ⟨[i64 (numP P x.at_), w, bo false], .own⟩
    have m4 := m.ev f e4
    have g4 : (h'.set n' ⟨[i64 (numP P x.at_), w, bo false], .own⟩).get n' = some ⟨[i64 (numP P x.at_), w, bo false], .own⟩ := H.get_set_same _ _ _
    have gn4 : (h'.set n' ⟨[i64 (numP P x.at_), w, bo false], .own⟩).get n = some ⟨[i64 c.op, i64 c.dst, i64 c.a, i64 c.b, i64 c.n, wa], .own⟩ := by rw [H.get_set_ne _ _ (by omega), gn]
    have gw4 : Gs (h'.set n' ⟨[i64 (numP P x.at_), w, bo false], .own⟩) n 3 V3 w (rc.map zeroV) := gw.keep (fun b hb => H.get_set_ne _ _ (by have := hwlt b hb; omega)) fun _ _ h => h
    generalize h'.set n' ⟨[i64 (numP P x.at_), w, bo false], .own⟩ = h4 at e4 m4 g4 gn4 gw4
    have hc : Cel h4 3 (sl n' 0 1 1) 1 [i64 (numP P x.at_), w, bo false] := ⟨rfl, .inr ⟨n', 0, 1, rfl, fun _ => ⟨_, .own, g4, by decide, by simp, rfl⟩⟩⟩
    have hone : [i64 (numP P x.at_), w, bo false].all one = true := by simp [oneS, gw.one]
    -- what stands at the end: the new block b5
    have fin : ∀ h5 (csH : List V), Fr (n' + 1 + 1) h5 → h5.get (n' + 1) = some ⟨csH ++ [i64 (numP P x.at_), w, bo false], .grow⟩ → csH.length = M.hp.length * 3 → csH.all one = true → (∀ b, b < n' + 1 → ρ b ≠ .hp → h5.get b = h4.get b) →
        (∀ k o, M.hp[k]? = some o → csH[k * 3]? = some (i64 o.site) ∧ csH[k * 3 + 2]? = some (bo o.free) ∧ ∃ u, csH[k * 3 + 1]? = some u ∧ FldAt ρ h4 k u o.fs) →
        Wp (kNil (pt bM 0) fun v100 => kFieldAddr 2 v100 fun v101 => kStore v101 (sl (n' + 1) 0 (M.hp.length + 1) (U + 3)) fun _ => kFieldAddr 1 (pt n 0) fun v103 => kLoad v103 fun v104 => kNil (pt bM 0) fun v105 => kFieldAddr 2 v105 fun v106 => kLoad v106 fun v107 => kLen v107 fun v108 => kBuild [(i64 0), (i64 0), (bo false)] [⟨0, 1, false, (i64 2)⟩, ⟨1, 1, false, v108⟩] fun v109 => cl (R14_Machine_set F (pt bM 0) v104 v109) fun v110 => ret (i64 0)) (n' + 1 + 1) h5 Q := by
      intro h5 csH f5 g5 l5 one5 same5 each5
      have wlt : ∀ {b}, b < n → ¬ InB w b := fun {b} hb q => by have := hwlt b q; omega
      have hwl : ∀ {b}, InB w b → b ≠ n' + 1 := fun {b} q => by have := hwlt b q; omega
      have role0 : ∀ b, b < n → ((ρ.putIn w (.fld M.hp.length)).put (n' + 1) .hp) b = ρ b := fun b hb => by rw [Rl.put_ne (by omega), Rl.putIn_out (wlt hb)]
      have roleW : ∀ b, InB w b → ((ρ.putIn w (.fld M.hp.length)).put (n' + 1) .hp) b = .fld M.hp.length := fun b hb => by rw [Rl.put_ne (hwl hb), Rl.putIn_in hb]
      have roleH : ((ρ.putIn w (.fld M.hp.length)).put (n' + 1) .hp) (n' + 1) = .hp := Rl.put_same _ _ _
      have roleF : ∀ b, n' + 1 + 1 ≤ b → ((ρ.putIn w (.fld M.hp.length)).put (n' + 1) .hp) b = .no := fun b hb => by rw [Rl.put_ne (by omega), Rl.putIn_out (fun q => by have := hwlt b q; omega)]; exact hf b (by omega)
      generalize (ρ.putIn w (.fld M.hp.length)).put (n' + 1) .hp = ρ' at role0 roleW roleH roleF
      have hpn : ∀ b, n ≤ b → ρ b ≠ .hp := fun b hb => by rw [hf b hb]; simp
      have s5 : ∀ b, b < n → ρ b ≠ .hp → h5.get b = h4.get b := fun b hb hr => same5 b (by omega) hr
      have mv5 : Mv ρ n h ρ' (n' + 1 + 1) h5 := ⟨by omega, f5, role0, fun b hb hno => by rw [s5 b hb (by rw [hno]; simp), e4.no hb], roleF⟩
      have gM5 : h5.get bM = some ⟨mcC bp (sl bF 0 M.fs.length cF) vH vO M, .own⟩ := by rw [s5 _ hbM (by rw [m.role]; simp)]; exact m4.get
      have gn5 : h5.get n = some ⟨[i64 c.op, i64 c.dst, i64 c.a, i64 c.b, i64 c.n, wa], .own⟩ := by rw [same5 n (by omega) (hpn n (Nat.le_refl _))]; exact gn4
      have hp5 : HpAt ρ' h5 (sl (n' + 1) 0 (M.hp.length + 1) (U + 3)) (M.hp ++ [⟨numP P x.at_, t.2, rc.map zeroV, false⟩]) := by
        refine .inr ⟨n' + 1, _, by simp, by simp, roleH, g5, by simp [l5]; omega, by rw [List.all_append, one5, hone]; rfl, fun k o ho => ?_⟩
        rcases Nat.lt_or_ge k M.hp.length with hk | hk
        · rw [List.getElem?_append_left hk] at ho
          obtain ⟨q0, q1, u, q2, q3⟩ := each5 k o ho
          have ap : ∀ {j v}, csH[j]? = some v → (csH ++ [i64 (numP P x.at_), w, bo false])[j]? = some v := fun {j v} h => by rw [List.getElem?_append_left (List.getElem?_eq_some_iff.1 h).1]; exact h
          refine ⟨ap q0, ap q1, u, ap q2, q3.keep fun b hb hs => ?_⟩
          have hbn : b < n := by
            rcases Nat.lt_or_ge b n with h | h
            · exact h
            · rw [hf b h] at hb; cases hb
          exact ⟨by rw [role0 b hbn]; exact hb, s5 b hbn (by rw [hb]; simp)⟩
        · have hlt := (List.getElem?_eq_some_iff.1 ho).1
          have hk2 : k = M.hp.length := by simp at hlt; omega
          subst hk2
          rw [List.getElem?_append_right (Nat.le_refl _)] at ho
          simp at ho; subst ho
          have ap : ∀ {j v}, [i64 (numP P x.at_), w, bo false][j]? = some v → (csH ++ [i64 (numP P x.at_), w, bo false])[M.hp.length * 3 + j]? = some v := fun {j v} h => by
            rw [List.getElem?_append_right (by omega), l5, Nat.add_sub_cancel_left]; exact h
          refine ⟨ap (j := 0) rfl, ap (j := 2) rfl, w, ap (j := 1) rfl, ?_⟩
          exact Gs.fld (gw4.keep (fun b hb => same5 b (by have := hwlt b hb; omega) (hpn b (hwlt b hb).1)) fun _ _ h => h) roleW
      have fs5 : FsAt ρ' h5 bF cF cs kd M.fs := ⟨by rw [role0 _ hbF]; exact m.fs.role, by rw [s5 _ hbF (by rw [m.fs.role]; simp)]; exact m4.fs.get, m.fs.one, m.fs.kind, m.fs.len, m.fs.own, m.fs.mul, m.fs.own1, m.fs.each⟩
      have os5 : OrAt ρ' h5 vO M.os := m.os.keep f fun b hb hs => ⟨role0 b hs, by rw [s5 b hs (by rw [hb]; simp), e4.no hs]⟩
      have rM : ρ' bM = .mach := by rw [role0 _ hbM]; exact m.role
      simp only [wpS.1, wpS.2.1, wpS.2.2.1, wpS.2.2.2.2, Nat.zero_add]
      rw [st1W gM5 (.inl rfl) (by simp) rfl]
      have mm0 : MM ρ' h5 bp bM { M with hp := M.hp } bF cF cs kd vH vO → True := fun _ => trivial
      have hneM : ∀ {b}, ρ' b ≠ .mach → b ≠ bM := fun {b} hb e => hb (by rw [e]; exact rM)
      have same6 : ∀ b, b ≠ bM → (h5.set bM ⟨(mcC bp (sl bF 0 M.fs.length cF) vH vO M).set 2 (sl (n' + 1) 0 (M.hp.length + 1) (U + 3)), .own⟩).get b = h5.get b := fun b hb => H.get_set_ne _ _ hb
      have gM6 : (h5.set bM ⟨(mcC bp (sl bF 0 M.fs.length cF) vH vO M).set 2 (sl (n' + 1) 0 (M.hp.length + 1) (U + 3)), .own⟩).get bM = some ⟨(mcC bp (sl bF 0 M.fs.length cF) vH vO M).set 2 (sl (n' + 1) 0 (M.hp.length + 1) (U + 3)), .own⟩ := H.get_set_same _ _ _
      have mv6 := mv5.set (c := bM) ⟨(mcC bp (sl bF 0 M.fs.length cF) vH vO M).set 2 (sl (n' + 1) 0 (M.hp.length + 1) (U + 3)), .own⟩ (by omega) (fun _ => by rw [m.role]; simp)
      generalize h5.set bM ⟨(mcC bp (sl bF 0 M.fs.length cF) vH vO M).set 2 (sl (n' + 1) 0 (M.hp.length + 1) (U + 3)), .own⟩ = h6 at same6 gM6 mv6
      have gn6 : h6.get n = some ⟨[i64 c.op, i64 c.dst, i64 c.a, i64 c.b, i64 c.n, wa], .own⟩ := by rw [same6 n (by omega), gn5]
      have mm6 : MM ρ' h6 bp bM { M with hp := M.hp ++ [⟨numP P x.at_, t.2, rc.map zeroV, false⟩] } bF cF cs kd (sl (n' + 1) 0 (M.hp.length + 1) (U + 3)) vO :=
        ⟨rM, gM6, ⟨fs5.role, by rw [same6 _ (hneM (by rw [fs5.role]; simp))]; exact fs5.get, fs5.one, fs5.kind, fs5.len, fs5.own, fs5.mul, fs5.own1, fs5.each⟩, hp5.keep fun b hb hs => ⟨rfl, same6 b (hneM (by rcases hb with hb | ⟨k, hb⟩ <;> rw [hb] <;> simp))⟩, os5.keep f5 fun b hb hs => ⟨rfl, same6 b (hneM (by rw [hb]; simp))⟩⟩
      simp only [wpS.1, wpS.2.1, wpS.2.2.1, wpS.2.2.2.2, wpM.1, gn6, gM6, ldv_own, Nat.zero_add, List.set_cons_succ, List.set_cons_zero, List.getElem?_cons_succ, List.getElem?_cons_zero, Option.some.injEq, exists_eq_left']
      refine Wp.buildI.2 ⟨[i64 2, i64 ((M.hp.length + 1 : Nat) : Int), bo false], by simp [fillA, oneS], ?_⟩
      rw [hdst]
      refine cl_set (v := ⟨2, ((M.hp.length + 1 : Nat) : Int), false⟩) ⟨bF, cF, cs, kd, _, vO, mm6⟩ hM hs mv6.f mv6.fresh hd16 fun h7 mv7 ma7 => Wp.retI.2 (k5 ρ' _ _ (by omega) (mv6.trans mv7) ?_)
      have e9 : ((M.hp.length + 1 : Nat) : Int) = (M.hp.length : Int) + 1 := by omega
      rw [e9] at ma7
      exact ma7
    have hsz : M.hp.length + 1 ≤ 1099511627776 ∧ (M.hp.length + 1) * 40 ≤ 70368744177664 := by have := inv.hlen; omega
    rcases m4.hp with ⟨hp0, hvH⟩ | ⟨bH, csH, hvH, hne0, roH, gH, lH, oneH, eachH⟩
    · subst hvH
      refine Wp.appNew (l := 0) (m := 1) (olds := []) ⟨by simp, .inl ⟨rfl, rfl⟩⟩ (.inl rfl) hc (by decide) e4.f (by simpa using hone) (by omega) ?_
      have := fin (h4.set (n' + 1) ⟨[] ++ [i64 (numP P x.at_), w, bo false], .grow⟩) [] (e4.f.new _) (H.get_set_same _ _ _) (by rw [hp0]; rfl) rfl (fun b hb _ => H.get_set_ne _ _ (by omega)) (fun k o ho => by rw [hp0] at ho; simp at ho)
      rw [hp0] at this
      exact this
    · subst hvH
      have hbHn : bH < n' + 1 := e4.f.lt gH
      refine Wp.appGrow (l := M.hp.length) (m := 1) gH lH (by decide) hc (by decide) e4.f (by rw [List.all_append, oneH, hone]; rfl) hsz ?_
      exact fin _ csH ((e4.f.set _ hbHn).new _) (H.get_set_same _ _ _) lH oneH (fun b hb hr => by rw [H.get_set_ne _ _ (by omega), H.get_set_ne _ _ (fun q => hr (by rw [q]; exact roH))]) eachH
  -- the fields
  refine Wp.loop5 (fun d x0 x1 x2 x3 x4 n' h' => x0 = pt bM 0 ∧ x1 = pt n 0 ∧ x2 = vc ∧ x3 = pt n2 0 ∧ ∃ (i : Nat) (w : V), x4 = i64 (i : Int) ∧ i + d = rc.length ∧ Ev No n h n' h' ∧ n2 < n' ∧ h'.get n = some ⟨[i64 c.op, i64 c.dst, i64 c.a, i64 c.b, i64 c.n, wa], .own⟩ ∧ h'.get n2 = some ⟨[i64 (numP P x.at_), w, bo false], .own⟩ ∧ Gs h' n 3 V3 w ((rc.take i).map zeroV) ∧ ¬ InB w n ∧ ¬ InB w n2) ?_ (d := rc.length) ⟨rfl, rfl, rfl, rfl, 0, nsl, rfl, by omega, e3, by omega, g3n, g3, Gs.nil, (fun ⟨_, _, _, q⟩ => by cases q), (fun ⟨_, _, _, q⟩ => by cases q)⟩ (by omega)
  rintro d _ _ vc _ _ n4 h4 rec ⟨rfl, rfl, rfl, rfl, i, w, rfl, hi, e4, hlt4, gn4, go4, gw, hw1, hw2⟩ hr
  have sc4 := scE e4
  have wi := wrap_succ (show i < 9223372036854775807 by omega)
  have le4 := e4.le
  simp only [wpS.1, wpS.2.1, wpS.2.2.1, wpS.2.2.2.2, sc4.len, decide_eq_true_eq, decide_eq_false_iff_not]
  refine ⟨fun hlt => ?_, fun hge => hj _ _ w e4 hlt4 gn4 go4 (by rw [List.take_of_length_le (by omega)] at gw; exact gw) hw1 hw2⟩
  obtain ⟨ti, hti, _⟩ := Sl.get (show i < rc.length by omega)
  obtain ⟨b5, o5, cs5, kd5, _, hix5, hb5, hk5, ⟨rfl, _⟩, hcs5, _, hl5, hd5⟩ := sc4.at hti
  simp only [wpM.1, go4, ldv_own, Nat.zero_add, List.getElem?_cons_succ, List.getElem?_cons_zero, Option.some.injEq, exists_eq_left', hix5]
  refine Wp.loadNI.2 ?_
  rw [hb5]
  refine (ldn_live hk5).2 ⟨hl5, ?_⟩
  rw [hd5]
  refine cl_zero (t := ti) e4.f fun n6 h6 e6 => ?_
  have le6 := e6.le
  have go6 : h6.get n2 = some ⟨[i64 (numP P x.at_), w, bo false], .own⟩ := by rw [e6.no hlt4, go4]
  have gn6 : h6.get n = some ⟨[i64 c.op, i64 c.dst, i64 c.a, i64 c.b, i64 c.n, wa], .own⟩ := by rw [e6.no (by omega), gn4]
  have gw6 : Gs h6 n 3 V3 w ((rc.take i).map zeroV) := gw.keep (fun b hb => e6.no (gw.lt e4.f hb).2) fun _ _ h => h
  simp [wpN, go6, ldn, veqS, gw.veq]
  refine Gs.push (s := 3) (x := zeroV ti) (E := V3) (es := valC (zeroV ti)) (Ev.more e4 e6) gw6 (by simp [fillA, rep, over, oneS, zeroV]) rfl (by decide) (by simp [oneS]) rfl ⟨by simp; omega, by decide⟩ fun h7 v7 e7 g7 _ same new => ?_
  have go7 : h7.get n2 = some ⟨[i64 (numP P x.at_), w, bo false], .own⟩ := by rw [same n2 (by omega) hw2, go6]
  simp only [wpS.1, wpS.2.1, wpS.2.2.1, wpS.2.2.2.2, Nat.zero_add]
  rw [st1W go7 (.inl rfl) (by simp) g7.one]
  simp only [wpS, wi]
  refine hr (d - 1) _ _ _ _ _ _ _ (by omega) ⟨rfl, rfl, rfl, rfl, i + 1, v7, rfl, by omega, e7.set _ (by omega) (by omega), by omega, ?_, H.get_set_same _ _ _, ?_, (fun q => by have := new _ q; omega), (fun q => by have := new _ q; omega)⟩
  · rw [H.get_set_ne _ _ (by omega), same n (by omega) hw1, gn6]
  · have := g7.keep (h' := h7.set n2 ⟨[i64 (numP P x.at_), w, bo false].set 1 v7, .own⟩) (fun b hb => H.get_set_ne _ _ (by have := new b hb; omega)) fun _ _ h => h
    rw [List.take_add_one, hti]
    simpa using this
end Go.Fn
end
section
set_option linter.unusedVariables false
namespace Go.Fn
open Go Go.Fw

variable {F n : Nat} {h : H} {Q : Post} {K : V → St}

theorem implF_is {r i : Int} : ∀ (l : List Imp) (k : Int), implF r i l k = -1 ∨ ∃ (j : Nat) (m : Imp), implF r i l k = k + j ∧ l[j]? = some m ∧ m.rec_ = r ∧ m.ifc = i
  | [], _ => .inl rfl
  | m :: l, k => by
    rw [implF]
    split
    · rename_i h; exact .inr ⟨0, m, by simp, rfl, h.1, h.2⟩
    · rcases implF_is l (k + 1) with h | ⟨j, m', h1, h2⟩
      · exact .inl h
      · exact .inr ⟨j + 1, m', by rw [h1]; push_cast; omega, h2⟩
theorem implP_is (P : Pg) (r i : Int) : implP P r i = -1 ∨ ∃ (j : Nat) (m : Imp), implP P r i = j ∧ P.imps[j]? = some m ∧ m.rec_ = r ∧ m.ifc = i := by
  rcases implF_is (r := r) (i := i) P.imps 0 with h | ⟨j, m, h1, h2⟩
  · exact .inl h
  · exact .inr ⟨j, m, by unfold implP; rw [h1]; simp, h2⟩

theorem method_wp {n0 : Nat} {P : Pg} {bp : Nat} {vr vs vi vm vf : V} (p : Prg h n0 P bp vr vs vi vm vf) (lm : Lm P) {site rec_ ifc meth : Int} (hsite : SiteOk P site rec_) (hF : 100000 < F) (f : Fr n h) (hn : n0 ≤ n)
    (q : ∀ (z : Int) n' h', Ev No n h n' h' → (z = -1 ∨ ∃ m ∈ P.imps, m.rec_ = rec_ ∧ m.ifc = ifc ∧ getI m.funcs meth = some z) → Q (i64 z) n' h') : Wp (R14_Method F (pt bp 0) (i64 site) (i64 ifc) (i64 meth)) n h Q := by
  unfold R14_Method
  obtain ⟨a, x, c, fn, rfl, hx, hc, hop, hfn, hdst⟩ := hsite
  have lp := lm.points
  have l4 := lm.imps
  have hal := (List.getElem?_eq_some_iff.1 hx).1
  refine cl_points p lm f hn hF fun n1 h1 vl e1 sl1 => ?_
  have le1 := e1.le
  refine Wp.jn (fun j => Wp (j (pt bp 0) (i64 (a : Int)) (i64 ifc) (i64 meth) vl (bo false)) n1 h1 Q) ?_ fun j hj => ?_
  case refine_2 =>
    simpa [wpS.1, wpS.2.1, wpS.2.2.1, wpS.2.2.2.2, sl1.len, nnS, show ¬ ((pointsP P).length ≤ a) by omega] using hj
  refine Wp.bool.2 ⟨fun h => absurd h (by decide), fun _ => ?_⟩
  obtain ⟨bq, oq, csq, kdq, _, hixq, hbq, hkq, hpq, hcsq, ltq, hlq, hdq⟩ := sl1.at hx
  have hpq := hpq.all
  subst hpq
  refine (hixq _ _ _).2 (Wp.loadNI.2 ?_)
  rw [hbq]
  refine (ldn_live hkq).2 ⟨hlq, ?_⟩
  rw [hdq]
  have p1 := p.keep (Kp.ev e1 hn)
  refine cl_code p1 (q := x) e1.f (by omega) fun n2 h2 vcode e2 hcode => ?_
  have le2 := e2.le
  obtain ⟨w, sw, rfl⟩ : ∃ w, SlR h2 n0 1 IntC w c.args ∧ vcode = .tuple #[insV c w, bo true] := by
    rcases hcode with ⟨h, _⟩ | ⟨c', w, h, sw, _, rfl⟩
    · rw [hc] at h; cases h
    · rw [hc] at h; cases h; exact ⟨w, sw, rfl⟩
  simp only [Wp.extractI, List.getElem?_cons_zero, List.getElem?_cons_succ, Option.some.injEq, exists_eq_left']
  refine ⟨by simp [isNF], by simp [isNF], Wp.put (cs := [i64 c.op, i64 c.dst, i64 c.a, i64 c.b, i64 c.n, w]) e2.f (by simp [oneS]) (by simp [oneS, sw.one]) rfl rfl ?_⟩
  have e3 := ((Ev.more e1 e2).new ⟨[i64 0, i64 0, i64 0, i64 0, i64 0, nsl], .own⟩).set (b := n2) ⟨[i64 c.op, i64 c.dst, i64 c.a, i64 c.b, i64 c.n, w], .own⟩ (by omega) (by omega)
  have g3 : ((h2.set n2 ⟨[i64 0, i64 0, i64 0, i64 0, i64 0, nsl], .own⟩).set n2 ⟨[i64 c.op, i64 c.dst, i64 c.a, i64 c.b, i64 c.n, w], .own⟩).get n2 = some ⟨[i64 c.op, i64 c.dst, i64 c.a, i64 c.b, i64 c.n, w], .own⟩ := H.get_set_same _ _ _
  have m3 : ∀ b, b < n1 → ((h2.set n2 ⟨[i64 0, i64 0, i64 0, i64 0, i64 0, nsl], .own⟩).set n2 ⟨[i64 c.op, i64 c.dst, i64 c.a, i64 c.b, i64 c.n, w], .own⟩).get b = h1.get b := fun b hb => by rw [H.get_set_ne _ _ (by omega), H.get_set_ne _ _ (by omega), e2.no hb]
  generalize (h2.set n2 ⟨[i64 0, i64 0, i64 0, i64 0, i64 0, nsl], .own⟩).set n2 ⟨[i64 c.op, i64 c.dst, i64 c.a, i64 c.b, i64 c.n, w], .own⟩ = h3 at e3 g3 m3 ⊢
  have p3 := p.keep (Kp.ev e3 hn)
  have sl3 := sl1.keep (h' := h3) (B' := fun b => n ≤ b ∧ b < n1) (fun _ h => h) (fun b hb => m3 b hb.2) fun _ _ h => h
  refine Wp.jn (fun j => Wp (j (pt bp 0) (i64 (a : Int)) (i64 ifc) (i64 meth) vl (pt n2 0) (bo false)) (n2 + 1) h3 Q) ?_ fun j hj => ?_
  case refine_2 =>
    simpa [wpS.1, wpS.2.1, wpS.2.2.1, wpS.2.2.2.2, wpM.1, g3, ldv_own, hop] using hj
  refine Wp.bool.2 ⟨fun h => absurd h (by decide), fun _ => ?_⟩
  obtain ⟨bq, oq, csq, kdq, _, hixq, hbq, hkq, hpq, hcsq, ltq, hlq, hdq⟩ := sl3.at hx
  have hpq := hpq.all
  subst hpq
  have q0 : csq[oq]? = _ := hcsq 0 _ rfl
  obtain ⟨b1, o1, cs1, kd1, _, hix1, hb1, hk1, ⟨vg, vb, rfl, sr, sb, _⟩, hcs1, _⟩ := p3.funcs.atI hfn
  have c1 := hcs1 1 _ rfl
  obtain ⟨b2, o2, cs2, kd2, _, hix2, hb2, hk2, ⟨rfl, _⟩, hcs2, _⟩ := sr.atI hdst
  have c2 := hcs2 1 _ rfl
  simp only [wpS.1, wpS.2.1, wpS.2.2.1, wpS.2.2.2.2, wpM.1, g3, ldv_own, ldv_ro, p3.at_, Nat.zero_add, Nat.add_zero, List.getElem?_cons_succ, List.getElem?_cons_zero, Option.some.injEq, exists_eq_left', hixq, hbq, ldv_live hkq, q0, hix1, hb1, ldv_live hk1, c1, hix2, hb2, ldv_live hk2, c2]
  refine Wp.cl (R := fun v n' h' => n2 + 1 = n' ∧ h3 = h' ∧ i64 (implP P rec_ ifc) = v) (impl_wp p3 (by omega) ⟨rfl, rfl, rfl⟩) ?_
  rintro _ _ _ ⟨rfl, rfl, rfl⟩
  have q3 := fun z hz => q z _ _ e3 hz
  rcases implP_is P rec_ ifc with hi | ⟨j, m, hi, hm, hm1, hm2⟩
  · rw [hi]
    simp [wpS]
    exact q3 _ (.inl rfl)
  · rw [hi]
    obtain ⟨b4, o4, cs4, kd4, _, hix4, hb4, hk4, ⟨vmf, rfl, smf, _⟩, hcs4, _⟩ := p3.imps.at hm
    have c4 := hcs4 2 _ rfl
    simp [wpS, wpM.1, nnS, p3.at_, ldv_ro, hix4, hb4, ldv_live hk4, c4, smf.len]
    refine ⟨fun _ => q3 _ (.inl rfl), fun h0 => ⟨fun _ => q3 _ (.inl rfl), fun h1 => ?_⟩⟩
    obtain ⟨km, z, hkm, hz1, hz2, _⟩ := getI_of (l := m.funcs) (z := meth) ⟨by omega, by omega⟩
    obtain ⟨b5, o5, cs5, kd5, _, hix5, hb5, hk5, ⟨rfl, _⟩, hcs5, _⟩ := smf.atI hz1
    have c5 : cs5[o5]? = _ := hcs5 0 _ rfl
    simp [wpS, wpM.1, hix5, hb5, ldv_live hk5, c5]
    exact q3 _ (.inr ⟨m, List.mem_of_getElem? hm, hm1, hm2, hz1⟩)

abbrev flatV (vs : List Val) : List V := vs.flatMap valC
theorem flat_len (vs : List Val) : (flatV vs).length = vs.length * 3 := by
  induction vs with
  | nil => rfl
  | cons v r ih =>
    show (valC v ++ flatV r).length = _
    rw [List.length_append, ih]
    show 3 + r.length * 3 = (r.length + 1) * 3
    omega
theorem flat_one (vs : List Val) : (flatV vs).all one = true := by
  rw [List.all_eq_true]
  intro x hx
  obtain ⟨v, _, h⟩ := List.mem_flatMap.1 hx
  simp at h
  rcases h with rfl | rfl | rfl <;> rfl
theorem win_flat {cs : List V} : ∀ (vs : List Val) (o : Nat), (∀ i v, vs[i]? = some v → (cs.drop (o + i * 3)).take 3 = valC v) → (cs.drop o).take (vs.length * 3) = flatV vs
  | [], o, _ => by simp
  | v :: r, o, h => by
    have h0 := h 0 v rfl
    have hr := win_flat (cs := cs) r (o + 3) fun i u hu => by
      have := h (i + 1) u (by simpa using hu)
      rwa [show o + (i + 1) * 3 = o + 3 + i * 3 by omega] at this
    rw [Nat.zero_mul, Nat.add_zero] at h0
    rw [List.length_cons, Nat.succ_mul, Nat.add_comm, List.take_add, h0, List.drop_drop, hr]
    rfl
theorem flat_win : ∀ (vs : List Val) (i : Nat) (v : Val), vs[i]? = some v → ((flatV vs).drop (i * 3)).take 3 = valC v
  | u :: r, 0, v, h => by cases h; rfl
  | u :: r, i + 1, v, h => by
    have := flat_win r i v (by simpa using h)
    show ((valC u ++ flatV r).drop ((i + 1) * 3)).take 3 = _
    have e : (valC u).drop ((valC u).length + i * 3) = [] := List.drop_eq_nil_of_le (by omega)
    rw [show (i + 1) * 3 = (valC u).length + i * 3 by simp; omega, List.drop_append, e, List.nil_append, Nat.add_sub_cancel_left]
    exact this
theorem Sl.cel3 {B : Nat → Prop} {v : V} {xs : List Val} (x : Sl h B 3 V3 v xs) : Cel h 3 v xs.length (flatV xs) := by
  refine ⟨flat_len xs, ?_⟩
  rcases x.2 with ⟨rfl, rfl⟩ | ⟨b, o, cap, cs, kd, rfl, h1, h2⟩
  · exact .inl ⟨rfl, rfl⟩
  · refine .inr ⟨b, o, cap, rfl, fun h0 => ?_⟩
    obtain ⟨_, g2, g3, g4⟩ := h1 (by rintro rfl; exact h0 rfl)
    exact ⟨cs, kd, g2, g3, g4, win_flat xs o h2⟩
theorem Sl.of3 {B : Nat → Prop} {b cap : Nat} {kd : Kind} {xs : List Val} (hb : h.get b = some ⟨flatV xs, kd⟩) (hk : kd ≠ .dead) (hl : xs.length < 9223372036854775808) (hB : B b) : Sl h B 3 V3 (sl b 0 xs.length cap) xs :=
  ⟨hl, .inr ⟨b, 0, cap, _, kd, rfl, fun _ => ⟨hB, hb, hk, by rw [flat_len]; omega⟩, fun i x hx => by rw [Nat.zero_add]; exact flat_win xs i x hx⟩⟩
/-- Who is called, with what. -/
def TgtOk (P : Pg) (hp : List Obj) (fn : Fun) (c : Ins) (g : Int) (vals : List Val) : Prop :=
  ∃ gf s, getI P.funcs g = some gf ∧ getI P.sigs gf.sig = some s ∧ getI fn.regs c.dst = some s.res ∧ vals.length = s.params.length ∧ ∀ (i : Nat) t v, s.params[i]? = some t → vals[i]? = some v → VT P hp t v

theorem calls_wp {n0 : Nat} {P : Pg} {ρ : Rl} {bp bM : Nat} {M : Mc} {low : List Frm} {x : Frm} {fn : Fun} {c : Ins} {wa vr vs vi vm vf : V} (ma : MA ρ h bp bM M) (p : Prg h n0 P bp vr vs vi vm vf) (lm : Lm P) (mt : ∀ m ∈ P.imps, MtI P m) (inv : Inv P M) (hM : M.fs = low ++ [x]) (hfn : getI P.funcs x.at_.f = some fn) (iok : InsOk P fn c) (fok : FitOk P fn c) (hop : c.op = 12 ∨ c.op = 13 ∨ c.op = 14) (sa : SlR h n0 1 IntC wa c.args) (hargs : c.args.length ≤ 4) (hn0 : ∀ b, b < n0 → ρ b = .no) (f : Fr n h) (hn : n0 ≤ n) (hF : 100000 < F) (hf : ∀ b, n ≤ b → ρ b = .no)
    (ke : ∀ e n' h', e ≠ 0 → Mv ρ n h ρ n' h' → MA ρ h' bp bM M → Q (i64 e) n' h')
    (kc : ∀ ρ' n' h' g vals, TgtOk P M.hp fn c g vals → M.fs.length < 60 → Mv ρ n h ρ' n' h' → MA ρ' h' bp bM { M with fs := M.fs ++ [⟨⟨g, 0, 0⟩, regsOf vals, c.dst⟩], called := g } → Q (i64 0) n' h') : Wp (R14_Machine_calls F (pt bM 0) (insV c wa)) n h Q := by
  obtain ⟨bF, cF, cs, kd, vH, vO, m⟩ := ma
  unfold R14_Machine_calls
  refine (Wp.boxNI f).2 ⟨by simp [oneS, sa.one], ?_⟩
  have e0 := (Ev.start f).new ⟨[i64 c.op, i64 c.dst, i64 c.a, i64 c.b, i64 c.n, wa], .own⟩
  have m0 := m.ev f e0
  have g0 : (h.set n ⟨[i64 c.op, i64 c.dst, i64 c.a, i64 c.b, i64 c.n, wa], .own⟩).get n = some ⟨[i64 c.op, i64 c.dst, i64 c.a, i64 c.b, i64 c.n, wa], .own⟩ := H.get_set_same _ _ _
  have hbF : bF < n := (m.lt f).2
  have hbM : bM < n := (m.lt f).1
  have mvE : ∀ {n' h'}, Ev No n h n' h' → Mv ρ n h ρ n' h' := fun e => (Mv.refl f hf).ev e
  simp only [List.toList_toArray]
  generalize h.set n ⟨[i64 c.op, i64 c.dst, i64 c.a, i64 c.b, i64 c.n, wa], .own⟩ = h0 at e0 m0 g0
  have hl : M.fs.length = low.length + 1 := by rw [hM]; simp
  have hfl := inv.flen
  have hs : low.length < 1000 := by omega
  have h16 : fn.regs.length ≤ 16 := (lm.fun_ fn (getI_mem hfn)).regs
  refine (cl_top m0 hl hs).2 ?_
  obtain ⟨fn', hfn', okx, n16, vtx⟩ := inv.frm x (by rw [hM]; simp)
  rw [hfn] at hfn'; cases hfn'
  have sa0 := sa.keep (Kp.ev e0 hn) fun _ _ h => h
  have haU : ∀ r ∈ c.args, r ∈ usesP c := fun r hr => by rcases hop with h | h | h <;> simp [usesP, h, hr]
  have ha16 : ∀ r ∈ c.args, 0 ≤ r ∧ r < 16 := fun r hr => by have := iok.2.2.1 r (haU r hr); omega
  simp only [wpS.1, wpS.2.1, wpS.2.2.1, wpS.2.2.2.2, wpM.1, g0, ldv_own, Nat.zero_add, List.getElem?_cons_succ, List.getElem?_cons_zero, Option.some.injEq, exists_eq_left']
  refine cl_args m0 hM hs sa0 ha16 (by omega) e0.f (by omega) (by omega) fun n1 h1 w vals e1 gw hvl hvs => ?_
  have le1 := e1.le
  have e01 := Ev.more e0 e1
  have m1 := m.ev f e01
  have g1 : h1.get n = some ⟨[i64 c.op, i64 c.dst, i64 c.a, i64 c.b, i64 c.n, wa], .own⟩ := by rw [e1.no (by omega), g0]
  have mv1 := mvE e01
  have swl : Sl h1 (fun b => n ≤ b ∧ b < n1) 3 V3 w vals := (gw.sl (by omega)).keep (fun b hb => by have := gw.lt e1.f hb; omega) (fun _ _ => rfl) fun _ _ h => h
  -- arguments that go with a signature
  have tgt : ∀ {g gf s}, getI P.funcs g = some gf → getI P.sigs gf.sig = some s → CallOk fn c s → TgtOk P M.hp fn c g vals := fun {g gf s} h1 h2 h3 => by
    refine ⟨gf, s, h1, h2, h3.2.2, by rw [hvl]; exact h3.1, fun i t v ht hv => ?_⟩
    have hil : i < c.args.length := by have := (List.getElem?_eq_some_iff.1 hv).1; omega
    obtain ⟨r, hr, _⟩ := Sl.get hil
    have hr2 := ha16 r (List.mem_of_getElem? hr)
    obtain ⟨kr, rfl⟩ : ∃ k : Nat, r = k := ⟨r.toNat, by omega⟩
    obtain ⟨t', ht1, ht2⟩ := h3.2.1 i kr hr
    rw [ht] at ht2; cases ht2
    rw [getI_nat] at ht1
    exact vtx kr t v ht1 (by rw [← hvs i kr hr]; exact hv)
  -- the call itself
  have go : ∀ {n' h' w' g vals'}, Ev No n h n' h' → Sl h' (fun b => n ≤ b ∧ b < n') 3 V3 w' vals' → vals'.length ≤ 16 → TgtOk P M.hp fn c g vals' → Wp (cl (R14_Machine_call F (pt bM 0) (i64 g) w' (i64 c.dst)) fun v => ret v) n' h' Q := fun {n' h' w' g vals'} e' sw' hv16 ht => by
    have m' := m.ev f e'
    refine cl_call' ⟨bF, cF, cs, kd, vH, vO, m'⟩ (by omega) sw' (fun b hb => ⟨hb.2, hf b hb.1⟩) hv16 (by omega) e'.f (mvE e').fresh (fun h60 => Wp.retI.2 (ke 6 _ _ (by decide) (mvE e') ⟨bF, cF, cs, kd, vH, vO, m'⟩)) fun h60 ρ' n2 h2 mv2 ma2 => Wp.retI.2 (kc _ _ _ _ _ ht h60 ((mvE e').trans mv2) ma2)
  have hdst : ∀ r ∈ usesP c, 0 ≤ r ∧ r < (fn.regs.length : Int) := iok.2.2.1
  by_cases h12 : c.op = 12
  · obtain ⟨gf, s, q1, q2, q3⟩ := fok.f12 h12
    simp only [wpS.1, wpS.2.1, wpS.2.2.1, wpS.2.2.2.2, wpM.1, g1, ldv_own, Nat.zero_add, List.getElem?_cons_succ, List.getElem?_cons_zero, Option.some.injEq, exists_eq_left', decide_eq_true_eq, decide_eq_false_iff_not]
    exact ⟨fun _ => go e01 swl (by omega) (tgt q1 q2 q3), fun h => absurd h12 h⟩
  obtain ⟨ra, ta, hra, hra16, hta⟩ := use_reg iok (r := c.a) (by rcases hop with h | h | h <;> simp [usesP, h]; omega) h16
  obtain ⟨wv, hw⟩ : ∃ w, x.rs[ra]? = some w := ⟨x.rs[ra]'(by omega), List.getElem?_eq_getElem _⟩
  have vtw := vtx ra ta wv hta hw
  have top1 := m1.fs.each low.length x (by rw [hM]; simp)
  obtain ⟨c0, c1, c2⟩ := top1.ld hw
  -- the register's value, in a block of its own
  have e2 := (e01.new ⟨[i64 0, i64 0, bo false], .own⟩).set (b := n1) ⟨valC wv, .own⟩ (by omega) (by omega)
  have g2 : ((h1.set n1 ⟨[i64 0, i64 0, bo false], .own⟩).set n1 ⟨valC wv, .own⟩).get n1 = some ⟨valC wv, .own⟩ := H.get_set_same _ _ _
  have s2 : ∀ b, b < n1 → ((h1.set n1 ⟨[i64 0, i64 0, bo false], .own⟩).set n1 ⟨valC wv, .own⟩).get b = h1.get b := fun b hb => by rw [H.get_set_ne _ _ (by omega), H.get_set_ne _ _ (by omega)]
  have put : ∀ {K : V → St}, Wp (K (pt n1 0)) (n1 + 1) ((h1.set n1 ⟨[i64 0, i64 0, bo false], .own⟩).set n1 ⟨valC wv, .own⟩) Q → Wp (kPtr [(i64 0), (i64 0), (bo false)] fun v20 => kStoreN 3 v20 (.agg #[i64 wv.k, i64 wv.n, bo wv.t]) fun _ => K v20) n1 h1 Q := fun {K} h => Wp.put (cs := valC wv) e1.f (by simp [oneS]) (by simp [oneS]) rfl rfl h
  generalize (h1.set n1 ⟨[i64 0, i64 0, bo false], .own⟩).set n1 ⟨valC wv, .own⟩ = h2 at e2 g2 s2 put
  have m2 := m.ev f e2
  have g2n : h2.get n = some ⟨[i64 c.op, i64 c.dst, i64 c.a, i64 c.b, i64 c.n, wa], .own⟩ := by rw [s2 n (by omega), g1]
  have sw2 : Sl h2 (fun b => n ≤ b ∧ b < n1 + 1) 3 V3 w vals := swl.keep (fun b hb => ⟨hb.1, by omega⟩) (fun b hb => s2 b hb.2) fun _ _ h => h
  by_cases h13 : c.op = 13
  · obtain ⟨t, s, q0, q1, q2, q3⟩ := fok.f13 h13
    rw [hra, getI_nat, hta] at q0; cases q0
    simp only [wpS.1, wpS.2.1, wpS.2.2.1, wpS.2.2.2.2, wpM.1, g1, ldv_own, Nat.zero_add, List.getElem?_cons_succ, List.getElem?_cons_zero, Option.some.injEq, exists_eq_left', decide_eq_true_eq, decide_eq_false_iff_not]
    refine ⟨fun h => absurd h h12, fun _ => ⟨fun _ => ?_, fun h => absurd h13 h⟩⟩
    rw [hra, ixA hra16, ld3W m1.fs.get m1.live c0 c1 c2]
    refine put ?_
    simp only [wpS.1, wpS.2.1, wpS.2.2.1, wpS.2.2.2.2, wpM.1, g2, g2n, ldv_own, Nat.zero_add, List.getElem?_cons_succ, List.getElem?_cons_zero, Option.some.injEq, exists_eq_left', decide_eq_true_eq, decide_eq_false_iff_not]
    refine ⟨fun _ => ke 1 _ _ (by decide) (mvE e2) ⟨bF, cF, cs, kd, vH, vO, m2⟩, fun hk => ?_⟩
    obtain ⟨gf, hg1, hg2⟩ := vtw.2 (Classical.byContradiction fun h => hk h)
    rw [hg2] at q2
    exact go e2 sw2 (by omega) (tgt hg1 q2 q3)
  have h14 : c.op = 14 := by omega
  obtain ⟨t, fc, z, s, q0, q1, q2, q3, q4, q5⟩ := fok.f14 h14
  rw [hra, getI_nat, hta] at q0; cases q0
  simp only [wpS.1, wpS.2.1, wpS.2.2.1, wpS.2.2.2.2, wpM.1, g1, ldv_own, Nat.zero_add, List.getElem?_cons_succ, List.getElem?_cons_zero, Option.some.injEq, exists_eq_left', decide_eq_true_eq, decide_eq_false_iff_not]
  refine ⟨fun h => absurd h h12, fun _ => ⟨fun h => absurd h h13, fun _ => ?_⟩⟩
  rw [hra, ixA hra16, ld3W m1.fs.get m1.live c0 c1 c2]
  refine put ?_
  simp only [wpS.1, wpS.2.1, wpS.2.2.1, wpS.2.2.2.2, wpM.1, g2, g2n, ldv_own, Nat.zero_add, List.getElem?_cons_succ, List.getElem?_cons_zero, Option.some.injEq, exists_eq_left', decide_eq_true_eq, decide_eq_false_iff_not]
  rw [hra]
  refine cl_object m2 hM hs e2.f hw (fun hk h3 e3 => ?_) (fun hk h3 e3 => ?_)
  · simp only [Wp.extractI, List.getElem?_cons_zero, List.getElem?_cons_succ, Option.some.injEq, exists_eq_left', wpS.1, wpS.2.1, wpS.2.2.1, wpS.2.2.2.2]
    exact ⟨by simp [isNF], by simp [isNF], fun _ => ke 1 _ _ (by decide) (mvE (Ev.more e2 e3)) ⟨bF, cF, cs, kd, vH, vO, m.ev f (Ev.more e2 e3)⟩, fun h => absurd h (by decide)⟩
  obtain ⟨j, o, hj, ho, htj⟩ := vtw.1 hk
  have hjl := (List.getElem?_eq_some_iff.1 ho).1
  refine ⟨j, hj, hjl, by have := inv.hlen; omega, fun bH hvH => ?_⟩
  subst hvH
  have e23 := Ev.more e2 e3
  have m3 := m.ev f e23
  have g3 : h3.get n1 = some ⟨valC wv, .own⟩ := by rw [e3.no (by omega), g2]
  have g3n : h3.get n = some ⟨[i64 c.op, i64 c.dst, i64 c.a, i64 c.b, i64 c.n, wa], .own⟩ := by rw [e3.no (by omega), g2n]
  have sw3 : Sl h3 (fun b => n ≤ b ∧ b < n1 + 1 + 1) 3 V3 w vals := sw2.keep (fun b hb => ⟨hb.1, by omega⟩) (fun b hb => e3.no hb.2) fun _ _ h => h
  have p3 := p.keep (Kp.ev e23 hn)
  obtain ⟨bH', csH, hbH', hne0, roH, gH, lH, oneH, eachH⟩ : ∃ b cs, sl bH 0 M.hp.length (U + 3) = sl b 0 M.hp.length (U + 3) ∧ M.hp ≠ [] ∧ ρ b = .hp ∧ h3.get b = some ⟨cs, .grow⟩ ∧ cs.length = M.hp.length * 3 ∧ cs.all one = true ∧ ∀ k o, M.hp[k]? = some o → cs[k * 3]? = some (i64 o.site) ∧ cs[k * 3 + 2]? = some (bo o.free) ∧ ∃ u, cs[k * 3 + 1]? = some u ∧ FldAt ρ h3 k u o.fs := by
    rcases m3.hp with ⟨q, _⟩ | q
    · rw [q] at hjl; simp at hjl
    · exact q
  cases hbH'
  obtain ⟨s0, _⟩ := eachH j o ho
  obtain ⟨hsite, _⟩ := inv.hp o (List.mem_of_getElem? ho)
  have top3 := m3.fs.each low.length x (by rw [hM]; simp)
  have topf := top3.f
  obtain ⟨kf, hkf, hfn2⟩ := getI_some hfn
  rw [hkf] at topf
  obtain ⟨b4, o4, cs4, kd4, _, hix4, hb4, hk4, ⟨vg, vb, rfl, sr, sb, _⟩, hcs4, _⟩ := p3.funcs.at hfn2
  have c4 := hcs4 1 _ rfl
  obtain ⟨b5, o5, cs5, kd5, _, hix5, hb5, hk5, ⟨rfl, _⟩, hcs5, _, hl5, hd5⟩ := sr.at hta
  simp only [Wp.extractI, List.getElem?_cons_zero, List.getElem?_cons_succ, Option.some.injEq, exists_eq_left', wpS.1, wpS.2.1, wpS.2.2.1, wpS.2.2.2.2, wpM.1, m3.get, ldv_own, Nat.zero_add, Nat.add_zero, p3.at_, ldv_ro, m3.fs.get, ldv_live m3.live, topf, hix4, hb4, ldv_live hk4, c4, g3n, hra, hix5]
  refine ⟨by simp [isNF], by simp [isNF], fun h => absurd h (by decide), fun _ => ?_⟩
  refine Wp.loadNI.2 ?_
  rw [hb5]
  refine (ldn_live hk5).2 ⟨hl5, ?_⟩
  rw [hd5]
  refine Wp.put (cs := [i64 ta.1, i64 ta.2]) e3.f (by simp [oneS]) (by simp [oneS]) rfl rfl ?_
  have e6 := (e23.new ⟨[i64 0, i64 0], .own⟩).set (b := n1 + 1 + 1) ⟨[i64 ta.1, i64 ta.2], .own⟩ (by omega) (by omega)
  have s6 : ∀ b, b < n1 + 1 + 1 → ((h3.set (n1 + 1 + 1) ⟨[i64 0, i64 0], .own⟩).set (n1 + 1 + 1) ⟨[i64 ta.1, i64 ta.2], .own⟩).get b = h3.get b := fun b hb => by rw [H.get_set_ne _ _ (by omega), H.get_set_ne _ _ (by omega)]
  have g6 : ((h3.set (n1 + 1 + 1) ⟨[i64 0, i64 0], .own⟩).set (n1 + 1 + 1) ⟨[i64 ta.1, i64 ta.2], .own⟩).get (n1 + 1 + 1) = some ⟨[i64 ta.1, i64 ta.2], .own⟩ := H.get_set_same _ _ _
  generalize (h3.set (n1 + 1 + 1) ⟨[i64 0, i64 0], .own⟩).set (n1 + 1 + 1) ⟨[i64 ta.1, i64 ta.2], .own⟩ = h6 at e6 s6 g6
  have m6 := m.ev f e6
  have p6 := p.keep (Kp.ev e6 hn)
  have g6n : h6.get n = some ⟨[i64 c.op, i64 c.dst, i64 c.a, i64 c.b, i64 c.n, wa], .own⟩ := by rw [s6 n (by omega), g3n]
  have g6v : h6.get n1 = some ⟨valC wv, .own⟩ := by rw [s6 n1 (by omega), g3]
  have hbH : bH < n1 + 1 + 1 := e3.f.lt gH
  have gH6 : h6.get bH = some ⟨csH, .grow⟩ := by rw [s6 bH hbH]; exact gH
  have sw6 : Sl h6 (fun b => n ≤ b ∧ b < n1 + 1 + 1 + 1) 3 V3 w vals := sw3.keep (fun b hb => ⟨hb.1, by omega⟩) (fun b hb => s6 b hb.2) fun _ _ h => h
  simp only [wpS.1, wpS.2.1, wpS.2.2.1, wpS.2.2.2.2, wpM.1, m6.get, gH6, ldv_grow, s0, g6, g6n, ldv_own, Nat.zero_add, Nat.add_zero, List.getElem?_cons_succ, List.getElem?_cons_zero, Option.some.injEq, exists_eq_left']
  refine Wp.cl (R := fun v n' h' => ∃ z, i64 z = v ∧ Ev No (n1 + 1 + 1 + 1) h6 n' h' ∧ (z = -1 ∨ ∃ m ∈ P.imps, m.rec_ = o.rec_ ∧ m.ifc = ta.2 ∧ getI m.funcs c.n = some z)) (method_wp p6 lm (rec_ := o.rec_) (ifc := ta.2) (meth := c.n) hsite hF e6.f (by omega) fun z n' h' e' hz => ⟨z, rfl, e', hz⟩) ?_
  rintro _ n7 h7 ⟨g, rfl, e7, hg⟩
  have le7 := e7.le
  have e67 := Ev.more e6 e7
  have g7n : h7.get n = some ⟨[i64 c.op, i64 c.dst, i64 c.a, i64 c.b, i64 c.n, wa], .own⟩ := by rw [e7.no (by omega), g6n]
  have g7v : h7.get n1 = some ⟨valC wv, .own⟩ := by rw [e7.no (by omega), g6v]
  have sw7 : Sl h7 (fun b => n ≤ b ∧ b < n7) 3 V3 w vals := sw6.keep (fun b hb => ⟨hb.1, by omega⟩) (fun b hb => e7.no hb.2) fun _ _ h => h
  simp only [wpS.1, wpS.2.1, wpS.2.2.1, wpS.2.2.2.2, decide_eq_true_eq, decide_eq_false_iff_not]
  refine ⟨fun _ => ke 1 _ _ (by decide) (mvE e67) ⟨bF, cF, cs, kd, _, vO, m.ev f e67⟩, fun hg0 => ?_⟩
  rcases hg with hg | ⟨mi, hmi, hm1, hm2, hm3⟩
  · omega
  rw [ld3W g7v (by decide) (by rfl) (by rfl) (by rfl)]
  simp only [wpM.1, g7n, ldv_own, Nat.zero_add, List.getElem?_cons_succ, List.getElem?_cons_zero, Option.some.injEq, exists_eq_left', wpS.1, wpS.2.1, wpS.2.2.1, wpS.2.2.2.2]
  refine (Wp.buildSliceI e7.f).2 ⟨valC wv, by simp [fillA, rep, over], by simp [oneS], ?_⟩
  have e8 := e67.new ⟨valC wv, .own⟩
  have s8 : ∀ b, b < n7 → (h7.set n7 ⟨valC wv, .own⟩).get b = h7.get b := fun b hb => by rw [H.get_set_ne _ _ (by omega)]
  have g8 : (h7.set n7 ⟨valC wv, .own⟩).get n7 = some ⟨valC wv, .own⟩ := H.get_set_same _ _ _
  generalize h7.set n7 ⟨valC wv, .own⟩ = h8 at e8 s8 g8
  have g8n : h8.get n = some ⟨[i64 c.op, i64 c.dst, i64 c.a, i64 c.b, i64 c.n, wa], .own⟩ := by rw [s8 n (by omega), g7n]
  have sw8 : Sl h8 (fun b => n ≤ b ∧ b < n7) 3 V3 w vals := sw7.keep (fun _ h => h) (fun b hb => s8 b hb.2) fun _ _ h => h
  -- the receiver ahead of the arguments goes with the method's signature
  have tgt2 : TgtOk P M.hp fn c g (wv :: vals) := by
    obtain ⟨want, hw1, hw2, hw3⟩ := mt mi hmi
    rw [hm2] at hw1; rw [q2] at hw1; cases hw1
    obtain ⟨kn, hkn, hfc⟩ := getI_some q3
    rw [hkn, getI_nat] at hm3
    obtain ⟨gf, sg, su, r1, r2, r3, r4, r5⟩ := hw3 kn g z hm3 hfc
    rw [q4] at r3; cases r3
    refine ⟨gf, sg, r1, r2, by rw [r5]; exact q5.2.2, by rw [r4]; simp [hvl]; exact q5.1, fun i t v ht hv => ?_⟩
    cases i with
    | zero =>
      rw [r4] at ht
      simp at ht hv
      subst ht hv
      refine ⟨fun h2 => ⟨j, o, hj, ho, .inr (by rw [hm1])⟩, fun h3 => ?_⟩
      omega
    | succ i =>
      rw [r4, List.getElem?_cons_succ] at ht
      rw [List.getElem?_cons_succ] at hv
      have hil : i < c.args.length := by have := (List.getElem?_eq_some_iff.1 hv).1; omega
      obtain ⟨r, hr, _⟩ := Sl.get hil
      have hr2 := ha16 r (List.mem_of_getElem? hr)
      obtain ⟨kr, rfl⟩ : ∃ k : Nat, r = k := ⟨r.toNat, by omega⟩
      obtain ⟨t', ht1, ht2⟩ := q5.2.1 i kr hr
      rw [ht] at ht2; cases ht2
      rw [getI_nat] at ht1
      exact vtx kr t v ht1 (by rw [← hvs i kr hr]; exact hv)
  have chk : ∀ {n' h' v79}, Ev No n h n' h' → h'.get n = some ⟨[i64 c.op, i64 c.dst, i64 c.a, i64 c.b, i64 c.n, wa], .own⟩ → Sl h' (fun b => n ≤ b ∧ b < n') 3 V3 v79 (wv :: vals) → Wp (kChk false (pt n 1) (i64 c.dst) (cl (R14_Machine_call F (pt bM 0) (i64 g) v79 (i64 c.dst)) fun v80 => ret v80)) n' h' Q := fun {n' h' v79} e' gn' sv' => by
    refine Wp.chkI.2 ?_
    rw [gn']
    refine ⟨by simp, ?_, go e' sv' (by simp; omega) tgt2⟩
    simp [veqS]
  by_cases hv0 : vals = []
  · subst hv0
    refine Wp.appNone (.inr ⟨n7, 0, 1, 1, rfl, .inr (by decide)⟩) ?_ (chk e8 g8n ?_)
    · rcases sw8.2 with ⟨rfl, _⟩ | ⟨b, o', cap, cs', kd', rfl, _⟩
      · exact ⟨_, _, rfl⟩
      · exact ⟨_, _, rfl⟩
    · exact ⟨by simp, .inr ⟨n7, 0, 1, _, .own, rfl, fun _ => ⟨by omega, g8, by decide, by simp⟩, fun i y hy => by
        cases i with
        | zero => simp at hy; subst hy; rfl
        | succ i => simp at hy⟩⟩
  · have hvl0 : vals.length ≠ 0 := fun h => hv0 (List.eq_nil_of_length_eq_zero h)
    have hc8 : Cel h8 3 (sl n7 0 1 1) 1 (valC wv) := ⟨rfl, .inr ⟨n7, 0, 1, rfl, fun _ => ⟨_, .own, g8, by decide, by simp, rfl⟩⟩⟩
    refine Wp.appNew (l := 1) (m := vals.length) hc8 (.inr ⟨n7, 0, 1, rfl, by omega, by decide⟩) sw8.cel3 hvl0 e8.f (by rw [List.all_append, flat_one]; simp [oneS]) (by omega) ?_
    have e9 := e8.new ⟨valC wv ++ flatV vals, .grow⟩
    refine chk e9 (by rw [H.get_set_ne _ _ (by omega), g8n]) ?_
    rw [show 1 + vals.length = (wv :: vals).length by simp; omega]
    exact Sl.of3 (H.get_set_same _ _ _) (by decide) (by simp; omega) (by omega)
end Go.Fn
end
section
set_option linter.unusedVariables false
namespace Go.Fn
open Go Go.Fw

variable {F n : Nat} {h : H} {Q : Post} {K : V → St}

/-- A register of the frame on top gets a value: what always holds goes on. -/
theorem Inv.reg {P : Pg} {M : Mc} {low : List Frm} {x : Frm} {fn : Fun} {r : Nat} {t : Ty} {v : Val} {os : List Int} (inv : Inv P M) (hM : M.fs = low ++ [x]) (hf : getI P.funcs x.at_.f = some fn) (ht : fn.regs[r]? = some t) (hv : VT P M.hp t v) (hos : os.length ≤ 1000) : Inv P { M with fs := low ++ [{ x with rs := x.rs.set r v }], os := os } := by
  have l := inv.link
  rw [hM] at l
  refine ⟨by simp, by have := inv.flen; rw [hM] at this; simpa using this, inv.hlen, hos, fun y hy => ?_, Lk.top (P := P) (x' := { x with rs := x.rs.set r v }) l rfl rfl, inv.hp⟩
  rcases List.mem_append.1 hy with hy | hy
  · exact inv.frm y (by rw [hM]; exact List.mem_append_left _ hy)
  · simp at hy; subst hy
    exact (inv.frm x (by rw [hM]; simp)).set hf ht hv
/-- The heap changes within. -/
theorem Inv.heap {P : Pg} {M : Mc} {j : Nat} {o o' : Obj} (inv : Inv P M) (ho : M.hp[j]? = some o) (hr : o'.rec_ = o.rec_) (hok : ObOk P M.hp o') : Inv P { M with hp := M.hp.set j o' } := by
  have le := HpLe.set ho hr
  refine ⟨inv.some_, inv.flen, by simpa using inv.hlen, inv.olen, fun y hy => (inv.frm y hy).mono le, inv.link, fun y hy => ?_⟩
  rcases List.mem_or_eq_of_mem_set hy with hy | rfl
  · exact (inv.hp y hy).mono le
  · exact hok.mono le
/-- One object more. -/
theorem Inv.alloc {P : Pg} {M : Mc} {o : Obj} (inv : Inv P M) (h4 : M.hp.length < 400) (hok : ObOk P M.hp o) : Inv P { M with hp := M.hp ++ [o] } := by
  have le := HpLe.app M.hp [o]
  refine ⟨inv.some_, inv.flen, by simp; omega, inv.olen, fun y hy => (inv.frm y hy).mono le, inv.link, fun y hy => ?_⟩
  rcases List.mem_append.1 hy with hy | hy
  · exact (inv.hp y hy).mono le
  · simp at hy; subst hy; exact hok.mono le
theorem regsOf_get {vals : List Val} {r : Nat} {v : Val} (h : (regsOf vals)[r]? = some v) : vals[r]? = some v ∨ v = ⟨0, 0, false⟩ := by
  unfold regsOf at h
  rcases Nat.lt_or_ge r vals.length with hr | hr
  · rw [List.getElem?_append_left hr] at h; exact .inl h
  · rw [List.getElem?_append_right hr, List.getElem?_replicate] at h
    split at h
    · cases h; exact .inr rfl
    · cases h
/-- One frame more. -/
theorem Inv.call {P : Pg} {M : Mc} {low : List Frm} {x : Frm} {fn : Fun} {c : Ins} {g : Int} {vals : List Val} (inv : Inv P M) (nm : Nm P) (lm : Lm P) (tp : Tp P) (hM : M.fs = low ++ [x]) (hf : getI P.funcs x.at_.f = some fn) (h60 : M.fs.length < 60) (tg : TgtOk P M.hp fn c g vals) : Inv P { M with fs := M.fs ++ [⟨⟨g, 0, 0⟩, regsOf vals, c.dst⟩], called := g } := by
  obtain ⟨gf, s, h1, h2, h3, h4, h5⟩ := tg
  have hgm := getI_mem h1
  have hsl : s.params.length ≤ 4 := lm.sig_ s (getI_mem h2)
  refine ⟨by simp, by simp; omega, inv.hlen, inv.olen, fun y hy => ?_, Lk.snoc (P := P) inv.link fun y hy => ?_, inv.hp⟩
  · rcases List.mem_append.1 hy with hy | hy
    · exact inv.frm y hy
    · simp at hy; subst hy
      have lx := lm.fun_ gf hgm
      obtain ⟨bl, hbl, _⟩ := Sl.get (show 0 < gf.blocks.length by have := lx.some_; omega)
      refine ⟨gf, h1, ⟨gf, bl, h1, (getI_nat gf.blocks 0).trans hbl, by simp, by simp⟩, by unfold regsOf; rw [List.length_append, List.length_replicate]; omega, fun r t v ht hv => ?_⟩
      rcases regsOf_get hv with h | rfl
      · have hrl := (List.getElem?_eq_some_iff.1 h).1
        obtain ⟨t', ht', _⟩ := Sl.get (show r < s.params.length by omega)
        have := tp.params gf hgm s h2 r t' ht'
        rw [ht] at this; cases this
        exact h5 r _ v ht' h
      · exact VT.num (by decide) (by decide)
  · rw [hM, List.getLast?_concat] at hy
    cases hy
    exact ⟨fn, gf, s, hf, h1, h2, h3⟩
/-- A frame stands elsewhere in its function. -/
theorem Inv.move {P : Pg} {M : Mc} {low rest : List Frm} {y : Frm} {q : Pt} (inv : Inv P M) (hM : M.fs = low ++ y :: rest) (hq : PtOk P q) (hf : q.f = y.at_.f) : Inv P { M with fs := low ++ { y with at_ := q } :: rest } := by
  refine ⟨by simp, by have := inv.flen; rw [hM] at this; simpa using this, inv.hlen, inv.olen, fun z hz => ?_, fun i a b ha hb => ?_, inv.hp⟩
  · rcases List.mem_append.1 hz with hz | hz
    · exact inv.frm z (by rw [hM]; exact List.mem_append_left _ hz)
    · rcases List.mem_cons.1 hz with rfl | hz
      · exact (inv.frm y (by rw [hM]; simp)).move hq hf
      · exact inv.frm z (by rw [hM]; exact List.mem_append_right _ (List.mem_cons_of_mem _ hz))
  · -- each is linked as the one whose place it takes
    have old : ∀ (k : Nat) z, (low ++ { y with at_ := q } :: rest)[k]? = some z → ∃ z', M.fs[k]? = some z' ∧ z.at_.f = z'.at_.f ∧ z.dst = z'.dst := fun k z hz => by
      rw [hM]
      rcases Nat.lt_or_ge k low.length with hk | hk
      · rw [List.getElem?_append_left hk] at hz ⊢; exact ⟨z, hz, rfl, rfl⟩
      · rw [List.getElem?_append_right hk] at hz ⊢
        cases hkk : k - low.length with
        | zero => rw [hkk] at hz; simp at hz; subst hz; exact ⟨y, by simp, hf, rfl⟩
        | succ k' => rw [hkk] at hz; exact ⟨z, by simpa using hz, rfl, rfl⟩
    obtain ⟨a', ha1, ha2, _⟩ := old i a ha
    obtain ⟨b', hb1, hb2, hb3⟩ := old (i + 1) b hb
    exact ((inv.link i a' b' ha1 hb1).left ha2).right hb2 hb3

/-- What an instruction comes to: on; or into a call. -/
def DoesR (M M' : Mc) (low : List Frm) (x : Frm) : Prop :=
  M'.ended = M.ended ∧ ((M'.called = M.called ∧ ∃ rs, M'.fs = low ++ [⟨{ x.at_ with i := x.at_.i + 1 }, rs, x.dst⟩]) ∨ (0 ≤ M'.called ∧ ∃ rs dst, M'.fs = low ++ ⟨{ x.at_ with i := x.at_.i + 1 }, x.rs, x.dst⟩ :: [⟨⟨M'.called, 0, 0⟩, rs, dst⟩]))

theorem codeP_at {P : Pg} {q : Pt} {c : Ins} (h : codeP P q = some c) : ∃ fn bl, getI P.funcs q.f = some fn ∧ getI fn.blocks q.b = some bl ∧ 0 ≤ q.i ∧ q.i < bl.code.length ∧ getI bl.code q.i = some c := by
  obtain ⟨fn, bl, h1, h2, h3⟩ := codeP_some h
  obtain ⟨k, hk, hk2⟩ := getI_some h3
  have := (List.getElem?_eq_some_iff.1 hk2).1
  exact ⟨fn, bl, h1, h2, by omega, by omega, h3⟩

/-- Two numbers are put together. -/
theorem does2 {P : Pg} {ρ : Rl} {bp bM : Nat} {M : Mc} {low : List Frm} {x : Frm} {fn : Fun} {c : Ins} {wa vH vO : V} {bF cF : Nat} {cs : List V} {kd : Kind} {h0 : H} {J : St} (m0 : MM ρ h0 bp bM M bF cF cs kd vH vO) (mv0 : Mv ρ n h ρ (n + 1) h0) (hbM : bM < n) (hbF : bF < n) (hf : ∀ b, n ≤ b → ρ b = .no) (g0 : h0.get n = some ⟨[i64 c.op, i64 c.dst, i64 c.a, i64 c.b, i64 c.n, wa], .own⟩) (hM : M.fs = low ++ [x]) (os0 : M.os.length ≤ 1000) {kdst : Nat} {td : Ty} (hkd : c.dst = (kdst : Int)) (hkd16 : kdst < 16) (htd : fn.regs[kdst]? = some td)
    (setK : ∀ {n' h'} {v : Val} {r : Nat} {t : Ty} {os : List Int}, Mv ρ n h ρ n' h' → MA ρ h' bp bM { M with os := os } → r < 16 → fn.regs[r]? = some t → VT P M.hp t v → os.length ≤ 1000 → Wp (cl (R14_Machine_set F (pt bM 0) (i64 (r : Int)) (valV v)) fun _ => J) n' h' Q) {ra rb : Nat} {va vb : Val} (hra : c.a = (ra : Int)) (hra16 : ra < 16) (hva : x.rs[ra]? = some va) (hrb : c.b = (rb : Int)) (hrb16 : rb < 16) (hvb : x.rs[rb]? = some vb) :
    Wp (kFieldAddr 2 (pt n 0) fun v36 => kLoad v36 fun v37 => kNil (pt bF (low.length * 68)) fun v38 => kFieldAddr 3 v38 fun v39 => kIndexAddrA 16 3 v39 v37 fun v40 => kLoadN 3 v40 fun v41 => kFieldAddr 3 (pt n 0) fun v42 => kLoad v42 fun v43 => kNil (pt bF (low.length * 68)) fun v44 => kFieldAddr 3 v44 fun v45 => kIndexAddrA 16 3 v45 v43 fun v46 => kLoadN 3 v46 fun v47 => kPtr [(i64 0), (i64 0), (bo false)] fun v48 => kPtr [(i64 0), (i64 0), (bo false)] fun v49 => kStoreN 3 v48 v41 fun _ => kChk false v42 v43 (kChk true v46 v47 (kStoreN 3 v49 v47 fun _ => kFieldAddr 1 (pt n 0) fun v52 => kLoad v52 fun v53 => kFieldAddr 1 v48 fun v54 => kLoad v54 fun v55 => kFieldAddr 1 v49 fun v56 => kLoad v56 fun v57 => kAdd v55 v57 fun v58 => kFieldAddr 2 v48 fun v59 => kLoad v59 fun v60 => onB v60 (kBuild [(i64 0), (i64 0), (bo false)] [⟨0, 1, false, (i64 0)⟩, ⟨1, 1, false, v58⟩, ⟨2, 1, false, (bo true)⟩] fun v61 => cl (R14_Machine_set F (pt bM 0) v53 v61) fun v62 => J) (kFieldAddr 2 v49 fun v63 => kLoad v63 fun v64 => kBuild [(i64 0), (i64 0), (bo false)] [⟨0, 1, false, (i64 0)⟩, ⟨1, 1, false, v58⟩, ⟨2, 1, false, v64⟩] fun v65 => cl (R14_Machine_set F (pt bM 0) v53 v65) fun v66 => J)))) (n + 1) h0 Q := by
  have top0 := m0.fs.each low.length x (by rw [hM]; simp)
  obtain ⟨a0, a1, a2⟩ := top0.ld hva
  obtain ⟨b0, b1, b2⟩ := top0.ld hvb
  simp [wpS, wpM.1, g0, ldv_own]
  rw [hra, ixA hra16, ld3W m0.fs.get m0.live a0 a1 a2]
  simp [wpS, wpM.1, g0, ldv_own]
  rw [hrb, ixA hrb16, ld3W m0.fs.get m0.live b0 b1 b2]
  refine (Wp.ptrI mv0.f).2 ⟨by simp [oneS], (Wp.ptrI (mv0.f.new _)).2 ⟨by simp [oneS], ?_⟩⟩
  have e1 := ((Ev.start mv0.f).new ⟨[i64 0, i64 0, bo false], .own⟩).new ⟨[i64 0, i64 0, bo false], .own⟩
  rw [stNW (s := 3) (vs := valC va) (cs := [i64 0, i64 0, bo false]) (kd := .own) (by rw [H.get_set_ne _ _ (by omega), H.get_set_same]) (.inl rfl) rfl (by simp) (by simp [oneS])]
  have e2 := e1.set (b := n + 1) ⟨over [i64 0, i64 0, bo false] 0 (valC va), .own⟩ (by omega) (by omega)
  have ga : (((h0.set (n + 1) ⟨[i64 0, i64 0, bo false], .own⟩).set (n + 1 + 1) ⟨[i64 0, i64 0, bo false], .own⟩).set (n + 1) ⟨over [i64 0, i64 0, bo false] 0 (valC va), .own⟩).get (n + 1) = some ⟨valC va, .own⟩ := H.get_set_same _ _ _
  have gb : (((h0.set (n + 1) ⟨[i64 0, i64 0, bo false], .own⟩).set (n + 1 + 1) ⟨[i64 0, i64 0, bo false], .own⟩).set (n + 1) ⟨over [i64 0, i64 0, bo false] 0 (valC va), .own⟩).get (n + 1 + 1) = some ⟨[i64 0, i64 0, bo false], .own⟩ := by rw [H.get_set_ne _ _ (by omega), H.get_set_same]
  generalize ((h0.set (n + 1) ⟨[i64 0, i64 0, bo false], .own⟩).set (n + 1 + 1) ⟨[i64 0, i64 0, bo false], .own⟩).set (n + 1) ⟨over [i64 0, i64 0, bo false] 0 (valC va), .own⟩ = h2 at e2 ga gb
  have m2 := m0.ev mv0.f e2
  have g2 : h2.get n = some ⟨[i64 c.op, i64 c.dst, i64 c.a, i64 c.b, i64 c.n, wa], .own⟩ := by rw [e2.no (by omega), g0]
  refine Wp.chkI.2 ?_
  rw [g2]
  refine ⟨by simp, by simp [veqS, hrb], Wp.chkNI.2 ?_⟩
  obtain ⟨w1, w2⟩ := win3 b0 b1 b2
  rw [m2.fs.get]
  refine (ldn_live m2.live).2 ⟨w2, by
    rw [show (([i64 vb.k, i64 vb.n, bo vb.t] : List V).toArray.toList).length = 3 from rfl, w1]; simp [veqL, Fw.veq], ?_⟩
  rw [stNW (s := 3) (vs := valC vb) gb (.inl rfl) rfl (by simp) (by simp [oneS])]
  have e3 := e2.set (b := n + 1 + 1) ⟨over [i64 0, i64 0, bo false] 0 (valC vb), .own⟩ (by omega) (by omega)
  have ga3 : (h2.set (n + 1 + 1) ⟨over [i64 0, i64 0, bo false] 0 (valC vb), .own⟩).get (n + 1) = some ⟨valC va, .own⟩ := by rw [H.get_set_ne _ _ (by omega), ga]
  have gb3 : (h2.set (n + 1 + 1) ⟨over [i64 0, i64 0, bo false] 0 (valC vb), .own⟩).get (n + 1 + 1) = some ⟨valC vb, .own⟩ := H.get_set_same _ _ _
  generalize h2.set (n + 1 + 1) ⟨over [i64 0, i64 0, bo false] 0 (valC vb), .own⟩ = h3 at e3 ga3 gb3
  have g3 : h3.get n = some ⟨[i64 c.op, i64 c.dst, i64 c.a, i64 c.b, i64 c.n, wa], .own⟩ := by rw [e3.no (by omega), g0]
  have mv3 := mv0.ev e3
  have ma3 : MA ρ h3 bp bM { M with os := M.os } := ⟨bF, cF, cs, kd, vH, vO, m0.ev mv0.f e3⟩
  simp [wpS, wpM.1, g3, ga3, gb3, ldv_own]
  refine ⟨fun _ => Wp.buildI.2 ⟨[i64 0, i64 (IntKind.i64.wrap (va.n + vb.n)), bo true], by simp [fillA, oneS], ?_⟩, fun _ => Wp.buildI.2 ⟨[i64 0, i64 (IntKind.i64.wrap (va.n + vb.n)), bo vb.t], by simp [fillA, oneS], ?_⟩⟩
  · rw [hkd]
    exact setK (v := ⟨0, IntKind.i64.wrap (va.n + vb.n), true⟩) mv3 ma3 hkd16 htd (VT.low (.inl rfl)) os0
  · rw [hkd]
    exact setK (v := ⟨0, IntKind.i64.wrap (va.n + vb.n), vb.t⟩) mv3 ma3 hkd16 htd (VT.low (.inl rfl)) os0

/-- A number comes from without. -/
theorem does3 {P : Pg} {ρ : Rl} {bp bM : Nat} {M : Mc} {low : List Frm} {x : Frm} {fn : Fun} {c : Ins} {wa vH vO : V} {bF cF : Nat} {cs : List V} {kd : Kind} {h0 : H} {J : St} (m0 : MM ρ h0 bp bM M bF cF cs kd vH vO) (mv0 : Mv ρ n h ρ (n + 1) h0) (hbM : bM < n) (hbF : bF < n) (hf : ∀ b, n ≤ b → ρ b = .no) (g0 : h0.get n = some ⟨[i64 c.op, i64 c.dst, i64 c.a, i64 c.b, i64 c.n, wa], .own⟩) (hM : M.fs = low ++ [x]) (os0 : M.os.length ≤ 1000) {kdst : Nat} {td : Ty} (hkd : c.dst = (kdst : Int)) (hkd16 : kdst < 16) (htd : fn.regs[kdst]? = some td)
    (setK : ∀ {n' h'} {v : Val} {r : Nat} {t : Ty} {os : List Int}, Mv ρ n h ρ n' h' → MA ρ h' bp bM { M with os := os } → r < 16 → fn.regs[r]? = some t → VT P M.hp t v → os.length ≤ 1000 → Wp (cl (R14_Machine_set F (pt bM 0) (i64 (r : Int)) (valV v)) fun _ => J) n' h' Q) :
    Wp (kBuild [(i64 0), (i64 0), (bo false)] [⟨0, 1, false, (i64 0)⟩, ⟨2, 1, false, (bo true)⟩] fun v68 => kPtr [(i64 0), (i64 0), (bo false)] fun v69 => kStoreN 3 v69 v68 fun _ => jn (α := V → V → V → V → V → St) (fun v72 v73 v74 v75 v76 => kFieldAddr 1 v73 fun v77 => kLoad v77 fun v78 => kLoadN 3 v76 fun v79 => cl (R14_Machine_set F v72 v78 v79) fun v80 => J) fun j71 => kNil (pt bM 0) fun v81 => kFieldAddr 3 v81 fun v82 => kLoad v82 fun v83 => kLen v83 fun v84 => kGtr v84 (i64 0) fun v85 => onB v85 (kNil (pt bM 0) fun v86 => kFieldAddr 3 v86 fun v87 => kLoad v87 fun v88 => kIndexAddr 1 v88 (i64 0) fun v89 => kLoad v89 fun v90 => kFieldAddr 1 v69 fun v91 => kStore v91 v90 fun _ => kNil (pt bM 0) fun v93 => kFieldAddr 3 v93 fun v94 => kLoad v94 fun v95 => kSlice 1 v95 (some (i64 1)) none none fun v96 => kNil (pt bM 0) fun v97 => kFieldAddr 3 v97 fun v98 => kStore v98 v96 fun _ => j71 (pt bM 0) (pt n 0) (i64 ((low.length + 1 : Nat) : Int)) (i64 0) v69) (j71 (pt bM 0) (pt n 0) (i64 ((low.length + 1 : Nat) : Int)) (i64 0) v69)) (n + 1) h0 Q := by
  refine Wp.buildI.2 ⟨[i64 0, i64 0, bo true], by simp [fillA, oneS], ?_⟩
  refine Wp.put (cs := [i64 0, i64 0, bo true]) mv0.f (by simp [oneS]) (by simp [oneS]) rfl rfl ?_
  have e1 := ((Ev.start mv0.f).new ⟨[i64 0, i64 0, bo false], .own⟩).set (b := n + 1) ⟨[i64 0, i64 0, bo true], .own⟩ (by omega) (by omega)
  have gl : ((h0.set (n + 1) ⟨[i64 0, i64 0, bo false], .own⟩).set (n + 1) ⟨[i64 0, i64 0, bo true], .own⟩).get (n + 1) = some ⟨[i64 0, i64 0, bo true], .own⟩ := H.get_set_same _ _ _
  generalize (h0.set (n + 1) ⟨[i64 0, i64 0, bo false], .own⟩).set (n + 1) ⟨[i64 0, i64 0, bo true], .own⟩ = h1 at e1 gl
  have m1 := m0.ev mv0.f e1
  have mv1 := mv0.ev e1
  have g1 : h1.get n = some ⟨[i64 c.op, i64 c.dst, i64 c.a, i64 c.b, i64 c.n, wa], .own⟩ := by rw [e1.no (by omega), g0]
  refine Wp.jn (fun j => ∀ h' (os : List Int) (z : Int), Mv ρ n h ρ (n + 1 + 1) h' → MA ρ h' bp bM { M with os := os } → os.length ≤ 1000 → h'.get n = some ⟨[i64 c.op, i64 c.dst, i64 c.a, i64 c.b, i64 c.n, wa], .own⟩ → h'.get (n + 1) = some ⟨[i64 0, i64 z, bo true], .own⟩ → Wp (j (pt bM 0) (pt n 0) (i64 ((low.length + 1 : Nat) : Int)) (i64 0) (pt (n + 1) 0)) (n + 1 + 1) h' Q) ?_ fun j71 hj71 => ?_
  case refine_1 =>
    intro h' os z mv' ma' hos gn' gl'
    simp only [wpS.1, wpS.2.1, wpS.2.2.1, wpS.2.2.2.2, wpM.1, gn', ldv_own, Nat.zero_add, List.getElem?_cons_succ, List.getElem?_cons_zero, Option.some.injEq, exists_eq_left']
    rw [ld3W gl' (by decide) (by rfl) (by rfl) (by rfl), hkd]
    exact setK (v := ⟨0, z, true⟩) mv' ma' hkd16 htd (VT.low (.inl rfl)) hos
  have so := m1.os.1.sl (by omega)
  have g1M := m1.get
  simp only [wpS.1, wpS.2.1, wpS.2.2.1, wpS.2.2.2.2, wpM.1, g1M, ldv_own, Nat.zero_add, List.getElem?_cons_succ, List.getElem?_cons_zero, Option.some.injEq, exists_eq_left', so.len, decide_eq_true_eq, decide_eq_false_iff_not]
  refine ⟨fun hpos => ?_, fun _ => hj71 _ _ 0 mv1 ⟨bF, cF, cs, kd, vH, vO, m1⟩ os0 g1 gl⟩
  cases hos : M.os with
  | nil => rw [hos] at hpos; simp at hpos
  | cons z os =>
    rw [hos] at so
    obtain ⟨b3, o3, cs3, kd3, _, hix3, hb3, hk3, rfl, hcs3, _⟩ := so.at (i := 0) rfl
    have c3 : cs3[o3]? = _ := hcs3 0 _ rfl
    simp only [Int.natCast_zero] at hix3
    have hq := m1.os.1
    rw [hos] at hq
    obtain ⟨v', hv', hq', hin⟩ := hq.tail
    rw [hix3, ldW hb3 hk3 c3]
    simp only [wpS.1, wpS.2.1, wpS.2.2.1, wpS.2.2.2.2, Nat.zero_add]
    rw [st1W gl (.inl rfl) (by simp) rfl]
    have gM2 : (h1.set (n + 1) ⟨[i64 0, i64 0, bo true].set 1 (i64 z), .own⟩).get bM = some ⟨mcC bp (sl bF 0 M.fs.length cF) vH vO M, .own⟩ := by rw [H.get_set_ne _ _ (by omega)]; exact g1M
    have gl2 : (h1.set (n + 1) ⟨[i64 0, i64 0, bo true].set 1 (i64 z), .own⟩).get (n + 1) = some ⟨[i64 0, i64 z, bo true], .own⟩ := H.get_set_same _ _ _
    have e2 := e1.set (b := n + 1) ⟨[i64 0, i64 0, bo true].set 1 (i64 z), .own⟩ (by omega) (by omega)
    generalize h1.set (n + 1) ⟨[i64 0, i64 0, bo true].set 1 (i64 z), .own⟩ = h2 at gM2 gl2 e2
    have m2 := m0.ev mv0.f e2
    have g2 : h2.get n = some ⟨[i64 c.op, i64 c.dst, i64 c.a, i64 c.b, i64 c.n, wa], .own⟩ := by rw [e2.no (by omega), g0]
    simp only [wpS.1, wpS.2.1, wpS.2.2.1, wpS.2.2.2.2, wpM.1, gM2, ldv_own, Nat.zero_add, List.getElem?_cons_succ, List.getElem?_cons_zero, Option.some.injEq, exists_eq_left', hv']
    rw [st1W gM2 (.inl rfl) (by simp) hq'.one]
    have hol : os.length ≤ 1000 := by rw [hos] at os0; simp at os0; omega
    refine hj71 _ os z ((mv0.ev e2).set _ (by omega) (fun _ => by rw [m0.role]; simp)) ⟨bF, cF, cs, kd, vH, v', m2.cell e2.f ?_ (fun c hc => H.get_set_ne _ _ hc) m2.fs m2.hp ⟨?_, fun b hb => m1.os.2 b (hin b hb)⟩⟩ hol (by rw [H.get_set_ne _ _ (by omega), g2]) (by rw [H.get_set_ne _ _ (by omega), gl2])
    · rw [H.get_set_same]; rfl
    · exact hq'.keep (fun b hb => by
        have hb1 := hq.lt e1.f (hin b hb)
        have hr := m1.os.2 b (hin b hb)
        have hbn : b < n := by
          rcases Nat.lt_or_ge b n with h | h
          · exact h
          · rw [hf b h] at hr; cases hr
        rw [e2.no (by omega), e1.no (by omega)]) fun _ _ h => h

theorem sel_t {a b : Int} {t e : St} (hab : a = b) (w : Wp t n h Q) : Wp (kEql (i64 a) (i64 b) fun v => onB v t e) n h Q := by
  simp only [wpS.2.2.2.2]; exact ⟨fun _ => w, fun h => absurd (decide_eq_false_iff_not.1 h) (fun q => q hab)⟩
theorem sel_f {a b : Int} {t e : St} (hab : ¬ a = b) (w : Wp e n h Q) : Wp (kEql (i64 a) (i64 b) fun v => onB v t e) n h Q := by
  simp only [wpS.2.2.2.2]; exact ⟨fun h => absurd (of_decide_eq_true h) hab, fun _ => w⟩
theorem Wp.cl' {m : St} (w : Wp m n h fun v n' h' => Wp (K v) n' h' Q) : Wp (Fn.cl m K) n h Q := Wp.cl w fun _ _ _ h => h

theorem does_wp {n0 : Nat} {P : Pg} {ρ : Rl} {bp bM : Nat} {M : Mc} {low : List Frm} {x : Frm} {c : Ins} {wa vr vs vi vm vf : V} (ma : MA ρ h bp bM M) (p : Prg h n0 P bp vr vs vi vm vf) (rt : Rt P) (inv : Inv P M) (hM : M.fs = low ++ [x]) (hc : codeP P x.at_ = some c) (sa : SlR h n0 1 IntC wa c.args) (hn0 : ∀ b, b < n0 → ρ b = .no) (f : Fr n h) (hn : n0 ≤ n) (hF : 100000 < F) (hf : ∀ b, n ≤ b → ρ b = .no)
    (ke : ∀ e ρ' n' h' M', e ≠ 0 → Mv ρ n h ρ' n' h' → MA ρ' h' bp bM M' → Q (i64 e) n' h')
    (k0 : ∀ ρ' n' h' M', Mv ρ n h ρ' n' h' → MA ρ' h' bp bM M' → Inv P M' → DoesR M M' low x → Q (i64 0) n' h') : Wp (R14_Machine_does F (pt bM 0) (insV c wa)) n h Q := by
  have lm := rt.lm
  have nm := rt.nm
  obtain ⟨fn, bl, hfn, hbl, hi0, hil, hci⟩ := codeP_at hc
  have hfm := getI_mem hfn
  have hbm := getI_mem hbl
  have hcm := getI_mem hci
  have iok : InsOk P fn c := ((nm.funcs fn hfm).code bl hbm).1 c hcm
  have okx : PtOk P x.at_ := ⟨fn, bl, hfn, hbl, hi0, by omega⟩
  have fok : FitOk P fn c := (rt.tp.pts x.at_ okx.mem fn bl hfn hbl).1 c hci
  have hnx : PtOk P { x.at_ with i := x.at_.i + 1 } := ⟨fn, bl, hfn, hbl, by dsimp only; omega, by dsimp only; omega⟩
  have hbcl := ((lm.fun_ fn hfm).each bl hbm).code
  have h16 : fn.regs.length ≤ 16 := (lm.fun_ fn hfm).regs
  have ma0 := ma
  obtain ⟨bF, cF, cs, kd, vH, vO, m⟩ := ma
  unfold R14_Machine_does
  refine (Wp.boxNI f).2 ⟨by simp [oneS, sa.one], ?_⟩
  have e0 := (Ev.start f).new ⟨[i64 c.op, i64 c.dst, i64 c.a, i64 c.b, i64 c.n, wa], .own⟩
  have m0 := m.ev f e0
  have g0 : (h.set n ⟨[i64 c.op, i64 c.dst, i64 c.a, i64 c.b, i64 c.n, wa], .own⟩).get n = some ⟨[i64 c.op, i64 c.dst, i64 c.a, i64 c.b, i64 c.n, wa], .own⟩ := H.get_set_same _ _ _
  have hbF : bF < n := (m.lt f).2
  have hbM : bM < n := (m.lt f).1
  have mv0 := (Mv.refl f hf).ev e0
  have sa0 := sa.keep (Kp.ev e0 hn) fun _ _ h => h
  have p0 := p.keep (Kp.ev e0 hn)
  simp only [List.toList_toArray]
  generalize h.set n ⟨[i64 c.op, i64 c.dst, i64 c.a, i64 c.b, i64 c.n, wa], .own⟩ = h0 at e0 m0 g0 mv0 sa0 p0
  have hl : M.fs.length = low.length + 1 := by rw [hM]; simp
  have hfl := inv.flen
  have hs : low.length < 1000 := by omega
  refine (cl_top m0 hl hs).2 ?_
  obtain ⟨fn', hfn', _, n16, vtx⟩ := inv.frm x (by rw [hM]; simp)
  rw [hfn] at hfn'; cases hfn'
  simp only [wpS.1, wpS.2.1, wpS.2.2.1, wpS.2.2.2.2, wpM.1, m0.get, ldv_own, Nat.zero_add, List.getElem?_cons_succ, List.getElem?_cons_zero, Option.some.injEq, exists_eq_left', hl]
  refine Wp.jn (fun j => (∀ e ρ' n' h' M', e ≠ 0 → Mv ρ n h ρ' n' h' → MA ρ' h' bp bM M' → Wp (j (pt bM 0) (i64 ((low.length + 1 : Nat) : Int)) (i64 e)) n' h' Q) ∧ (∀ ρ' n' h' M' y rest, Mv ρ n h ρ' n' h' → MA ρ' h' bp bM M' → Inv P M' → M'.fs = low ++ y :: rest → y.at_ = x.at_ → DoesR M { M' with fs := low ++ { y with at_ := { x.at_ with i := x.at_.i + 1 } } :: rest } low x → Wp (j (pt bM 0) (i64 ((low.length + 1 : Nat) : Int)) (i64 0)) n' h' Q)) ?_ fun j6 hj6 => ?_
  case refine_1 =>
    refine ⟨fun e ρ' n' h' M' he mv ma => ?_, fun ρ' n' h' M' y rest mv ma inv' hfs hyat hd => ?_⟩
    · simp [wpS, he]
      exact ke e ρ' n' h' M' he mv ma
    · obtain ⟨bF', cF', cs', kd', vH', vO', m'⟩ := ma
      have hl' : low.length < M'.fs.length := by rw [hfs]; simp
      have topy := m'.fs.each low.length y (by rw [hfs]; simp)
      have hyi := topy.i
      have hlen := topy.len
      rw [hyat] at hyi
      simp only [wpS, wpM.1, m'.get, ldv_own, Nat.zero_add, List.getElem?_cons_succ, List.getElem?_cons_zero, Option.some.injEq, exists_eq_left']
      refine ⟨fun _ => ?_, fun h => absurd h (by decide)⟩
      rw [wrap64 (by omega), show ((low.length + 1 : Nat) : Int) - 1 = (low.length : Int) by omega, ixI hl', Nat.zero_add]
      simp only [wpS, wpM.1, m'.fs.get, ldv_live m'.live, hyi, Nat.add_zero, Option.some.injEq, exists_eq_left']
      rw [ixI hl', Nat.zero_add]
      simp only [wpS, Nat.add_zero]
      rw [wrap64 (by omega), st1W m'.fs.get m'.fs.wr (by omega) rfl]
      refine Wp.retI.2 ?_
      have topy' := topy.setI (z := x.at_.i + 1)
      rw [hyat] at topy'
      have hup := m'.fs.upd (h' := h'.set bF' ⟨cs'.set (low.length * 68 + 2) (i64 (x.at_.i + 1)), kd'⟩) (H.get_set_same _ _ _) (by rw [List.length_set]) (set_all m'.fs.one rfl) hl' (fun j hj => by rw [List.getElem?_set_ne (by omega)]) topy'
      have hset : M'.fs.set low.length { y with at_ := { x.at_ with i := x.at_.i + 1 } } = low ++ { y with at_ := { x.at_ with i := x.at_.i + 1 } } :: rest := by rw [hfs]; simp
      rw [hset] at hup
      refine k0 ρ' n' _ { M' with fs := low ++ { y with at_ := { x.at_ with i := x.at_.i + 1 } } :: rest } (mv.set _ (m'.lt mv.f).2 (fun hb => ?_)) ⟨bF', cF', _, kd', vH', vO', m'.frames mv.f (fun c _ hc => H.get_set_ne _ _ hc) (by rw [hfs]; simp) hup⟩ (inv'.move hfs hnx (by rw [hyat])) hd
      rw [← mv.role bF' hb, m'.fs.role]; simp
  obtain ⟨hje, hj0⟩ := hj6
  clear ke k0
  have mvE : ∀ {n' h'}, Ev No n h n' h' → Mv ρ n h ρ n' h' := fun e => (Mv.refl f hf).ev e
  -- a register is set, and on
  have setK : ∀ {n' h'} {v : Val} {r : Nat} {t : Ty} {os : List Int}, Mv ρ n h ρ n' h' → MA ρ h' bp bM { M with os := os } → r < 16 → fn.regs[r]? = some t → VT P M.hp t v → os.length ≤ 1000 → Wp (cl (R14_Machine_set F (pt bM 0) (i64 (r : Int)) (valV v)) fun _ => j6 (pt bM 0) (i64 ((low.length + 1 : Nat) : Int)) (i64 0)) n' h' Q := fun {n' h' v r t os} mv ma hr ht hv hos =>
    cl_set ma hM hs mv.f mv.fresh hr fun h2 mv2 ma2 => hj0 ρ _ _ _ { x with rs := x.rs.set r v } [] (mv.trans mv2) ma2 (inv.reg hM hfn ht hv hos) rfl rfl ⟨rfl, .inl ⟨rfl, _, rfl⟩⟩
  have os0 := inv.olen
  have ma00 : MA ρ h0 bp bM { M with os := M.os } := ⟨bF, cF, cs, kd, vH, vO, m0⟩
  have top0 := m0.fs.each low.length x (by rw [hM]; simp)
  -- a register is read
  have rd : ∀ {r : Int}, r ∈ usesP c → ∃ (k : Nat) (t : Ty) (v : Val), r = (k : Int) ∧ k < 16 ∧ fn.regs[k]? = some t ∧ x.rs[k]? = some v ∧ VT P M.hp t v := fun {r} hr => by
    obtain ⟨k, t, h1, h2, h3⟩ := use_reg iok hr h16
    have hv : x.rs[k]? = some (x.rs[k]'(by omega)) := List.getElem?_eq_getElem _
    exact ⟨k, t, _, h1, h2, h3, hv, vtx k t _ h3 hv⟩
  have hmv0 : ∀ {n' h'}, Ev No n h n' h' → True := fun _ => trivial
  refine (Wp.eq st_field).2 ((ldW (v := i64 c.op) g0 (by decide) rfl).2 ?_)
  by_cases h1 : c.op = 1
  · obtain ⟨kdst, td, hkd, hkd16, htd⟩ := def_reg iok (by omega) (by omega) (by omega) h16
    refine sel_t h1 ?_
    simp [wpS, wpM.1, g0, ldv_own]
    refine Wp.buildI.2 ⟨[i64 0, i64 c.n, bo false], by simp [fillA, oneS], ?_⟩
    rw [hkd]
    exact setK (v := ⟨0, c.n, false⟩) mv0 ma00 hkd16 htd (VT.low (.inl rfl)) os0
  refine sel_f h1 ?_
  by_cases h2 : c.op = 2
  · obtain ⟨kdst, td, hkd, hkd16, htd⟩ := def_reg iok (by omega) (by omega) (by omega) h16
    obtain ⟨ra, ta, va, hra, hra16, hta, hva, _⟩ := rd (r := c.a) (by simp [usesP, h2])
    obtain ⟨rb, tb, vb, hrb, hrb16, htb, hvb, _⟩ := rd (r := c.b) (by simp [usesP, h2])
    exact sel_t h2 (does2 m0 mv0 hbM hbF hf g0 hM os0 hkd hkd16 htd setK hra hra16 hva hrb hrb16 hvb)
  refine sel_f h2 ?_
  by_cases h3 : c.op = 3
  · obtain ⟨kdst, td, hkd, hkd16, htd⟩ := def_reg iok (by omega) (by omega) (by omega) h16
    exact sel_t h3 (does3 m0 mv0 hbM hbF hf g0 hM os0 hkd hkd16 htd setK)
  refine sel_f h3 ?_
  by_cases h4 : c.op = 4
  · obtain ⟨kdst, td, hkd, hkd16, htd⟩ := def_reg iok (by omega) (by omega) (by omega) h16
    refine sel_t h4 ?_
    simp [wpS, wpM.1, g0, ldv_own]
    refine Wp.buildI.2 ⟨[i64 1, i64 0, bo false], by simp [fillA, oneS], ?_⟩
    rw [hkd]
    exact setK (v := ⟨1, 0, false⟩) mv0 ma00 hkd16 htd (VT.low (.inr rfl)) os0
  refine sel_f h4 ?_
  refine Wp.jn (fun j => ∀ cnd : Bool, (cnd = true ↔ c.op = 6 ∨ c.op = 11) → Wp (j (pt bM 0) (pt n 0) (pt bF (low.length * 68)) (i64 ((low.length + 1 : Nat) : Int)) (i64 0) (i64 c.op) (bo cnd)) (n + 1) h0 Q) ?_ fun j105 hj105 => ?_
  case refine_2 =>
    by_cases h6 : c.op = 6
    · simp [wpS, h6]
      have := hj105 true (by simp [h6])
      rw [h6] at this; exact this
    · simp [wpS, h6]
      by_cases h11 : c.op = 11
      · simp [h11]
        have := hj105 true (by simp [h11])
        rw [h11] at this; exact this
      · simp [h11]
        exact hj105 false (by simp [h6, h11])
  intro cnd hcnd
  refine Wp.bool.2 ⟨fun hct => ?_, fun hcf => ?_⟩
  · -- copies
    have hop := hcnd.1 hct
    obtain ⟨kdst, td, hkd, hkd16, htd⟩ := def_reg iok (by omega) (by omega) (by omega) h16
    obtain ⟨ra, ta, va, hra, hra16, hta, hva, hvt⟩ := rd (r := c.a) (by rcases hop with h | h <;> simp [usesP, h])
    obtain ⟨a0, a1, a2⟩ := top0.ld hva
    simp [wpS, wpM.1, g0, ldv_own]
    rw [hra, ixA hra16, ld3W m0.fs.get m0.live a0 a1 a2, hkd]
    refine setK (v := va) mv0 ma00 hkd16 htd ?_ os0
    rcases hop with h6 | h11
    · have := fok.f6 h6
      rw [hkd, hra, getI_nat, getI_nat, htd, hta] at this
      cases this; exact hvt
    · obtain ⟨t, u, r1, r2, r3, r4⟩ := fok.f11 h11
      rw [hkd, getI_nat, htd] at r1; cases r1
      rw [hra, getI_nat, hta] at r3; cases r3
      refine ⟨fun hk => ?_, fun hk => ?_⟩
      · obtain ⟨j, o, q1, q2, _⟩ := hvt.1 hk
        exact ⟨j, o, q1, q2, .inl r2⟩
      · obtain ⟨g, _, q2⟩ := hvt.2 hk
        rw [q2] at r4; simp at r4
  have hn6 : ¬ (c.op = 6 ∨ c.op = 11) := fun h => by have := hcnd.2 h; rw [hcf] at this; cases this
  by_cases h10 : c.op = 10
  · obtain ⟨kdst, td, hkd, hkd16, htd⟩ := def_reg iok (by omega) (by omega) (by omega) h16
    refine sel_t h10 ?_
    simp [wpS, wpM.1, g0, ldv_own]
    refine Wp.buildI.2 ⟨[i64 3, i64 c.n, bo false], by simp [fillA, oneS], ?_⟩
    rw [hkd]
    obtain ⟨g, r1, r2⟩ := fok.f10 h10
    rw [hkd, getI_nat, htd] at r2; cases r2
    exact setK (v := ⟨3, c.n, false⟩) mv0 ma00 hkd16 htd ⟨fun h => absurd h (by show ¬ ((3 : Int) = 2); decide), fun _ => ⟨g, r1, rfl⟩⟩ os0
  refine sel_f h10 ?_
  by_cases h15 : c.op = 15
  · obtain ⟨ra, ta, va, hra, hra16, hta, hva, hvt⟩ := rd (r := c.a) (by simp [usesP, h15])
    obtain ⟨a0, a1, a2⟩ := top0.ld hva
    refine sel_t h15 ?_
    simp [wpS, wpM.1, g0, ldv_own]
    rw [hra, ixA hra16]
    simp only [wpS.2.2.2.2]
    rw [ldW m0.fs.get m0.live a2]
    simp only [wpS.2.2.2.2, Nat.zero_add]
    rw [st1W m0.get (.inl rfl) (by simp) rfl]
    have mm : MM ρ (h0.set bM ⟨(mcC bp (sl bF 0 M.fs.length cF) vH vO M).set 6 (bo va.t), .own⟩) bp bM { M with sunk := va.t } bF cF cs kd vH vO := m0.cell mv0.f (by rw [H.get_set_same]; rfl) (fun c hc => H.get_set_ne _ _ hc) m0.fs m0.hp m0.os
    exact hj0 ρ _ _ { M with sunk := va.t } x [] (mv0.set _ (by omega) (fun _ => by rw [m.role]; simp)) ⟨bF, cF, cs, kd, vH, vO, mm⟩ ⟨inv.some_, inv.flen, inv.hlen, inv.olen, inv.frm, inv.link, inv.hp⟩ hM rfl ⟨rfl, .inl ⟨rfl, x.rs, rfl⟩⟩
  refine sel_f h15 ?_
  have hMA : MA ρ h0 bp bM M := ma00
  refine Wp.jn (fun j => ∀ cnd : Bool, (cnd = true ↔ c.op = 5 ∨ c.op = 7 ∨ c.op = 8 ∨ c.op = 9) → Wp (j (pt bM 0) (pt n 0) (i64 ((low.length + 1 : Nat) : Int)) (bo cnd)) (n + 1) h0 Q) ?_ fun j140 hj140 => ?_
  case refine_2 =>
    simp only [wpS.1, wpS.2.1, wpS.2.2.1, wpS.2.2.2.2]
    refine ⟨fun h5 => hj140 _ (by have := of_decide_eq_true h5; simp [this]), fun h5 => ⟨fun h7 => hj140 _ (by have := of_decide_eq_true h7; simp [this]), fun h7 => ⟨fun h8 => hj140 _ (by have := of_decide_eq_true h8; simp [this]), fun h8 => hj140 _ ?_⟩⟩⟩
    have h5 := of_decide_eq_false h5
    have h7 := of_decide_eq_false h7
    have h8 := of_decide_eq_false h8
    simp [h5, h7, h8]
  intro cnd hcnd2
  have ld6 : ∀ {K : V → St}, Wp (K (insV c wa)) (n + 1) h0 Q → Wp (kLoadN 6 (pt n 0) K) (n + 1) h0 Q := fun {K} w => by
    refine Wp.loadNI.2 ?_
    rw [g0]
    exact ⟨by simp, w⟩
  refine Wp.bool.2 ⟨fun hct => ?_, fun hcf2 => ?_⟩
  · have hop := hcnd2.1 hct
    refine ld6 (Wp.cl' ?_)
    by_cases h5 : c.op = 5
    · obtain ⟨kdst, td, hkd, hkd16, htd⟩ := def_reg iok (by omega) (by omega) (by omega) h16
      obtain ⟨t, r1, r2⟩ := fok.f5 h5
      rw [hkd, getI_nat, htd] at r1; cases r1
      have hnt := (nm.funcs fn hfm).regs td (List.mem_of_getElem? htd)
      obtain ⟨kr, rc, hkr, hrc1, hrc2, _⟩ := getI_of (named1 hnt r2)
      refine alloc_wp hMA p0 lm inv hM hfn h5 hkd hkd16 htd hrc1 sa.one mv0.f (by omega) hF mv0.fresh (fun e n' h' he mv ma => hje e ρ n' h' M he (mv0.trans mv) ma) fun ρ' n' h' h4 mv ma => ?_
      obtain ⟨a, hpa, hna⟩ := okx.num
      have hobj : ObOk P M.hp ⟨numP P x.at_, td.2, rc.map zeroV, false⟩ := by
        refine ⟨⟨a, x.at_, c, fn, hna, hpa, hc, h5, hfn, by rw [hkd, getI_nat, htd, ← r2]⟩, rc, hrc1, by simp, fun i t v _ hv => VT.low ?_⟩
        rw [List.getElem?_map] at hv
        obtain ⟨t', _, rfl⟩ := Option.map_eq_some_iff.1 hv
        unfold zeroV; dsimp only; split <;> simp
      have inv1 := inv.alloc h4 hobj
      have vtn : VT P (M.hp ++ [⟨numP P x.at_, td.2, rc.map zeroV, false⟩]) td ⟨2, (M.hp.length : Int) + 1, false⟩ := ⟨fun _ => ⟨M.hp.length, ⟨numP P x.at_, td.2, rc.map zeroV, false⟩, rfl, by rw [List.getElem?_append_right (Nat.le_refl _)]; simp, .inr (by rw [← r2])⟩, fun h => absurd h (by show ¬ ((2 : Int) = 3); decide)⟩
      exact hj0 ρ' _ _ _ { x with rs := x.rs.set kdst ⟨2, (M.hp.length : Int) + 1, false⟩ } [] (mv0.trans mv) ma (Inv.reg (M := { M with hp := M.hp ++ [⟨numP P x.at_, td.2, rc.map zeroV, false⟩] }) inv1 hM hfn htd vtn os0) rfl rfl ⟨rfl, .inl ⟨rfl, _, rfl⟩⟩
    · refine memory_wp hMA p0 lm inv hM hfn iok fok (by omega) sa.one mv0.f mv0.fresh (fun e n' h' he mv ma => hje e ρ n' h' M he (mv0.trans mv) ma) (fun h7 n' h' j o i r w v t q1 q2 q3 q4 q5 q6 q7 q8 mv ma => ?_) (fun h8 n' h' j o i r rb w v t q1 q2 q3 q4 q5 q6 q7 q8 q9 q10 mv ma => ?_) (fun h9 n' h' j o q6 mv ma => ?_)
      · obtain ⟨kdst, td, hkd, hkd16, htd⟩ := def_reg iok (by omega) (by omega) (by omega) h16
        obtain ⟨t', rc', u, e1, e2, e3, e4, e5⟩ := fok.f7 h7
        rw [q2, getI_nat, q3] at e1; cases e1
        rw [hkd, getI_nat, htd] at e5; cases e5
        obtain ⟨_, rc, hrc, hol, hvt⟩ := inv.hp o (List.mem_of_getElem? q6)
        obtain ⟨j', o', w1, w2, w3⟩ := (vtx r t w q3 q1).1 q4
        have hjj : j' = j := by omega
        subst hjj
        rw [q6] at w2; cases w2
        have hreq : rc' = rc := by
          rcases w3 with h | h
          · omega
          · rw [h] at e3; rw [hrc] at e3; cases e3; rfl
        subst hreq
        rw [q7, getI_nat] at e4
        rw [hkd] at ma
        exact hj0 ρ _ _ _ { x with rs := x.rs.set kdst v } [] (mv0.trans mv) ma (inv.reg hM hfn htd (hvt i td v e4 q8) os0) rfl rfl ⟨rfl, .inl ⟨rfl, _, rfl⟩⟩
      · obtain ⟨t', rc', u, e1, e2, e3, e4, e5⟩ := fok.f8 h8
        rw [q2, getI_nat, q3] at e1; cases e1
        obtain ⟨hsite, rc, hrc, hol, hvt⟩ := inv.hp o (List.mem_of_getElem? q6)
        obtain ⟨j', o', w1, w2, w3⟩ := (vtx r t w q3 q1).1 q4
        have hjj : j' = j := by omega
        subst hjj
        rw [q6] at w2; cases w2
        have hreq : rc' = rc := by
          rcases w3 with h | h
          · omega
          · rw [h] at e3; rw [hrc] at e3; cases e3; rfl
        subst hreq
        rw [q7, getI_nat] at e4
        rw [q9, getI_nat] at e5
        have inv1 : Inv P { M with hp := M.hp.set j' { o with fs := o.fs.set i v } } := inv.heap q6 rfl ⟨hsite, rc', hrc, by simp [hol], fun i' t' v' ht' hv' => by
          by_cases e : i' = i
          · subst e
            rw [List.getElem?_set_self q8] at hv'; cases hv'
            rw [e4] at ht'; cases ht'
            exact vtx rb u v e5 q10
          · rw [List.getElem?_set_ne (fun q => e q.symm)] at hv'
            exact hvt i' t' v' ht' hv'⟩
        exact hj0 ρ _ _ _ x [] (mv0.trans mv) ma inv1 hM rfl ⟨rfl, .inl ⟨rfl, x.rs, rfl⟩⟩
      · obtain ⟨hsite, rc, hrc, hol, hvt⟩ := inv.hp o (List.mem_of_getElem? q6)
        exact hj0 ρ _ _ _ x [] (mv0.trans mv) ma (inv.heap q6 rfl ⟨hsite, rc, hrc, hol, hvt⟩) hM rfl ⟨rfl, .inl ⟨rfl, x.rs, rfl⟩⟩
  · have hno : ¬ (c.op = 5 ∨ c.op = 7 ∨ c.op = 8 ∨ c.op = 9) := fun h => by have := hcnd2.2 h; rw [hcf2] at this; cases this
    have hop : c.op = 12 ∨ c.op = 13 ∨ c.op = 14 := by have := iok.1; omega
    refine ld6 (Wp.cl' ?_)
    refine calls_wp hMA p0 lm rt.mt inv hM hfn iok fok hop sa0 (lm.args hc) hn0 mv0.f (by omega) hF mv0.fresh (fun e n' h' he mv ma => hje e ρ n' h' M he (mv0.trans mv) ma) fun ρ' n' h' g vals tg h60 mv ma => ?_
    have inv1 := inv.call nm lm rt.tp hM hfn h60 tg
    obtain ⟨gf, s, hg, _⟩ := tg
    have hg0 : 0 ≤ g := by obtain ⟨k, hk, _⟩ := getI_some hg; omega
    refine hj0 ρ' _ _ _ x [⟨⟨g, 0, 0⟩, regsOf vals, c.dst⟩] (mv0.trans mv) ma inv1 (by rw [hM]; simp) rfl ⟨rfl, .inr ⟨hg0, regsOf vals, c.dst, rfl⟩⟩
end Go.Fn
end
section
set_option linter.unusedVariables false
namespace Go.Fn
open Go Go.Fw

variable {F n : Nat} {h : H} {Q : Post} {K : V → St}

/-- What a step comes to. -/
def StepR (P : Pg) (M M' : Mc) (low : List Frm) (x : Frm) : Prop :=
  M'.ended = 0 ∧ ((M'.called = -1 ∧ ∃ y, M'.fs = low ++ [y] ∧ y.at_ ∈ nextP P x.at_) ∨
    (0 ≤ M'.called ∧ ∃ x' y, M'.fs = low ++ [x', y] ∧ x'.at_ ∈ nextP P x.at_ ∧ y.at_ = ⟨M'.called, 0, 0⟩) ∨
    (M'.called = -1 ∧ ∃ l y y', low = l ++ [y] ∧ M'.fs = l ++ [y'] ∧ y'.at_ = y.at_))

theorem mem_next_in {P : Pg} {q : Pt} {c : Ins} (hc : codeP P q = some c) : ({ q with i := q.i + 1 } : Pt) ∈ nextP P q := by
  obtain ⟨fn, bl, h1, h2, h3, h4, h5⟩ := codeP_at hc
  unfold nextP
  rw [h1]
  dsimp only
  rw [h2]
  dsimp only
  rw [if_neg (by omega), if_pos h4]
  simp
theorem mem_next_out {P : Pg} {q : Pt} {fn : Fun} {bl : Blo} {t : Int} (h1 : getI P.funcs q.f = some fn) (h2 : getI fn.blocks q.b = some bl) (h3 : q.i = bl.code.length) (ht : t ∈ outsP bl) (hr : 0 ≤ t ∧ t < (fn.blocks.length : Int)) : (⟨q.f, t, 0⟩ : Pt) ∈ nextP P q := by
  unfold nextP
  rw [h1]
  dsimp only
  rw [h2]
  dsimp only
  rw [if_neg (by omega), if_neg (by omega)]
  exact List.mem_map.2 ⟨t, List.mem_filter.2 ⟨ht, by simpa using hr⟩, rfl⟩
theorem outs_in {fn : Fun} {bl : Blo} {t : Int} (ok : EndOk fn bl) (ht : t ∈ outsP bl) : 0 ≤ t ∧ t < (fn.blocks.length : Int) := by
  unfold outsP at ht
  rcases ok with h | h | h
  · rw [if_pos h.1] at ht; simp at ht; subst ht; exact h.2
  · rw [if_neg (by omega), if_pos h.1] at ht
    split at ht
    · simp at ht; rcases ht with rfl | rfl
      · exact h.2.2.1
      · exact h.2.2.2
    · simp at ht; subst ht; exact h.2.2.1
  · rw [if_neg (by omega), if_neg (by omega)] at ht; cases ht
theorem Inv.flags {P : Pg} {M : Mc} {e c : Int} {s : Bool} {r : Val} (inv : Inv P M) : Inv P { M with ended := e, called := c, sunk := s, res := r } := ⟨inv.some_, inv.flen, inv.hlen, inv.olen, inv.frm, inv.link, inv.hp⟩

theorem Inv.ends {P : Pg} {M M' : Mc} {low : List Frm} {x : Frm} {fn : Fun} {bl : Blo} (inv : Inv P M) (rt : Rt P) (hM : M.fs = low ++ [x]) (hfn : getI P.funcs x.at_.f = some fn) (hbl : getI fn.blocks x.at_.b = some bl) (hi : x.at_.i = bl.code.length) (ok : EndOk fn bl) (r : EndsR M M' low x bl) : Inv P M' ∧ (M'.called = M.called ∧ M'.ended = M.ended) ∧ ((∃ y, M'.fs = low ++ [y] ∧ y.at_ ∈ nextP P x.at_) ∨ ∃ l y y', low = l ++ [y] ∧ M'.fs = l ++ [y'] ∧ y'.at_ = y.at_) := by
  obtain ⟨⟨h1, h2, h3, h4⟩, r⟩ := r
  have l := inv.link
  rw [hM] at l
  rcases r with ⟨t, hfs, ht⟩ | ⟨lo, y, v, hlow, hfs, hfin, hv⟩
  · have hr := outs_in ok ht
    have hin := mem_next_out hfn hbl hi ht hr
    have hok := (nextP_ok hin).2.1
    have im := inv.move (low := low) (rest := []) (y := x) (q := ⟨x.at_.f, t, 0⟩) hM hok rfl
    refine ⟨⟨by rw [hfs]; simp, ?_, by rw [h1]; exact inv.hlen, by rw [h2]; exact inv.olen, fun z hz => ?_, ?_, by rw [h1]; exact inv.hp⟩, ⟨h4, h3⟩, .inl ⟨_, hfs, hin⟩⟩
    · rw [hfs]; exact im.flen
    · rw [hfs] at hz; rw [h1]; exact im.frm z hz
    · rw [hfs]; exact im.link
  · subst hlow
    have hlk := Lk.last (P := P) l (y := y) (by simp)
    obtain ⟨fx, fy, s, q1, q2, q3, q4⟩ := hlk
    rw [hfn] at q2; cases q2
    obtain ⟨kd, hkd, q5⟩ := getI_some q4
    have okx : PtOk P x.at_ := ⟨fn, bl, hfn, hbl, by omega, by omega⟩
    obtain ⟨s', w1, w2⟩ := (rt.tp.pts x.at_ okx.mem fn bl hfn hbl).2 hi hfin
    rw [q3] at w1; cases w1
    obtain ⟨kr, hkr, w3⟩ := getI_some w2
    rw [hkr, getI_nat] at hv
    obtain ⟨fn', r1, r2, r3, r4⟩ := inv.frm x (by rw [hM]; simp)
    rw [hfn] at r1; cases r1
    have hvt : VT P M.hp s.res v := r4 kr _ v w3 hv
    have hy := (inv.frm y (by rw [hM]; simp)).set q1 q5 hvt
    have hd : x.dst.toNat = kd := by omega
    refine ⟨⟨by rw [hfs]; simp, ?_, by rw [h1]; exact inv.hlen, by rw [h2]; exact inv.olen, fun z hz => ?_, ?_, by rw [h1]; exact inv.hp⟩, ⟨h4, h3⟩, .inr ⟨lo, y, _, rfl, hfs, rfl⟩⟩
    · have := inv.flen
      rw [hM] at this
      rw [hfs]; simp at this ⊢; omega
    · rw [hfs] at hz
      rw [h1]
      rcases List.mem_append.1 hz with hz | hz
      · exact inv.frm z (by rw [hM]; simp [hz])
      · simp at hz; subst hz; rw [hd]; exact hy
    · rw [hfs]
      have l2 : Lk P (lo ++ [y]) := Lk.init l
      exact Lk.top (P := P) (x' := { y with rs := y.rs.set x.dst.toNat v }) l2 rfl rfl

theorem step_wp {n0 : Nat} {P : Pg} {ρ : Rl} {bp bM : Nat} {M : Mc} {low : List Frm} {x : Frm} {vr vs vi vm vf : V} (ma : MA ρ h bp bM M) (p : Prg h n0 P bp vr vs vi vm vf) (rt : Rt P) (inv : Inv P M) (hM : M.fs = low ++ [x]) (hend : M.ended = 0) (hn0 : ∀ b, b < n0 → ρ b = .no) (f : Fr n h) (hn : n0 ≤ n) (hF : 100000 < F) (hf : ∀ b, n ≤ b → ρ b = .no)
    (ke : ∀ e ρ' n' h' M', e ≠ 0 → Mv ρ n h ρ' n' h' → MA ρ' h' bp bM M' → Q (i64 e) n' h')
    (k0 : ∀ ρ' n' h' M', Mv ρ n h ρ' n' h' → MA ρ' h' bp bM M' → Inv P M' → StepR P M M' low x → Q (i64 0) n' h') : Wp (R14_Machine_Step F (pt bM 0)) n h Q := by
  obtain ⟨bF, cF, cs, kd, vH, vO, m⟩ := ma
  have hbM : bM < n := (m.lt f).1
  obtain ⟨fn, hfn, okx, n16, vtx⟩ := inv.frm x (by rw [hM]; simp)
  have hfm := getI_mem hfn
  unfold R14_Machine_Step
  simp only [wpS.1, wpS.2.1, wpS.2.2.1, wpS.2.2.2.2, Nat.zero_add]
  rw [st1W m.get (.inl rfl) (by simp) rfl]
  simp only [wpS.1, wpS.2.1, wpS.2.2.1, wpS.2.2.2.2, Nat.zero_add]
  rw [st1W (H.get_set_same _ _ _) (.inl rfl) (by simp) rfl]
  -- the marks are taken away
  have m1 : MM ρ ((h.set bM ⟨(mcC bp (sl bF 0 M.fs.length cF) vH vO M).set 5 (i64 (-1)), .own⟩).set bM ⟨((mcC bp (sl bF 0 M.fs.length cF) vH vO M).set 5 (i64 (-1))).set 6 (bo false), .own⟩) bp bM { M with called := -1, sunk := false } bF cF cs kd vH vO :=
    m.cell f (by rw [H.get_set_same]; rfl) (fun c hc => by rw [H.get_set_ne _ _ hc, H.get_set_ne _ _ hc]) m.fs m.hp m.os
  have mv1 : Mv ρ n h ρ n ((h.set bM ⟨(mcC bp (sl bF 0 M.fs.length cF) vH vO M).set 5 (i64 (-1)), .own⟩).set bM ⟨((mcC bp (sl bF 0 M.fs.length cF) vH vO M).set 5 (i64 (-1))).set 6 (bo false), .own⟩) := ((Mv.refl f hf).set _ hbM (fun _ => by rw [m.role]; simp)).set _ hbM (fun _ => by rw [m.role]; simp)
  generalize (h.set bM ⟨(mcC bp (sl bF 0 M.fs.length cF) vH vO M).set 5 (i64 (-1)), .own⟩).set bM ⟨((mcC bp (sl bF 0 M.fs.length cF) vH vO M).set 5 (i64 (-1))).set 6 (bo false), .own⟩ = h1 at m1 mv1
  have g1 := m1.get
  have inv1 : Inv P { M with called := -1, sunk := false } := inv.flags (e := M.ended) (r := M.res)
  have hl : M.fs.length = low.length + 1 := by rw [hM]; simp
  have hfl := inv.flen
  have hs : low.length < 1000 := by omega
  have top := m1.fs.each low.length x (by show M.fs[low.length]? = _; rw [hM]; simp)
  simp only [wpS.1, wpS.2.1, wpS.2.2.1, wpS.2.2.2.2, wpM.1, g1, ldv_own, Nat.zero_add, List.getElem?_cons_succ, List.getElem?_cons_zero, Option.some.injEq, exists_eq_left', decide_eq_true_eq, decide_eq_false_iff_not]
  refine ⟨fun h => absurd hend h, fun _ => ?_⟩
  refine (cl_top (M := { M with called := -1, sunk := false }) m1 hl hs).2 ?_
  simp only [wpS.2.2.2.2, Nat.add_zero]
  rw [ld3W m1.fs.get m1.live top.f top.b top.i]
  refine Wp.put (cs := [i64 x.at_.f, i64 x.at_.b, i64 x.at_.i]) mv1.f (by simp [oneS]) (by simp [oneS]) rfl rfl ?_
  have e2 := ((Ev.start mv1.f).new ⟨[i64 0, i64 0, i64 0], .own⟩).set (b := n) ⟨[i64 x.at_.f, i64 x.at_.b, i64 x.at_.i], .own⟩ (by omega) (by omega)
  have gq2 : ((h1.set n ⟨[i64 0, i64 0, i64 0], .own⟩).set n ⟨[i64 x.at_.f, i64 x.at_.b, i64 x.at_.i], .own⟩).get n = some ⟨[i64 x.at_.f, i64 x.at_.b, i64 x.at_.i], .own⟩ := H.get_set_same _ _ _
  generalize (h1.set n ⟨[i64 0, i64 0, i64 0], .own⟩).set n ⟨[i64 x.at_.f, i64 x.at_.b, i64 x.at_.i], .own⟩ = h2 at e2 gq2
  have m2 := m1.ev mv1.f e2
  have g2 := m2.get
  have mv2 := mv1.ev e2
  have p2 := p.keep (mv2.kp hn hn0)
  simp only [wpS.1, wpS.2.1, wpS.2.2.1, wpS.2.2.2.2, wpM.1, g2, ldv_own, Nat.zero_add, List.getElem?_cons_succ, List.getElem?_cons_zero, Option.some.injEq, exists_eq_left']
  rw [ld3W gq2 (by decide) (by rfl) (by rfl) (by rfl)]
  refine cl_code p2 (q := x.at_) mv2.f (by omega) fun n3 h3 vcode e3 hcode => ?_
  have le3 := e3.le
  have m3 := m2.ev mv2.f e3
  have mv3 := mv2.ev e3
  have p3 := p.keep (mv3.kp hn hn0)
  have gq3 : h3.get n = some ⟨[i64 x.at_.f, i64 x.at_.b, i64 x.at_.i], .own⟩ := by rw [e3.no (by omega), gq2]
  obtain ⟨c0, wc, okc, rfl, hwc, hok1, hok2⟩ : ∃ (c0 : Ins) (wc : V) (okc : Bool), vcode = .tuple #[insV c0 wc, bo okc] ∧ one wc = true ∧ (okc = true → codeP P x.at_ = some c0 ∧ SlR h3 n0 1 IntC wc c0.args) ∧ (okc = false → codeP P x.at_ = none) := by
    rcases hcode with ⟨h1, rfl⟩ | ⟨c0, wc, h1, sa, _, rfl⟩
    · exact ⟨⟨0, 0, 0, 0, 0, []⟩, nsl, false, rfl, rfl, by simp, fun _ => h1⟩
    · exact ⟨c0, wc, true, rfl, sa.one, fun _ => ⟨h1, sa⟩, by simp⟩
  simp only [Wp.extractI, List.getElem?_cons_zero, List.getElem?_cons_succ, Option.some.injEq, exists_eq_left']
  refine ⟨by simp [isNF], by simp [isNF], Wp.put (cs := [i64 c0.op, i64 c0.dst, i64 c0.a, i64 c0.b, i64 c0.n, wc]) e3.f (by simp [oneS]) (by simp [oneS, hwc]) rfl rfl ?_⟩
  have e4 := ((Ev.start e3.f).new ⟨[i64 0, i64 0, i64 0, i64 0, i64 0, nsl], .own⟩).set (b := n3) ⟨[i64 c0.op, i64 c0.dst, i64 c0.a, i64 c0.b, i64 c0.n, wc], .own⟩ (by omega) (by omega)
  have g4c : ((h3.set n3 ⟨[i64 0, i64 0, i64 0, i64 0, i64 0, nsl], .own⟩).set n3 ⟨[i64 c0.op, i64 c0.dst, i64 c0.a, i64 c0.b, i64 c0.n, wc], .own⟩).get n3 = some ⟨[i64 c0.op, i64 c0.dst, i64 c0.a, i64 c0.b, i64 c0.n, wc], .own⟩ := H.get_set_same _ _ _
  generalize (h3.set n3 ⟨[i64 0, i64 0, i64 0, i64 0, i64 0, nsl], .own⟩).set n3 ⟨[i64 c0.op, i64 c0.dst, i64 c0.a, i64 c0.b, i64 c0.n, wc], .own⟩ = h4 at e4 g4c
  have m4 := m3.ev e3.f e4
  have mv4 := mv3.ev e4
  have p4 := p.keep (mv4.kp hn hn0)
  have gq4 : h4.get n = some ⟨[i64 x.at_.f, i64 x.at_.b, i64 x.at_.i], .own⟩ := by rw [e4.no (by omega), gq3]
  refine Wp.jn (fun j => (∀ e ρ' n' h' M', e ≠ 0 → Mv ρ n h ρ' n' h' → MA ρ' h' bp bM M' → Wp (j (pt bM 0) (i64 e)) n' h' Q) ∧ (∀ ρ' n' h' M', Mv ρ n h ρ' n' h' → MA ρ' h' bp bM M' → Inv P M' → StepR P M { M' with ended := 0 } low x → Wp (j (pt bM 0) (i64 0)) n' h' Q)) ?_ fun j28 hj28 => ?_
  case refine_1 =>
    have st : ∀ {e ρ' n' h' M'}, Mv ρ n h ρ' n' h' → MA ρ' h' bp bM M' → ∀ {K : St}, (∀ h'', Mv ρ n h ρ' n' h'' → MA ρ' h'' bp bM { M' with ended := e } → Wp K n' h'' Q) → Wp (kFieldAddr 4 (pt bM 0) fun v32 => kStore v32 (i64 e) fun _ => K) n' h' Q := fun {e ρ' n' h' M'} mv ma {K} k => by
      obtain ⟨bF', cF', cs', kd', vH', vO', m'⟩ := ma
      simp only [wpS.1, wpS.2.1, wpS.2.2.1, wpS.2.2.2.2, Nat.zero_add]
      rw [st1W m'.get (.inl rfl) (by simp) rfl]
      exact k _ (mv.set _ (m'.lt mv.f).1 (fun hb => by rw [← mv.role bM hb, m'.role]; simp)) ⟨bF', cF', cs', kd', vH', vO', m'.cell mv.f (by rw [H.get_set_same]; rfl) (fun c hc => H.get_set_ne _ _ hc) m'.fs m'.hp m'.os⟩
    refine ⟨fun e ρ' n' h' M' he mv ma => ?_, fun ρ' n' h' M' mv ma inv' sr => ?_⟩
    · simp only [wpS.2.2.2.2]
      refine st mv ma fun h'' mv' ma' => ?_
      obtain ⟨bF', cF', cs', kd', vH', vO', m'⟩ := ma'
      simp [wpS, he]
      rw [st1W m'.get (.inl rfl) (by simp) rfl]
      simp only [wpS.1, wpS.2.1, wpS.2.2.1, wpS.2.2.2.2, Nat.zero_add]
      rw [st1W (H.get_set_same _ _ _) (.inl rfl) (by simp) rfl]
      refine Wp.retI.2 (ke e ρ' n' _ { M' with ended := e, called := -1, sunk := false } he ((mv'.set _ (m'.lt mv'.f).1 (fun hb => by rw [← mv'.role bM hb, m'.role]; simp)).set _ (m'.lt mv'.f).1 (fun hb => by rw [← mv'.role bM hb, m'.role]; simp)) ⟨bF', cF', cs', kd', vH', vO', m'.cell mv'.f (by rw [H.get_set_same]; rfl) (fun c hc => by rw [H.get_set_ne _ _ hc, H.get_set_ne _ _ hc]) m'.fs m'.hp m'.os⟩)
    · simp only [wpS.2.2.2.2]
      refine st mv ma fun h'' mv' ma' => ?_
      simp [wpS]
      exact k0 ρ' n' h'' _ mv' ma' (inv'.flags (e := 0) (c := M'.called) (s := M'.sunk) (r := M'.res)) sr
  obtain ⟨hje, hj0⟩ := hj28
  refine Wp.bool.2 ⟨fun ht => ?_, fun ht => ?_⟩
  · obtain ⟨hc, sa⟩ := hok1 ht
    have sa4 := sa.keep (Kp.ev e4 (by omega)) fun _ _ h => h
    refine Wp.loadNI.2 ?_
    rw [g4c]
    refine ⟨by simp, Wp.cl' ?_⟩
    refine does_wp (M := { M with called := -1, sunk := false }) ⟨bF, cF, cs, kd, vH, vO, m4⟩ p4 rt inv1 hM hc sa4 hn0 mv4.f (by omega) hF mv4.fresh (fun e ρ' n' h' M' he mv ma => hje e ρ' n' h' M' he (mv4.trans mv) ma) fun ρ' n' h' M' mv ma inv' hd => hj0 ρ' n' h' M' (mv4.trans mv) ma inv' ?_
    have hin := mem_next_in hc
    obtain ⟨_, hd⟩ := hd
    rcases hd with ⟨h1, rs, h2⟩ | ⟨h1, rs, dst, h2⟩
    · exact ⟨rfl, .inl ⟨h1, _, h2, hin⟩⟩
    · exact ⟨rfl, .inr (.inl ⟨h1, _, _, h2, hin, rfl⟩)⟩
  · have hc := hok2 ht
    obtain ⟨fn', bl, hfn', hbl, hi0, hi1⟩ := okx
    rw [hfn] at hfn'; cases hfn'
    have hbm := getI_mem hbl
    have hi : x.at_.i = bl.code.length := by
      unfold codeP at hc
      rw [hfn] at hc
      replace hc : (getI fn.blocks x.at_.b).bind _ = none := hc
      rw [hbl] at hc
      replace hc : getI bl.code x.at_.i = none := hc
      rcases getI_cases bl.code x.at_.i with ⟨_, h2⟩ | ⟨_, y, _, h2, _⟩
      · omega
      · rw [h2] at hc; cases hc
    have eok := ((rt.nm.funcs fn hfm).code bl hbm).2
    obtain ⟨b1, o1, cs1, kd1, _, hix1, hb1, hk1, ⟨vg, vb, rfl, sr, sb, _⟩, hcs1, _⟩ := p4.funcs.atI hfn
    have c2 := hcs1 2 _ rfl
    obtain ⟨b2, o2, cs2, kd2, _, hix2, hb2, hk2, ⟨vc, rfl, sc, _⟩, hcs2, _, hl2, hd2⟩ := sb.atI hbl
    simp only [wpS.1, wpS.2.1, wpS.2.2.1, wpS.2.2.2.2, wpM.1, m4.get, gq4, ldv_own, ldv_ro, p4.at_, Nat.zero_add, List.getElem?_cons_succ, List.getElem?_cons_zero, Option.some.injEq, exists_eq_left', hix1, hb1, ldv_live hk1, c2, hix2]
    refine Wp.loadNI.2 ?_
    rw [hb2]
    refine (ldn_live hk2).2 ⟨hl2, ?_⟩
    rw [hd2]
    refine Wp.cl' (ends_wp (M := { M with called := -1, sunk := false }) ⟨bF, cF, cs, kd, vH, vO, m4⟩ hM hs eok (rt.lm.fun_ fn hfm).regs (fun hlow => ?_) sc.one mv4.f mv4.fresh (fun n' h' M' mv ma er => ?_) fun n' h' M' mv ma => hje 4 ρ n' h' M' (by decide) (mv4.trans mv) ma)
    · have l : Lk P M.fs := inv.link
      rw [hM] at l
      obtain ⟨y, hy⟩ : ∃ y, low.getLast? = some y := ⟨low.getLast hlow, List.getLast?_eq_some_getLast hlow⟩
      obtain ⟨fx, fy, s, q1, _, _, q4⟩ := Lk.last l hy
      obtain ⟨k, hk, q5⟩ := getI_some q4
      have := (List.getElem?_eq_some_iff.1 q5).1
      have := (rt.lm.fun_ fx (getI_mem q1)).regs
      omega
    · obtain ⟨inv', ⟨hcal, _⟩, hsh⟩ := inv1.ends rt hM hfn hbl hi eok er
      refine hj0 ρ n' h' M' (mv4.trans mv) ma inv' ⟨rfl, ?_⟩
      rcases hsh with hsh | hsh
      · exact .inl ⟨hcal, hsh⟩
      · exact .inr (.inr ⟨hcal, hsh⟩)
end Go.Fn
end
section
set_option linter.unusedVariables false
set_option maxRecDepth 4000
namespace Go.Fn
open Go Go.Fw

variable {F n : Nat} {h : H} {Q : Post} {K : V → St}

/-- The machine at its beginning. -/
def mc0 (P : Pg) (os : List Int) : Mc := ⟨[⟨⟨P.main, 0, 0⟩, List.replicate 16 ⟨0, 0, false⟩, 0⟩], [], os, 0, -1, false, ⟨0, 0, false⟩⟩
theorem mc0_inv {P : Pg} {os : List Int} (rt : Rt P) (ho : os.length ≤ 1000) : Inv P (mc0 P os) := by
  obtain ⟨m, s, h1, h2, h3⟩ := rt.tp.main
  have lx := rt.lm.fun_ m (getI_mem h1)
  obtain ⟨bl, hbl, _⟩ := Sl.get (show 0 < m.blocks.length by have := lx.some_; omega)
  refine ⟨by simp [mc0], by simp [mc0], by simp [mc0], ho, fun x hx => ?_, fun i x y h4 h5 => ?_, fun o ho => by simp [mc0] at ho⟩
  · simp [mc0] at hx
    subst hx
    refine ⟨m, h1, ⟨m, bl, h1, (getI_nat m.blocks 0).trans hbl, by simp, by simp⟩, by simp, fun r t v _ hv => VT.low ?_⟩
    have : v ∈ List.replicate 16 (⟨0, 0, false⟩ : Val) := List.mem_of_getElem? hv
    rw [List.mem_replicate] at this
    rw [this.2]; exact .inl rfl
  · have := (List.getElem?_eq_some_iff.1 h5).1
    simp [mc0] at this

def Rl.none : Rl := fun _ => .no
theorem new_wp {n0 : Nat} {P : Pg} {bp : Nat} {vo : V} {os : List Int} {B : Nat → Prop} {vr vs vi vm vf : V} (p : Prg h n0 P bp vr vs vi vm vf) (so : Sl h B 1 IntC vo os) (hB : ∀ b, B b → b < n) (ho : os.length ≤ 1000) (f : Fr n h) (hn : n0 ≤ n)
    (q : ∀ ρ n' h' bM, Ev No n h n' h' → (∀ b, b < n → ρ b = .no) → (∀ b, n' ≤ b → ρ b = .no) → MA ρ h' bp bM (mc0 P os) → Q (pt bM 0) n' h') : Wp (R14_New F (pt bp 0) vo) n h Q := by
  unfold R14_New
  -- what stays: the oracle in a block of its own, or none
  have go : ∀ n1 h1 vO, Ev No n h n1 h1 → Qs h1 n 1 I1 vO os →
      Wp (kBuild [(.pointer none), nsl, nsl, nsl, (i64 0), (i64 0), (bo false), (i64 0), (i64 0), (bo false)] [⟨0, 1, false, (pt bp 0)⟩, ⟨3, 1, false, vO⟩, ⟨5, 1, false, (i64 (-1))⟩] fun v1 => kBoxN v1 fun v2 => kNil (pt bp 0) fun v3 => kFieldAddr 5 v3 fun v4 => kLoad v4 fun v5 => kBuild [(i64 0), (i64 0), (i64 0)] [⟨0, 1, false, v5⟩] fun v6 => kBuild [(i64 0), (i64 0), (i64 0), (i64 0), (i64 0), (bo false), (i64 0), (i64 0), (bo false), (i64 0), (i64 0), (bo false), (i64 0), (i64 0), (bo false), (i64 0), (i64 0), (bo false), (i64 0), (i64 0), (bo false), (i64 0), (i64 0), (bo false), (i64 0), (i64 0), (bo false), (i64 0), (i64 0), (bo false), (i64 0), (i64 0), (bo false), (i64 0), (i64 0), (bo false), (i64 0), (i64 0), (bo false), (i64 0), (i64 0), (bo false), (i64 0), (i64 0), (bo false), (i64 0), (i64 0), (bo false), (i64 0), (i64 0), (bo false), (bo false), (bo false), (bo false), (bo false), (bo false), (bo false), (bo false), (bo false), (bo false), (bo false), (bo false), (bo false), (bo false), (bo false), (bo false), (bo false), (i64 0)] [⟨0, 3, true, v6⟩] fun v7 => kBuildSlice 1 (rep 1 [(i64 0), (i64 0), (i64 0), (i64 0), (i64 0), (bo false), (i64 0), (i64 0), (bo false), (i64 0), (i64 0), (bo false), (i64 0), (i64 0), (bo false), (i64 0), (i64 0), (bo false), (i64 0), (i64 0), (bo false), (i64 0), (i64 0), (bo false), (i64 0), (i64 0), (bo false), (i64 0), (i64 0), (bo false), (i64 0), (i64 0), (bo false), (i64 0), (i64 0), (bo false), (i64 0), (i64 0), (bo false), (i64 0), (i64 0), (bo false), (i64 0), (i64 0), (bo false), (i64 0), (i64 0), (bo false), (i64 0), (i64 0), (bo false), (bo false), (bo false), (bo false), (bo false), (bo false), (bo false), (bo false), (bo false), (bo false), (bo false), (bo false), (bo false), (bo false), (bo false), (bo false), (bo false), (i64 0)]) [⟨0, 68, true, v7⟩] fun v8 => kNil v2 fun v9 => kFieldAddr 1 v9 fun v10 => kStore v10 v8 fun _ => ret v2) n1 h1 Q := by
    intro n1 h1 vO e1 qo
    have le1 := e1.le
    refine Wp.buildI.2 ⟨[pt bp 0, nsl, nsl, vO, i64 0, i64 (-1), bo false, i64 0, i64 0, bo false], by simp [fillA, oneS, qo.one], ?_⟩
    refine (Wp.boxNI e1.f).2 ⟨by simp [oneS, qo.one], ?_⟩
    have e2 := e1.new ⟨[pt bp 0, nsl, nsl, vO, i64 0, i64 (-1), bo false, i64 0, i64 0, bo false], .own⟩
    have g2 : (h1.set n1 ⟨[pt bp 0, nsl, nsl, vO, i64 0, i64 (-1), bo false, i64 0, i64 0, bo false], .own⟩).get n1 = some ⟨[pt bp 0, nsl, nsl, vO, i64 0, i64 (-1), bo false, i64 0, i64 0, bo false], .own⟩ := H.get_set_same _ _ _
    have qo2 : Qs (h1.set n1 ⟨[pt bp 0, nsl, nsl, vO, i64 0, i64 (-1), bo false, i64 0, i64 0, bo false], .own⟩) n 1 I1 vO os := qo.keep (fun c hc => H.get_set_ne _ _ (by have := qo.lt e1.f hc; omega)) fun _ _ h => h
    have lo : ∀ b, InB vO b → n ≤ b ∧ b < n1 := fun b hb => qo.lt e1.f hb
    simp only [List.toList_toArray]
    generalize h1.set n1 ⟨[pt bp 0, nsl, nsl, vO, i64 0, i64 (-1), bo false, i64 0, i64 0, bo false], .own⟩ = h2 at e2 g2 qo2
    have p2 := p.keep (Kp.ev e2 hn)
    simp only [wpS.1, wpS.2.1, wpS.2.2.1, wpS.2.2.2.2, wpM.1, p2.at_, ldv_ro, Nat.zero_add, List.getElem?_cons_succ, List.getElem?_cons_zero, Option.some.injEq, exists_eq_left']
    refine Wp.buildI.2 ⟨[i64 P.main, i64 0, i64 0], by simp [fillA, oneS], ?_⟩
    refine Wp.buildI.2 ⟨frm0 P.main 0, by rfl, ?_⟩
    refine (Wp.buildSliceI e2.f).2 ⟨frm0 P.main 0, fill_whole rfl rfl, frm0_all _ _, ?_⟩
    have e3 := e2.new ⟨frm0 P.main 0, .own⟩
    have g3 : (h2.set (n1 + 1) ⟨frm0 P.main 0, .own⟩).get (n1 + 1) = some ⟨frm0 P.main 0, .own⟩ := H.get_set_same _ _ _
    have g3M : (h2.set (n1 + 1) ⟨frm0 P.main 0, .own⟩).get n1 = some ⟨[pt bp 0, nsl, nsl, vO, i64 0, i64 (-1), bo false, i64 0, i64 0, bo false], .own⟩ := by rw [H.get_set_ne _ _ (by omega), g2]
    have qo3 : Qs (h2.set (n1 + 1) ⟨frm0 P.main 0, .own⟩) n 1 I1 vO os := qo2.keep (fun c hc => H.get_set_ne _ _ (by have := lo c hc; omega)) fun _ _ h => h
    generalize h2.set (n1 + 1) ⟨frm0 P.main 0, .own⟩ = h3 at e3 g3 g3M qo3
    simp only [wpS.1, wpS.2.1, wpS.2.2.1, wpS.2.2.2.2, Nat.zero_add]
    rw [st1W g3M (.inl rfl) (by simp) rfl]
    refine Wp.retI.2 ?_
    have r1 : ∀ b, b < n → (((Rl.none.putIn vO .orc).put n1 .mach).put (n1 + 1) .frm) b = .no := fun b hb => (Rl.put_ne (by omega)).trans ((Rl.put_ne (by omega)).trans ((Rl.putIn_out (fun q => by have := lo b q; omega)).trans rfl))
    have r2 : ∀ b, n1 + 1 + 1 ≤ b → (((Rl.none.putIn vO .orc).put n1 .mach).put (n1 + 1) .frm) b = .no := fun b hb => (Rl.put_ne (by omega)).trans ((Rl.put_ne (by omega)).trans ((Rl.putIn_out (fun q => by have := lo b q; omega)).trans rfl))
    refine q _ _ _ n1 (e3.set _ (by omega) (by omega)) r1 r2 ⟨n1 + 1, 1, frm0 P.main 0, .own, nsl, vO, ?_, ?_, ⟨Rl.put_same _ _ _, by rw [H.get_set_ne _ _ (by omega), g3], frm0_all _ _, .inr ⟨rfl, rfl, by decide⟩, by show 1 * 68 ≤ 68; decide, fun _ => rfl, ⟨1, rfl⟩, fun _ => rfl, fun i x hx => ?_⟩, .inl ⟨rfl, rfl⟩, ?_, fun b hb => ?_⟩
    · rw [Rl.put_ne (by omega)]; exact Rl.put_same _ _ _
    · rw [H.get_set_same]; rfl
    · cases i with
      | zero => simp [mc0] at hx; subst hx; exact frm0_at P.main 0
      | succ i => simp [mc0] at hx
    · refine Qs.keep (h := h3) ?_ (fun c hc => by rw [H.get_set_ne _ _ (by have := lo c hc; omega)]) fun _ _ h => h
      rcases qo3 with a | ⟨b, o, c, cs, kd, rfl, g1, g2, g3, g4, g5, g6⟩
      · exact .inl a
      · exact .inr ⟨b, o, c, cs, kd, rfl, by omega, g2, g3, g4, g5, g6⟩
    · have := lo b hb
      rw [Rl.put_ne (by omega), Rl.put_ne (by omega)]
      exact Rl.putIn_in hb
  have hc := so.celI fun _ _ h => h.1
  by_cases h0 : os = []
  · subst h0
    refine Wp.appNone (.inl rfl) ?_ (go n h nsl (Ev.start f) Qs.nil)
    rcases hc.2 with ⟨h2, _⟩ | ⟨b, o, cap, h2, _⟩
    · exact ⟨_, _, h2⟩
    · exact ⟨_, _, h2⟩
  · have hl0 : os.length ≠ 0 := fun h => h0 (List.eq_nil_of_length_eq_zero h)
    refine Wp.appNew (l := 0) (m := os.length) (olds := []) ⟨by simp, .inl ⟨rfl, rfl⟩⟩ (.inl rfl) hc hl0 f (by simpa using i64s_one os) (by omega) ?_
    refine go (n + 1) _ _ ((Ev.start f).new _) (.inr ⟨n, 0, U + 1, i64s os, .grow, by simp, Nat.le_refl _, H.get_set_same _ _ _, by simp, i64s_one os, .inl ⟨rfl, rfl⟩, fun i z hz => ?_⟩)
    have hi := (List.getElem?_eq_some_iff.1 hz).1
    have he := (List.getElem?_eq_some_iff.1 hz).2
    show _ = _
    rw [Nat.zero_add, Nat.mul_one, List.drop_eq_getElem_cons (by simpa using hi), List.take_succ_cons, List.take_zero]
    simp [he]

/-- An oracle that is not too long. -/
theorem lnew_wp {n0 : Nat} {P : Pg} {bp : Nat} {vo : V} {os : List Int} {vr vs vi vm vf : V} (p : Prg h n0 P bp vr vs vi vm vf) (so : SlR h n0 1 IntC vo os) (hcap : vo = nsl ∨ ∃ b o c, vo = sl b o os.length c ∧ c < U) (f : Fr n h) (hn : n0 ≤ n)
    (q : ∀ ρ n' h' bM os', os'.length ≤ 1000 → Ev No n h n' h' → (∀ b, b < n → ρ b = .no) → (∀ b, n' ≤ b → ρ b = .no) → MA ρ h' bp bM (mc0 P os') → Q (pt bM 0) n' h') : Wp (L14_New F (pt bp 0) vo) n h Q := by
  unfold L14_New
  refine Wp.cl' ?_
  unfold L14_Cut
  simp only [wpS.1, wpS.2.1, wpS.2.2.1, wpS.2.2.2.2, so.len, decide_eq_true_eq, decide_eq_false_iff_not]
  refine ⟨fun hgt => ?_, fun hle => ?_⟩
  · rcases hcap with rfl | ⟨b, o, c, rfl, hc⟩
    · rcases so.2 with ⟨_, h1⟩ | ⟨b, o, cap, cs, kd, h1, _⟩
      · rw [h1] at hgt; simp at hgt
      · cases h1
    have h30 : 30 ≤ os.length := by omega
    have := (slc_hi (K := fun v2 => ret v2) (n := n) (h := h) (Q := fun v n' h' => Wp (cl (R14_New F (pt bp 0) v) fun v1 => ret v1) n' h' Q) (s := 1) (b := b) (o := o) (l := os.length) (c := c) (k := 30) h30 (.inr hc)).2
    refine this (Wp.retI.2 (Wp.cl' ?_))
    have so30 : Sl h (· < n0) 1 IntC (sl b o 30 c) (os.take 30) := by
      have hl30 : (os.take 30).length = 30 := by rw [List.length_take]; omega
      refine ⟨by omega, .inr ?_⟩
      rcases so.2 with ⟨h1, _⟩ | ⟨b', o', cap', cs, kd, h1, h2, h3⟩
      · cases h1
      cases h1
      obtain ⟨q1, q2, q3, q4⟩ := h2 (by rintro rfl; simp at h30)
      exact ⟨b, o, c, cs, kd, by rw [hl30], fun _ => ⟨q1, q2, q3, by omega⟩, fun i x hx => by
        rw [List.getElem?_take] at hx
        split at hx
        · exact h3 i x hx
        · cases hx⟩
    exact new_wp p so30 (fun b hb => by omega) (by rw [List.length_take]; omega) f hn fun ρ n' h' bM e r1 r2 ma => Wp.retI.2 (q ρ n' h' bM _ (by rw [List.length_take]; omega) e r1 r2 ma)
  · refine Wp.cl' ?_
    exact new_wp p so (fun b hb => by omega) (by omega) f hn fun ρ n' h' bM e r1 r2 ma => Wp.retI.2 (q ρ n' h' bM _ (by omega) e r1 r2 ma)
end Go.Fn
end
section
set_option linter.unusedVariables false
namespace Go.Fn
open Go Go.Fw

variable {F n : Nat} {h : H} {Q : Post} {K : V → St}

/-- A block's place. -/
def BlkAt (h : H) (n0 : Nat) (b o : Nat) (bl : Blo) : Prop := ∃ cs kd vc, h.get b = some ⟨cs, kd⟩ ∧ kd ≠ .dead ∧ b < n0 ∧ SlR h n0 6 (InsC h n0) vc bl.code ∧ cs[o]? = some vc ∧ cs[o + 1]? = some (i64 bl.fin) ∧ cs[o + 2]? = some (i64 bl.reg) ∧ cs[o + 3]? = some (i64 bl.to) ∧ cs[o + 4]? = some (i64 bl.els)
theorem BlkAt.keep {h' : H} {n0 b o : Nat} {bl : Blo} (a : BlkAt h n0 b o bl) (k : Kp n0 h h') : BlkAt h' n0 b o bl := by
  obtain ⟨cs, kd, vc, h1, h2, h3, h4, h5⟩ := a
  exact ⟨cs, kd, vc, by rw [k b h3]; exact h1, h2, h3, h4.keep k (InsC.keep k), h5⟩

theorem block_wp {n0 : Nat} {P : Pg} {bp : Nat} {vr vs vi vm vf : V} (p : Prg h n0 P bp vr vs vi vm vf) {q : Pt} {fn : Fun} {bl : Blo} (hf : getI P.funcs q.f = some fn) (hb : getI fn.blocks q.b = some bl) (hi : 0 ≤ q.i ∧ q.i ≤ bl.code.length) (f : Fr n h) (hn : n0 ≤ n)
    (k : ∀ n' h' b o, Ev No n h n' h' → BlkAt h' n0 b o bl → Q (pt b o) n' h') : Wp (ir_block F (pt bp 0) (ptV q)) n h Q := by
  unfold ir_block
  obtain ⟨qf, qb, qi⟩ := q
  obtain ⟨kf, rfl, hf2⟩ := getI_some hf
  obtain ⟨kb, rfl, hb2⟩ := getI_some hb
  dsimp only at hi
  obtain ⟨ki, rfl⟩ : ∃ k : Nat, qi = k := ⟨qi.toNat, by omega⟩
  have hkf := (List.getElem?_eq_some_iff.1 hf2).1
  have hkb := (List.getElem?_eq_some_iff.1 hb2).1
  refine (Wp.boxNI f).2 ⟨by simp [oneS], ?_⟩
  have e1 := (Ev.start f).new ⟨[i64 (kf : Int), i64 (kb : Int), i64 (ki : Int)], .own⟩
  have p1 := p.keep (Kp.ev e1 hn)
  have g1 : (h.set n ⟨[i64 (kf : Int), i64 (kb : Int), i64 (ki : Int)], .own⟩).get n = some ⟨[i64 (kf : Int), i64 (kb : Int), i64 (ki : Int)], .own⟩ := H.get_set_same _ _ _
  simp only [List.toList_toArray]
  generalize h.set n ⟨[i64 (kf : Int), i64 (kb : Int), i64 (ki : Int)], .own⟩ = h1 at e1 p1 g1
  obtain ⟨b1, o1, cs1, kd1, _, hix1, hb1, hk1, ⟨vg, vb, rfl, sr, sb, _⟩, hcs1, _⟩ := p1.funcs.at hf2
  have f2 := hcs1 2 _ rfl
  obtain ⟨b2, o2, cs2, kd2, _, hix2, hbb2, hk2, ⟨vc, rfl, sc, _⟩, hcs2, lt2, _⟩ := sb.at hb2
  have c0 : cs2[o2]? = _ := hcs2 0 _ rfl
  refine Wp.jn (fun j => Wp (j (pt bp 0) (pt n 0) (bo false)) (n + 1) h1 Q) ?_ fun j hj => ?_
  case refine_2 =>
    simpa [wpS.1, wpS.2.1, wpS.2.2.1, wpS.2.2.2.2, wpM, g1, ldv_own, p1.at_, ldv_ro, p1.funcs.len, nnS, show ¬ (P.funcs.length : Int) ≤ (kf : Int) by omega, hix1, hb1, ldv_live hk1, f2, sb.len, show ¬ (fn.blocks.length : Int) ≤ (kb : Int) by omega] using hj
  refine Wp.bool.2 ⟨fun h => absurd h (by decide), fun _ => ?_⟩
  have fin := k _ _ b2 o2 e1 ⟨cs2, kd2, vc, hbb2, hk2, lt2, sc, c0, hcs2 1 _ rfl, hcs2 2 _ rfl, hcs2 3 _ rfl, hcs2 4 _ rfl⟩
  simpa [wpS, wpM, g1, ldv_own, p1.at_, ldv_ro, nnS, hix1, hb1, ldv_live hk1, f2, hix2, hbb2, ldv_live hk2, c0, sc.len, show ¬ (bl.code.length : Int) < (ki : Int) by omega, show ¬ bl.code.length < ki by omega] using fin
theorem cl_block {n0 : Nat} {P : Pg} {bp : Nat} {vr vs vi vm vf : V} (p : Prg h n0 P bp vr vs vi vm vf) {q : Pt} {fn : Fun} {bl : Blo} (hf : getI P.funcs q.f = some fn) (hb : getI fn.blocks q.b = some bl) (hi : 0 ≤ q.i ∧ q.i ≤ bl.code.length) (f : Fr n h) (hn : n0 ≤ n)
    (k : ∀ n' h' b o, Ev No n h n' h' → BlkAt h' n0 b o bl → Wp (K (pt b o)) n' h' Q) : Wp (cl (ir_block F (pt bp 0) (ptV q)) K) n h Q :=
  Wp.cl' (block_wp p hf hb hi f hn k)

theorem szs_take {bs : List Blo} {k : Nat} {b : Blo} (h : bs[k]? = some b) : szs (bs.take (k + 1)) = szs (bs.take k) + (b.code.length + 1) := by
  rw [List.take_add_one, h]; simp [szs]
theorem szf_take {fs : List Fun} {k : Nat} {x : Fun} (h : fs[k]? = some x) : szf (fs.take (k + 1)) = szf (fs.take k) + szs x.blocks := by
  rw [List.take_add_one, h]; simp [szf]
theorem szs_app (a b : List Blo) : szs (a ++ b) = szs a + szs b := by simp [szs]
theorem szf_app (a b : List Fun) : szf (a ++ b) = szf a + szf b := by simp [szf]
theorem szs_le (bs : List Blo) (k : Nat) : szs (bs.take k) ≤ szs bs := by
  have := congrArg szs (List.take_append_drop k bs)
  rw [szs_app] at this; omega
theorem szf_le (bs : List Fun) (k : Nat) : szf (bs.take k) ≤ szf bs := by
  have := congrArg szf (List.take_append_drop k bs)
  rw [szf_app] at this; omega

theorem irnumber_wp {n0 : Nat} {P : Pg} {bp : Nat} {vr vs vi vm vf : V} (p : Prg h n0 P bp vr vs vi vm vf) (lm : Lm P) {q : Pt} (ok : PtOk P q) (hF : 1000 < F) (f : Fr n h) (hn : n0 ≤ n)
    (k : ∀ n' h', Ev No n h n' h' → Q (i64 (numP P q)) n' h') : Wp (ir_Number F (pt bp 0) (ptV q)) n h Q := by
  unfold ir_Number
  obtain ⟨kf, kb, ki, fn, bl, rfl, hf2, hb2, hi⟩ := ok.nat
  have hkf := (List.getElem?_eq_some_iff.1 hf2).1
  have hkb := (List.getElem?_eq_some_iff.1 hb2).1
  have hnum : numP P ⟨kf, kb, ki⟩ = ((szf (P.funcs.take kf) + szs (fn.blocks.take kb) + ki : Nat) : Int) := numP_eq (points_at.2 ⟨kf, kb, ki, fn, bl, rfl, hf2, hb2, hi, rfl⟩)
  have lfun := lm.funcs
  have lpt : szf P.funcs ≤ 4464 := by
    have := lm.points
    unfold pointsP at this
    rwa [ptsFs_len] at this
  have lcode := ((lm.fun_ fn (List.mem_of_getElem? hf2)).each bl (List.mem_of_getElem? hb2)).code
  refine (Wp.boxNI f).2 ⟨by simp [oneS], ?_⟩
  have e1 := (Ev.start f).new ⟨[i64 (kf : Int), i64 (kb : Int), i64 (ki : Int)], .own⟩
  have g1 : (h.set n ⟨[i64 (kf : Int), i64 (kb : Int), i64 (ki : Int)], .own⟩).get n = some ⟨[i64 (kf : Int), i64 (kb : Int), i64 (ki : Int)], .own⟩ := H.get_set_same _ _ _
  simp only [List.toList_toArray]
  generalize h.set n ⟨[i64 (kf : Int), i64 (kb : Int), i64 (ki : Int)], .own⟩ = h1 at e1 g1
  have p1 := p.keep (Kp.ev e1 hn)
  rw [ld3W g1 (by decide) (by rfl) (by rfl) (by rfl)]
  refine cl_block p1 (q := ⟨kf, kb, ki⟩) (by rw [getI_nat]; exact hf2) (by rw [getI_nat]; exact hb2) (by dsimp only; omega) e1.f (by omega) fun n2 h2 b o e2 _ => ?_
  have e12 := Ev.more e1 e2
  have le2 := e2.le
  have p2 := p.keep (Kp.ev e12 hn)
  have g2 : h2.get n = some ⟨[i64 (kf : Int), i64 (kb : Int), i64 (ki : Int)], .own⟩ := by rw [e2.no (by omega), g1]
  simp only [wpS.1, wpS.2.1, wpS.2.2.1, wpS.2.2.2.2, wpM.1, g2, ldv_own, Nat.zero_add, List.getElem?_cons_succ, List.getElem?_cons_zero, Option.some.injEq, exists_eq_left', Bool.xor_false, Bool.false_eq_true, false_implies, true_and, true_implies]
  refine Wp.jn (fun j => Wp (j (i64 (numP P ⟨kf, kb, ki⟩))) n2 h2 Q) (Wp.retI.2 (k _ _ e12)) fun j hj => ?_
  simp only [wpS.1, wpS.2.1, wpS.2.2.1, wpS.2.2.2.2, wpM.1, g2, ldv_own, Nat.zero_add, List.getElem?_cons_succ, List.getElem?_cons_zero, Option.some.injEq, exists_eq_left']
  rw [wrap_succ (show kf < 9223372036854775807 by omega)]
  refine Wp.loop5 (fun d x0 x1 x2 x3 x4 n' h' => n2 = n' ∧ h2 = h' ∧ x0 = pt bp 0 ∧ x1 = pt n 0 ∧ x3 = i64 ((kf + 1 : Nat) : Int) ∧ ∃ (i m : Nat), x4 = i64 (i : Int) ∧ x2 = i64 (m : Int) ∧ i + d = kf + 1 ∧ m = ki + szf (P.funcs.take (min i kf)) + (if i = kf + 1 then szs (fn.blocks.take kb) else 0)) ?_ (d := kf + 1) ⟨rfl, rfl, rfl, rfl, rfl, 0, ki, rfl, rfl, by omega, by simp [szf]⟩ (by omega)
  rintro d _ _ _ _ _ _ _ rec ⟨rfl, rfl, rfl, rfl, rfl, i, m, rfl, rfl, hid, hm⟩ hr
  have wi := wrap_succ (show i < 9223372036854775807 by omega)
  simp only [wpS.1, wpS.2.1, wpS.2.2.1, wpS.2.2.2.2, decide_eq_true_eq, decide_eq_false_iff_not]
  refine ⟨fun hlt => ?_, fun hge => ?_⟩
  case refine_2 =>
    have hie : i = kf + 1 := by omega
    subst hie
    rw [if_pos rfl, show min (kf + 1) kf = kf by omega] at hm
    rw [hnum, show szf (P.funcs.take kf) + szs (fn.blocks.take kb) + ki = m by omega] at hj
    exact hj
  have hik : i ≤ kf := by omega
  obtain ⟨x, hx, _⟩ := Sl.get (show i < P.funcs.length by omega)
  have lx := lm.fun_ x (List.mem_of_getElem? hx)
  have lxb := lx.blocks
  rw [if_neg (by omega), show min i kf = i by omega, Nat.add_zero] at hm
  have hsx := szf_le P.funcs (i + 1)
  rw [szf_take hx] at hsx
  obtain ⟨b1, o1, cs1, kd1, _, hix1, hb1, hk1, ⟨vg, vb, rfl, sr, sb, _⟩, hcs1, _⟩ := p2.funcs.at hx
  have f2 := hcs1 2 _ rfl
  -- what is added in this function
  let add : Nat → Nat := fun j => if i < kf then szs (x.blocks.take j) else szs (x.blocks.take (min j kb))
  refine Wp.jn (fun j' => Wp (j' (pt bp 0) (pt n 0) (i64 ((m + add x.blocks.length : Nat) : Int)) (i64 ((kf + 1 : Nat) : Int)) (i64 (i : Int))) n2 h2 Q) ?_ fun j18 hj18 => ?_
  case refine_1 =>
    simp only [wpS, wi]
    refine hr (d - 1) _ _ _ _ _ _ _ (by omega) ⟨rfl, rfl, rfl, rfl, rfl, i + 1, _, rfl, rfl, by omega, ?_⟩
    rcases Nat.lt_or_ge i kf with h | h
    · rw [if_neg (by omega), show min (i + 1) kf = i + 1 by omega, szf_take hx]
      show m + (if i < kf then _ else _) = _
      rw [if_pos h, List.take_of_length_le (Nat.le_refl _)]; omega
    · have hie : i = kf := by omega
      subst hie
      rw [hf2] at hx; cases hx
      rw [if_pos rfl, show min (i + 1) i = i by omega]
      show m + (if i < i then _ else _) = _
      rw [if_neg (by omega), show min fn.blocks.length kb = kb by omega]; omega
  simp only [wpS.1, wpS.2.1, wpS.2.2.1, wpS.2.2.2.2, wpM.1, p2.at_, ldv_ro, Nat.zero_add, List.getElem?_cons_succ, List.getElem?_cons_zero, Option.some.injEq, exists_eq_left', hix1, hb1, ldv_live hk1, f2, sb.len]
  have hadd : ∀ j, add j ≤ szs x.blocks := fun j => by
    show (if i < kf then _ else _) ≤ _
    split <;> exact szs_le _ _
  refine Wp.loop8 (fun d2 x0 x1 x2 x3 x4 x5 x6 x7 n' h' => n2 = n' ∧ h2 = h' ∧ x0 = pt bp 0 ∧ x1 = pt n 0 ∧ x3 = i64 (i : Int) ∧ x4 = i64 ((kf + 1 : Nat) : Int) ∧ x5 = i64 (i : Int) ∧ x6 = i64 (x.blocks.length : Int) ∧ ∃ (j : Nat), x7 = i64 (j : Int) ∧ j + d2 = x.blocks.length ∧ x2 = i64 ((m + add j : Nat) : Int)) ?_ (d := x.blocks.length) ⟨rfl, rfl, rfl, rfl, rfl, rfl, rfl, rfl, 0, rfl, by omega, by
    have : add 0 = 0 := by show (if i < kf then _ else _) = _; simp [szs]
    rw [this]; rfl⟩ (by omega)
  rintro d2 _ _ _ _ _ _ _ _ _ _ rec2 ⟨rfl, rfl, rfl, rfl, rfl, rfl, rfl, rfl, j, rfl, hjd, rfl⟩ hr2
  have wj := wrap_succ (show j < 9223372036854775807 by omega)
  simp only [wpS.1, wpS.2.1, wpS.2.2.1, wpS.2.2.2.2, decide_eq_true_eq, decide_eq_false_iff_not]
  refine ⟨fun hlt2 => ?_, fun hge2 => ?_⟩
  case refine_2 =>
    have : j = x.blocks.length := by omega
    subst this
    exact hj18
  obtain ⟨bj, hbj, _⟩ := Sl.get (show j < x.blocks.length by omega)
  have lbj := (lx.each bj (List.mem_of_getElem? hbj)).code
  have hsz := szs_take hbj
  have hsl := szs_le x.blocks (j + 1)
  refine Wp.jn (fun j' => ∀ z : Nat, z = m + add (j + 1) → Wp (j' (pt bp 0) (pt n 0) (i64 (z : Int)) (i64 (i : Int)) (i64 ((kf + 1 : Nat) : Int)) (i64 (i : Int)) (i64 (x.blocks.length : Int)) (i64 (j : Int))) n2 h2 Q) ?_ fun j42 hj42 => ?_
  case refine_1 =>
    rintro z rfl
    simp only [wpS, wj]
    exact hr2 (d2 - 1) _ _ _ _ _ _ _ _ _ _ (by omega) ⟨rfl, rfl, rfl, rfl, rfl, rfl, rfl, rfl, j + 1, rfl, by omega, rfl⟩
  refine Wp.jn (fun j' => ∀ c : Bool, (c = true ↔ i < kf ∨ j < kb) → Wp (j' (pt bp 0) (pt n 0) (i64 ((m + add j : Nat) : Int)) (i64 (i : Int)) (i64 (j : Int)) (i64 ((kf + 1 : Nat) : Int)) (i64 (i : Int)) (i64 (x.blocks.length : Int)) (i64 (j : Int)) (bo c)) n2 h2 Q) ?_ fun j52 hj52 => ?_
  case refine_1 =>
    intro c hc
    obtain ⟨b5, o5, cs5, kd5, _, hix5, hb5, hk5, ⟨vc, rfl, sc, _⟩, hcs5, _⟩ := sb.at hbj
    have c5 : cs5[o5]? = _ := hcs5 0 _ rfl
    refine Wp.bool.2 ⟨fun hct => ?_, fun hcf => hj42 _ ?_⟩
    · simp only [wpS.1, wpS.2.1, wpS.2.2.1, wpS.2.2.2.2, wpM.1, p2.at_, ldv_ro, Nat.zero_add, List.getElem?_cons_succ, List.getElem?_cons_zero, Option.some.injEq, exists_eq_left', hix1, hb1, ldv_live hk1, f2, hix5, hb5, ldv_live hk5, c5, sc.len, Nat.add_zero]
      have h1 := hadd j
      rw [wrap_succ (by omega), wrap64 (by omega), show ((m + add j : Nat) : Int) + ((bj.code.length + 1 : Nat) : Int) = ((m + add j + (bj.code.length + 1) : Nat) : Int) by omega]
      refine hj42 _ ?_
      show m + (if i < kf then _ else _) + _ = m + (if i < kf then _ else _)
      rcases hc.1 hct with h | h
      · rw [if_pos h, if_pos h, hsz]; omega
      · split
        · rw [hsz]; omega
        · rw [show min j kb = j by omega, show min (j + 1) kb = j + 1 by omega, hsz]; omega
    · have hn : ¬ (i < kf ∨ j < kb) := fun h => by have := hc.2 h; rw [hcf] at this; cases this
      show m + (if i < kf then _ else _) = m + (if i < kf then _ else _)
      rw [if_neg (by omega), if_neg (by omega), show min j kb = kb by omega, show min (j + 1) kb = kb by omega]
  simp [wpS, wpM.1, g2, ldv_own]
  exact ⟨fun h => hj52 _ (by simp [h]), fun h => hj52 _ (by simp; omega)⟩

theorem cl_irnumber {n0 : Nat} {P : Pg} {bp : Nat} {vr vs vi vm vf : V} (p : Prg h n0 P bp vr vs vi vm vf) (lm : Lm P) {q : Pt} (ok : PtOk P q) (hF : 1000 < F) (f : Fr n h) (hn : n0 ≤ n)
    (k : ∀ n' h', Ev No n h n' h' → Wp (K (i64 (numP P q))) n' h' Q) : Wp (cl (ir_Number F (pt bp 0) (ptV q)) K) n h Q := Wp.cl' (irnumber_wp p lm ok hF f hn k)

/-- The point of a number. -/
theorem point_wp {n0 : Nat} {P : Pg} {bp : Nat} {vr vs vi vm vf : V} (p : Prg h n0 P bp vr vs vi vm vf) (lm : Lm P) {a : Nat} {q : Pt} (hq : (pointsP P)[a]? = some q) (hF : 1000 < F) (f : Fr n h) (hn : n0 ≤ n)
    (k : ∀ n' h', Ev No n h n' h' → Q (.tuple #[ptV q, bo true]) n' h') : Wp (ir_Point F (pt bp 0) (i64 (a : Int))) n h Q := by
  unfold ir_Point
  have lp := lm.points
  have lfun := lm.funcs
  have hal := (List.getElem?_eq_some_iff.1 hq).1
  refine (Wp.ptrI f).2 ⟨by simp [oneS], ?_⟩
  have e1 := (Ev.start f).new ⟨[i64 0, i64 0, i64 0], .own⟩
  have g1 : (h.set n ⟨[i64 0, i64 0, i64 0], .own⟩).get n = some ⟨[i64 0, i64 0, i64 0], .own⟩ := H.get_set_same _ _ _
  have p1 := p.keep (Kp.ev e1 hn)
  have fin : ∀ x : Pt, x = q → Q (.tuple #[ptV x, bo true]) (n + 1) ((h.set n ⟨[i64 0, i64 0, i64 0], .own⟩).set n ⟨[i64 x.f, i64 x.b, i64 x.i], .own⟩) := fun x hx => by
    subst hx
    exact k _ _ (e1.set _ (by omega) (by omega))
  generalize h.set n ⟨[i64 0, i64 0, i64 0], .own⟩ = h1 at e1 g1 p1 fin
  refine Wp.jn (fun j => Wp (j (pt bp 0) (i64 (a : Int)) (pt n 0) (bo false)) (n + 1) h1 Q) ?_ fun j hj => ?_
  case refine_2 => simpa [wpS.1, wpS.2.1, wpS.2.2.1, wpS.2.2.2.2, nnS] using hj
  refine Wp.bool.2 ⟨fun h => absurd h (by decide), fun _ => ?_⟩
  refine Wp.jn (fun _ => True) trivial fun j9 _ => ?_
  simp only [wpS.1, wpS.2.1, wpS.2.2.1, wpS.2.2.2.2, wpM.1, p1.at_, ldv_ro, Nat.zero_add, List.getElem?_cons_succ, List.getElem?_cons_zero, Option.some.injEq, exists_eq_left', p1.funcs.len]
  refine Wp.loop5 (fun d x0 x1 x2 x3 x4 n' h' => n' = n + 1 ∧ h1 = h' ∧ x0 = pt bp 0 ∧ x2 = pt n 0 ∧ x3 = i64 (P.funcs.length : Int) ∧ ∃ (i m : Nat), x4 = i64 (i : Int) ∧ x1 = i64 (m : Int) ∧ i + d = P.funcs.length ∧ m ≤ a ∧ (ptsFs (P.funcs.drop i) i)[m]? = some q) ?_ (d := P.funcs.length) ⟨rfl, rfl, rfl, rfl, rfl, 0, a, rfl, rfl, by omega, by omega, hq⟩ (by omega)
  rintro d _ _ _ _ _ _ _ rec ⟨rfl, rfl, rfl, rfl, rfl, i, m, rfl, rfl, hid, hma, hm⟩ hr
  have wi := wrap_succ (show i < 9223372036854775807 by omega)
  simp only [wpS.1, wpS.2.1, wpS.2.2.1, wpS.2.2.2.2, decide_eq_true_eq, decide_eq_false_iff_not]
  refine ⟨fun hlt => ?_, fun hge => ?_⟩
  case refine_2 =>
    rw [List.drop_eq_nil_of_le (by omega)] at hm
    simp [ptsFs] at hm
  obtain ⟨x, hx, hdx⟩ := Sl.get (show i < P.funcs.length by omega)
  have lx := lm.fun_ x (List.mem_of_getElem? hx)
  have lxb := lx.blocks
  rw [hdx] at hm
  have hm : (ptsBs i x.blocks 0 ++ ptsFs (P.funcs.drop (i + 1)) (i + 1))[m]? = some q := hm
  obtain ⟨b1, o1, cs1, kd1, _, hix1, hb1, hk1, ⟨vg, vb, rfl, sr, sb, _⟩, hcs1, _⟩ := p1.funcs.at hx
  have f2 := hcs1 2 _ rfl
  refine Wp.jn (fun j' => ∀ m' : Nat, m' ≤ a → (ptsFs (P.funcs.drop (i + 1)) (i + 1))[m']? = some q → Wp (j' (pt bp 0) (i64 (m' : Int)) (pt n 0) (i64 (P.funcs.length : Int)) (i64 (i : Int))) (n + 1) h1 Q) ?_ fun j25 hj25 => ?_
  case refine_1 =>
    intro m' hma' hm'
    simp only [wpS, wi]
    exact hr (d - 1) _ _ _ _ _ _ _ (by omega) ⟨rfl, rfl, rfl, rfl, rfl, i + 1, m', rfl, rfl, by omega, hma', hm'⟩
  simp only [wpS.1, wpS.2.1, wpS.2.2.1, wpS.2.2.2.2, wpM.1, p1.at_, ldv_ro, Nat.zero_add, List.getElem?_cons_succ, List.getElem?_cons_zero, Option.some.injEq, exists_eq_left', hix1, hb1, ldv_live hk1, f2, sb.len]
  refine Wp.loop8 (fun d2 x0 x1 x2 x3 x4 x5 x6 x7 n' h' => n' = n + 1 ∧ h1 = h' ∧ x0 = pt bp 0 ∧ x2 = pt n 0 ∧ x3 = i64 (i : Int) ∧ x4 = i64 (P.funcs.length : Int) ∧ x5 = i64 (i : Int) ∧ x6 = i64 (x.blocks.length : Int) ∧ ∃ (j m : Nat), x7 = i64 (j : Int) ∧ x1 = i64 (m : Int) ∧ j + d2 = x.blocks.length ∧ m ≤ a ∧ (ptsBs i (x.blocks.drop j) j ++ ptsFs (P.funcs.drop (i + 1)) (i + 1))[m]? = some q) ?_ (d := x.blocks.length) ⟨rfl, rfl, rfl, rfl, rfl, rfl, rfl, rfl, 0, m, rfl, rfl, by omega, hma, hm⟩ (by omega)
  rintro d2 _ _ _ _ _ _ _ _ _ _ rec2 ⟨rfl, rfl, rfl, rfl, rfl, rfl, rfl, rfl, j, m2, rfl, rfl, hjd, hma2, hm2⟩ hr2
  have wj := wrap_succ (show j < 9223372036854775807 by omega)
  simp only [wpS.1, wpS.2.1, wpS.2.2.1, wpS.2.2.2.2, decide_eq_true_eq, decide_eq_false_iff_not]
  refine ⟨fun hlt2 => ?_, fun hge2 => ?_⟩
  case refine_2 =>
    rw [List.drop_eq_nil_of_le (by omega)] at hm2
    exact hj25 m2 hma2 hm2
  obtain ⟨bj, hbj, hdj⟩ := Sl.get (show j < x.blocks.length by omega)
  have lbj := (lx.each bj (List.mem_of_getElem? hbj)).code
  rw [hdj] at hm2
  have hm2 : ((ptsI i j 0 (bj.code.length + 1) ++ ptsBs i (x.blocks.drop (j + 1)) (j + 1)) ++ ptsFs (P.funcs.drop (i + 1)) (i + 1))[m2]? = some q := hm2
  rw [List.append_assoc] at hm2
  obtain ⟨b5, o5, cs5, kd5, _, hix5, hb5, hk5, ⟨vc, rfl, sc, _⟩, hcs5, _⟩ := sb.at hbj
  have c5 : cs5[o5]? = _ := hcs5 0 _ rfl
  simp only [wpS.1, wpS.2.1, wpS.2.2.1, wpS.2.2.2.2, wpM.1, p1.at_, ldv_ro, Nat.zero_add, Nat.add_zero, List.getElem?_cons_succ, List.getElem?_cons_zero, Option.some.injEq, exists_eq_left', hix1, hb1, ldv_live hk1, f2, hix5, hb5, ldv_live hk5, c5, sc.len]
  rw [wrap_succ (show bj.code.length < 9223372036854775807 by omega)]
  simp only [decide_eq_true_eq, decide_eq_false_iff_not]
  refine ⟨fun hin => ?_, fun hout => ?_⟩
  · rw [List.getElem?_append_left (by rw [ptsI_len]; omega), ptsI_get, if_pos (by omega)] at hm2
    have hqe := fin ⟨i, j, m2⟩ (Option.some.inj hm2)
    refine Wp.buildI.2 ⟨[i64 (i : Int), i64 (j : Int), i64 (m2 : Int)], by simp [fillA, oneS], ?_⟩
    rw [stNW (s := 3) (vs := [i64 (i : Int), i64 (j : Int), i64 (m2 : Int)]) g1 (.inl rfl) rfl (by simp) (by simp [oneS]), ld3W (H.get_set_same _ _ _) (by decide) (by rfl) (by rfl) (by rfl)]
    simp only [wpS]
    exact ⟨rfl, rfl, hqe⟩
  · rw [List.getElem?_append_right (by rw [ptsI_len]; omega), ptsI_len] at hm2
    rw [wrap64 (by omega), show (m2 : Int) - ((bj.code.length + 1 : Nat) : Int) = ((m2 - (bj.code.length + 1) : Nat) : Int) by omega, wj]
    exact hr2 (d2 - 1) _ _ _ _ _ _ _ _ _ _ (by omega) ⟨rfl, rfl, rfl, rfl, rfl, rfl, rfl, rfl, j + 1, _, rfl, rfl, by omega, by omega, hm2⟩
theorem cl_point {n0 : Nat} {P : Pg} {bp : Nat} {vr vs vi vm vf : V} (p : Prg h n0 P bp vr vs vi vm vf) (lm : Lm P) {a : Nat} {q : Pt} (hq : (pointsP P)[a]? = some q) (hF : 1000 < F) (f : Fr n h) (hn : n0 ≤ n)
    (k : ∀ n' h', Ev No n h n' h' → Wp (K (.tuple #[ptV q, bo true])) n' h' Q) : Wp (cl (ir_Point F (pt bp 0) (i64 (a : Int))) K) n h Q := Wp.cl' (point_wp p lm hq hF f hn k)
end Go.Fn
end
